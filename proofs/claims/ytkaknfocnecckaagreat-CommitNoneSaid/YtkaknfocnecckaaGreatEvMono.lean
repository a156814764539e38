/- More steps change no answer: what a task comes to in n steps, it comes to in more. -/
import Derived.Test.YtkaknfocnecckaaGreatEvSound
namespace Go.Ev
open Go

def Res.le {α : Type} (r r' : Res α) : Prop := ∀ p : α → Prop, r.Holds p → r'.Holds p
theorem Res.le.refl {α : Type} (r : Res α) : r.le r := fun _ h => h
theorem Res.le.fail {α : Type} (w : String) (r : Res α) : (Res.fail w).le r := fun _ h => h.elim
theorem Res.le.bind {α β : Type} {r r' : Res α} {f f' : α → Res β} (h : r.le r') (hf : ∀ x, (f x).le (f' x)) : (r.bind f).le (r'.bind f') :=
  fun _ hp => Res.Holds.bind_intro (h _ (hp.bind.mono fun x hx => hf x _ hx))
theorem Res.le.bindl {α β : Type} {r r' : Res α} {f : α → Res β} (h : r.le r') : (r.bind f).le (r'.bind f) := .bind h fun _ => .refl _
theorem Res.le.bindr {α β : Type} {r : Res α} {f f' : α → Res β} (hf : ∀ x, (f x).le (f' x)) : (r.bind f).le (r.bind f') := .bind (.refl _) hf

def RunLe (R R' : Task → St → Run) : Prop := ∀ t σ, (R t σ).le (R' t σ)

section
variable {P : Program} {R R' : Task → St → Run} (h : RunLe R R')
include h

theorem callC_le (c : Call) (ro : Option Nat) (a : Act) (σ : St) (id : Nat) : ((callC P c).f R ro a σ id).le ((callC P c).f R' ro a σ id) := by
  unfold callC
  split
  · show (callValue R a σ _ _).le (callValue R' a σ _ _)
    unfold callValue
    split
    · exact .bindl (h _ _)
    · exact .fail _ _
  · show (callInvoke P R a σ _ _ _).le (callInvoke P R' a σ _ _ _)
    unfold callInvoke
    split
    · unfold callMethodV
      split
      · exact .bindl (h _ _)
      · exact .fail _ _
    · exact .fail _ _
  · exact .refl _

theorem operC_le (o : Op) (ro : Option Nat) (a : Act) (σ : St) (id : Nat) : ((operC P o).f R ro a σ id).le ((operC P o).f R' ro a σ id) := by
  unfold operC
  split
  · exact callC_le h _ _ _ _ _
  · unfold deferC
    split <;> exact .refl _
  · exact .refl _

theorem stepC_le (ops : List Oper) (o : Oper) (ro : Option Nat) (a : Act) (σ : St) (id : Nat) : ((stepC P ops o).f R ro a σ id).le ((stepC P ops o).f R' ro a σ id) := by
  unfold stepC
  split
  · exact .bindl (operC_le h _ _ _ _ _)
  · unfold guardC
    split
    · show (guardK _ _ R ro a σ id _).le (guardK _ _ R' ro a σ id _)
      unfold guardK
      split
      · exact .bindl (operC_le h _ _ _ _ _)
      · exact .refl _
      · exact .fail _ _
    · exact .refl _

theorem opsC_le (ops l : List Oper) (ro : Option Nat) (a : Act) (σ : St) : ((opsC P ops l).f R ro a σ).le ((opsC P ops l).f R' ro a σ) := by
  induction l generalizing a σ with
  | nil => exact .refl _
  | cons o l ih => exact .bind (stepC_le h ops o ro a σ σ.next) fun ⟨a, σ⟩ => ih a σ

theorem drawnC_le (ops : List Oper) (l : List Item) (ro : Option Nat) (base : Nat) (snaps : List St) (a : Act) (σ : St) :
    ((drawnC P ops l).f R ro base snaps a σ).le ((drawnC P ops l).f R' ro base snaps a σ) := by
  induction l generalizing snaps a σ with
  | nil => exact .refl _
  | cons it l ih =>
    show ((drawnItem P ops it (drawnC P ops l) (nth ops it.i)).f R ro base snaps a σ).le ((drawnItem P ops it (drawnC P ops l) (nth ops it.i)).f R' ro base snaps a σ)
    cases nth ops it.i with
    | none => exact .refl _
    | some o =>
      refine .bind (stepC_le h ops o ro a σ _) fun ⟨a', σ'⟩ => ?_
      show (match Nat.beq it.back 0 || loadsSame P it.back snaps a (slotOf a' o.dst) o.op with
        | true => (drawnC P ops l).f R ro base (snapsOf (effectOp o.op) σ' snaps) a' σ'
        | false => .fail "a load and a write, in either order" : Run).le (match Nat.beq it.back 0 || loadsSame P it.back snaps a (slotOf a' o.dst) o.op with
        | true => (drawnC P ops l).f R' ro base (snapsOf (effectOp o.op) σ' snaps) a' σ'
        | false => .fail "a load and a write, in either order" : Run)
      split
      · exact ih _ _ _
      · exact .refl _

theorem regionC_le (ops : List Oper) (d : Bool) (ro : Option Nat) (a : Act) (σ : St) : ((regionC P ops d).f R ro a σ).le ((regionC P ops d).f R' ro a σ) := by
  cases d with
  | false => exact opsC_le h _ _ _ _ _
  | true =>
    unfold regionC
    dsimp only
    split
    · exact drawnC_le h _ _ _ _ _ _ _
    · exact .refl _

theorem rangeK_le (ro : Option Nat) (fn : FuncId) (a : Act) (l : Nat) (x : Out × St) : (rangeK R ro fn a l x).le (rangeK R' ro fn a l x) := by
  obtain ⟨o, σ⟩ := x
  cases o with
  | exit e a => exact .refl _
  | val v =>
    show (rangeEnd R ro fn a l σ _).le (rangeEnd R' ro fn a l σ _)
    unfold rangeEnd
    split
    · exact .refl _
    · rename_i jump _ _ _ _ _ _ _ _ _
      cases jump with
      | none => exact .refl _
      | some c => exact h _ _
    · exact .refl _

theorem codeC_le (fn : FuncId) (ro : Option Nat) : ∀ (c : Code) (a : Act) (σ : St), ((codeC P fn c).f R ro a σ).le ((codeC P fn c).f R' ro a σ)
  | .skip, _, _ => .refl _
  | .label _, _, _ => .refl _
  | .seq x y, a, σ => by
    refine .bind (codeC_le fn ro x a σ) fun ⟨o, σ⟩ => ?_
    cases o with
    | val v => exact .refl _
    | exit e a => cases e with
      | normal => exact codeC_le fn ro y a σ
      | _ => exact .refl _
  | .cond x y z, a, σ => by
    show (condK ((codeC P fn y).f R ro) ((codeC P fn z).f R ro) a σ (a.eval x)).le (condK ((codeC P fn y).f R' ro) ((codeC P fn z).f R' ro) a σ (a.eval x))
    unfold condK
    split
    · exact codeC_le fn ro y a σ
    · exact codeC_le fn ro z a σ
    · exact .refl _
  | .block id x, a, σ => .bindl (codeC_le fn ro x a σ)
  | .loop x, a, σ => by
    refine .bind (codeC_le fn ro x a σ) fun ⟨o, σ⟩ => ?_
    cases o with
    | val v => exact .refl _
    | exit e a => cases e with
      | normal => exact h _ _
      | _ => exact .refl _
  | .exit id, _, _ => .refl _
  | .goto l, _, _ => .refl _
  | .ret, _, _ => .refl _
  | .region _ ops d, a, σ => regionC_le h _ _ _ _ _
  | .rangeFunc f params assign body, a, σ => by
    show (rangeFuncK R ro fn a σ params.toList assign body (a.eval f)).le (rangeFuncK R' ro fn a σ params.toList assign body (a.eval f))
    unfold rangeFuncK
    split
    · unfold rangeCall
      split
      · exact .bind (h _ _) fun x => rangeK_le h _ _ _ _ x
      · exact .refl _
    · exact .refl _
  | .scope x, a, σ => h _ _
  | .refuse _, _, _ => .refl _

theorem leaveBare_le (fn : Func) (a : Act) (σ : St) : (leaveBare R fn a σ).le (leaveBare R' fn a σ) := by
  unfold leaveBare
  split
  · exact h _ _
  · exact .refl _

theorem callBody_le (f : FuncId) (fn : Func) (args : List V) (σ : St) {K K' : Out × St → Run} (hK : ∀ x, (K x).le (K' x)) (c : Option Code) : (callBody R f fn args σ K c).le (callBody R' f fn args σ K' c) := by
  cases c with
  | none => exact .refl _
  | some c =>
    unfold callBody
    dsimp only
    split
    · exact .refl _
    · exact .bind (h _ _) hK

theorem step_le : RunLe (step P R) (step P R') := by
  intro t σ
  cases t with
  | code ro fn c a => exact codeC_le h fn ro c a σ
  | inScope ro fn x cur a =>
    refine .bind (codeC_le h fn ro cur a σ) fun ⟨o, σ⟩ => ?_
    cases o with
    | val v => exact .refl _
    | exit e a => cases e with
      | goto l =>
        show (match findLabel x l with
          | some rest => R (.inScope ro fn x rest a) σ
          | none => .ok (.exit (.goto l) a, σ) : Run).le (match findLabel x l with
          | some rest => R' (.inScope ro fn x rest a) σ
          | none => .ok (.exit (.goto l) a, σ) : Run)
        split
        · exact h _ _
        · exact .refl _
      | _ => exact .refl _
  | call f args =>
    show (stepCallF R f args σ _).le (stepCallF R' f args σ _)
    unfold stepCallF
    split
    · refine callBody_le h _ _ _ _ (fun ⟨o, σ⟩ => ?_) _
      cases o with
      | val v => exact .refl _
      | exit e a => cases e with
        | normal => exact h _ _
        | ret => exact h _ _
        | _ => exact .refl _
    · exact .refl _
  | deferred f args =>
    show (stepDeferredF R f args σ _).le (stepDeferredF R' f args σ _)
    unfold stepDeferredF
    split
    · refine callBody_le h _ _ _ _ (fun ⟨o, σ⟩ => ?_) _
      cases o with
      | val v => exact .refl _
      | exit e a => cases e with
        | normal => exact leaveBare_le h _ _ _
        | ret => exact leaveBare_le h _ _ _
        | _ => exact .refl _
    · exact .refl _
  | leave fn a =>
    show (stepLeave P R fn a σ a.defers).le (stepLeave P R' fn a σ a.defers)
    unfold stepLeave
    split
    · exact .refl _
    · unfold leaveMark
      split
      · exact h _ _
      · exact .refl _
    · refine .bind (h _ _) fun ⟨o, σ⟩ => ?_
      cases o with
      | val v => exact h _ _
      | exit e a => exact .refl _
    · exact .refl _
  | apply f vs =>
    show (stepApply R vs σ f).le (stepApply R' vs σ f)
    unfold stepApply
    split
    · exact h _ _
    · exact h _ _
    · exact .refl _
  | round l args =>
    show (stepRound R l args σ _).le (stepRound R' l args σ _)
    unfold stepRound
    split
    · unfold roundTmps
      split
      · refine .bind (h _ _) fun ⟨o, σ⟩ => ?_
        cases o with
        | val v => exact .refl _
        | exit e a => cases e with
          | normal =>
            show (roundBody R l _ _ a σ _).le (roundBody R' l _ _ a σ _)
            unfold roundBody
            split
            · split
              · exact .bindl (h _ _)
              · exact .refl _
            · exact .refl _
          | _ => exact .refl _
      · exact .refl _
    · exact .refl _
end

theorem run_le_succ (P : Program) : ∀ n, RunLe (run P n) (run P (n + 1))
  | 0 => fun _ _ => .fail _ _
  | n + 1 => step_le (run_le_succ P n)

theorem run_le (P : Program) {n m : Nat} (h : n ≤ m) : RunLe (run P n) (run P m) := by
  induction h with
  | refl => exact fun _ _ => .refl _
  | step _ ih => exact fun t σ p hp => run_le_succ P _ t σ p (ih t σ p hp)

end Go.Ev
