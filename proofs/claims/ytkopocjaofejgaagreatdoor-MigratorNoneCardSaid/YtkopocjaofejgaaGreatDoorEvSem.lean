/- What tasks come to in the machine itself, as a condition on what stands behind: rules for calls, code, loops; what is known elsewhere, forgotten, told anew. -/
import Derived.Test.YtkopocjaofejgaaGreatDoorEvWp
import Derived.Test.YtkopocjaofejgaaGreatDoorEvTold
namespace Go.Ev
open Go

/-! ### The machine's own answer -/
def SemB [Env] (P : Program) (t : Task) (σ : St) (p : Out × St → Prop) : Prop :=
  match t with
  | .code ro _ c a => ∀ (ρ : Ren) (w : World) (a' : Go.Act) (F : Fence), R ρ σ w → ActRel ρ a a' → RoOk ρ ro F → c.wpIn F 0 P (CodePost p ρ σ w) a' w ∧ ∀ x, c = .loop x → LoopIn F P x (CodePost p ρ σ w) a' w
  | .inScope ro _ x cur a => ∀ (ρ : Ren) (w : World) (a' : Go.Act) (F : Fence), R ρ σ w → ActRel ρ a a' → RoOk ρ ro F → ScopeIn F P x cur (CodePost p ρ σ w) a' w
  | .call f vs => ∀ (ρ : Ren) (w : World) (vs' : List Value), R ρ σ w → VsRel ρ vs vs' → (callFunc f ⟨vs'⟩).run P w = .ok (.enter f ⟨vs'⟩) w ∧ CallsIn Fence.wide 0 P f ⟨vs'⟩ w (ValPost p ρ σ w)
  | .deferred f vs => ∀ (ρ : Ren) (w : World) (vs' : List Value), R ρ σ w → VsRel ρ vs vs' → (callFunc f ⟨vs'⟩).run P w = .ok (.enter f ⟨vs'⟩) w ∧
      ∀ u, CallsDIn Fence.wide 0 P f ⟨vs'⟩ u w (fun e u' w' => u' = u ∧ ValPost p ρ σ w e w')
  | .leave fn a => ∀ (ρ : Ren) (w : World) (a' : Go.Act), R ρ σ w → ActRel ρ a a' → LeavesInM Fence.wide 0 P fn a'.tmps (ValPost p ρ σ w) a'.defers .returning w
  | .apply f vs => ∀ (ρ : Ren) (w : World) (f' : Value) (vs' : List Value), R ρ σ w → VRel ρ f f' → VsRel ρ vs vs' → ∃ d, (Deferred.ofValue f' ⟨vs'⟩).run P w = .ok d w ∧ Enters P d w (ValPost p ρ σ w)
  | .round l vs => ∀ (ρ : Ren) (w : World) (k : Loc) (vs' : List Value), R ρ σ w → ρ l = some k → VsRel ρ vs vs' →
      ∃ g tmps as bo, (Instr.yield k.c ⟨vs'⟩).run P w = .ok (.round k.c g tmps as bo) w ∧ RoundIn Fence.wide 0 P k.c g tmps as bo w (ValPost p ρ σ w)

/-- A task comes to p, in the machine. -/
def SemE [Env] (P : Program) (t : Task) (σ : St) (p : Out × St → Prop) : Prop := (∃ x, p x) ∧ SemB P t σ p

theorem Good.sem [Env] {P : Program} {Rn : Task → St → Run} (hg : Good P Rn) {t : Task} {σ : St} {p : Out × St → Prop} (h : (Rn t σ).Holds p) : SemE P t σ p := by
  refine ⟨h.exists, ?_⟩
  cases t with
  | code ro fn c a => exact fun ρ w a' F hr ha hroF => ⟨hg.code h hr ha hroF, fun x hx => by subst hx; exact hg.loop h hr ha hroF⟩
  | inScope ro fn x cur a => exact fun ρ w a' F hr ha hroF => hg.inScope h hr ha hroF
  | call f vs => exact fun ρ w vs' hr hv => hg.call h hr hv
  | deferred f vs => exact fun ρ w vs' hr hv => hg.deferred h hr hv
  | leave fn a => exact fun ρ w a' hr ha => hg.leave h hr ha
  | apply f vs => exact fun ρ w f' vs' hr hf hv => hg.apply h hr hf hv
  | round l vs => exact fun ρ w k vs' hr hl hv => hg.round h hr hl hv

theorem Enters.mono {P : Program} {d : Deferred} {w : World} {Q Q' : Ending → World → Prop} (h : Enters P d w Q) (hq : ∀ e w, Q e w → Q' e w) : Enters P d w Q' := by
  rcases h with ⟨f, args, h1, h2⟩ | ⟨l, f, tmps, as, bo, h1, h2⟩
  · exact .inl ⟨f, args, h1, h2.mono hq⟩
  · exact .inr ⟨l, f, tmps, as, bo, h1, h2.mono hq⟩

theorem SemE.mono [Env] {P : Program} {t : Task} {σ : St} {p q : Out × St → Prop} (hpq : ∀ x, p x → q x) (h : SemE P t σ p) : SemE P t σ q := by
  refine ⟨let ⟨x, hx⟩ := h.1; ⟨x, hpq x hx⟩, ?_⟩
  have h := h.2
  cases t with
  | code ro fn c a => exact fun ρ w a' F hr ha hroF => ⟨wpIn_mono (h ρ w a' F hr ha hroF).1 fun _ _ _ hx => CodePost.mono hx hpq, fun x hx => ((h ρ w a' F hr ha hroF).2 x hx).mono fun _ _ _ hx => CodePost.mono hx hpq⟩
  | inScope ro fn x cur a => exact fun ρ w a' F hr ha hroF => (h ρ w a' F hr ha hroF).mono fun _ _ _ hx => CodePost.mono hx hpq
  | call f vs => exact fun ρ w vs' hr hv => ⟨(h ρ w vs' hr hv).1, (h ρ w vs' hr hv).2.mono fun _ _ hx => ValPost.mono hx hpq⟩
  | deferred f vs => exact fun ρ w vs' hr hv => ⟨(h ρ w vs' hr hv).1, fun u => ((h ρ w vs' hr hv).2 u).mono fun _ _ _ hx => ⟨hx.1, ValPost.mono hx.2 hpq⟩⟩
  | leave fn a => exact fun ρ w a' hr ha => LeavesInM.mono (h ρ w a' hr ha) fun _ _ hx => ValPost.mono hx hpq
  | apply f vs => exact fun ρ w f' vs' hr hf hv => let ⟨d, h1, h2⟩ := h ρ w f' vs' hr hf hv; ⟨d, h1, h2.mono fun _ _ hx => ValPost.mono hx hpq⟩
  | round l vs => exact fun ρ w k vs' hr hl hv => let ⟨g, tmps, as, bo, h1, h2⟩ := h ρ w k vs' hr hl hv; ⟨g, tmps, as, bo, h1, h2.mono fun _ _ hx => ValPost.mono hx hpq⟩

theorem SemE.at [Env] {P : Program} {t : Task} {σ : St} {p : Out × St → Prop} (h : SemE P t σ p) : SemB P t σ p := h.2

/-- A task's answer, of which just what holds in the machine is known. -/
def semR [Env] (P : Program) (t : Task) (σ : St) : Run := .tr (SemE P t σ) (fun _ _ h => SemE.mono h) fun _ h => h.1
theorem semR_good [Env] (P : Program) : Good P (semR P) := by
  constructor
  case code => intro ro fn c a σ p h ρ w a' F hr ha hroF; exact (SemE.at h ρ w a' F hr ha hroF).1
  case loop => intro ro fn x a σ p h ρ w a' F hr ha hroF; exact (SemE.at h ρ w a' F hr ha hroF).2 x rfl
  case inScope => intro ro fn x cur a σ p h ρ w a' F hr ha hroF; exact SemE.at h ρ w a' F hr ha hroF
  case call => intro f vs σ p h ρ w vs' hr hv; exact SemE.at h ρ w vs' hr hv
  case deferred => intro f vs σ p h ρ w vs' hr hv; exact SemE.at h ρ w vs' hr hv
  case leave => intro fn a σ p h ρ w a' hr ha; exact SemE.at h ρ w a' hr ha
  case apply => intro f vs σ p h ρ w f' vs' hr hf hv; exact SemE.at h ρ w f' vs' hr hf hv
  case round => intro l vs σ p h ρ w k vs' hr hl hv; exact SemE.at h ρ w k vs' hr hl hv

/-- The program follows mixed orders. -/
class Mix (P : Program) : Prop where
  h : P.follows .mixedOrders = true
section
variable {P : Program} [Mix P] [Env]
theorem SemE.of_step {t : Task} {σ : St} {p : Out × St → Prop} (h : (step P (semR P) t σ).Holds p) : SemE P t σ p := (step_good Mix.h (semR_good P)).sem h
theorem SemE.of_run {t : Task} {σ : St} {p : Out × St → Prop} {n : Nat} (h : (run P n t σ).Holds p) : SemE P t σ p := (run_good Mix.h n).sem h
theorem SemE.of_runO {O : List Told} (hO : ∀ e ∈ O, e.ok P) {t : Task} {σ : St} {p : Out × St → Prop} {n : Nat} (h : (runO P O n t σ).Holds p) : SemE P t σ p := (runO_good Mix.h hO n).sem h
end

/-! ### Rules -/
structure TaskS [Env] (P : Program) (t : Task) (p : Out × St → Prop) (σ : St) : Prop where
  h : SemE P t σ p
/-- A call comes to Q. -/
structure CallS [Env] (P : Program) (f : FuncId) (vs : List V) (Q : VPost) (σ : St) : Prop where
  h : SemE P (.call f vs) σ (valP Q)
/-- Code comes to Q. -/
structure CodeS [Env] (P : Program) (fn : FuncId) (ro : Option Nat) (c : Code) (Q : Post) (a : Act) (σ : St) : Prop where
  h : ((codeC P fn c).f (semR P) ro a σ).Holds (exP Q)
structure LoopS [Env] (P : Program) (fn : FuncId) (ro : Option Nat) (x : Code) (Q : Post) (a : Act) (σ : St) : Prop where
  h : CodeS P fn ro (.loop x) Q a σ
/-- Code 'cur' within a scope x. -/
structure ScopeS [Env] (P : Program) (fn : FuncId) (ro : Option Nat) (x cur : Code) (Q : Post) (a : Act) (σ : St) : Prop where
  h : SemE P (.inScope ro fn x cur a) σ (exP Q)

section
variable {P : Program} [Mix P] [Env] {fn : FuncId} {ro : Option Nat}

omit [Mix P] in
theorem CallS.mono {f : FuncId} {vs : List V} {Q Q' : VPost} {σ : St} (h : CallS P f vs Q σ) (hq : ∀ v σ, Q v σ → Q' v σ) : CallS P f vs Q' σ :=
  ⟨SemE.mono (fun ⟨o, σ⟩ hx => by cases o with
    | val v => exact hq _ _ hx
    | exit e a => exact hx) h.h⟩
omit [Mix P] in
theorem CodeS.mono {c : Code} {Q Q' : Post} {a : Act} {σ : St} (h : CodeS P fn ro c Q a σ) (hq : ∀ e a σ, Q e a σ → Q' e a σ) : CodeS P fn ro c Q' a σ :=
  ⟨h.h.mono fun ⟨o, σ⟩ hx => by cases o with
    | val v => exact hx
    | exit e a => exact hq _ _ _ hx⟩
theorem CodeS.sem {c : Code} {Q : Post} {a : Act} {σ : St} (h : CodeS P fn ro c Q a σ) : SemE P (.code ro fn c a) σ (exP Q) := .of_step h.h

omit [Mix P] in
theorem CodeS.seq {x y : Code} {Q : Post} {a : Act} {σ : St} (h : CodeS P fn ro x (seqQ (CodeS P fn ro y Q) Q) a σ) : CodeS P fn ro (.seq x y) Q a σ := by
  refine ⟨Res.Holds.bind_intro (h.h.mono fun ⟨o, σ⟩ hz => ?_)⟩
  cases o with
  | val v => exact hz.elim
  | exit e a => cases e with
    | normal => exact CodeS.h hz
    | _ => exact hz
omit [Mix P] in
theorem CodeS.cond {x : Operand} {y z : Code} {Q : Post} {a : Act} {σ : St} (h : condP (CodeS P fn ro y Q a σ) (CodeS P fn ro z Q a σ) (a.eval x)) : CodeS P fn ro (.cond x y z) Q a σ := by
  constructor
  show (condK ((codeC P fn y).f (semR P) ro) ((codeC P fn z).f (semR P) ro) a σ (a.eval x)).Holds (exP Q)
  cases hx : a.eval x with
  | none => rw [hx] at h; exact h.elim
  | some v =>
    rw [hx] at h
    cases v with
    | bool b => cases b with
      | true => exact (h.y rfl).h
      | false => exact (h.z rfl).h
    | _ => exact h.elim
omit [Mix P] in
theorem CodeS.block {id : Nat} {x : Code} {Q : Post} {a : Act} {σ : St} (h : CodeS P fn ro x (blockQ id Q) a σ) : CodeS P fn ro (.block id x) Q a σ := by
  refine ⟨Res.Holds.bind_intro (h.h.mono fun ⟨o, σ⟩ hx => ?_)⟩
  cases o with
  | val v => exact hx.elim
  | exit e a => cases e with
    | exit i =>
      show exP Q (.exit (if i = id then .normal else .exit i) a, σ)
      have hx' : (if i = id then Q .normal else Q (.exit i)) a σ := hx
      by_cases e : i = id
      · rw [if_pos e] at hx' ⊢; exact hx'
      · rw [if_neg e] at hx' ⊢; exact hx'
    | _ => exact hx
theorem CodeS.loop {x : Code} {Q : Post} {a : Act} {σ : St} (h : CodeS P fn ro x (seqQ (LoopS P fn ro x Q) Q) a σ) : LoopS P fn ro x Q a σ := by
  refine ⟨⟨Res.Holds.bind_intro (h.h.mono fun ⟨o, σ⟩ hz => ?_)⟩⟩
  cases o with
  | val v => exact hz.elim
  | exit e a => cases e with
    | normal => exact (LoopS.h hz).sem
    | _ => exact hz
omit [Mix P] in
theorem CodeS.scope {x : Code} {Q : Post} {a : Act} {σ : St} (h : ScopeS P fn ro x x Q a σ) : CodeS P fn ro (.scope x) Q a σ := ⟨h.h⟩
def scopeS (P : Program) (fn : FuncId) (ro : Option Nat) (x : Code) (Q : Post) : Post
  | .goto l => fun a σ => match findLabel x l with
    | some rest => ScopeS P fn ro x rest Q a σ
    | none => Q (.goto l) a σ
  | e => Q e
theorem ScopeS.of {x cur : Code} {Q : Post} {a : Act} {σ : St} (h : CodeS P fn ro cur (scopeS P fn ro x Q) a σ) : ScopeS P fn ro x cur Q a σ := by
  refine ⟨.of_step (Res.Holds.bind_intro (h.h.mono fun ⟨o, σ⟩ hz => ?_))⟩
  cases o with
  | val v => exact hz.elim
  | exit e a => cases e with
    | goto l =>
      have hz' : (match findLabel x l with
        | some rest => ScopeS P fn ro x rest Q a σ
        | none => Q (.goto l) a σ) := hz
      show (match findLabel x l with
        | some rest => semR P (.inScope ro fn x rest a) σ
        | none => .ok (.exit (.goto l) a, σ) : Run).Holds (exP Q)
      revert hz'
      cases findLabel x l with
      | none => exact fun h => h
      | some rest => exact fun h => h.h
    | _ => exact hz

/-- A loop, by what stands ahead of each round, and what grows less. -/
theorem LoopS.inv {x : Code} {Q : Post} (I : Nat → Act → St → Prop) (hI : ∀ m a σ, I m a σ → CodeS P fn ro x (seqQ (fun a σ => ∃ m', m' < m ∧ I m' a σ) Q) a σ) {m : Nat} {a : Act} {σ : St} (h : I m a σ) : LoopS P fn ro x Q a σ := by
  induction m using Nat.strongRecOn generalizing a σ with
  | ind m ih =>
    refine CodeS.loop ((hI m a σ h).mono fun e a σ hx => ?_)
    cases e with
    | normal =>
      obtain ⟨m', hm, hi⟩ := hx
      exact ih m' hm hi
    | _ => exact hx

/-! ### Calls -/
def applyS (P : Program) (vs : List V) (σ : St) (k : VPost) : V → Prop
  | .func (.func g) first captured => CallS P g (app first (app vs captured)) k σ
  | f => TaskS P (.apply f vs) (valP k) σ
def callValueS (P : Program) (σ : St) (k : VPost) : Option V → Option (List V) → Prop
  | some fv, some vs => applyS P vs σ k fv
  | _, _ => False
def callMethodS (P : Program) (σ : St) (vs : List V) (k : VPost) : Option (FuncId × V) → Prop
  | some (f, recv) => CallS P f (recv :: vs) k σ
  | none => False
def callInvokeS (P : Program) (σ : St) (name : String) (k : VPost) : Option V → Option (List V) → Prop
  | some (.iface t v), some vs => callMethodS P σ vs k (methodV P t v name)
  | _, _ => False
def operS (P : Program) (ro : Option Nat) (o : Op) (a : Act) (σ : St) (id : Nat) (k : OPost) : Prop :=
  match o with
  | .call c => match c.callee with
    | .value f => match extOf P f with
      | some e => OkP (opExt σ e (a.evals c.args.toList)) fun v σ => k v a σ
      | none => callValueS P σ (fun v σ => k v a σ) (a.eval f) (a.evals c.args.toList)
    | .invoke x name => callInvokeS P σ name (fun v σ => k v a σ) (a.eval x) (a.evals c.args.toList)
    | .builtin b => OkP (opBuiltin P σ id b c.argTypes.toList (a.evals c.args.toList)) fun v σ => k v a σ
  | .defer c => ((deferC c).f (fun _ _ => .fail) ro a σ id).Holds (tripP k)
  | o => opP P o a σ id fun v σ => k v a σ

omit [Mix P] in
theorem callS_holds {a : Act} {σ : St} {f : FuncId} {vs : List V} {k : OPost} (h : CallS P f vs (fun v σ => k v a σ) σ) : ((semR P (.call f vs) σ).bind (valOf a)).Holds (tripP k) :=
  Res.Holds.bind_intro (SemE.mono (fun ⟨o, σ⟩ hx => by cases o with
    | val v => exact hx
    | exit e a => exact hx.elim) h.h)
theorem applyS_holds {a : Act} {σ : St} {fv : V} {vs : List V} {k : OPost} (h : applyS P vs σ (fun v σ => k v a σ) fv) : ((semR P (.apply fv vs) σ).bind (valOf a)).Holds (tripP k) := by
  have other : TaskS P (.apply fv vs) (valP fun v σ => k v a σ) σ → ((semR P (.apply fv vs) σ).bind (valOf a)).Holds (tripP k) := fun h =>
    Res.Holds.bind_intro (SemE.mono (fun ⟨o, σ⟩ hx => by cases o with
      | val v => exact hx
      | exit e a => exact hx.elim) h.h)
  unfold applyS at h
  split at h
  · rename_i g first captured
    exact other ⟨.of_step h.h⟩
  · exact other h
theorem operS_holds {o : Op} {a : Act} {σ : St} {id : Nat} {k : OPost} (h : operS P ro o a σ id k) : ((operC P o).f (semR P) ro a σ id).Holds (tripP k) := by
  have plain : ∀ {o : Op}, opP P o a σ id (fun v σ => k v a σ) → ((plainC (opC P o)).f (semR P) ro a σ id).Holds (tripP k) := fun h => Res.Holds.withAct (opP_holds h)
  cases o with
  | call c =>
    obtain ⟨callee, args, tys⟩ := c
    cases callee with
    | value f =>
      have h' : match extOf P f with
          | some e => OkP (opExt σ e (a.evals args.toList)) fun v σ => k v a σ
          | none => callValueS P σ (fun v σ => k v a σ) (a.eval f) (a.evals args.toList) := h
      show ((match extOf P f with
        | some e => ⟨fun _ _ a σ _ => (opExt σ e (a.evals args.toList)).bind (withAct a)⟩
        | none => ⟨fun R _ a σ _ => callValue R a σ (a.eval f) (a.evals args.toList)⟩ : OperC).f (semR P) ro a σ id).Holds (tripP k)
      cases hx : extOf P f with
      | some e => rw [hx] at h'; exact Res.Holds.withAct (OkP.holds h')
      | none =>
        rw [hx] at h'
        show (callValue (semR P) a σ (a.eval f) (a.evals args.toList)).Holds (tripP k)
        replace h' : callValueS P σ (fun v σ => k v a σ) (a.eval f) (a.evals args.toList) := h'
        revert h'
        cases a.eval f with
        | none => exact fun h => h.elim
        | some fv => cases a.evals args.toList with
          | none => exact fun h => h.elim
          | some vs => exact fun h => applyS_holds h
    | invoke x name =>
      show (callInvoke P (semR P) a σ name (a.eval x) (a.evals args.toList)).Holds (tripP k)
      have h' : callInvokeS P σ name (fun v σ => k v a σ) (a.eval x) (a.evals args.toList) := h
      unfold callInvokeS at h'
      split at h'
      · rename_i t v vs hx hv
        rw [hx, hv]
        show (callMethodV (semR P) a σ vs (methodV P t v name)).Holds (tripP k)
        cases hm : methodV P t v name with
        | none => rw [hm] at h'; exact h'.elim
        | some p => obtain ⟨f, recv⟩ := p; rw [hm] at h'; exact callS_holds h'
      · exact h'.elim
    | builtin b => exact Res.Holds.withAct (OkP.holds h)
  | defer c =>
    have h' : ((deferC c).f (fun _ _ => .fail) ro a σ id).Holds (tripP k) := h
    show ((deferC c).f (semR P) ro a σ id).Holds (tripP k)
    have e : ∀ R R', (deferC c).f R ro a σ id = (deferC c).f R' ro a σ id := by
      intro R R'
      unfold deferC
      split <;> rfl
    rw [e _ fun _ _ => .fail]; exact h'
  | _ => exact plain h

noncomputable def stepS (P : Program) (ro : Option Nat) (ops : List Oper) (o : Oper) (a : Act) (σ : St) (id : Nat) (k : Act → St → Prop) : Prop :=
  match o.guard with
  | none => operS P ro o.op a σ id fun v a σ => putP o.dst (fun a => k a σ) a v
  | some (j, want) => match guardSlot ops j with
    | some d => match gateV want (a.tmps.get d) with
      | some true => operS P ro o.op a σ id fun v a σ => putP o.dst (fun a => k a σ) a v
      | some false => putP o.dst (fun a => k a σ) a undefV
      | none => False
    | none => putP o.dst (fun a => k a σ) a undefV
theorem stepS_holds {ops : List Oper} {o : Oper} {a : Act} {σ : St} {id : Nat} {k : Act → St → Prop} (h : stepS P ro ops o a σ id k) : ((stepC P ops o).f (semR P) ro a σ id).Holds (actP k) := by
  have go : operS P ro o.op a σ id (fun v a σ => putP o.dst (fun a => k a σ) a v) → (((operC P o.op).f (semR P) ro a σ id).bind (dstK o.dst)).Holds (actP k) := fun h =>
    Res.Holds.bind_intro ((operS_holds h).mono fun ⟨v, a, σ⟩ hx => putP_holds hx)
  unfold stepS at h
  unfold stepC
  cases hg : o.guard with
  | none => rw [hg] at h; exact go h
  | some jw =>
    obtain ⟨j, want⟩ := jw
    rw [hg] at h
    dsimp only at h ⊢
    cases hs : guardSlot ops j with
    | none => rw [hs] at h; exact putP_holds h
    | some d =>
      rw [hs] at h
      dsimp only at h
      show (guardK (operC P o.op) o.dst (semR P) ro a σ id (gateV want (a.tmps.get d))).Holds (actP k)
      cases hgv : gateV want (a.tmps.get d) with
      | none => rw [hgv] at h; exact h.elim
      | some b => rw [hgv] at h; cases b with
        | true => exact go h
        | false => exact putP_holds h

/-! ### Regions -/
noncomputable def opsS (P : Program) (ro : Option Nat) (ops : List Oper) (k : Act → St → Prop) : List Oper → Act → St → Prop
  | [] => k
  | o :: l => fun a σ => stepS P ro ops o a σ σ.next (opsS P ro ops k l)
theorem opsS_holds {ops : List Oper} {Q : Post} : ∀ {l : List Oper} {a : Act} {σ : St}, opsS P ro ops (Q .normal) l a σ → ((opsC P ops l).f (semR P) ro a σ).Holds (exP Q)
  | [], _, _, h => h
  | _ :: _, _, _, h => Res.Holds.bind_intro ((stepS_holds h).mono fun _ hx => opsS_holds hx)
noncomputable def drawnS (P : Program) (ro : Option Nat) (ops : List Oper) (base : Nat) (k : Act → St → Prop) : List Item → List St → Act → St → Prop
  | [], _ => k
  | it :: l, snaps => fun a σ => match nth ops it.i with
    | some o => stepS P ro ops o a σ (Nat.add base it.i) fun a' σ' => backP it.back (loadsSame P (offG ops o a) it.back snaps a (slotOf a' o.dst) o.op) (drawnS P ro ops base k l (snapsOf (effectOp o.op) σ' snaps) a' σ')
    | none => False
theorem drawnS_holds {ops : List Oper} {Q : Post} {base : Nat} : ∀ {l : List Item} {snaps : List St} {a : Act} {σ : St}, drawnS P ro ops base (Q .normal) l snaps a σ → ((drawnC P ops l).f (semR P) ro base snaps a σ).Holds (exP Q)
  | [], _, _, _, h => h
  | it :: l, snaps, a, σ, h => by
    show ((drawnItem P ops it (drawnC P ops l) (nth ops it.i)).f (semR P) ro base snaps a σ).Holds (exP Q)
    unfold drawnS at h
    cases hn : nth ops it.i with
    | none => rw [hn] at h; exact h.elim
    | some o =>
      rw [hn] at h
      dsimp only at h
      refine Res.Holds.bind_intro ((stepS_holds h).mono fun ⟨a', σ'⟩ hx => ?_)
      have hx' : backP it.back (loadsSame P (offG ops o a) it.back snaps a (slotOf a' o.dst) o.op) (drawnS P ro ops base (Q .normal) l (snapsOf (effectOp o.op) σ' snaps) a' σ') := hx
      have hb : (Nat.beq it.back 0 || loadsSame P (offG ops o a) it.back snaps a (slotOf a' o.dst) o.op) = true ∧ drawnS P ro ops base (Q .normal) l (snapsOf (effectOp o.op) σ' snaps) a' σ' := by
        unfold backP at hx'
        split at hx'
        · rename_i hz; rw [hz]; exact ⟨rfl, hx'⟩
        · exact ⟨by rw [hx'.same, Bool.or_true], hx'.k⟩
      show (match Nat.beq it.back 0 || loadsSame P (offG ops o a) it.back snaps a (slotOf a' o.dst) o.op with
        | true => (drawnC P ops l).f (semR P) ro base (snapsOf (effectOp o.op) σ' snaps) a' σ'
        | false => .fail "a load and a write, in either order" : Run).Holds (exP Q)
      rw [hb.1]; exact drawnS_holds hb.2
structure DrawS (P : Program) [Env] (ro : Option Nat) (ops : List Oper) (k : Act → St → Prop) (a : Act) (σ : St) : Prop where
  h : ∃ l, planOf P ops = some l ∧ drawnS P ro ops σ.next k l [ahead (len ops) σ] a (ahead (len ops) σ)
omit [Mix P] in
theorem DrawS.by {ops : List Oper} {k : Act → St → Prop} {a : Act} {σ : St} (l : List Item) (hl : planOf P ops = some l) (h : drawnS P ro ops σ.next k l [ahead (len ops) σ] a (ahead (len ops) σ)) : DrawS P ro ops k a σ := ⟨l, hl, h⟩
noncomputable def regionS (P : Program) (ro : Option Nat) (ops : List Oper) (k : Act → St → Prop) (a : Act) (σ : St) : Bool → Prop
  | false => opsS P ro ops k ops a σ
  | true => DrawS P ro ops k a σ

/-! ### Code: all but loops, scopes and rounds is taken apart -/
noncomputable def ws (P : Program) (fn : FuncId) (ro : Option Nat) : Code → Post → Act → St → Prop
  | .skip, Q => Q .normal
  | .label _, Q => Q .normal
  | .seq x y, Q => ws P fn ro x (seqQ (ws P fn ro y Q) Q)
  | .cond x y z, Q => fun a σ => condP (ws P fn ro y Q a σ) (ws P fn ro z Q a σ) (a.eval x)
  | .block id x, Q => ws P fn ro x (blockQ id Q)
  | .loop x, Q => LoopS P fn ro x Q
  | .exit id, Q => Q (.exit id)
  | .goto l, Q => Q (.goto l)
  | .ret, Q => Q .ret
  | .region _ ops draw, Q => fun a σ => regionS P ro ops.toList (Q .normal) a σ draw
  | .scope x, Q => ScopeS P fn ro x x Q
  | c, Q => CodeS P fn ro c Q
theorem CodeS.of_ws : ∀ {c : Code} {Q : Post} {a : Act} {σ : St}, ws P fn ro c Q a σ → CodeS P fn ro c Q a σ
  | .skip, _, _, _, h => ⟨h⟩
  | .label _, _, _, _, h => ⟨h⟩
  | .seq x y, Q, a, σ, h => by
    have h' : ws P fn ro x (seqQ (ws P fn ro y Q) Q) a σ := h
    refine .seq ((CodeS.of_ws h').mono fun e a σ hx => ?_)
    cases e with
    | normal => exact CodeS.of_ws hx
    | _ => exact hx
  | .cond x y z, Q, a, σ, h => by
    refine .cond ?_
    have h' : condP (ws P fn ro y Q a σ) (ws P fn ro z Q a σ) (a.eval x) := h
    revert h'
    cases a.eval x with
    | none => exact id
    | some v => cases v with
      | bool b => exact fun h => ⟨fun e => CodeS.of_ws (h.y e), fun e => CodeS.of_ws (h.z e)⟩
      | _ => exact id
  | .block id x, Q, a, σ, h => .block (CodeS.of_ws h)
  | .loop x, Q, a, σ, h => LoopS.h h
  | .exit id, Q, a, σ, h => ⟨h⟩
  | .goto l, Q, a, σ, h => ⟨h⟩
  | .ret, Q, a, σ, h => ⟨h⟩
  | .region _ ops draw, Q, a, σ, h => by
    have h' : regionS P ro ops.toList (Q .normal) a σ draw := h
    cases draw with
    | false => exact ⟨opsS_holds h'⟩
    | true =>
      obtain ⟨l, hp, h2⟩ := DrawS.h h'
      constructor
      show ((match planOf P ops.toList with
        | some l => (⟨fun R ro a σ => (drawnC P ops.toList l).f R ro σ.next [ahead (len ops.toList) σ] a (ahead (len ops.toList) σ)⟩ : CodeC)
        | none => ⟨fun _ _ _ _ => .fail "plan"⟩).f (semR P) ro a σ).Holds (exP Q)
      rw [hp]
      exact drawnS_holds h2
  | .rangeFunc _ _ _ _, _, _, _, h => h
  | .scope x, Q, a, σ, h => .scope h
  | .refuse _, _, _, _, h => h

/-! ### A function's body -/
def retS (P : Program) (fn : Func) (Q : VPost) : Post
  | .normal => fun a σ => match a.defers with
    | [] => resP Q σ (resultsV P a σ fn.results.toList)
    | _ => TaskS P (.leave fn a) (valP Q) σ
  | .ret => fun a σ => match a.defers with
    | [] => resP Q σ (resultsV P a σ fn.results.toList)
    | _ => TaskS P (.leave fn a) (valP Q) σ
  | _ => fun _ _ => False
theorem leaveS_holds {fn : Func} {a : Act} {σ : St} {Q : VPost} (h : match a.defers with
    | [] => resP Q σ (resultsV P a σ fn.results.toList)
    | _ => TaskS P (.leave fn a) (valP Q) σ) : SemE P (.leave fn a) σ (valP Q) := by
  cases hd : a.defers with
  | nil =>
    rw [hd] at h
    refine .of_step ?_
    show (stepLeave P (semR P) fn a σ a.defers).Holds _
    rw [hd]
    show (resultK σ (resultsV P a σ fn.results.toList)).Holds _
    have h' : resP Q σ (resultsV P a σ fn.results.toList) := h
    revert h'
    cases resultsV P a σ fn.results.toList with
    | none => exact id
    | some l => exact id
  | cons d l => rw [hd] at h; exact TaskS.h h

/-- A call: the body. -/
theorem CallS.code {f : FuncId} {fn : Func} {c : Code} {vs : List V} {Q : VPost} {σ : St} (hf : P.funcs[f]? = some fn) (hb : fn.body = some c) (hn : (fn.name == "runtime.NumGoroutine") = false)
    (h : CodeS P f none c (retS P fn Q) (actOf fn.ntmps vs) σ) : CallS P f vs Q σ := by
  refine ⟨.of_step ?_⟩
  show (stepCallF (semR P) f vs σ P.funcs[f]?).Holds _
  rw [hf]
  show (callBody (semR P) f fn vs σ (leaveK (semR P) fn) fn.body).Holds _
  rw [hb]
  show (match fn.name == "runtime.NumGoroutine" with
    | true => .fail "NumGoroutine"
    | false => (semR P (.code none f c (actOf fn.ntmps vs)) σ).bind (leaveK (semR P) fn) : Run).Holds _
  rw [hn]
  refine Res.Holds.bind_intro (SemE.mono (fun ⟨o, σ⟩ hx => ?_) h.sem)
  cases o with
  | val v => exact hx.elim
  | exit e a => cases e with
    | normal => exact leaveS_holds hx
    | ret => exact leaveS_holds hx
    | _ => exact hx.elim
theorem CallS.body {f : FuncId} {fn : Func} {c : Code} {vs : List V} {Q : VPost} {σ : St} (hf : P.funcs[f]? = some fn) (hb : fn.body = some c) (hn : (fn.name == "runtime.NumGoroutine") = false)
    (h : ws P f none c (retS P fn Q) (actOf fn.ntmps vs) σ) : CallS P f vs Q σ := .code hf hb hn (.of_ws h)
end
end Go.Ev
