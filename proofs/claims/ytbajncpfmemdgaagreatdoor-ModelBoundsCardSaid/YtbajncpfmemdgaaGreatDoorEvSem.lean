/- What tasks come to in the machine itself, as a condition on what stands behind: rules for calls, code, loops; what is known elsewhere, forgotten, told anew. -/
import Derived.Test.YtbajncpfmemdgaaGreatDoorEvWp
import Derived.Test.YtbajncpfmemdgaaGreatDoorEvTold
namespace Go.Ev
open Go

/-! ### The machine's own answer -/
def SemB [Env] (P : Program) (t : Task) (σ : St) (p : Out × St → Prop) : Prop :=
  match t with
  | .code ro _ c a => ∀ (ρ : Ren) (w : World) (a' : Go.Act) (F : Fence), R ρ σ w → ActRel ρ a a' → RoOk ρ ro F → c.wpIn F 0 P (CodePost p ρ σ w) a' w ∧ ∀ x, c = .loop x → LoopIn F P x (CodePost p ρ σ w) a' w
  | .inScope ro _ x cur a => ∀ (ρ : Ren) (w : World) (a' : Go.Act) (F : Fence), R ρ σ w → ActRel ρ a a' → RoOk ρ ro F → ScopeIn F P x cur (CodePost p ρ σ w) a' w
  | .call f vs => ∀ (ρ : Ren) (w : World) (vs' : List Value), R ρ σ w → VsRel ρ vs vs' → (callFunc f ⟨vs'⟩).run P w = .ok (.enter f ⟨vs'⟩) w ∧ CallsIn Fence.wide 0 P f ⟨vs'⟩ w (ValPost p ρ σ w)
  | .deferred f vs => ∀ (ρ : Ren) (w : World) (vs' : List Value), R ρ σ w → VsRel ρ vs vs' → (callFunc f ⟨vs'⟩).run P w = .ok (.enter f ⟨vs'⟩) w ∧
      ∀ u, CallsDIn Fence.wide 0 P f ⟨vs'⟩ u w (fun e u' w' => u' = u ∧ ValPost p ρ σ w e w')
  | .leave fn a => ∀ (ρ : Ren) (w : World) (a' : Go.Act), R ρ σ w → ActRel ρ a a' → LeavesInM Fence.wide 0 P fn a'.tmps (ValPost p ρ σ w) a'.defers .returning w
  | .apply f vs => ∀ (ρ : Ren) (w : World) (f' : Value) (vs' : List Value), R ρ σ w → VRel ρ f f' → VsRel ρ vs vs' → ∃ d, (Deferred.ofValue f' ⟨vs'⟩).run P w = .ok d w ∧ Enters P d w (ValPost p ρ σ w)
  | .round l vs => ∀ (ρ : Ren) (w : World) (k : Loc) (vs' : List Value), R ρ σ w → ρ l = some k → VsRel ρ vs vs' →
      ∃ g tmps as bo, (Instr.yield k.c ⟨vs'⟩).run P w = .ok (.round k.c g tmps as bo) w ∧ RoundIn Fence.wide 0 P k.c g tmps as bo w (ValPost p ρ σ w)

/-- A task comes to p, in the machine. -/
def SemE [Env] (P : Program) (t : Task) (σ : St) (p : Out × St → Prop) : Prop := (∃ x, p x) ∧ SemB P t σ p

theorem Good.sem [Env] {P : Program} {Rn : Task → St → Run} (hg : Good P Rn) {t : Task} {σ : St} {p : Out × St → Prop} (h : (Rn t σ).Holds p) : SemE P t σ p := by
  refine ⟨h.exists, ?_⟩
  cases t with
  | code ro fn c a => exact fun ρ w a' F hr ha hroF => ⟨hg.code h hr ha hroF, fun x hx => by subst hx; exact hg.loop h hr ha hroF⟩
  | inScope ro fn x cur a => exact fun ρ w a' F hr ha hroF => hg.inScope h hr ha hroF
  | call f vs => exact fun ρ w vs' hr hv => hg.call h hr hv
  | deferred f vs => exact fun ρ w vs' hr hv => hg.deferred h hr hv
  | leave fn a => exact fun ρ w a' hr ha => hg.leave h hr ha
  | apply f vs => exact fun ρ w f' vs' hr hf hv => hg.apply h hr hf hv
  | round l vs => exact fun ρ w k vs' hr hl hv => hg.round h hr hl hv

theorem Enters.mono {P : Program} {d : Deferred} {w : World} {Q Q' : Ending → World → Prop} (h : Enters P d w Q) (hq : ∀ e w, Q e w → Q' e w) : Enters P d w Q' := by
  rcases h with ⟨f, args, h1, h2⟩ | ⟨l, f, tmps, as, bo, h1, h2⟩
  · exact .inl ⟨f, args, h1, h2.mono hq⟩
  · exact .inr ⟨l, f, tmps, as, bo, h1, h2.mono hq⟩

theorem SemE.mono [Env] {P : Program} {t : Task} {σ : St} {p q : Out × St → Prop} (hpq : ∀ x, p x → q x) (h : SemE P t σ p) : SemE P t σ q := by
  refine ⟨let ⟨x, hx⟩ := h.1; ⟨x, hpq x hx⟩, ?_⟩
  have h := h.2
  cases t with
  | code ro fn c a => exact fun ρ w a' F hr ha hroF => ⟨wpIn_mono (h ρ w a' F hr ha hroF).1 fun _ _ _ hx => CodePost.mono hx hpq, fun x hx => ((h ρ w a' F hr ha hroF).2 x hx).mono fun _ _ _ hx => CodePost.mono hx hpq⟩
  | inScope ro fn x cur a => exact fun ρ w a' F hr ha hroF => (h ρ w a' F hr ha hroF).mono fun _ _ _ hx => CodePost.mono hx hpq
  | call f vs => exact fun ρ w vs' hr hv => ⟨(h ρ w vs' hr hv).1, (h ρ w vs' hr hv).2.mono fun _ _ hx => ValPost.mono hx hpq⟩
  | deferred f vs => exact fun ρ w vs' hr hv => ⟨(h ρ w vs' hr hv).1, fun u => ((h ρ w vs' hr hv).2 u).mono fun _ _ _ hx => ⟨hx.1, ValPost.mono hx.2 hpq⟩⟩
  | leave fn a => exact fun ρ w a' hr ha => LeavesInM.mono (h ρ w a' hr ha) fun _ _ hx => ValPost.mono hx hpq
  | apply f vs => exact fun ρ w f' vs' hr hf hv => let ⟨d, h1, h2⟩ := h ρ w f' vs' hr hf hv; ⟨d, h1, h2.mono fun _ _ hx => ValPost.mono hx hpq⟩
  | round l vs => exact fun ρ w k vs' hr hl hv => let ⟨g, tmps, as, bo, h1, h2⟩ := h ρ w k vs' hr hl hv; ⟨g, tmps, as, bo, h1, h2.mono fun _ _ hx => ValPost.mono hx hpq⟩

theorem SemE.at [Env] {P : Program} {t : Task} {σ : St} {p : Out × St → Prop} (h : SemE P t σ p) : SemB P t σ p := h.2

/-- A task's answer, of which just what holds in the machine is known. -/
def semR [Env] (P : Program) (t : Task) (σ : St) : Run := .tr (SemE P t σ) (fun _ _ h => SemE.mono h) fun _ h => h.1
theorem semR_good [Env] (P : Program) : Good P (semR P) := by
  constructor
  case code => intro ro fn c a σ p h ρ w a' F hr ha hroF; exact (SemE.at h ρ w a' F hr ha hroF).1
  case loop => intro ro fn x a σ p h ρ w a' F hr ha hroF; exact (SemE.at h ρ w a' F hr ha hroF).2 x rfl
  case inScope => intro ro fn x cur a σ p h ρ w a' F hr ha hroF; exact SemE.at h ρ w a' F hr ha hroF
  case call => intro f vs σ p h ρ w vs' hr hv; exact SemE.at h ρ w vs' hr hv
  case deferred => intro f vs σ p h ρ w vs' hr hv; exact SemE.at h ρ w vs' hr hv
  case leave => intro fn a σ p h ρ w a' hr ha; exact SemE.at h ρ w a' hr ha
  case apply => intro f vs σ p h ρ w f' vs' hr hf hv; exact SemE.at h ρ w f' vs' hr hf hv
  case round => intro l vs σ p h ρ w k vs' hr hl hv; exact SemE.at h ρ w k vs' hr hl hv

/-- The program follows mixed orders. -/
class Mix (P : Program) : Prop where
  h : P.follows .mixedOrders = true
section
variable {P : Program} [Mix P] [Env]
theorem SemE.of_step {t : Task} {σ : St} {p : Out × St → Prop} (h : (step P (semR P) t σ).Holds p) : SemE P t σ p := (step_good Mix.h (semR_good P)).sem h
theorem SemE.of_run {t : Task} {σ : St} {p : Out × St → Prop} {n : Nat} (h : (run P n t σ).Holds p) : SemE P t σ p := (run_good Mix.h n).sem h
theorem SemE.of_runO {O : List Told} (hO : ∀ e ∈ O, e.ok P) {t : Task} {σ : St} {p : Out × St → Prop} {n : Nat} (h : (runO P O n t σ).Holds p) : SemE P t σ p := (runO_good Mix.h hO n).sem h
end

/-! ### Rules -/
structure TaskS [Env] (P : Program) (t : Task) (p : Out × St → Prop) (σ : St) : Prop where
  h : SemE P t σ p
/-- A call comes to Q. -/
structure CallS [Env] (P : Program) (f : FuncId) (vs : List V) (Q : VPost) (σ : St) : Prop where
  h : SemE P (.call f vs) σ (valP Q)
/-- Code comes to Q. -/
structure CodeS [Env] (P : Program) (fn : FuncId) (ro : Option Nat) (c : Code) (Q : Post) (a : Act) (σ : St) : Prop where
  h : ((codeC P fn c).f (semR P) ro a σ).Holds (exP Q)
structure LoopS [Env] (P : Program) (fn : FuncId) (ro : Option Nat) (x : Code) (Q : Post) (a : Act) (σ : St) : Prop where
  h : CodeS P fn ro (.loop x) Q a σ
/-- Code 'cur' within a scope x. -/
structure ScopeS [Env] (P : Program) (fn : FuncId) (ro : Option Nat) (x cur : Code) (Q : Post) (a : Act) (σ : St) : Prop where
  h : SemE P (.inScope ro fn x cur a) σ (exP Q)

section
variable {P : Program} [Mix P] [Env] {fn : FuncId} {ro : Option Nat}

omit [Mix P] in
theorem CallS.mono {f : FuncId} {vs : List V} {Q Q' : VPost} {σ : St} (h : CallS P f vs Q σ) (hq : ∀ v σ, Q v σ → Q' v σ) : CallS P f vs Q' σ :=
  ⟨SemE.mono (fun ⟨o, σ⟩ hx => by cases o with
    | val v => exact hq _ _ hx
    | exit e a => exact hx) h.h⟩
omit [Mix P] in
theorem CodeS.mono {c : Code} {Q Q' : Post} {a : Act} {σ : St} (h : CodeS P fn ro c Q a σ) (hq : ∀ e a σ, Q e a σ → Q' e a σ) : CodeS P fn ro c Q' a σ :=
  ⟨h.h.mono fun ⟨o, σ⟩ hx => by cases o with
    | val v => exact hx
    | exit e a => exact hq _ _ _ hx⟩
theorem CodeS.sem {c : Code} {Q : Post} {a : Act} {σ : St} (h : CodeS P fn ro c Q a σ) : SemE P (.code ro fn c a) σ (exP Q) := by
  by_cases hl : ∃ x, c = .loop x
  · obtain ⟨x, rfl⟩ := hl
    exact h.h
  · refine .of_step (t := .code ro fn c a) ?_
    show (stepCode P (semR P) ro fn a σ c).Holds (exP Q)
    have h := h.h
    cases c <;> first
      | exact absurd ⟨_, rfl⟩ hl
      | exact h

omit [Mix P] in
theorem CodeS.seq {x y : Code} {Q : Post} {a : Act} {σ : St} (h : CodeS P fn ro x (seqQ (CodeS P fn ro y Q) Q) a σ) : CodeS P fn ro (.seq x y) Q a σ := by
  refine ⟨Res.Holds.bind_intro (h.h.mono fun ⟨o, σ⟩ hz => ?_)⟩
  cases o with
  | val v => exact hz.elim
  | exit e a => cases e with
    | normal => exact CodeS.h hz
    | _ => exact hz
omit [Mix P] in
theorem CodeS.cond {x : Operand} {y z : Code} {Q : Post} {a : Act} {σ : St} (h : condP (CodeS P fn ro y Q a σ) (CodeS P fn ro z Q a σ) (a.eval x)) : CodeS P fn ro (.cond x y z) Q a σ := by
  constructor
  show (condK ((codeC P fn y).f (semR P) ro) ((codeC P fn z).f (semR P) ro) a σ (a.eval x)).Holds (exP Q)
  cases hx : a.eval x with
  | none => rw [hx] at h; exact h.elim
  | some v =>
    rw [hx] at h
    cases v with
    | bool b => cases b with
      | true => exact CodeS.h (show CodeS P fn ro y Q a σ from h)
      | false => exact CodeS.h (show CodeS P fn ro z Q a σ from h)
    | _ => exact h.elim
omit [Mix P] in
theorem CodeS.block {id : Nat} {x : Code} {Q : Post} {a : Act} {σ : St} (h : CodeS P fn ro x (blockQ id Q) a σ) : CodeS P fn ro (.block id x) Q a σ := by
  refine ⟨Res.Holds.bind_intro (h.h.mono fun ⟨o, σ⟩ hx => ?_)⟩
  cases o with
  | val v => exact hx.elim
  | exit e a => cases e with
    | exit i =>
      show exP Q (.exit (if i = id then .normal else .exit i) a, σ)
      have hx' : (if i = id then Q .normal else Q (.exit i)) a σ := hx
      by_cases e : i = id
      · rw [if_pos e] at hx' ⊢; exact hx'
      · rw [if_neg e] at hx' ⊢; exact hx'
    | _ => exact hx
theorem CodeS.loop {x : Code} {Q : Post} {a : Act} {σ : St} (h : CodeS P fn ro x (seqQ (LoopS P fn ro x Q) Q) a σ) : LoopS P fn ro x Q a σ := by
  refine ⟨⟨(SemE.of_step (t := .code ro fn (.loop x) a) ?_ : SemE P _ _ _)⟩⟩
  refine Res.Holds.bind_intro (h.h.mono fun ⟨o, σ⟩ hz => ?_)
  cases o with
  | val v => exact hz.elim
  | exit e a => cases e with
    | normal => exact (LoopS.h hz).sem
    | _ => exact hz
omit [Mix P] in
theorem CodeS.scope {x : Code} {Q : Post} {a : Act} {σ : St} (h : ScopeS P fn ro x x Q a σ) : CodeS P fn ro (.scope x) Q a σ := ⟨h.h⟩
def scopeS (P : Program) (fn : FuncId) (ro : Option Nat) (x : Code) (Q : Post) : Post
  | .goto l => fun a σ => match findLabel x l with
    | some rest => ScopeS P fn ro x rest Q a σ
    | none => Q (.goto l) a σ
  | e => Q e
theorem ScopeS.of {x cur : Code} {Q : Post} {a : Act} {σ : St} (h : CodeS P fn ro cur (scopeS P fn ro x Q) a σ) : ScopeS P fn ro x cur Q a σ := by
  refine ⟨.of_step (Res.Holds.bind_intro (h.h.mono fun ⟨o, σ⟩ hz => ?_))⟩
  cases o with
  | val v => exact hz.elim
  | exit e a => cases e with
    | goto l =>
      have hz' : (match findLabel x l with
        | some rest => ScopeS P fn ro x rest Q a σ
        | none => Q (.goto l) a σ) := hz
      show (match findLabel x l with
        | some rest => semR P (.inScope ro fn x rest a) σ
        | none => .ok (.exit (.goto l) a, σ) : Run).Holds (exP Q)
      revert hz'
      cases findLabel x l with
      | none => exact fun h => h
      | some rest => exact fun h => h.h
    | _ => exact hz

/-- A loop, by what stands ahead of each round, and what grows less. -/
theorem LoopS.inv {x : Code} {Q : Post} (I : Nat → Act → St → Prop) (hI : ∀ m a σ, I m a σ → CodeS P fn ro x (seqQ (fun a σ => ∃ m', m' < m ∧ I m' a σ) Q) a σ) {m : Nat} {a : Act} {σ : St} (h : I m a σ) : LoopS P fn ro x Q a σ := by
  induction m using Nat.strongRecOn generalizing a σ with
  | ind m ih =>
    refine CodeS.loop ((hI m a σ h).mono fun e a σ hx => ?_)
    cases e with
    | normal =>
      obtain ⟨m', hm, hi⟩ := hx
      exact ih m' hm hi
    | _ => exact hx

/-! ### What is known -/
/-- The bodies of a code's loops, each ahead of those in it. -/
def loopsOf : Code → List Code
  | .seq x y => loopsOf x ++ loopsOf y
  | .cond _ x y => loopsOf x ++ loopsOf y
  | .block _ x => loopsOf x
  | .loop x => x :: loopsOf x
  | .scope x => loopsOf x
  | _ => []
def nloops : Code → Nat
  | .seq x y => nloops x + nloops y
  | .cond _ x y => nloops x + nloops y
  | .block _ x => nloops x
  | .loop x => nloops x + 1
  | .scope x => nloops x
  | _ => 0
omit [Mix P] [Env] in
theorem nloops_eq : ∀ c : Code, (loopsOf c).length = nloops c
  | .seq x y => by simp [loopsOf, nloops, nloops_eq x, nloops_eq y]
  | .cond _ x y => by simp [loopsOf, nloops, nloops_eq x, nloops_eq y]
  | .block _ x => nloops_eq x
  | .loop x => by simp [loopsOf, nloops, nloops_eq x]
  | .scope x => nloops_eq x
  | .skip => rfl
  | .label _ => rfl
  | .exit _ => rfl
  | .goto _ => rfl
  | .ret => rfl
  | .region _ _ _ => rfl
  | .rangeFunc _ _ _ _ => rfl
  | .refuse _ => rfl
omit [Mix P] [Env] in
/-- Those in a loop stand right behind it. -/
theorem loopsOf_in : ∀ (c : Code) {k : Nat} {x : Code}, (loopsOf c)[k]? = some x → ∀ {j : Nat} {y : Code}, (loopsOf x)[j]? = some y → (loopsOf c)[k + 1 + j]? = some y := by
  intro c
  have two : ∀ {a b : List Code}, (∀ {k : Nat} {x : Code}, a[k]? = some x → ∀ {j : Nat} {y : Code}, (loopsOf x)[j]? = some y → a[k + 1 + j]? = some y) → (∀ {k : Nat} {x : Code}, b[k]? = some x → ∀ {j : Nat} {y : Code}, (loopsOf x)[j]? = some y → b[k + 1 + j]? = some y) →
      ∀ {k : Nat} {x : Code}, (a ++ b)[k]? = some x → ∀ {j : Nat} {y : Code}, (loopsOf x)[j]? = some y → (a ++ b)[k + 1 + j]? = some y := by
    intro a b ha hb k x hk j y hj
    rcases Nat.lt_or_ge k a.length with hlt | hge
    · rw [List.getElem?_append_left hlt] at hk
      have h2 := ha hk hj
      rw [List.getElem?_append_left (List.getElem?_eq_some_iff.1 h2).1]
      exact h2
    · rw [List.getElem?_append_right hge] at hk
      have h2 := hb hk hj
      rw [List.getElem?_append_right (by omega), show k + 1 + j - a.length = k - a.length + 1 + j by omega]
      exact h2
  induction c with
  | seq a b iha ihb => exact fun hk _ _ hj => two (fun h _ _ => iha h) (fun h _ _ => ihb h) hk hj
  | cond o a b iha ihb => exact fun hk _ _ hj => two (fun h _ _ => iha h) (fun h _ _ => ihb h) hk hj
  | block i a ih => exact fun hk _ _ hj => ih hk hj
  | scope a ih => exact fun hk _ _ hj => ih hk hj
  | loop a ih =>
    intro k x hk j y hj
    cases k with
    | zero =>
      have e : a = x := by simpa [loopsOf] using hk
      subst e
      show (a :: loopsOf a)[0 + 1 + j]? = some y
      rw [show 0 + 1 + j = j + 1 by omega, List.getElem?_cons_succ]; exact hj
    | succ k =>
      have hk' : (loopsOf a)[k]? = some x := by simpa [loopsOf] using hk
      show (a :: loopsOf a)[k + 1 + 1 + j]? = some y
      rw [show k + 1 + 1 + j = (k + 1 + j) + 1 by omega, List.getElem?_cons_succ]
      exact ih hk' hj
  | _ => exact fun hk => by simp [loopsOf] at hk

/-- What calls, and loops, come to: what is to be shown ahead of them. -/
structure Know (P : Program) [Env] where
  call : FuncId → List V → St → VPost → Prop
  loop : FuncId → Option Nat → Nat → Code → Post → Act → St → Prop
  /-- A round of a loop over a function. -/
  yield : Nat → List V → St → VPost → Prop := fun l vs σ k => TaskS P (.round l vs) (valP k) σ
  /-- Such a loop. -/
  range : FuncId → Option Nat → Code → Post → Act → St → Prop := fun fn ro c Q a σ => CodeS P fn ro c Q a σ
def Know.nil (P : Program) [Env] : Know P := { call := fun g vs σ k => CallS P g vs k σ, loop := fun fn ro _ x Q a σ => LoopS P fn ro x Q a σ }
/-- It is so. -/
structure Know.OkC {P : Program} [Env] (K : Know P) : Prop where
  call : ∀ {f : FuncId} {vs : List V} {σ : St} {k : VPost}, K.call f vs σ k → CallS P f vs k σ
  yield : ∀ {l : Nat} {vs : List V} {σ : St} {k : VPost}, K.yield l vs σ k → TaskS P (.round l vs) (valP k) σ
structure Know.Ok {P : Program} [Env] (K : Know P) : Prop extends K.OkC where
  loop : ∀ {f : FuncId} {g : Func} {c x : Code} {j : Nat} {ro : Option Nat} {Q : Post} {a : Act} {σ : St}, P.funcs[f]? = some g → g.body = some c → (loopsOf c)[j]? = some x → K.loop f ro j x Q a σ → LoopS P f ro x Q a σ
  range : ∀ {f : FuncId} {ro : Option Nat} {c : Code} {Q : Post} {a : Act} {σ : St}, K.range f ro c Q a σ → CodeS P f ro c Q a σ
omit [Mix P] in
theorem Know.nil_ok : Know.Ok (Know.nil P) := ⟨⟨fun h => h, fun h => h⟩, fun _ _ _ h => h, fun h => h⟩
def callsK (P : Program) [Env] (K : Know P) (g : FuncId) (vs : List V) (σ : St) (k : VPost) : Prop := K.call g vs σ k
omit [Mix P] in
theorem callsK_of {K : Know P} (hK : K.OkC) {g : FuncId} {vs : List V} {σ : St} {k : VPost} (h : callsK P K g vs σ k) : CallS P g vs k σ := hK.call h

/-- The slots that live on. -/
noncomputable def Slots.keep {α : Type} (t : Slots α) (ks : List Nat) : Slots α :=
  List.rec (motive := fun _ => Slots α) [] (fun k _ ih => match t.get k with
    | some v => ih.put k v
    | none => ih) ks
omit [Mix P] [Env] in
theorem Slots.get_keep {α : Type} (t : Slots α) (ks : List Nat) (n : Nat) {v : α} (h : (t.keep ks).get n = some v) : t.get n = some v := by
  induction ks with
  | nil => rw [show t.keep [] = [] from rfl, Slots.get_nil] at h; cases h
  | cons k ks ih =>
    have e : t.keep (k :: ks) = match t.get k with
      | some v => (t.keep ks).put k v
      | none => t.keep ks := rfl
    rw [e] at h
    cases hk : t.get k with
    | none => rw [hk] at h; exact ih h
    | some u =>
      rw [hk] at h
      dsimp only at h
      rw [Slots.get_put] at h
      by_cases hn : n = k
      · subst hn; rw [if_pos rfl] at h; rw [hk]; exact h
      · rw [if_neg hn] at h; exact ih h
noncomputable def Act.keep (a : Act) (ks : List Nat) : Act :=
  match a with
  | ⟨t, s, ds⟩ => ⟨t.keep ks, s, ds⟩
omit [Mix P] in
theorem ActRel.keep {ρ : Ren} {a : Act} {a' : Go.Act} (h : ActRel ρ a a') (ks : List Nat) : ActRel ρ (a.keep ks) a' :=
  ⟨fun i v hv => h.tmps i v (Slots.get_keep _ ks _ hv), h.size, h.defers⟩
omit [Mix P] in
/-- A loop, from what lives on into it. -/
theorem LoopS.enter {x : Code} {Q : Post} {a : Act} {σ : St} (ks : List Nat) (h : LoopS P fn ro x Q (a.keep ks) σ) : LoopS P fn ro x Q a σ := by
  have h1 : SemE P (.code ro fn (.loop x) (a.keep ks)) σ (exP Q) := h.h.h
  refine ⟨⟨(⟨h1.1, ?_⟩ : SemE P (.code ro fn (.loop x) a) σ (exP Q))⟩⟩
  exact fun ρ w a' F hr ha hroF => SemE.at h1 ρ w a' F hr (ha.keep ks) hroF
omit [Mix P] in
/-- A loop, to what lives on behind it. -/
theorem LoopS.leave {x : Code} {Q : Post} {a : Act} {σ : St} (ks : List Nat) (h : LoopS P fn ro x (fun e a σ => Q e (a.keep ks) σ) a σ) : LoopS P fn ro x Q a σ := by
  have h1 : SemE P (.code ro fn (.loop x) a) σ (exP fun e a σ => Q e (a.keep ks) σ) := h.h.h
  have hq : ∀ (ρ : Ren) (w : World) e a' w', CodePost (exP fun e a σ => Q e (a.keep ks) σ) ρ σ w e a' w' → CodePost (exP Q) ρ σ w e a' w' := by
    rintro ρ w e a' w' ⟨x, a₁, σ', ρ', hp, rfl, ha, hst⟩
    exact ⟨x, a₁.keep ks, σ', ρ', hp, rfl, ha.keep ks, hst⟩
  refine ⟨⟨(⟨?_, ?_⟩ : SemE P (.code ro fn (.loop x) a) σ (exP Q))⟩⟩
  · obtain ⟨⟨o, τ⟩, hx⟩ := h1.1
    cases o with
    | val v => exact hx.elim
    | exit e a => exact ⟨(.exit e (a.keep ks), τ), hx⟩
  · intro ρ w a' F hr ha hroF
    obtain ⟨g1, g2⟩ := SemE.at h1 ρ w a' F hr ha hroF
    exact ⟨wpIn_mono g1 fun _ _ _ hx => hq _ _ _ _ _ hx, fun x hx => (g2 x hx).mono fun _ _ _ hx => hq _ _ _ _ _ hx⟩

/-! ### Calls -/
def applyS (P : Program) (K : Know P) (vs : List V) (σ : St) (k : VPost) : V → Prop
  | .func (.func g) first captured => callsK P K g (app first (app vs captured)) σ k
  | .func (.yield l) first _ => K.yield l (app first vs) σ k
  | f => TaskS P (.apply f vs) (valP k) σ
def callValueS (P : Program) (K : Know P) (σ : St) (k : VPost) : Option V → Option (List V) → Prop
  | some fv, some vs => applyS P K vs σ k fv
  | _, _ => False
def callMethodS (P : Program) (K : Know P) (σ : St) (vs : List V) (k : VPost) : Option (FuncId × V) → Prop
  | some (f, recv) => callsK P K f (recv :: vs) σ k
  | none => False
def callInvokeS (P : Program) (K : Know P) (σ : St) (name : String) (k : VPost) : Option V → Option (List V) → Prop
  | some (.iface t v), some vs => callMethodS P K σ vs k (methodV P t v name)
  | _, _ => False
def operS (P : Program) (K : Know P) (ro : Option Nat) (o : Op) (a : Act) (σ : St) (id : Nat) (k : OPost) : Prop :=
  match o with
  | .call c => match c.callee with
    | .value f => match extOf P f with
      | some e => OkP (opExt σ e (a.evals c.args.toList)) fun v σ => k v a σ
      | none => callValueS P K σ (fun v σ => k v a σ) (a.eval f) (a.evals c.args.toList)
    | .invoke x name => callInvokeS P K σ name (fun v σ => k v a σ) (a.eval x) (a.evals c.args.toList)
    | .builtin b => builtinP P σ id b c.argTypes.toList (a.evals c.args.toList) fun v σ => k v a σ
  | .defer c => ((deferC c).f (fun _ _ => .fail) ro a σ id).Holds (tripP k)
  | o => opP P o a σ id fun v σ => k v a σ

omit [Mix P] in
theorem callS_holds {a : Act} {σ : St} {f : FuncId} {vs : List V} {k : OPost} (h : CallS P f vs (fun v σ => k v a σ) σ) : ((semR P (.call f vs) σ).bind (valOf a)).Holds (tripP k) :=
  Res.Holds.bind_intro (SemE.mono (fun ⟨o, σ⟩ hx => by cases o with
    | val v => exact hx
    | exit e a => exact hx.elim) h.h)
theorem applyS_holds {K : Know P} (hK : K.OkC) {a : Act} {σ : St} {fv : V} {vs : List V} {k : OPost} (h : applyS P K vs σ (fun v σ => k v a σ) fv) : ((semR P (.apply fv vs) σ).bind (valOf a)).Holds (tripP k) := by
  have other : TaskS P (.apply fv vs) (valP fun v σ => k v a σ) σ → ((semR P (.apply fv vs) σ).bind (valOf a)).Holds (tripP k) := fun h =>
    Res.Holds.bind_intro (SemE.mono (fun ⟨o, σ⟩ hx => by cases o with
      | val v => exact hx
      | exit e a => exact hx.elim) h.h)
  unfold applyS at h
  split at h
  · rename_i g first captured
    exact other ⟨.of_step (callsK_of hK h).h⟩
  · exact other ⟨.of_step (hK.yield h).h⟩
  · exact other h
theorem operS_holds {K : Know P} (hK : K.OkC) {o : Op} {a : Act} {σ : St} {id : Nat} {k : OPost} (h : operS P K ro o a σ id k) : ((operC P o).f (semR P) ro a σ id).Holds (tripP k) := by
  have plain : ∀ {o : Op}, opP P o a σ id (fun v σ => k v a σ) → ((plainC (opC P o)).f (semR P) ro a σ id).Holds (tripP k) := fun h => Res.Holds.withAct (opP_holds h)
  cases o with
  | call c =>
    obtain ⟨callee, args, tys⟩ := c
    cases callee with
    | value f =>
      have h' : match extOf P f with
          | some e => OkP (opExt σ e (a.evals args.toList)) fun v σ => k v a σ
          | none => callValueS P K σ (fun v σ => k v a σ) (a.eval f) (a.evals args.toList) := h
      show ((match extOf P f with
        | some e => ⟨fun _ _ a σ _ => (opExt σ e (a.evals args.toList)).bind (withAct a)⟩
        | none => ⟨fun R _ a σ _ => callValue R a σ (a.eval f) (a.evals args.toList)⟩ : OperC).f (semR P) ro a σ id).Holds (tripP k)
      cases hx : extOf P f with
      | some e => rw [hx] at h'; exact Res.Holds.withAct (OkP.holds h')
      | none =>
        rw [hx] at h'
        show (callValue (semR P) a σ (a.eval f) (a.evals args.toList)).Holds (tripP k)
        replace h' : callValueS P K σ (fun v σ => k v a σ) (a.eval f) (a.evals args.toList) := h'
        revert h'
        cases a.eval f with
        | none => exact fun h => h.elim
        | some fv => cases a.evals args.toList with
          | none => exact fun h => h.elim
          | some vs => exact fun h => applyS_holds hK h
    | invoke x name =>
      show (callInvoke P (semR P) a σ name (a.eval x) (a.evals args.toList)).Holds (tripP k)
      have h' : callInvokeS P K σ name (fun v σ => k v a σ) (a.eval x) (a.evals args.toList) := h
      unfold callInvokeS at h'
      split at h'
      · rename_i t v vs hx hv
        rw [hx, hv]
        show (callMethodV (semR P) a σ vs (methodV P t v name)).Holds (tripP k)
        cases hm : methodV P t v name with
        | none => rw [hm] at h'; exact h'.elim
        | some p => obtain ⟨f, recv⟩ := p; rw [hm] at h'; exact callS_holds (callsK_of hK h')
      · exact h'.elim
    | builtin b => exact Res.Holds.withAct (OkP.holds (builtinP_holds h))
  | defer c =>
    have h' : ((deferC c).f (fun _ _ => .fail) ro a σ id).Holds (tripP k) := h
    show ((deferC c).f (semR P) ro a σ id).Holds (tripP k)
    have e : ∀ R R', (deferC c).f R ro a σ id = (deferC c).f R' ro a σ id := by
      intro R R'
      unfold deferC
      split <;> rfl
    rw [e _ fun _ _ => .fail]; exact h'
  | _ => exact plain h

/-- What hangs on another operation: what is to be shown where it is done, and where not. -/
def gateP (want : Bool) (y z : Prop) : Option V → Prop
  | some (.bool b) => CondP (b == want) y z
  | some (.any _) => False
  | some _ => z
  | none => False
noncomputable def stepS (P : Program) (K : Know P) (ro : Option Nat) (ops : List Oper) (o : Oper) (a : Act) (σ : St) (id : Nat) (k : Act → St → Prop) : Prop :=
  match o.guard with
  | none => operS P K ro o.op a σ id fun v a σ => putP o.dst (fun a => k a σ) a v
  | some (j, want) => match guardSlot ops j with
    | some d => gateP want (operS P K ro o.op a σ id fun v a σ => putP o.dst (fun a => k a σ) a v) (putP o.dst (fun a => k a σ) a undefV) (a.tmps.get d)
    | none => putP o.dst (fun a => k a σ) a undefV
theorem stepS_holds {K : Know P} (hK : K.OkC) {ops : List Oper} {o : Oper} {a : Act} {σ : St} {id : Nat} {k : Act → St → Prop} (h : stepS P K ro ops o a σ id k) : ((stepC P ops o).f (semR P) ro a σ id).Holds (actP k) := by
  have go : operS P K ro o.op a σ id (fun v a σ => putP o.dst (fun a => k a σ) a v) → (((operC P o.op).f (semR P) ro a σ id).bind (dstK o.dst)).Holds (actP k) := fun h =>
    Res.Holds.bind_intro ((operS_holds hK h).mono fun ⟨v, a, σ⟩ hx => putP_holds hx)
  unfold stepS at h
  unfold stepC
  cases hg : o.guard with
  | none => rw [hg] at h; exact go h
  | some jw =>
    obtain ⟨j, want⟩ := jw
    rw [hg] at h
    dsimp only at h ⊢
    cases hs : guardSlot ops j with
    | none => rw [hs] at h; exact putP_holds h
    | some d =>
      rw [hs] at h
      dsimp only at h
      show (guardK (operC P o.op) o.dst (semR P) ro a σ id (gateV want (a.tmps.get d))).Holds (actP k)
      revert h
      cases a.tmps.get d with
      | none => exact fun h => h.elim
      | some v => cases v with
        | bool b =>
          intro h
          have h' : CondP (b == want) _ _ := h
          show (guardK (operC P o.op) o.dst (semR P) ro a σ id (some (b == want))).Holds (actP k)
          cases hb : b == want with
          | true => exact go (CondP.y h' hb)
          | false => exact putP_holds (CondP.z h' hb)
        | any i => exact fun h => h.elim
        | _ => exact fun h => putP_holds h

/-! ### Regions -/
noncomputable def opsS (P : Program) (K : Know P) (ro : Option Nat) (ops : List Oper) (k : Act → St → Prop) : List Oper → Act → St → Prop
  | [] => k
  | o :: l => fun a σ => stepS P K ro ops o a σ σ.next (opsS P K ro ops k l)
theorem opsS_holds {K : Know P} (hK : K.OkC) {ops : List Oper} {Q : Post} : ∀ {l : List Oper} {a : Act} {σ : St}, opsS P K ro ops (Q .normal) l a σ → ((opsC P ops l).f (semR P) ro a σ).Holds (exP Q)
  | [], _, _, h => h
  | _ :: _, _, _, h => Res.Holds.bind_intro ((stepS_holds hK h).mono fun _ hx => opsS_holds hK hx)
noncomputable def drawnS (P : Program) (K : Know P) (ro : Option Nat) (ops : List Oper) (base : Nat) (k : Act → St → Prop) : List Item → List St → Act → St → Prop
  | [], _ => k
  | it :: l, snaps => fun a σ => match nth ops it.i with
    | some o => stepS P K ro ops o a σ (Nat.add base it.i) fun a' σ' => backP it.back (loadsSame P (offG ops o a) it.back snaps a (slotOf a' o.dst) o.op) (drawnS P K ro ops base k l (snapsOf (effectOp o.op) σ' snaps) a' σ')
    | none => False
theorem drawnS_holds {K : Know P} (hK : K.OkC) {ops : List Oper} {Q : Post} {base : Nat} : ∀ {l : List Item} {snaps : List St} {a : Act} {σ : St}, drawnS P K ro ops base (Q .normal) l snaps a σ → ((drawnC P ops l).f (semR P) ro base snaps a σ).Holds (exP Q)
  | [], _, _, _, h => h
  | it :: l, snaps, a, σ, h => by
    show ((drawnItem P ops it (drawnC P ops l) (nth ops it.i)).f (semR P) ro base snaps a σ).Holds (exP Q)
    unfold drawnS at h
    cases hn : nth ops it.i with
    | none => rw [hn] at h; exact h.elim
    | some o =>
      rw [hn] at h
      dsimp only at h
      refine Res.Holds.bind_intro ((stepS_holds hK h).mono fun ⟨a', σ'⟩ hx => ?_)
      have hx' : backP it.back (loadsSame P (offG ops o a) it.back snaps a (slotOf a' o.dst) o.op) (drawnS P K ro ops base (Q .normal) l (snapsOf (effectOp o.op) σ' snaps) a' σ') := hx
      have hb : (Nat.beq it.back 0 || loadsSame P (offG ops o a) it.back snaps a (slotOf a' o.dst) o.op) = true ∧ drawnS P K ro ops base (Q .normal) l (snapsOf (effectOp o.op) σ' snaps) a' σ' := by
        unfold backP at hx'
        split at hx'
        · rename_i hz; rw [hz]; exact ⟨rfl, hx'⟩
        · cases hc : loadsSame P (offG ops o a) it.back snaps a (slotOf a' o.dst) o.op with
          | true => exact ⟨by rw [Bool.or_true], CondP.y hx' hc⟩
          | false => exact (CondP.z hx' hc).elim
      show (match Nat.beq it.back 0 || loadsSame P (offG ops o a) it.back snaps a (slotOf a' o.dst) o.op with
        | true => (drawnC P ops l).f (semR P) ro base (snapsOf (effectOp o.op) σ' snaps) a' σ'
        | false => .fail "a load and a write, in either order" : Run).Holds (exP Q)
      rw [hb.1]; exact drawnS_holds hK hb.2
noncomputable def drawS (P : Program) (K : Know P) (ro : Option Nat) (ops : List Oper) (k : Act → St → Prop) (a : Act) (σ : St) : Option (List Item) → Prop
  | some l => drawnS P K ro ops σ.next k l [ahead (len ops) σ] a (ahead (len ops) σ)
  | none => False
noncomputable def regionS (P : Program) (K : Know P) (ro : Option Nat) (ops : List Oper) (k : Act → St → Prop) (a : Act) (σ : St) : Bool → Prop
  | false => opsS P K ro ops k ops a σ
  | true => drawS P K ro ops k a σ (planOf P ops)

/-! ### Code: all but loops that are not known, scopes and rounds is taken apart -/
/-- A scope whose labels nobody goes to. -/
def scopeF (Q : Post) : Post
  | .goto _ => fun _ _ => False
  | e => Q e
/-- i: how many loops of the body are ahead. -/
noncomputable def ws (P : Program) [Env] (K : Know P) (fn : FuncId) (ro : Option Nat) : Nat → Code → Post → Act → St → Prop
  | _, .skip, Q => Q .normal
  | _, .label _, Q => Q .normal
  | i, .seq x y, Q => ws P K fn ro i x (seqQ (ws P K fn ro (Nat.add i (nloops x)) y Q) Q)
  | i, .cond x y z, Q => fun a σ => condP (ws P K fn ro i y Q a σ) (ws P K fn ro (Nat.add i (nloops y)) z Q a σ) (a.eval x)
  | i, .block id x, Q => ws P K fn ro i x (blockQ id Q)
  | i, .loop x, Q => K.loop fn ro i x Q
  | _, .exit id, Q => Q (.exit id)
  | _, .goto l, Q => Q (.goto l)
  | _, .ret, Q => Q .ret
  | _, .region _ ops draw, Q => fun a σ => regionS P K ro ops.toList (Q .normal) a σ draw
  | i, .scope x, Q => ws P K fn ro i x (scopeF Q)
  | _, .rangeFunc f ps as bo, Q => K.range fn ro (.rangeFunc f ps as bo) Q
  | _, c, Q => CodeS P fn ro c Q
/-- The loops of a part of a body. -/
def Part (c₀ : Code) (i : Nat) (c : Code) : Prop := ∀ {j : Nat} {x : Code}, (loopsOf c)[j]? = some x → (loopsOf c₀)[i + j]? = some x
omit [Mix P] [Env] in
theorem Part.left {c₀ x y c : Code} {i : Nat} (hc : loopsOf c = loopsOf x ++ loopsOf y) (h : Part c₀ i c) : Part c₀ i x := fun hj =>
  h (by rw [hc, List.getElem?_append_left (List.getElem?_eq_some_iff.1 hj).1]; exact hj)
omit [Env] in
theorem Part.right {c₀ x y c : Code} {i : Nat} (hc : loopsOf c = loopsOf x ++ loopsOf y) (h : Part c₀ i c) : Part c₀ (Nat.add i (nloops x)) y := fun {j z} hj => by
  have := h (j := nloops x + j) (x := z) (by rw [hc, List.getElem?_append_right (by rw [nloops_eq]; omega), nloops_eq, show nloops x + j - nloops x = j by omega]; exact hj)
  rw [show i + (nloops x + j) = Nat.add i (nloops x) + j from (Nat.add_assoc _ _ _).symm] at this
  exact this
omit [Mix P] [Env] in
theorem Part.whole (c : Code) : Part c 0 c := fun {j x} hj => by rw [Nat.zero_add]; exact hj
omit [Env] in
theorem Part.in {c x : Code} {k : Nat} (h : (loopsOf c)[k]? = some x) : Part c (k + 1) x := fun hj => loopsOf_in c h hj
theorem CodeS.of_ws {K : Know P} (hK : K.Ok) {g : Func} {c₀ : Code} (hf : P.funcs[fn]? = some g) (hb : g.body = some c₀) : ∀ {c : Code} {i : Nat} (_ : Part c₀ i c) {Q : Post} {a : Act} {σ : St}, ws P K fn ro i c Q a σ → CodeS P fn ro c Q a σ
  | .skip, _, _, _, _, _, h => ⟨h⟩
  | .label _, _, _, _, _, _, h => ⟨h⟩
  | .seq x y, i, hp, Q, a, σ, h => by
    have h' : ws P K fn ro i x (seqQ (ws P K fn ro (Nat.add i (nloops x)) y Q) Q) a σ := h
    refine .seq ((CodeS.of_ws hK hf hb (hp.left rfl) h').mono fun e a σ hx => ?_)
    cases e with
    | normal => exact CodeS.of_ws hK hf hb (hp.right rfl) hx
    | _ => exact hx
  | .cond x y z, i, hp, Q, a, σ, h => by
    refine .cond ?_
    have h' : condP (ws P K fn ro i y Q a σ) (ws P K fn ro (Nat.add i (nloops y)) z Q a σ) (a.eval x) := h
    revert h'
    cases a.eval x with
    | none => exact id
    | some v => cases v with
      | bool b => exact fun h => .mk (fun e => CodeS.of_ws hK hf hb (hp.left rfl) (CondP.y h e)) fun e => CodeS.of_ws hK hf hb (hp.right rfl) (CondP.z h e)
      | _ => exact id
  | .block id x, i, hp, Q, a, σ, h => .block (CodeS.of_ws hK hf hb (c := x) (i := i) (fun hj => hp hj) h)
  | .loop x, i, hp, Q, a, σ, h => LoopS.h (hK.loop hf hb (hp (j := 0) rfl) h)
  | .exit id, _, _, _, _, _, h => ⟨h⟩
  | .goto l, _, _, _, _, _, h => ⟨h⟩
  | .ret, _, _, _, _, _, h => ⟨h⟩
  | .region _ ops draw, _, _, Q, a, σ, h => by
    have h' : regionS P K ro ops.toList (Q .normal) a σ draw := h
    cases draw with
    | false => exact ⟨opsS_holds hK.toOkC h'⟩
    | true =>
      have h' : drawS P K ro ops.toList (Q .normal) a σ (planOf P ops.toList) := h'
      constructor
      show ((match planOf P ops.toList with
        | some l => (⟨fun R ro a σ => (drawnC P ops.toList l).f R ro σ.next [ahead (len ops.toList) σ] a (ahead (len ops.toList) σ)⟩ : CodeC)
        | none => ⟨fun _ _ _ _ => .fail "plan"⟩).f (semR P) ro a σ).Holds (exP Q)
      cases hp : planOf P ops.toList with
      | none => rw [hp] at h'; exact h'.elim
      | some l => rw [hp] at h'; exact drawnS_holds hK.toOkC h'
  | .rangeFunc _ _ _ _, _, _, _, _, _, h => hK.range h
  | .scope x, i, hp, Q, a, σ, h => .scope (.of ((CodeS.of_ws hK hf hb (c := x) (i := i) (fun hj => hp hj) h).mono fun e a σ hx => by
    cases e with
    | goto l => exact hx.elim
    | _ => exact hx))
  | .refuse _, _, _, _, _, _, h => h

/-! ### A function's body -/
def retS (P : Program) (fn : Func) (Q : VPost) : Post
  | .normal => fun a σ => match a.defers with
    | [] => resP Q σ (resultsV P a σ fn.results.toList)
    | _ => TaskS P (.leave fn a) (valP Q) σ
  | .ret => fun a σ => match a.defers with
    | [] => resP Q σ (resultsV P a σ fn.results.toList)
    | _ => TaskS P (.leave fn a) (valP Q) σ
  | _ => fun _ _ => False
theorem leaveS_holds {fn : Func} {a : Act} {σ : St} {Q : VPost} (h : match a.defers with
    | [] => resP Q σ (resultsV P a σ fn.results.toList)
    | _ => TaskS P (.leave fn a) (valP Q) σ) : SemE P (.leave fn a) σ (valP Q) := by
  cases hd : a.defers with
  | nil =>
    rw [hd] at h
    refine .of_step ?_
    show (stepLeave P (semR P) fn a σ a.defers).Holds _
    rw [hd]
    show (resultK σ (resultsV P a σ fn.results.toList)).Holds _
    have h' : resP Q σ (resultsV P a σ fn.results.toList) := h
    revert h'
    cases resultsV P a σ fn.results.toList with
    | none => exact id
    | some l => exact id
  | cons d l => rw [hd] at h; exact TaskS.h h

/-- A call: the body. -/
theorem CallS.codeE {f : FuncId} {fn : Func} {c : Code} {vs : List V} {Q : VPost} {σ : St} (hf : P.funcs[f]? = some fn) (hb : fn.body = some c) (hn : (fn.name == "runtime.NumGoroutine") = false)
    (h : SemE P (.code none f c (actOf fn.ntmps vs)) σ (exP (retS P fn Q))) : CallS P f vs Q σ := by
  refine ⟨.of_step ?_⟩
  show (stepCallF (semR P) f vs σ P.funcs[f]?).Holds _
  rw [hf]
  show (callBody (semR P) f fn vs σ (leaveK (semR P) fn) fn.body).Holds _
  rw [hb]
  show (match fn.name == "runtime.NumGoroutine" with
    | true => .fail "NumGoroutine"
    | false => (semR P (.code none f c (actOf fn.ntmps vs)) σ).bind (leaveK (semR P) fn) : Run).Holds _
  rw [hn]
  refine Res.Holds.bind_intro (SemE.mono (fun ⟨o, σ⟩ hx => ?_) h)
  cases o with
  | val v => exact hx.elim
  | exit e a => cases e with
    | normal => exact leaveS_holds hx
    | ret => exact leaveS_holds hx
    | _ => exact hx.elim
theorem CallS.code {f : FuncId} {fn : Func} {c : Code} {vs : List V} {Q : VPost} {σ : St} (hf : P.funcs[f]? = some fn) (hb : fn.body = some c) (hn : (fn.name == "runtime.NumGoroutine") = false)
    (h : CodeS P f none c (retS P fn Q) (actOf fn.ntmps vs) σ) : CallS P f vs Q σ := .codeE hf hb hn h.sem
theorem CallS.body {f : FuncId} {fn : Func} {c : Code} {vs : List V} {Q : VPost} {σ : St} (hf : P.funcs[f]? = some fn) (hb : fn.body = some c) (hn : (fn.name == "runtime.NumGoroutine") = false)
    {K : Know P} (hK : K.Ok) (h : ws P K f none 0 c (retS P fn Q) (actOf fn.ntmps vs) σ) : CallS P f vs Q σ := .code hf hb hn (.of_ws hK hf hb (Part.whole c) h)
end
end Go.Ev
