/- What code comes to, as a condition on what stands behind it: rules for each kind of code over the evaluator. -/
import Derived.Test.YtkaknfocnecckaaGreatEvMono
namespace Go.Ev
open Go

abbrev VPost := V → St → Prop
abbrev Post := Ex → Act → St → Prop

def valP (Q : VPost) : Out × St → Prop
  | (.val v, σ) => Q v σ
  | _ => False
def exP (Q : Post) : Out × St → Prop
  | (.exit e a, σ) => Q e a σ
  | _ => False

/-- A task comes to p. -/
structure TaskW (P : Program) (t : Task) (p : Out × St → Prop) (σ : St) : Prop where
  h : ∃ n, (run P n t σ).Holds p
/-- A call comes to Q. -/
structure CallW (P : Program) (f : FuncId) (vs : List V) (Q : VPost) (σ : St) : Prop where
  h : ∃ n, (run P n (.call f vs) σ).Holds (valP Q)
/-- Code comes to Q. -/
structure CodeW (P : Program) (fn : FuncId) (ro : Option Nat) (c : Code) (Q : Post) (a : Act) (σ : St) : Prop where
  h : ∃ n, ((codeC P fn c).f (run P n) ro a σ).Holds (exP Q)
structure LoopW (P : Program) (fn : FuncId) (ro : Option Nat) (x : Code) (Q : Post) (a : Act) (σ : St) : Prop where
  h : CodeW P fn ro (.loop x) Q a σ
/-- Code 'cur' within a scope x. -/
structure ScopeW (P : Program) (fn : FuncId) (ro : Option Nat) (x cur : Code) (Q : Post) (a : Act) (σ : St) : Prop where
  h : ∃ n, (run P n (.inScope ro fn x cur a) σ).Holds (exP Q)
structure OkP (r : VS) (k : VPost) : Prop where
  h : ∃ v σ', r = .ok (v, σ') ∧ k v σ'
structure CondP (b : Bool) (Y Z : Prop) : Prop where
  y : b = true → Y
  z : b = false → Z

theorem OkP.mk' {r : VS} {k : VPost} {v : V} {σ : St} (h : r = .ok (v, σ)) (hk : k v σ) : OkP r k := ⟨v, σ, h, hk⟩

theorem Res.Holds.bound {α : Type} {r : Res α} {p : α → Nat → Prop} (hm : ∀ x n m, n ≤ m → p x n → p x m) (h : r.Holds fun x => ∃ n, p x n) : ∃ n, r.Holds fun x => p x n := by
  induction r with
  | ok a => exact h
  | fail w => exact h.elim
  | pick n k ih =>
    have hb : ∀ m, m ≤ n → ∃ N, ∀ i, i < m → (k i).Holds fun x => p x N := by
      intro m
      induction m with
      | zero => exact fun _ => ⟨0, fun i hi => by omega⟩
      | succ m ihm =>
        intro hmn
        obtain ⟨N, hN⟩ := ihm (by omega)
        obtain ⟨M, hM⟩ := ih m (h.2 m (by omega))
        refine ⟨max N M, fun i hi => ?_⟩
        by_cases e : i = m
        · subst e; exact hM.mono fun x hx => hm x _ _ (Nat.le_max_right _ _) hx
        · exact (hN i (by omega)).mono fun x hx => hm x _ _ (Nat.le_max_left _ _) hx
    obtain ⟨N, hN⟩ := hb n (Nat.le_refl _)
    exact ⟨N, h.1, hN⟩

section
variable {P : Program} {fn : FuncId} {ro : Option Nat}

theorem CallW.mono {f : FuncId} {vs : List V} {Q Q' : VPost} {σ : St} (h : CallW P f vs Q σ) (hq : ∀ v σ, Q v σ → Q' v σ) : CallW P f vs Q' σ := by
  obtain ⟨n, h⟩ := h.h
  refine ⟨n, h.mono fun ⟨o, σ⟩ hx => ?_⟩
  cases o with
  | val v => exact hq _ _ hx
  | exit e a => exact hx
theorem CodeW.mono {c : Code} {Q Q' : Post} {a : Act} {σ : St} (h : CodeW P fn ro c Q a σ) (hq : ∀ e a σ, Q e a σ → Q' e a σ) : CodeW P fn ro c Q' a σ := by
  obtain ⟨n, h⟩ := h.h
  refine ⟨n, h.mono fun ⟨o, σ⟩ hx => ?_⟩
  cases o with
  | val v => exact hx
  | exit e a => exact hq _ _ _ hx

theorem codeW_le {c : Code} {p : Out × St → Prop} {a : Act} {σ : St} {n m : Nat} (h : n ≤ m) (hp : ((codeC P fn c).f (run P n) ro a σ).Holds p) : ((codeC P fn c).f (run P m) ro a σ).Holds p :=
  codeC_le (run_le P h) fn ro c a σ p hp

/-- Behind a part, the rest. -/
theorem then_bound {α : Type} {g : Nat → Res α} (hg : ∀ n m, n ≤ m → (g n).le (g m)) {K : α → Nat → Run} (hK : ∀ x n m, n ≤ m → (K x n).le (K x m)) {p : Out × St → Prop}
    (h : ∃ n, (g n).Holds fun x => ∃ m, (K x m).Holds p) : ∃ n, ((g n).bind fun x => K x n).Holds p := by
  obtain ⟨n, h⟩ := h
  obtain ⟨m, h⟩ := Res.Holds.bound (fun x n m hnm hp => hK x n m hnm p hp) h
  refine ⟨max n m, Res.Holds.bind_intro ?_⟩
  exact (hg n _ (Nat.le_max_left n m) _ h).mono fun x hx => hK x m _ (Nat.le_max_right n m) p hx

def seqQ (Y : Act → St → Prop) (Q : Post) : Post
  | .normal => Y
  | e => Q e
theorem CodeW.seq {x y : Code} {Q : Post} {a : Act} {σ : St} (h : CodeW P fn ro x (seqQ (CodeW P fn ro y Q) Q) a σ) : CodeW P fn ro (.seq x y) Q a σ := by
  obtain ⟨n, h⟩ := h.h
  refine ⟨then_bound (g := fun n => (codeC P fn x).f (run P n) ro a σ) (K := fun x n => seqK ((codeC P fn y).f (run P n) ro) x) (fun n m h => codeC_le (run_le P h) fn ro x a σ) (fun z n m h => ?_) ⟨n, h.mono fun z hz => ?_⟩⟩
  · obtain ⟨o, σ⟩ := z
    cases o with
    | val v => exact .refl _
    | exit e a => cases e with
      | normal => exact codeC_le (run_le P h) fn ro y a σ
      | _ => exact .refl _
  · obtain ⟨o, σ⟩ := z
    cases o with
    | val v => exact hz.elim
    | exit e a => cases e with
      | normal => exact CodeW.h hz
      | _ => exact ⟨0, hz⟩

def condP (y z : Prop) : Option V → Prop
  | some (.bool b) => CondP b y z
  | _ => False
theorem CodeW.cond {x : Operand} {y z : Code} {Q : Post} {a : Act} {σ : St} (h : condP (CodeW P fn ro y Q a σ) (CodeW P fn ro z Q a σ) (a.eval x)) : CodeW P fn ro (.cond x y z) Q a σ := by
  constructor
  show ∃ n, (condK ((codeC P fn y).f (run P n) ro) ((codeC P fn z).f (run P n) ro) a σ (a.eval x)).Holds (exP Q)
  cases hx : a.eval x with
  | none => rw [hx] at h; exact h.elim
  | some v =>
    rw [hx] at h
    cases v with
    | bool b => cases b with
      | true => exact (h.y rfl).h
      | false => exact (h.z rfl).h
    | _ => exact h.elim

def blockQ (id : Nat) (Q : Post) : Post
  | .exit i => if i = id then Q .normal else Q (.exit i)
  | e => Q e
theorem CodeW.block {id : Nat} {x : Code} {Q : Post} {a : Act} {σ : St} (h : CodeW P fn ro x (blockQ id Q) a σ) : CodeW P fn ro (.block id x) Q a σ := by
  obtain ⟨n, h⟩ := h.h
  refine ⟨n, Res.Holds.bind_intro (h.mono fun ⟨o, σ⟩ hx => ?_)⟩
  cases o with
  | val v => exact hx.elim
  | exit e a => cases e with
    | exit i =>
      show exP Q (.exit (if i = id then .normal else .exit i) a, σ)
      have hx' : (if i = id then Q .normal else Q (.exit i)) a σ := hx
      by_cases e : i = id
      · rw [if_pos e] at hx' ⊢; exact hx'
      · rw [if_neg e] at hx' ⊢; exact hx'
    | _ => exact hx

theorem CodeW.loop {x : Code} {Q : Post} {a : Act} {σ : St} (h : CodeW P fn ro x (seqQ (LoopW P fn ro x Q) Q) a σ) : LoopW P fn ro x Q a σ := by
  obtain ⟨n, h⟩ := h.h
  refine ⟨⟨then_bound (g := fun n => (codeC P fn x).f (run P n) ro a σ) (K := fun z n => seqK (fun a σ => run P n (.code ro fn (.loop x) a) σ) z) (fun n m h => codeC_le (run_le P h) fn ro x a σ) (fun z n m h => ?_) ⟨n, h.mono fun z hz => ?_⟩⟩⟩
  · obtain ⟨o, σ⟩ := z
    cases o with
    | val v => exact .refl _
    | exit e a => cases e with
      | normal => exact run_le P h _ _
      | _ => exact .refl _
  · obtain ⟨o, σ⟩ := z
    cases o with
    | val v => exact hz.elim
    | exit e a => cases e with
      | normal =>
        obtain ⟨m, hm⟩ := (LoopW.h hz).h
        exact ⟨m + 1, hm⟩
      | _ => exact ⟨0, hz⟩

theorem CodeW.scope {x : Code} {Q : Post} {a : Act} {σ : St} (h : ScopeW P fn ro x x Q a σ) : CodeW P fn ro (.scope x) Q a σ := ⟨h.h⟩
def scopeQ (P : Program) (fn : FuncId) (ro : Option Nat) (x : Code) (Q : Post) : Post
  | .goto l => fun a σ => match findLabel x l with
    | some rest => ScopeW P fn ro x rest Q a σ
    | none => Q (.goto l) a σ
  | e => Q e
theorem ScopeW.of {x cur : Code} {Q : Post} {a : Act} {σ : St} (h : CodeW P fn ro cur (scopeQ P fn ro x Q) a σ) : ScopeW P fn ro x cur Q a σ := by
  obtain ⟨n, h⟩ := h.h
  have key : ∃ n, (((codeC P fn cur).f (run P n) ro a σ).bind fun z => scopeK (run P n) ro fn x z).Holds (exP Q) := by
    refine then_bound (g := fun n => (codeC P fn cur).f (run P n) ro a σ) (K := fun z n => scopeK (run P n) ro fn x z) (fun n m h => codeC_le (run_le P h) fn ro cur a σ) (fun ⟨o, σ⟩ n m h => ?_) ⟨n, h.mono fun ⟨o, σ⟩ hz => ?_⟩
    · cases o with
      | val v => exact .refl _
      | exit e a => cases e with
        | goto l =>
          show (match findLabel x l with
            | some rest => run P n (.inScope ro fn x rest a) σ
            | none => .ok (.exit (.goto l) a, σ) : Run).le (match findLabel x l with
            | some rest => run P m (.inScope ro fn x rest a) σ
            | none => .ok (.exit (.goto l) a, σ) : Run)
          split
          · exact run_le P h _ _
          · exact .refl _
        | _ => exact .refl _
    · cases o with
      | val v => exact hz.elim
      | exit e a => cases e with
        | goto l =>
          have hz' : (match findLabel x l with
            | some rest => ScopeW P fn ro x rest Q a σ
            | none => Q (.goto l) a σ) := hz
          show ∃ m, (match findLabel x l with
            | some rest => run P m (.inScope ro fn x rest a) σ
            | none => .ok (.exit (.goto l) a, σ) : Run).Holds (exP Q)
          revert hz'
          cases findLabel x l with
          | none => exact fun h => ⟨0, h⟩
          | some rest => exact fun h => h.h
        | _ => exact ⟨0, hz⟩
  obtain ⟨n, h⟩ := key
  exact ⟨n + 1, h⟩

/-- A loop, by what stands ahead of each round, and what grows less. -/
theorem LoopW.inv {x : Code} {Q : Post} (I : Nat → Act → St → Prop) (hI : ∀ m a σ, I m a σ → CodeW P fn ro x (seqQ (fun a σ => ∃ m', m' < m ∧ I m' a σ) Q) a σ) {m : Nat} {a : Act} {σ : St} (h : I m a σ) : LoopW P fn ro x Q a σ := by
  induction m using Nat.strongRecOn generalizing a σ with
  | ind m ih =>
    refine CodeW.loop ((hI m a σ h).mono fun e a σ hx => ?_)
    cases e with
    | normal =>
      obtain ⟨m', hm, hi⟩ := hx
      exact ih m' hm hi
    | _ => exact hx

/-! ### Operations -/
def at1P (x : Option V) (k : V → Prop) : Prop :=
  match x with
  | some v => k v
  | none => False
def at2P (x y : Option V) (k : V → V → Prop) : Prop :=
  match x with
  | some v => match y with
    | some u => k v u
    | none => False
  | none => False

theorem at1P_holds {w : String} {x : Option V} {f : V → VS} {p : V × St → Prop} (h : at1P x fun v => (f v).Holds p) : (at1 w x f).Holds p := by
  cases x with
  | none => exact h.elim
  | some v => exact h
theorem at2P_holds {w : String} {x y : Option V} {f : V → V → VS} {p : V × St → Prop} (h : at2P x y fun v u => (f v u).Holds p) : (at2 w x y f).Holds p := by
  cases x with
  | none => exact h.elim
  | some v => cases y with
    | none => exact h.elim
    | some u => exact h

theorem at1P.mono {x : Option V} {k k' : V → Prop} (h : at1P x k) (hk : ∀ v, k v → k' v) : at1P x k' := by
  cases x with
  | none => exact h
  | some v => exact hk v h
theorem at2P.mono {x y : Option V} {k k' : V → V → Prop} (h : at2P x y k) (hk : ∀ v u, k v u → k' v u) : at2P x y k' := by
  cases x with
  | none => exact h
  | some v => cases y with
    | none => exact h
    | some u => exact hk v u h

def pairP (k : VPost) : V × St → Prop
  | (v, σ) => k v σ
theorem OkP.holds {r : VS} {k : VPost} (h : OkP r k) : r.Holds (pairP k) := by
  obtain ⟨v, σ, rfl, hk⟩ := h.h
  exact hk

/-- Whole numbers: where nothing is to be asked of them, the answer. -/
def intP (op : BinOp) (kd : IntKind) (a : Int) (kd' : IntKind) (b : Int) (k : V → Prop) : Prop :=
  match op with
  | .shl => 0 ≤ b ∧ k (.int kd (kd.wrap (a * 2 ^ min b.toNat kd.bits)))
  | .shr => 0 ≤ b ∧ k (.int kd (a.fdiv (2 ^ min b.toNat kd.bits)))
  | .quo => (kd = kd' ∧ b ≠ 0) ∧ k (.int kd (kd.wrap (a.tdiv b)))
  | .rem => (kd = kd' ∧ b ≠ 0) ∧ k (.int kd (a.tmod b))
  | op => match evalInt op kd a kd' b with
    | some v => k v
    | none => False
theorem intP_eval {op : BinOp} {kd kd' : IntKind} {a b : Int} {k : V → Prop} (h : intP op kd a kd' b k) : ∃ v, evalInt op kd a kd' b = some v ∧ k v := by
  cases op <;> first
    | (have h' : 0 ≤ b ∧ _ := h
       refine ⟨_, ?_, h'.2⟩
       show (if b < 0 then none else some _) = _
       rw [if_neg (by omega)])
    | (have h' : (kd = kd' ∧ b ≠ 0) ∧ _ := h
       obtain ⟨⟨rfl, hb⟩, hk⟩ := h'
       refine ⟨_, ?_, hk⟩
       show (if kd ≠ kd then none else if b = 0 then none else some _) = _
       rw [if_neg (by simp), if_neg hb])
    | (revert h
       unfold intP
       dsimp only
       cases evalInt _ kd a kd' b with
       | none => exact fun h => h.elim
       | some v => exact fun h => ⟨v, rfl, h⟩)

def binP (P : Program) (σ : St) (op : BinOp) (t : TypeId) (lit : Bool) (x y : V) (k : VPost) : Prop :=
  match x, y with
  | .int kd a, .int kd' b => intP op kd a kd' b fun v => k v σ
  | x, y => OkP (opBin P σ op t lit x y) k
theorem binP_holds {σ : St} {op : BinOp} {t : TypeId} {lit : Bool} {x y : V} {k : VPost} (h : binP P σ op t lit x y k) : (opBin P σ op t lit x y).Holds (pairP k) := by
  unfold binP at h
  split at h
  · rename_i kd a kd' b
    obtain ⟨v, hv, hk⟩ := intP_eval h
    show (keep σ "binOp" (evalInt op kd a kd' b)).Holds _
    rw [hv]; exact hk
  · exact h.holds

/-- One operation that is no call. -/
def opP (P : Program) (o : Op) (a : Act) (σ : St) (id : Nat) (k : VPost) : Prop :=
  match o with
  | .load t x => at1P (a.eval x) fun v => OkP (opLoad P σ t v) k
  | .store t x y => at2P (a.eval y) (a.eval x) fun v p => OkP (opStore P σ t v p) k
  | .binOp op t x y _ => at2P (a.eval x) (a.eval y) fun v u => binP P σ op t (isConst x || isConst y) v u k
  | .convert s d x => at1P (a.eval x) fun v => OkP (opConv P σ id s d v) k
  | .makeSlice t l c => at2P (a.eval l) (a.eval c) fun v u => OkP (opMakeSlice P σ id t v u) k
  | .slice t x lo hi mx => at1P (a.eval x) fun v => OkP (opSlice P a σ t lo hi mx v) k
  | .indexAddr t x ix => at2P (a.eval x) (a.eval ix) fun v u => OkP (opIndexAddr P σ t v u) k
  | .index t x ix => at2P (a.eval x) (a.eval ix) fun v u => OkP (opIndex P σ t v u) k
  | .lookup t x kx ok => at2P (a.eval x) (a.eval kx) fun v u => OkP (opLookup P σ t ok v u) k
  | .box _ x => at1P (a.eval x) fun v => OkP (opBox σ id v) k
  | .field t x f => at1P (a.eval x) fun v => OkP (opField P σ t f v) k
  | .fieldAddr t x f => at1P (a.eval x) fun v => OkP (opFieldAddr P σ t f v) k
  | .build t ps => OkP (opBuild P σ t (a.parts ps.toList)) k
  | .buildSlice t n ps => OkP (opBuildSlice P σ id t n (a.parts ps.toList)) k
  | .alloc e => OkP (opAlloc P σ id e) k
  | .typeAssert x _ t ok => at1P (a.eval x) fun v => OkP (opAssert P σ t ok v) k
  | .makeInterface t x => at1P (a.eval x) fun v => OkP (opMakeInterface P σ t v) k
  | o => ((opC P o).f a σ id).Holds (pairP k)

theorem opP_holds {o : Op} {a : Act} {σ : St} {id : Nat} {k : VPost} (h : opP P o a σ id k) : ((opC P o).f a σ id).Holds (pairP k) := by
  cases o with
  | convert s d x => exact at1P_holds (at1P.mono h fun _ hv => hv.holds)
  | slice t x lo hi mx => exact at1P_holds (at1P.mono h fun _ hv => hv.holds)
  | box e x => exact at1P_holds (at1P.mono h fun _ hv => hv.holds)
  | field t x f => exact at1P_holds (at1P.mono h fun _ hv => hv.holds)
  | fieldAddr t x f => exact at1P_holds (at1P.mono h fun _ hv => hv.holds)
  | typeAssert x _ t ok => exact at1P_holds (at1P.mono h fun _ hv => hv.holds)
  | makeInterface t x => exact at1P_holds (at1P.mono h fun _ hv => hv.holds)
  | load t x => exact at1P_holds (at1P.mono h fun _ hv => hv.holds)
  | store t x y => exact at2P_holds (at2P.mono h fun _ _ hv => hv.holds)
  | makeSlice t l c => exact at2P_holds (at2P.mono h fun _ _ hv => hv.holds)
  | indexAddr t x ix => exact at2P_holds (at2P.mono h fun _ _ hv => hv.holds)
  | index t x ix => exact at2P_holds (at2P.mono h fun _ _ hv => hv.holds)
  | lookup t x kx ok => exact at2P_holds (at2P.mono h fun _ _ hv => hv.holds)
  | binOp op t x y _ => exact at2P_holds (at2P.mono h fun _ _ hv => binP_holds hv)
  | build t ps => exact OkP.holds h
  | buildSlice t n ps => exact OkP.holds h
  | alloc e => exact OkP.holds h
  | _ => exact h

/-! ### Calls -/
def applyP (P : Program) (vs : List V) (σ : St) (k : VPost) : V → Prop
  | .func (.func g) first captured => CallW P g (app first (app vs captured)) k σ
  | f => TaskW P (.apply f vs) (valP k) σ
def callValueP (P : Program) (σ : St) (k : VPost) : Option V → Option (List V) → Prop
  | some fv, some vs => applyP P vs σ k fv
  | _, _ => False
def callMethodP (P : Program) (σ : St) (vs : List V) (k : VPost) : Option (FuncId × V) → Prop
  | some (f, recv) => CallW P f (recv :: vs) k σ
  | none => False
def callInvokeP (P : Program) (σ : St) (name : String) (k : VPost) : Option V → Option (List V) → Prop
  | some (.iface t v), some vs => callMethodP P σ vs k (methodV P t v name)
  | _, _ => False

abbrev OPost := V → Act → St → Prop
def tripP (k : OPost) : V × Act × St → Prop
  | (v, a, σ) => k v a σ

def operP (P : Program) (ro : Option Nat) (o : Op) (a : Act) (σ : St) (id : Nat) (k : OPost) : Prop :=
  match o with
  | .call c => match c.callee with
    | .value f => callValueP P σ (fun v σ => k v a σ) (a.eval f) (a.evals c.args.toList)
    | .invoke x name => callInvokeP P σ name (fun v σ => k v a σ) (a.eval x) (a.evals c.args.toList)
    | .builtin b => OkP (opBuiltin P σ id b c.argTypes.toList (a.evals c.args.toList)) fun v σ => k v a σ
  | .defer c => ((deferC c).f (fun _ _ => .fail) ro a σ id).Holds (tripP k)
  | o => opP P o a σ id fun v σ => k v a σ

theorem Res.Holds.withAct {a : Act} {r : VS} {k : OPost} (h : r.Holds (pairP fun v σ => k v a σ)) : (r.bind (withAct a)).Holds (tripP k) :=
  Res.Holds.bind_intro (h.mono fun ⟨_, _⟩ hx => hx)

theorem call_holds {a : Act} {σ : St} {f : FuncId} {vs : List V} {k : OPost} (h : CallW P f vs (fun v σ => k v a σ) σ) : ∃ n, ((run P n (.call f vs) σ).bind (valOf a)).Holds (tripP k) := by
  obtain ⟨n, h⟩ := h.h
  refine ⟨n, Res.Holds.bind_intro (h.mono fun ⟨o, σ⟩ hx => ?_)⟩
  cases o with
  | val v => exact hx
  | exit e a => exact hx.elim

theorem operP_holds {o : Op} {a : Act} {σ : St} {id : Nat} {k : OPost} (h : operP P ro o a σ id k) : ∃ n, ((operC P o).f (run P n) ro a σ id).Holds (tripP k) := by
  have plain : ∀ {o : Op}, opP P o a σ id (fun v σ => k v a σ) → ((plainC (opC P o)).f (run P 0) ro a σ id).Holds (tripP k) := fun h => Res.Holds.withAct (opP_holds h)
  cases o with
  | call c =>
    obtain ⟨callee, args, tys⟩ := c
    cases callee with
    | value f =>
      show ∃ n, (callValue (run P n) a σ (a.eval f) (a.evals args.toList)).Holds (tripP k)
      have h' : callValueP P σ (fun v σ => k v a σ) (a.eval f) (a.evals args.toList) := h
      revert h'
      cases a.eval f with
      | none => exact fun h => h.elim
      | some fv => cases a.evals args.toList with
        | none => exact fun h => h.elim
        | some vs =>
          intro h
          have other : TaskW P (.apply fv vs) (valP fun v σ => k v a σ) σ → ∃ n, (callValue (run P n) a σ (some fv) (some vs)).Holds (tripP k) := by
            intro h
            obtain ⟨n, h⟩ := h.h
            refine ⟨n, Res.Holds.bind_intro (h.mono fun ⟨o, σ⟩ hx => ?_)⟩
            cases o with
            | val v => exact hx
            | exit e a => exact hx.elim
          have h2 : applyP P vs σ (fun v σ => k v a σ) fv := h
          unfold applyP at h2
          split at h2
          · rename_i g first captured
            obtain ⟨n, hn⟩ := h2.h
            exact other ⟨n + 1, hn⟩
          · exact other h2
    | invoke x name =>
      show ∃ n, (callInvoke P (run P n) a σ name (a.eval x) (a.evals args.toList)).Holds (tripP k)
      have h' : callInvokeP P σ name (fun v σ => k v a σ) (a.eval x) (a.evals args.toList) := h
      unfold callInvokeP at h'
      split at h'
      · rename_i t v vs hx hv
        rw [hx, hv]
        show ∃ n, (callMethodV (run P n) a σ vs (methodV P t v name)).Holds (tripP k)
        cases hm : methodV P t v name with
        | none => rw [hm] at h'; exact h'.elim
        | some p => obtain ⟨f, recv⟩ := p; rw [hm] at h'; exact call_holds h'
      · exact h'.elim
    | builtin b => exact ⟨0, Res.Holds.withAct (OkP.holds h)⟩
  | defer c =>
    refine ⟨0, ?_⟩
    have h' : ((deferC c).f (fun _ _ => .fail) ro a σ id).Holds (tripP k) := h
    show ((deferC c).f (run P 0) ro a σ id).Holds (tripP k)
    have e : ∀ R R', (deferC c).f R ro a σ id = (deferC c).f R' ro a σ id := by
      intro R R'
      unfold deferC
      split <;> rfl
    rw [e _ fun _ _ => .fail]; exact h'
  | _ => exact ⟨0, plain h⟩

/-- A list, laid out row by row, ahead of what is said of it. -/
noncomputable def layP {α : Type} (l : List α) : (List α → Prop) → Prop :=
  List.rec (motive := fun _ => (List α → Prop) → Prop) (fun k => k []) (fun x _ ih k => ih fun l => k (x :: l)) l
theorem layP_eq {α : Type} (l : List α) (k : List α → Prop) : layP l k = k l := by
  induction l generalizing k with
  | nil => rfl
  | cons x l ih => exact ih _
noncomputable def putP (dst : Option Tmp) (k : Act → Prop) (a : Act) (v : V) : Prop :=
  match dst with
  | some d => match a with
    | ⟨t, s, ds⟩ => match Nat.blt d s with
      | true => layP (t.put d v) fun t => k ⟨t, s, ds⟩
      | false => False
  | none => k a

/-- An operation with its guard. -/
noncomputable def stepP (P : Program) (ro : Option Nat) (ops : List Oper) (o : Oper) (a : Act) (σ : St) (id : Nat) (k : Act → St → Prop) : Prop :=
  match o.guard with
  | none => operP P ro o.op a σ id fun v a σ => putP o.dst (fun a => k a σ) a v
  | some (j, want) => match guardSlot ops j with
    | some d => match gateV want (a.tmps.get d) with
      | some true => operP P ro o.op a σ id fun v a σ => putP o.dst (fun a => k a σ) a v
      | some false => putP o.dst (fun a => k a σ) a undefV
      | none => False
    | none => putP o.dst (fun a => k a σ) a undefV

def actP (k : Act → St → Prop) : Act × St → Prop
  | (a, σ) => k a σ

theorem putP_holds {dst : Option Tmp} {a : Act} {v : V} {σ : St} {k : Act → St → Prop} (h : putP dst (fun a => k a σ) a v) : (putK σ (a.put dst v)).Holds (actP k) := by
  cases dst with
  | none => exact h
  | some d =>
    obtain ⟨t, s, ds⟩ := a
    have h' : match Nat.blt d s with
      | true => layP (t.put d v) fun t => k ⟨t, s, ds⟩ σ
      | false => False := h
    show (putK σ (match Nat.blt d s with
      | true => some ⟨t.put d v, s, ds⟩
      | false => none)).Holds (actP k)
    revert h'
    cases Nat.blt d s with
    | true => intro h; rw [layP_eq] at h; exact h
    | false => exact fun h => h.elim

theorem stepP_holds {ops : List Oper} {o : Oper} {a : Act} {σ : St} {id : Nat} {k : Act → St → Prop} (h : stepP P ro ops o a σ id k) : ∃ n, ((stepC P ops o).f (run P n) ro a σ id).Holds (actP k) := by
  have go : operP P ro o.op a σ id (fun v a σ => putP o.dst (fun a => k a σ) a v) → ∃ n, (((operC P o.op).f (run P n) ro a σ id).bind (dstK o.dst)).Holds (actP k) := by
    intro h
    obtain ⟨n, h⟩ := operP_holds h
    exact ⟨n, Res.Holds.bind_intro (h.mono fun ⟨v, a, σ⟩ hx => putP_holds hx)⟩
  unfold stepP at h
  unfold stepC
  cases hg : o.guard with
  | none => rw [hg] at h; exact go h
  | some jw =>
    obtain ⟨j, want⟩ := jw
    rw [hg] at h
    dsimp only at h ⊢
    cases hs : guardSlot ops j with
    | none => rw [hs] at h; exact ⟨0, putP_holds h⟩
    | some d =>
      rw [hs] at h
      dsimp only at h
      show ∃ n, (guardK (operC P o.op) o.dst (run P n) ro a σ id (gateV want (a.tmps.get d))).Holds (actP k)
      cases hgv : gateV want (a.tmps.get d) with
      | none => rw [hgv] at h; exact h.elim
      | some b => rw [hgv] at h; cases b with
        | true => exact go h
        | false => exact ⟨0, putP_holds h⟩

/-! ### Regions -/
noncomputable def opsP (P : Program) (ro : Option Nat) (ops : List Oper) (k : Act → St → Prop) : List Oper → Act → St → Prop
  | [] => k
  | o :: l => fun a σ => stepP P ro ops o a σ σ.next (opsP P ro ops k l)

theorem opsP_holds {ops : List Oper} {Q : Post} : ∀ {l : List Oper} {a : Act} {σ : St}, opsP P ro ops (Q .normal) l a σ → ∃ n, ((opsC P ops l).f (run P n) ro a σ).Holds (exP Q)
  | [], _, _, h => ⟨0, h⟩
  | o :: l, a, σ, h => by
    obtain ⟨n, h⟩ := stepP_holds h
    refine then_bound (g := fun n => (stepC P ops o).f (run P n) ro a σ σ.next) (K := fun x n => pairK ((opsC P ops l).f (run P n) ro) x) (fun n m h => stepC_le (run_le P h) ops o ro a σ _)
      (fun ⟨a, σ⟩ n m h => opsC_le (run_le P h) ops l ro a σ) ⟨n, h.mono fun ⟨a, σ⟩ hx => opsP_holds hx⟩

/-- A load that may come ahead of a write: it reads the same there. -/
structure SameP (b : Bool) (k : Prop) : Prop where
  same : b = true
  k : k
def backP (b : Nat) (c : Bool) (k : Prop) : Prop :=
  match b with
  | 0 => k
  | _ + 1 => SameP c k
noncomputable def drawnP (P : Program) (ro : Option Nat) (ops : List Oper) (base : Nat) (k : Act → St → Prop) : List Item → List St → Act → St → Prop
  | [], _ => k
  | it :: l, snaps => fun a σ => match nth ops it.i with
    | some o => stepP P ro ops o a σ (Nat.add base it.i) fun a' σ' => backP it.back (loadsSame P it.back snaps a (slotOf a' o.dst) o.op) (drawnP P ro ops base k l (snapsOf (effectOp o.op) σ' snaps) a' σ')
    | none => False

theorem drawnP_holds {ops : List Oper} {Q : Post} {base : Nat} : ∀ {l : List Item} {snaps : List St} {a : Act} {σ : St}, drawnP P ro ops base (Q .normal) l snaps a σ → ∃ n, ((drawnC P ops l).f (run P n) ro base snaps a σ).Holds (exP Q)
  | [], _, _, _, h => ⟨0, h⟩
  | it :: l, snaps, a, σ, h => by
    show ∃ n, ((drawnItem P ops it (drawnC P ops l) (nth ops it.i)).f (run P n) ro base snaps a σ).Holds (exP Q)
    unfold drawnP at h
    cases hn : nth ops it.i with
    | none => rw [hn] at h; exact h.elim
    | some o =>
      rw [hn] at h
      dsimp only at h
      obtain ⟨n, h⟩ := stepP_holds h
      refine then_bound (g := fun n => (stepC P ops o).f (run P n) ro a σ (Nat.add base it.i)) (K := fun x n => drawnK P o it.back a snaps ((drawnC P ops l).f (run P n) ro base) x) (fun n m h => stepC_le (run_le P h) ops o ro a σ _)
        (fun ⟨a', σ'⟩ n m h => ?_) ⟨n, h.mono fun ⟨a', σ'⟩ hx => ?_⟩
      · unfold drawnK
        dsimp only
        split
        · exact drawnC_le (run_le P h) ops l ro base _ _ _
        · exact .refl _
      · have hx' : backP it.back (loadsSame P it.back snaps a (slotOf a' o.dst) o.op) (drawnP P ro ops base (Q .normal) l (snapsOf (effectOp o.op) σ' snaps) a' σ') := hx
        have hb : (Nat.beq it.back 0 || loadsSame P it.back snaps a (slotOf a' o.dst) o.op) = true ∧ drawnP P ro ops base (Q .normal) l (snapsOf (effectOp o.op) σ' snaps) a' σ' := by
          unfold backP at hx'
          split at hx'
          · rename_i hz; rw [hz]; exact ⟨rfl, hx'⟩
          · exact ⟨by rw [hx'.same, Bool.or_true], hx'.k⟩
        obtain ⟨m, hm⟩ := drawnP_holds hb.2
        refine ⟨m, ?_⟩
        show (match Nat.beq it.back 0 || loadsSame P it.back snaps a (slotOf a' o.dst) o.op with
          | true => (drawnC P ops l).f (run P m) ro base (snapsOf (effectOp o.op) σ' snaps) a' σ'
          | false => .fail "a load and a write, in either order" : Run).Holds (exP Q)
        rw [hb.1]; exact hm

noncomputable def regionP (P : Program) (ro : Option Nat) (ops : List Oper) (k : Act → St → Prop) (a : Act) (σ : St) : Bool → Prop
  | false => opsP P ro ops k ops a σ
  | true => match planOf ops with
    | some l => drawnP P ro ops σ.next k l [ahead (len ops) σ] a (ahead (len ops) σ)
    | none => False

/-! ### Code: all but loops, scopes and rounds is taken apart -/
noncomputable def wp (P : Program) (fn : FuncId) (ro : Option Nat) : Code → Post → Act → St → Prop
  | .skip, Q => Q .normal
  | .label _, Q => Q .normal
  | .seq x y, Q => wp P fn ro x (seqQ (wp P fn ro y Q) Q)
  | .cond x y z, Q => fun a σ => condP (wp P fn ro y Q a σ) (wp P fn ro z Q a σ) (a.eval x)
  | .block id x, Q => wp P fn ro x (blockQ id Q)
  | .loop x, Q => LoopW P fn ro x Q
  | .exit id, Q => Q (.exit id)
  | .goto l, Q => Q (.goto l)
  | .ret, Q => Q .ret
  | .region _ ops draw, Q => fun a σ => regionP P ro ops.toList (Q .normal) a σ draw
  | .scope x, Q => ScopeW P fn ro x x Q
  | c, Q => CodeW P fn ro c Q

theorem CodeW.of_wp : ∀ {c : Code} {Q : Post} {a : Act} {σ : St}, wp P fn ro c Q a σ → CodeW P fn ro c Q a σ
  | .skip, _, _, _, h => ⟨0, h⟩
  | .label _, _, _, _, h => ⟨0, h⟩
  | .seq x y, Q, a, σ, h => by
    have h' : wp P fn ro x (seqQ (wp P fn ro y Q) Q) a σ := h
    refine .seq ((CodeW.of_wp h').mono fun e a σ hx => ?_)
    cases e with
    | normal => exact CodeW.of_wp hx
    | _ => exact hx
  | .cond x y z, Q, a, σ, h => by
    refine .cond ?_
    have h' : condP (wp P fn ro y Q a σ) (wp P fn ro z Q a σ) (a.eval x) := h
    revert h'
    cases a.eval x with
    | none => exact id
    | some v => cases v with
      | bool b => exact fun h => ⟨fun e => CodeW.of_wp (h.y e), fun e => CodeW.of_wp (h.z e)⟩
      | _ => exact id
  | .block id x, Q, a, σ, h => .block (CodeW.of_wp h)
  | .loop x, Q, a, σ, h => LoopW.h h
  | .exit id, Q, a, σ, h => ⟨0, h⟩
  | .goto l, Q, a, σ, h => ⟨0, h⟩
  | .ret, Q, a, σ, h => ⟨0, h⟩
  | .region _ ops draw, Q, a, σ, h => by
    have h' : regionP P ro ops.toList (Q .normal) a σ draw := h
    cases draw with
    | false => exact ⟨opsP_holds h'⟩
    | true =>
      have h2 : match planOf ops.toList with
        | some l => drawnP P ro ops.toList σ.next (Q .normal) l [ahead (len ops.toList) σ] a (ahead (len ops.toList) σ)
        | none => False := h'
      constructor
      show ∃ n, ((match planOf ops.toList with
        | some l => (⟨fun R ro a σ => (drawnC P ops.toList l).f R ro σ.next [ahead (len ops.toList) σ] a (ahead (len ops.toList) σ)⟩ : CodeC)
        | none => ⟨fun _ _ _ _ => .fail "plan"⟩).f (run P n) ro a σ).Holds (exP Q)
      cases hp : planOf ops.toList with
      | none => rw [hp] at h2; exact h2.elim
      | some l => rw [hp] at h2; exact drawnP_holds h2
  | .rangeFunc _ _ _ _, _, _, _, h => h
  | .scope x, Q, a, σ, h => .scope h
  | .refuse _, _, _, _, h => h

/-! ### A function's body -/
def resP (Q : VPost) (σ : St) : Option (List V) → Prop
  | some l => Q (oneOrTuple l) σ
  | none => False
def retQ (P : Program) (fn : Func) (Q : VPost) : Post
  | .normal => fun a σ => match a.defers with
    | [] => resP Q σ (resultsV P a σ fn.results.toList)
    | _ => TaskW P (.leave fn a) (valP Q) σ
  | .ret => fun a σ => match a.defers with
    | [] => resP Q σ (resultsV P a σ fn.results.toList)
    | _ => TaskW P (.leave fn a) (valP Q) σ
  | _ => fun _ _ => False

theorem leave_holds {fn : Func} {a : Act} {σ : St} {Q : VPost} (h : match a.defers with
    | [] => resP Q σ (resultsV P a σ fn.results.toList)
    | _ => TaskW P (.leave fn a) (valP Q) σ) : ∃ n, (run P n (.leave fn a) σ).Holds (valP Q) := by
  cases hd : a.defers with
  | nil =>
    rw [hd] at h
    refine ⟨1, ?_⟩
    show (stepLeave P (run P 0) fn a σ a.defers).Holds _
    rw [hd]
    show (resultK σ (resultsV P a σ fn.results.toList)).Holds _
    have h' : resP Q σ (resultsV P a σ fn.results.toList) := h
    revert h'
    cases resultsV P a σ fn.results.toList with
    | none => exact id
    | some l => exact id
  | cons d l => rw [hd] at h; exact TaskW.h h

/-- A call: the body. -/
theorem CallW.code {f : FuncId} {fn : Func} {c : Code} {vs : List V} {Q : VPost} {σ : St} (hf : P.funcs[f]? = some fn) (hb : fn.body = some c) (hn : (fn.name == "runtime.NumGoroutine") = false)
    (h : CodeW P f none c (retQ P fn Q) (actOf fn.ntmps vs) σ) : CallW P f vs Q σ := by
  obtain ⟨n, h⟩ := h.h
  have key : ∃ n, ((run P n (.code none f c (actOf fn.ntmps vs)) σ).bind (leaveK (run P n) fn)).Holds (valP Q) := by
    refine then_bound (g := fun n => run P n (.code none f c (actOf fn.ntmps vs)) σ) (K := fun x n => leaveK (run P n) fn x) (fun n m h => run_le P h _ _) (fun ⟨o, σ⟩ n m h => ?_) ⟨n + 1, h.mono fun ⟨o, σ⟩ hx => ?_⟩
    · cases o with
      | val v => exact .refl _
      | exit e a => cases e with
        | normal => exact run_le P h _ _
        | ret => exact run_le P h _ _
        | _ => exact .refl _
    · cases o with
      | val v => exact hx.elim
      | exit e a => cases e with
        | normal => exact leave_holds hx
        | ret => exact leave_holds hx
        | _ => exact hx.elim
  obtain ⟨m, hm⟩ := key
  refine ⟨m + 1, ?_⟩
  show (stepCallF (run P m) f vs σ P.funcs[f]?).Holds _
  rw [hf]
  show (callBody (run P m) f fn vs σ (leaveK (run P m) fn) fn.body).Holds _
  rw [hb]
  show (match fn.name == "runtime.NumGoroutine" with
    | true => .fail "NumGoroutine"
    | false => (run P m (.code none f c (actOf fn.ntmps vs)) σ).bind (leaveK (run P m) fn) : Run).Holds _
  rw [hn]; exact hm
theorem CallW.body {f : FuncId} {fn : Func} {c : Code} {vs : List V} {Q : VPost} {σ : St} (hf : P.funcs[f]? = some fn) (hb : fn.body = some c) (hn : (fn.name == "runtime.NumGoroutine") = false)
    (h : wp P f none c (retQ P fn Q) (actOf fn.ntmps vs) σ) : CallW P f vs Q σ := .code hf hb hn (.of_wp h)

/-! ### What the kernel reckons -/
def checkV (p : V → St → Bool) : Out × St → Bool
  | (.val v, σ) => p v σ
  | _ => false
def checkE (p : Ex → Act → St → Bool) : Out × St → Bool
  | (.exit e a, σ) => p e a σ
  | _ => false
theorem CallW.of_check {f : FuncId} {vs : List V} {σ : St} (n : Nat) (p : V → St → Bool) (h : (run P n (.call f vs) σ).check (checkV p) = true) : CallW P f vs (fun v σ => p v σ = true) σ := by
  refine ⟨n, (Res.holds_of_check h).mono fun ⟨o, σ⟩ hx => ?_⟩
  cases o with
  | val v => exact hx
  | exit e a => cases hx
theorem CodeW.of_check {c : Code} {a : Act} {σ : St} (n : Nat) (p : Ex → Act → St → Bool) (h : ((codeC P fn c).f (run P n) ro a σ).check (checkE p) = true) : CodeW P fn ro c (fun e a σ => p e a σ = true) a σ := by
  refine ⟨n, (Res.holds_of_check h).mono fun ⟨o, σ⟩ hx => ?_⟩
  cases o with
  | val v => cases hx
  | exit e a => exact hx

end
end Go.Ev
