/- What code comes to, as a condition on what stands behind it: rules for each kind of code over the evaluator. -/
import Derived.Test.YtkopocjaofejgaaGreatDoorEvTasks
namespace Go.Ev
open Go

abbrev VPost := V → St → Prop
abbrev Post := Ex → Act → St → Prop

def valP (Q : VPost) : Out × St → Prop
  | (.val v, σ) => Q v σ
  | _ => False
def exP (Q : Post) : Out × St → Prop
  | (.exit e a, σ) => Q e a σ
  | _ => False

structure OkP (r : VS) (k : VPost) : Prop where
  h : ∃ v σ', r = .ok (v, σ') ∧ k v σ'
structure CondP (b : Bool) (Y Z : Prop) : Prop where
  y : b = true → Y
  z : b = false → Z

theorem OkP.mk' {r : VS} {k : VPost} {v : V} {σ : St} (h : r = .ok (v, σ)) (hk : k v σ) : OkP r k := ⟨v, σ, h, hk⟩

section
variable {P : Program}

def seqQ (Y : Act → St → Prop) (Q : Post) : Post
  | .normal => Y
  | e => Q e
def condP (y z : Prop) : Option V → Prop
  | some (.bool b) => CondP b y z
  | _ => False
def blockQ (id : Nat) (Q : Post) : Post
  | .exit i => if i = id then Q .normal else Q (.exit i)
  | e => Q e
/-! ### Operations -/
def at1P (x : Option V) (k : V → Prop) : Prop :=
  match x with
  | some v => k v
  | none => False
def at2P (x y : Option V) (k : V → V → Prop) : Prop :=
  match x with
  | some v => match y with
    | some u => k v u
    | none => False
  | none => False

theorem at1P_holds {w : String} {x : Option V} {f : V → VS} {p : V × St → Prop} (h : at1P x fun v => (f v).Holds p) : (at1 w x f).Holds p := by
  cases x with
  | none => exact h.elim
  | some v => exact h
theorem at2P_holds {w : String} {x y : Option V} {f : V → V → VS} {p : V × St → Prop} (h : at2P x y fun v u => (f v u).Holds p) : (at2 w x y f).Holds p := by
  cases x with
  | none => exact h.elim
  | some v => cases y with
    | none => exact h.elim
    | some u => exact h

theorem at1P.mono {x : Option V} {k k' : V → Prop} (h : at1P x k) (hk : ∀ v, k v → k' v) : at1P x k' := by
  cases x with
  | none => exact h
  | some v => exact hk v h
theorem at2P.mono {x y : Option V} {k k' : V → V → Prop} (h : at2P x y k) (hk : ∀ v u, k v u → k' v u) : at2P x y k' := by
  cases x with
  | none => exact h
  | some v => cases y with
    | none => exact h
    | some u => exact hk v u h

def pairP (k : VPost) : V × St → Prop
  | (v, σ) => k v σ
theorem OkP.holds {r : VS} {k : VPost} (h : OkP r k) : r.Holds (pairP k) := by
  obtain ⟨v, σ, rfl, hk⟩ := h.h
  exact hk

/-- A comparison: what is to be shown where it holds, and where not. -/
structure CmpP (p : Prop) (k : V → Prop) : Prop where
  y : p → k (.bool true)
  n : ¬ p → k (.bool false)
theorem CmpP.of {p : Prop} [Decidable p] {k : V → Prop} (h : CmpP p k) {b : Bool} (hb : b = decide p) : k (.bool b) := by
  subst hb
  by_cases hp : p
  · rw [decide_eq_true hp]; exact h.y hp
  · rw [decide_eq_false hp]; exact h.n hp

/-- Whole numbers: where nothing is to be asked of them, the answer. -/
def intP (op : BinOp) (kd : IntKind) (a : Int) (kd' : IntKind) (b : Int) (k : V → Prop) : Prop :=
  match op with
  | .shl => 0 ≤ b ∧ k (.int kd (kd.wrap (a * 2 ^ min b.toNat kd.bits)))
  | .shr => 0 ≤ b ∧ k (.int kd (a.fdiv (2 ^ min b.toNat kd.bits)))
  | .quo => (kd = kd' ∧ b ≠ 0) ∧ k (.int kd (kd.wrap (a.tdiv b)))
  | .rem => (kd = kd' ∧ b ≠ 0) ∧ k (.int kd (a.tmod b))
  | .eql => kd = kd' ∧ CmpP (a = b) k
  | .neq => kd = kd' ∧ CmpP (a ≠ b) k
  | .lss => kd = kd' ∧ CmpP (a < b) k
  | .leq => kd = kd' ∧ CmpP (a ≤ b) k
  | .gtr => kd = kd' ∧ CmpP (a > b) k
  | .geq => kd = kd' ∧ CmpP (a ≥ b) k
  | op => match evalInt op kd a kd' b with
    | some v => k v
    | none => False
theorem intP_eval {op : BinOp} {kd kd' : IntKind} {a b : Int} {k : V → Prop} (h : intP op kd a kd' b k) : ∃ v, evalInt op kd a kd' b = some v ∧ k v := by
  cases op <;> first
    | (have h' : 0 ≤ b ∧ _ := h
       refine ⟨_, ?_, h'.2⟩
       show (if b < 0 then none else some _) = _
       rw [if_neg (by omega)])
    | (have h' : (kd = kd' ∧ b ≠ 0) ∧ _ := h
       obtain ⟨⟨rfl, hb⟩, hk⟩ := h'
       refine ⟨_, ?_, hk⟩
       show (if kd ≠ kd then none else if b = 0 then none else some _) = _
       rw [if_neg (by simp), if_neg hb])
    | (have h' : kd = kd' ∧ CmpP (a = b) k := h
       obtain ⟨rfl, hk⟩ := h'
       exact ⟨.bool (a == b), by show (if kd ≠ kd then none else some _) = _; rw [if_neg (by simp)], hk.of (by rw [Bool.eq_iff_iff]; simp)⟩)
    | (have h' : kd = kd' ∧ CmpP (a ≠ b) k := h
       obtain ⟨rfl, hk⟩ := h'
       exact ⟨.bool (a != b), by show (if kd ≠ kd then none else some _) = _; rw [if_neg (by simp)], hk.of (by rw [Bool.eq_iff_iff]; simp)⟩)
    | (have h' : kd = kd' ∧ CmpP (a < b) k := h
       obtain ⟨rfl, hk⟩ := h'
       exact ⟨.bool (decide (a < b)), by show (if kd ≠ kd then none else some _) = _; rw [if_neg (by simp)], hk.of rfl⟩)
    | (have h' : kd = kd' ∧ CmpP (a ≤ b) k := h
       obtain ⟨rfl, hk⟩ := h'
       exact ⟨.bool (decide (a ≤ b)), by show (if kd ≠ kd then none else some _) = _; rw [if_neg (by simp)], hk.of rfl⟩)
    | (have h' : kd = kd' ∧ CmpP (a > b) k := h
       obtain ⟨rfl, hk⟩ := h'
       exact ⟨.bool (decide (a > b)), by show (if kd ≠ kd then none else some _) = _; rw [if_neg (by simp)], hk.of rfl⟩)
    | (have h' : kd = kd' ∧ CmpP (a ≥ b) k := h
       obtain ⟨rfl, hk⟩ := h'
       exact ⟨.bool (decide (a ≥ b)), by show (if kd ≠ kd then none else some _) = _; rw [if_neg (by simp)], hk.of rfl⟩)
    | (revert h
       unfold intP
       dsimp only
       cases evalInt _ kd a kd' b with
       | none => exact fun h => h.elim
       | some v => exact fun h => ⟨v, rfl, h⟩)

/-- Texts. -/
def strP (op : BinOp) (x y : List UInt8) (k : V → Prop) : Prop :=
  match op with
  | .add => x.length + y.length ≤ 9223372036854775807 ∧ k (.str (x ++ y))
  | .eql => CmpP (x = y) k
  | .neq => CmpP (x ≠ y) k
  | op => match evalStr op x y with
    | some v => k v
    | none => False
theorem strP_eval {op : BinOp} {x y : List UInt8} {k : V → Prop} (h : strP op x y k) : ∃ v, evalStr op x y = some v ∧ k v := by
  cases op <;> first
    | (have h' : x.length + y.length ≤ 9223372036854775807 ∧ _ := h
       exact ⟨_, if_pos h'.1, h'.2⟩)
    | (have h' : CmpP (x = y) k := h
       exact ⟨.bool (x == y), rfl, h'.of (by rw [Bool.eq_iff_iff]; simp)⟩)
    | (have h' : CmpP (x ≠ y) k := h
       exact ⟨.bool (!(x == y)), rfl, h'.of (by rw [Bool.eq_iff_iff]; simp)⟩)
    | (revert h
       unfold strP
       dsimp only
       cases evalStr _ x y with
       | none => exact fun h => h.elim
       | some v => exact fun h => ⟨v, rfl, h⟩)

def binP (P : Program) (σ : St) (op : BinOp) (t : TypeId) (lit : Bool) (x y : V) (k : VPost) : Prop :=
  match x, y with
  | .int kd a, .int kd' b => intP op kd a kd' b fun v => k v σ
  | .str a, .str b => strP op a b fun v => k v σ
  | x, y => OkP (opBin P σ op t lit x y) k
theorem binP_holds {σ : St} {op : BinOp} {t : TypeId} {lit : Bool} {x y : V} {k : VPost} (h : binP P σ op t lit x y k) : (opBin P σ op t lit x y).Holds (pairP k) := by
  unfold binP at h
  split at h
  · rename_i kd a kd' b
    obtain ⟨v, hv, hk⟩ := intP_eval h
    show (keep σ "binOp" (evalInt op kd a kd' b)).Holds _
    rw [hv]; exact hk
  · rename_i a b
    obtain ⟨v, hv, hk⟩ := strP_eval h
    show (keep σ "binOp" (evalStr op a b)).Holds _
    rw [hv]; exact hk
  · exact h.holds

/-- One operation that is no call. -/
def opP (P : Program) (o : Op) (a : Act) (σ : St) (id : Nat) (k : VPost) : Prop :=
  match o with
  | .load t x => at1P (a.eval x) fun v => OkP (opLoad P σ t v) k
  | .store t x y => at2P (a.eval y) (a.eval x) fun v p => OkP (opStore P σ t v p) k
  | .binOp op t x y _ => at2P (a.eval x) (a.eval y) fun v u => binP P σ op t (isConst x || isConst y) v u k
  | .convert s d x => at1P (a.eval x) fun v => OkP (opConv P σ id s d v) k
  | .makeSlice t l c => at2P (a.eval l) (a.eval c) fun v u => OkP (opMakeSlice P σ id t v u) k
  | .slice t x lo hi mx => at1P (a.eval x) fun v => OkP (opSlice P a σ t lo hi mx v) k
  | .indexAddr t x ix => at2P (a.eval x) (a.eval ix) fun v u => OkP (opIndexAddr P σ t v u) k
  | .index t x ix => at2P (a.eval x) (a.eval ix) fun v u => OkP (opIndex P σ t v u) k
  | .lookup t x kx ok => at2P (a.eval x) (a.eval kx) fun v u => OkP (opLookup P σ t ok v u) k
  | .box _ x => at1P (a.eval x) fun v => OkP (opBox σ id v) k
  | .field t x f => at1P (a.eval x) fun v => OkP (opField P σ t f v) k
  | .fieldAddr t x f => at1P (a.eval x) fun v => OkP (opFieldAddr P σ t f v) k
  | .build t ps => OkP (opBuild P σ t (a.parts ps.toList)) k
  | .buildSlice t n ps => OkP (opBuildSlice P σ id t n (a.parts ps.toList)) k
  | .alloc e => OkP (opAlloc P σ id e) k
  | .typeAssert x _ t ok => at1P (a.eval x) fun v => OkP (opAssert P σ t ok v) k
  | .makeInterface t x => at1P (a.eval x) fun v => OkP (opMakeInterface P σ t v) k
  | o => ((opC P o).f a σ id).Holds (pairP k)

theorem opP_holds {o : Op} {a : Act} {σ : St} {id : Nat} {k : VPost} (h : opP P o a σ id k) : ((opC P o).f a σ id).Holds (pairP k) := by
  cases o with
  | convert s d x => exact at1P_holds (at1P.mono h fun _ hv => hv.holds)
  | slice t x lo hi mx => exact at1P_holds (at1P.mono h fun _ hv => hv.holds)
  | box e x => exact at1P_holds (at1P.mono h fun _ hv => hv.holds)
  | field t x f => exact at1P_holds (at1P.mono h fun _ hv => hv.holds)
  | fieldAddr t x f => exact at1P_holds (at1P.mono h fun _ hv => hv.holds)
  | typeAssert x _ t ok => exact at1P_holds (at1P.mono h fun _ hv => hv.holds)
  | makeInterface t x => exact at1P_holds (at1P.mono h fun _ hv => hv.holds)
  | load t x => exact at1P_holds (at1P.mono h fun _ hv => hv.holds)
  | store t x y => exact at2P_holds (at2P.mono h fun _ _ hv => hv.holds)
  | makeSlice t l c => exact at2P_holds (at2P.mono h fun _ _ hv => hv.holds)
  | indexAddr t x ix => exact at2P_holds (at2P.mono h fun _ _ hv => hv.holds)
  | index t x ix => exact at2P_holds (at2P.mono h fun _ _ hv => hv.holds)
  | lookup t x kx ok => exact at2P_holds (at2P.mono h fun _ _ hv => hv.holds)
  | binOp op t x y _ => exact at2P_holds (at2P.mono h fun _ _ hv => binP_holds hv)
  | build t ps => exact OkP.holds h
  | buildSlice t n ps => exact OkP.holds h
  | alloc e => exact OkP.holds h
  | _ => exact h

/-! ### Calls -/
abbrev OPost := V → Act → St → Prop
def tripP (k : OPost) : V × Act × St → Prop
  | (v, a, σ) => k v a σ

theorem Res.Holds.withAct {a : Act} {r : VS} {k : OPost} (h : r.Holds (pairP fun v σ => k v a σ)) : (r.bind (withAct a)).Holds (tripP k) :=
  Res.Holds.bind_intro (h.mono fun ⟨_, _⟩ hx => hx)

/-- A list, laid out row by row, ahead of what is said of it. -/
noncomputable def layP {α : Type} (l : List α) : (List α → Prop) → Prop :=
  List.rec (motive := fun _ => (List α → Prop) → Prop) (fun k => k []) (fun x _ ih k => ih fun l => k (x :: l)) l
theorem layP_eq {α : Type} (l : List α) (k : List α → Prop) : layP l k = k l := by
  induction l generalizing k with
  | nil => rfl
  | cons x l ih => exact ih _
/-- Slots, laid out. -/
noncomputable def layS {α : Type} (l : List (List α)) : (List (List α) → Prop) → Prop :=
  List.rec (motive := fun _ => (List (List α) → Prop) → Prop) (fun k => k []) (fun x _ ih k => layP x fun x => ih fun l => k (x :: l)) l
theorem layS_eq {α : Type} (l : List (List α)) (k : List (List α) → Prop) : layS l k = k l := by
  induction l generalizing k with
  | nil => rfl
  | cons x l ih =>
    show layP x (fun x => layS l fun l => k (x :: l)) = _
    rw [layP_eq, ih]
noncomputable def putP (dst : Option Tmp) (k : Act → Prop) (a : Act) (v : V) : Prop :=
  match dst with
  | some d => match a with
    | ⟨t, s, ds⟩ => match Nat.blt d s with
      | true => layS (t.put d v) fun t => k ⟨t, s, ds⟩
      | false => False
  | none => k a

def actP (k : Act → St → Prop) : Act × St → Prop
  | (a, σ) => k a σ

theorem putP_holds {dst : Option Tmp} {a : Act} {v : V} {σ : St} {k : Act → St → Prop} (h : putP dst (fun a => k a σ) a v) : (putK σ (a.put dst v)).Holds (actP k) := by
  cases dst with
  | none => exact h
  | some d =>
    obtain ⟨t, s, ds⟩ := a
    have h' : match Nat.blt d s with
      | true => layS (t.put d v) fun t => k ⟨t, s, ds⟩ σ
      | false => False := h
    show (putK σ (match Nat.blt d s with
      | true => some ⟨t.put d v, s, ds⟩
      | false => none)).Holds (actP k)
    revert h'
    cases Nat.blt d s with
    | true => intro h; rw [layS_eq] at h; exact h
    | false => exact fun h => h.elim

/-! ### Regions -/
/-- A load that may come ahead of a write: it reads the same there. -/
structure SameP (b : Bool) (k : Prop) : Prop where
  same : b = true
  k : k
def backP (b : Nat) (c : Bool) (k : Prop) : Prop :=
  match b with
  | 0 => k
  | _ + 1 => SameP c k
/-! ### Code: all but loops, scopes and rounds is taken apart -/
/-! ### A function's body -/
def resP (Q : VPost) (σ : St) : Option (List V) → Prop
  | some l => Q (oneOrTuple l) σ
  | none => False
/-! ### What the kernel reckons -/
def checkV (p : V → St → Bool) : Out × St → Bool
  | (.val v, σ) => p v σ
  | _ => false
def checkE (p : Ex → Act → St → Bool) : Out × St → Bool
  | (.exit e a, σ) => p e a σ
  | _ => false
end
end Go.Ev
