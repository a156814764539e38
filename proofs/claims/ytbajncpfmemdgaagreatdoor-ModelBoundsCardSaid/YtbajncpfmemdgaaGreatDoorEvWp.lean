/- What code comes to, as a condition on what stands behind it: rules for each kind of code over the evaluator. -/
import Derived.Test.YtbajncpfmemdgaaGreatDoorEvTasks
namespace Go.Ev
open Go

abbrev VPost := V → St → Prop
abbrev Post := Ex → Act → St → Prop

def valP (Q : VPost) : Out × St → Prop
  | (.val v, σ) => Q v σ
  | _ => False
def exP (Q : Post) : Out × St → Prop
  | (.exit e a, σ) => Q e a σ
  | _ => False

def OkP (r : VS) (k : VPost) : Prop :=
  match r with
  | .ok (v, σ) => k v σ
  | _ => False
theorem OkP.h {r : VS} {k : VPost} (h : OkP r k) : ∃ v σ', r = .ok (v, σ') ∧ k v σ' := by
  unfold OkP at h
  split at h
  · exact ⟨_, _, rfl, h⟩
  · exact h.elim
def CondP (b : Bool) (Y Z : Prop) : Prop :=
  match b with
  | true => Y
  | false => Z
theorem CondP.y {b : Bool} {Y Z : Prop} (h : CondP b Y Z) (e : b = true) : Y := by subst e; exact h
theorem CondP.z {b : Bool} {Y Z : Prop} (h : CondP b Y Z) (e : b = false) : Z := by subst e; exact h
theorem CondP.mk {b : Bool} {Y Z : Prop} (y : b = true → Y) (z : b = false → Z) : CondP b Y Z := by cases b <;> first | exact y rfl | exact z rfl

theorem OkP.mk' {r : VS} {k : VPost} {v : V} {σ : St} (h : r = .ok (v, σ)) (hk : k v σ) : OkP r k := by subst h; exact hk

section
variable {P : Program}

def seqQ (Y : Act → St → Prop) (Q : Post) : Post
  | .normal => Y
  | e => Q e
def condP (y z : Prop) : Option V → Prop
  | some (.bool b) => CondP b y z
  | _ => False
def blockQ (id : Nat) (Q : Post) : Post
  | .exit i => if i = id then Q .normal else Q (.exit i)
  | e => Q e
/-! ### Operations -/
def at1P (x : Option V) (k : V → Prop) : Prop :=
  match x with
  | some v => k v
  | none => False
def at2P (x y : Option V) (k : V → V → Prop) : Prop :=
  match x with
  | some v => match y with
    | some u => k v u
    | none => False
  | none => False

theorem at1P_holds {w : String} {x : Option V} {f : V → VS} {p : V × St → Prop} (h : at1P x fun v => (f v).Holds p) : (at1 w x f).Holds p := by
  cases x with
  | none => exact h.elim
  | some v => exact h
theorem at2P_holds {w : String} {x y : Option V} {f : V → V → VS} {p : V × St → Prop} (h : at2P x y fun v u => (f v u).Holds p) : (at2 w x y f).Holds p := by
  cases x with
  | none => exact h.elim
  | some v => cases y with
    | none => exact h.elim
    | some u => exact h

theorem at1P.mono {x : Option V} {k k' : V → Prop} (h : at1P x k) (hk : ∀ v, k v → k' v) : at1P x k' := by
  cases x with
  | none => exact h
  | some v => exact hk v h
theorem at2P.mono {x y : Option V} {k k' : V → V → Prop} (h : at2P x y k) (hk : ∀ v u, k v u → k' v u) : at2P x y k' := by
  cases x with
  | none => exact h
  | some v => cases y with
    | none => exact h
    | some u => exact hk v u h

def pairP (k : VPost) : V × St → Prop
  | (v, σ) => k v σ
theorem OkP.holds {r : VS} {k : VPost} (h : OkP r k) : r.Holds (pairP k) := by
  obtain ⟨v, σ, rfl, hk⟩ := h.h
  exact hk

/-- A comparison: what is to be shown where it holds, and where not. -/
def CmpP (p : Prop) [Decidable p] (k : V → Prop) : Prop := CondP (decide p) (k (.bool true)) (k (.bool false))
theorem CmpP.y {p : Prop} [Decidable p] {k : V → Prop} (h : CmpP p k) (hp : p) : k (.bool true) := CondP.y h (decide_eq_true hp)
theorem CmpP.n {p : Prop} [Decidable p] {k : V → Prop} (h : CmpP p k) (hp : ¬ p) : k (.bool false) := CondP.z h (decide_eq_false hp)
theorem CmpP.of {p : Prop} [Decidable p] {k : V → Prop} (h : CmpP p k) {b : Bool} (hb : b = decide p) : k (.bool b) := by
  subst hb
  by_cases hp : p
  · rw [decide_eq_true hp]; exact h.y hp
  · rw [decide_eq_false hp]; exact h.n hp

/-- Whole numbers: where nothing is to be asked of them, the answer. -/
def intP (op : BinOp) (kd : IntKind) (a : Int) (kd' : IntKind) (b : Int) (k : V → Prop) : Prop :=
  match op with
  | .shl => 0 ≤ b ∧ k (.int kd (kd.wrap (a * 2 ^ min b.toNat kd.bits)))
  | .shr => 0 ≤ b ∧ k (.int kd (a.fdiv (2 ^ min b.toNat kd.bits)))
  | .quo => (kd = kd' ∧ b ≠ 0) ∧ k (.int kd (kd.wrap (a.tdiv b)))
  | .rem => (kd = kd' ∧ b ≠ 0) ∧ k (.int kd (a.tmod b))
  | .eql => kd = kd' ∧ CmpP (a = b) k
  | .neq => kd = kd' ∧ CmpP (a ≠ b) k
  | .lss => kd = kd' ∧ CmpP (a < b) k
  | .leq => kd = kd' ∧ CmpP (a ≤ b) k
  | .gtr => kd = kd' ∧ CmpP (a > b) k
  | .geq => kd = kd' ∧ CmpP (a ≥ b) k
  | op => match evalInt op kd a kd' b with
    | some v => k v
    | none => False
theorem intP_eval {op : BinOp} {kd kd' : IntKind} {a b : Int} {k : V → Prop} (h : intP op kd a kd' b k) : ∃ v, evalInt op kd a kd' b = some v ∧ k v := by
  cases op <;> first
    | (have h' : 0 ≤ b ∧ _ := h
       refine ⟨_, ?_, h'.2⟩
       show (if b < 0 then none else some _) = _
       rw [if_neg (by omega)])
    | (have h' : (kd = kd' ∧ b ≠ 0) ∧ _ := h
       obtain ⟨⟨rfl, hb⟩, hk⟩ := h'
       refine ⟨_, ?_, hk⟩
       show (if kd ≠ kd then none else if b = 0 then none else some _) = _
       rw [if_neg (by simp), if_neg hb])
    | (have h' : kd = kd' ∧ CmpP (a = b) k := h
       obtain ⟨rfl, hk⟩ := h'
       exact ⟨.bool (a == b), by show (if kd ≠ kd then none else some _) = _; rw [if_neg (by simp)], hk.of (by rw [Bool.eq_iff_iff]; simp)⟩)
    | (have h' : kd = kd' ∧ CmpP (a ≠ b) k := h
       obtain ⟨rfl, hk⟩ := h'
       exact ⟨.bool (a != b), by show (if kd ≠ kd then none else some _) = _; rw [if_neg (by simp)], hk.of (by rw [Bool.eq_iff_iff]; simp)⟩)
    | (have h' : kd = kd' ∧ CmpP (a < b) k := h
       obtain ⟨rfl, hk⟩ := h'
       exact ⟨.bool (decide (a < b)), by show (if kd ≠ kd then none else some _) = _; rw [if_neg (by simp)], hk.of rfl⟩)
    | (have h' : kd = kd' ∧ CmpP (a ≤ b) k := h
       obtain ⟨rfl, hk⟩ := h'
       exact ⟨.bool (decide (a ≤ b)), by show (if kd ≠ kd then none else some _) = _; rw [if_neg (by simp)], hk.of rfl⟩)
    | (have h' : kd = kd' ∧ CmpP (a > b) k := h
       obtain ⟨rfl, hk⟩ := h'
       exact ⟨.bool (decide (a > b)), by show (if kd ≠ kd then none else some _) = _; rw [if_neg (by simp)], hk.of rfl⟩)
    | (have h' : kd = kd' ∧ CmpP (a ≥ b) k := h
       obtain ⟨rfl, hk⟩ := h'
       exact ⟨.bool (decide (a ≥ b)), by show (if kd ≠ kd then none else some _) = _; rw [if_neg (by simp)], hk.of rfl⟩)
    | (revert h
       unfold intP
       dsimp only
       cases evalInt _ kd a kd' b with
       | none => exact fun h => h.elim
       | some v => exact fun h => ⟨v, rfl, h⟩)

/-- Texts. -/
def strP (op : BinOp) (x y : List UInt8) (k : V → Prop) : Prop :=
  match op with
  | .add => x.length + y.length ≤ 9223372036854775807 ∧ k (.str (x ++ y))
  | .eql => CmpP (x = y) k
  | .neq => CmpP (x ≠ y) k
  | op => match evalStr op x y with
    | some v => k v
    | none => False
theorem strP_eval {op : BinOp} {x y : List UInt8} {k : V → Prop} (h : strP op x y k) : ∃ v, evalStr op x y = some v ∧ k v := by
  cases op <;> first
    | (have h' : x.length + y.length ≤ 9223372036854775807 ∧ _ := h
       exact ⟨_, if_pos h'.1, h'.2⟩)
    | (have h' : CmpP (x = y) k := h
       exact ⟨.bool (x == y), rfl, h'.of (by rw [Bool.eq_iff_iff]; simp)⟩)
    | (have h' : CmpP (x ≠ y) k := h
       exact ⟨.bool (!(x == y)), rfl, h'.of (by rw [Bool.eq_iff_iff]; simp)⟩)
    | (revert h
       unfold strP
       dsimp only
       cases evalStr _ x y with
       | none => exact fun h => h.elim
       | some v => exact fun h => ⟨v, rfl, h⟩)

/-- Flat values compared: what is to be shown where they are the same, and where not. -/
noncomputable def fieldsEqP (eqP : TypeId → V → V → Prop → Prop → Prop) (P : Program) (xs ys : List V) (z : Prop) (fs : List Field) : Prop → Prop :=
  List.rec (motive := fun _ => Prop → Prop) (fun y => y)
    (fun f _ ih y => match f.name == "_", partV P f.type xs f.offset, partV P f.type ys f.offset with
      | false, some a, some b => eqP f.type a b (ih y) z
      | _, _, _ => False) fs
noncomputable def flatEqSP (P : Program) (eqP : TypeId → V → V → Prop → Prop → Prop) (t : TypeId) (fs : List Field) (x v : V) (y z : Prop) : Prop :=
  match P.stoodInHeld t with
  | true => False
  | false => match x with
    | .agg xs => match v with
      | .agg ys => fieldsEqP eqP P xs ys z fs y
      | _ => False
    | _ => False
noncomputable def flatEqTP (P : Program) (eqP : TypeId → V → V → Prop → Prop → Prop) (t : TypeId) (x v : V) (y z : Prop) : Option TypeDesc → Prop
  | some .bool => match x with
    | .bool a => match v with
      | .bool b => CondP (a == b) y z
      | _ => False
    | _ => False
  | some (.int _) => match x with
    | .int k a => match v with
      | .int k' b => k = k' ∧ CondP (decide (a = b)) y z
      | _ => False
    | _ => False
  | some .string => match x with
    | .str a => match v with
      | .str b => CondP (decide (a = b)) y z
      | _ => False
    | _ => False
  | some (.struct fs) => flatEqSP P eqP t fs.toList x v y z
  | _ => False
noncomputable def flatEqP (P : Program) (d : Nat) : TypeId → V → V → Prop → Prop → Prop :=
  Nat.rec (motive := fun _ => TypeId → V → V → Prop → Prop → Prop) (fun _ _ _ _ _ => False) (fun _ ih t x v y z => flatEqTP P ih t x v y z (P.underlying t)) d
/-- A bool that tells which of two holds. -/
def Tells (b : Option Bool) (y z : Prop) : Prop := (b = some true ∧ y) ∨ (b = some false ∧ z)
theorem Tells.of {b : Bool} {y z : Prop} (h : CondP b y z) : Tells (some b) y z := by
  cases b with
  | true => exact .inl ⟨rfl, h⟩
  | false => exact .inr ⟨rfl, h⟩
theorem fieldsEqP_tells {eqP : TypeId → V → V → Prop → Prop → Prop} {eq : TypeId → V → V → Option Bool} (h : ∀ t x v y z, eqP t x v y z → Tells (eq t x v) y z) {xs ys : List V} {z : Prop} : ∀ {fs : List Field} {y : Prop}, fieldsEqP eqP P xs ys z fs y → Tells (fieldsEq P eq xs ys fs) y z
  | [], y, hy => .inl ⟨rfl, hy⟩
  | f :: fs, y, hy => by
    have hy' : (match f.name == "_", partV P f.type xs f.offset, partV P f.type ys f.offset with
      | false, some a, some b => eqP f.type a b (fieldsEqP eqP P xs ys z fs y) z
      | _, _, _ => False) := hy
    show Tells (match f.name == "_", partV P f.type xs f.offset, partV P f.type ys f.offset with
      | false, some a, some b => match eq f.type a b with
        | some true => fieldsEq P eq xs ys fs
        | some false => some false
        | none => none
      | _, _, _ => none) y z
    revert hy'
    cases f.name == "_" with
    | true => exact fun h => h.elim
    | false => cases partV P f.type xs f.offset with
      | none => exact fun h => h.elim
      | some a => cases partV P f.type ys f.offset with
        | none => exact fun h => h.elim
        | some b =>
          intro hy'
          dsimp only
          rcases h _ _ _ _ _ hy' with ⟨e, hr⟩ | ⟨e, hr⟩
          · rw [e]; exact fieldsEqP_tells h hr
          · rw [e]; exact .inr ⟨rfl, hr⟩
theorem flatEqP_tells : ∀ (d : Nat) (t : TypeId) (x v : V) (y z : Prop), flatEqP P d t x v y z → Tells (flatEq P d t x v) y z
  | 0, _, _, _, _, _, h => h.elim
  | d + 1, t, x, v, y, z, h => by
    have h' : flatEqTP P (flatEqP P d) t x v y z (P.underlying t) := h
    show Tells (flatEqT P (flatEq P d) t x v (P.underlying t)) y z
    revert h'
    cases P.underlying t with
    | none => exact fun h => h.elim
    | some u => cases u with
      | bool => cases x with
        | bool a => cases v with
          | bool b => exact fun h => .of h
          | _ => exact fun h => h.elim
        | _ => exact fun h => h.elim
      | int i => cases x with
        | int k a => cases v with
          | int k' b =>
            intro h0
            obtain ⟨rfl, h1⟩ := (show k = k' ∧ CondP (decide (a = b)) y z from h0)
            show Tells (if k = k then some (a == b) else none) y z
            rw [if_pos rfl, show (a == b) = decide (a = b) by rw [Bool.eq_iff_iff]; simp]
            exact .of h1
          | _ => exact fun h => h.elim
        | _ => exact fun h => h.elim
      | string => cases x with
        | str a => cases v with
          | str b =>
            intro h
            show Tells (some (a == b)) y z
            rw [show (a == b) = decide (a = b) by rw [Bool.eq_iff_iff]; simp]
            exact .of h
          | _ => exact fun h => h.elim
        | _ => exact fun h => h.elim
      | struct fs =>
        intro h
        have h' : flatEqSP P (flatEqP P d) t fs.toList x v y z := h
        show Tells (flatEqS P (flatEq P d) t fs.toList x v) y z
        unfold flatEqSP at h'
        unfold flatEqS
        cases hs : P.stoodInHeld t with
        | true => rw [hs] at h'; exact h'.elim
        | false =>
          rw [hs] at h'
          cases x with
          | agg xs => cases v with
            | agg ys => exact fieldsEqP_tells (fun t x v y z => flatEqP_tells d t x v y z) h'
            | _ => exact h'.elim
          | _ => exact h'.elim
      | _ => exact fun h => h.elim
/-- Structs compared. -/
noncomputable def structEqP (P : Program) (σ : St) (t : TypeId) (xs ys : List V) (y z : V) (k : VPost) : Prop :=
  match P.underlying t with
  | some (.struct fs) => match P.eqGuardType P.depth t with
    | false => flatEqSP P (flatEqP P flatDepth) t fs.toList (.agg xs) (.agg ys) (k y σ) (k z σ)
    | true => False
  | _ => False
theorem structEqP_tells {σ : St} {t : TypeId} {lit : Bool} {xs ys : List V} {y z : V} {k : VPost} (h : structEqP P σ t xs ys y z k) : Tells (evalEq P σ t lit (.agg xs) (.agg ys)) (k y σ) (k z σ) := by
  unfold structEqP at h
  unfold evalEq evalEqT
  split at h
  · rename_i fs hu
    rw [hu]
    dsimp only
    split at h
    · rename_i hg
      rw [hg]
      dsimp only
      unfold flatEqSP at h
      unfold flatEqS
      cases hs : P.stoodInHeld t with
      | true => rw [hs] at h; exact h.elim
      | false => rw [hs] at h; exact fieldsEqP_tells (fun t x v y z => flatEqP_tells _ t x v y z) h
    · exact h.elim
  · exact h.elim

noncomputable def binP (P : Program) (σ : St) (op : BinOp) (t : TypeId) (lit : Bool) (x y : V) (k : VPost) : Prop :=
  match x, y with
  | .int kd a, .int kd' b => intP op kd a kd' b fun v => k v σ
  | .str a, .str b => strP op a b fun v => k v σ
  | .agg xs, .agg ys => match op with
    | .eql => structEqP P σ t xs ys (.bool true) (.bool false) k
    | .neq => structEqP P σ t xs ys (.bool false) (.bool true) k
    | _ => False
  | x, y => OkP (opBin P σ op t lit x y) k
theorem binP_holds {σ : St} {op : BinOp} {t : TypeId} {lit : Bool} {x y : V} {k : VPost} (h : binP P σ op t lit x y k) : (opBin P σ op t lit x y).Holds (pairP k) := by
  unfold binP at h
  split at h
  · rename_i kd a kd' b
    obtain ⟨v, hv, hk⟩ := intP_eval h
    show (keep σ "binOp" (evalInt op kd a kd' b)).Holds _
    rw [hv]; exact hk
  · rename_i a b
    obtain ⟨v, hv, hk⟩ := strP_eval h
    show (keep σ "binOp" (evalStr op a b)).Holds _
    rw [hv]; exact hk
  · rename_i xs ys
    split at h
    · show (keep σ "binOp" ((evalEq P σ t lit (.agg xs) (.agg ys)).map .bool)).Holds _
      rcases structEqP_tells (lit := lit) h with ⟨e, hk⟩ | ⟨e, hk⟩
      · rw [e]; exact hk
      · rw [e]; exact hk
    · show (keep σ "binOp" ((evalEq P σ t lit (.agg xs) (.agg ys)).map fun b => .bool !b)).Holds _
      rcases structEqP_tells (lit := lit) h with ⟨e, hk⟩ | ⟨e, hk⟩
      · rw [e]; exact hk
      · rw [e]; exact hk
    · exact h.elim
  · exact h.holds

/-- The place of an element: its number is in range. -/
noncomputable def idxP (P : Program) (t : TypeId) (n : Nat) (esz : Nat) (i : Int) (k : Prop) : Prop :=
  match sliceE P t with
  | some e => match sizeT P e with
    | some sz => match Nat.beq sz esz && !Nat.beq sz 0 with
      | true => (0 ≤ i ∧ i < n) ∧ k
      | false => False
    | none => False
  | none => False
theorem idxP_holds {t : TypeId} {n esz : Nat} {i : Int} {k : Prop} (h : idxP P t n esz i k) : ∃ e sz, sliceE P t = some e ∧ sizeT P e = some sz ∧ (0 ≤ i ∧ i < n ∧ sz = esz ∧ sz ≠ 0) ∧ k := by
  unfold idxP at h
  cases he : sliceE P t with
  | none => rw [he] at h; exact h.elim
  | some e =>
    rw [he] at h
    dsimp only at h
    cases hsz : sizeT P e with
    | none => rw [hsz] at h; exact h.elim
    | some sz =>
      rw [hsz] at h
      dsimp only at h
      cases hb : Nat.beq sz esz && !Nat.beq sz 0 with
      | false => rw [hb] at h; exact h.elim
      | true =>
        rw [hb] at h
        rw [Bool.and_eq_true] at hb
        have h2 : sz ≠ 0 := fun e => by subst e; simp at hb
        exact ⟨e, sz, rfl, hsz, ⟨h.1.1, h.1.2, Nat.eq_of_beq_eq_true hb.1, h2⟩, h.2⟩
noncomputable def indexAddrP (P : Program) (σ : St) (t : TypeId) (x ix : V) (k : VPost) : Prop :=
  match x, ix with
  | .arr n f esz _ _, .int _ i => idxP P t n esz i (k (.eptr (f i.toNat).cells 0) σ)
  | .own b n esz, .int _ i => idxP P t n esz i (k (.elt b i.toNat esz 0) σ)
  | x, ix => OkP (opIndexAddr P σ t x ix) k
theorem indexAddrP_holds {σ : St} {t : TypeId} {x ix : V} {k : VPost} (h : indexAddrP P σ t x ix k) : OkP (opIndexAddr P σ t x ix) k := by
  unfold indexAddrP at h
  split at h
  · obtain ⟨e, sz, he, hsz, hc, hk⟩ := idxP_holds h
    refine OkP.mk' (v := _) (σ := _) ?_ hk
    show opIndexAddrF .. = _
    unfold opIndexAddrF
    rw [he]; dsimp only; rw [hsz]; dsimp only; rw [if_pos hc]
  · obtain ⟨e, sz, he, hsz, hc, hk⟩ := idxP_holds h
    refine OkP.mk' (v := _) (σ := _) ?_ hk
    show opIndexAddrO .. = _
    unfold opIndexAddrO
    rw [he]; dsimp only; rw [hsz]; dsimp only; rw [if_pos hc]
  · exact h
/-- A text's byte. -/
noncomputable def byteAt (s : List UInt8) (i : Int) : Int :=
  match nth s i.toNat with
  | some c => c.toNat
  | none => 0
noncomputable def indexStrP (P : Program) (σ : St) (t : TypeId) (s : List UInt8) (i : Int) (k : VPost) : Prop :=
  match P.underlying t with
  | some .string => (0 ≤ i ∧ i < (len s : Nat)) ∧ k (.int .u8 (byteAt s i)) σ
  | _ => False
theorem indexStrP_holds {σ : St} {t : TypeId} {s : List UInt8} {i : Int} {k : VPost} (h : indexStrP P σ t s i k) : OkP (opIndexStr P σ t s i) k := by
  unfold indexStrP at h
  unfold opIndexStr
  split at h
  · rename_i hu
    obtain ⟨⟨h1, h2⟩, hk⟩ := h
    rw [len_eq] at h2
    have hn : nth s i.toNat = some (s[i.toNat]'(by omega)) := by rw [nth_eq]; exact List.getElem?_eq_getElem _
    unfold byteAt at hk
    rw [hn] at hk
    rw [hu]
    dsimp only
    rw [if_pos h1, hn]
    exact hk
  · exact h.elim
noncomputable def indexP (P : Program) (σ : St) (t : TypeId) (x ix : V) (k : VPost) : Prop :=
  match x, ix with
  | .str s, .int _ i => indexStrP P σ t s i k
  | x, ix => OkP (opIndex P σ t x ix) k
theorem indexP_holds {σ : St} {t : TypeId} {x ix : V} {k : VPost} (h : indexP P σ t x ix k) : OkP (opIndex P σ t x ix) k := by
  unfold indexP at h
  split at h
  · exact indexStrP_holds h
  · exact h

def someP (x : Option V) (k : V → Prop) : Prop :=
  match x with
  | some v => k v
  | none => False
theorem someP.h {x : Option V} {k : V → Prop} (h : someP x k) : ∃ v, x = some v ∧ k v := by
  cases x with
  | none => exact h.elim
  | some v => exact ⟨v, rfl, h⟩
/-- A load out of a row's element. -/
noncomputable def loadEltP (P : Program) (σ : St) (t : TypeId) (i esz off : Nat) (k : VPost) : Option Blk → Prop
  | some (.row n f z _) => match Nat.beq z esz with
    | true => i < n ∧ (match aggT P t, sizeT P t with
      | some true, some sz => someP (partC (f i).cells off sz) fun v => k v σ
      | some false, _ => someP (nth (f i).cells off) fun v => k v σ
      | _, _ => False)
    | false => False
  | _ => False
noncomputable def loadP (P : Program) (σ : St) (t : TypeId) (v : V) (k : VPost) : Prop :=
  match v with
  | .elt b i esz off => loadEltP P σ t i esz off k (σ.heap.get b)
  | v => OkP (opLoad P σ t v) k
theorem loadP_holds {σ : St} {t : TypeId} {v : V} {k : VPost} (h : loadP P σ t v k) : OkP (opLoad P σ t v) k := by
  unfold loadP at h
  split at h
  · rename_i b i esz off
    unfold loadEltP at h
    split at h
    · rename_i n f z p hb
      split at h
      · rename_i hz
        have hz := Nat.eq_of_beq_eq_true hz
        obtain ⟨hi, h⟩ := h
        have he : σ.eltCells b i esz = some (f i).cells := by
          unfold St.eltCells
          rw [hb]
          exact if_pos ⟨hi, hz⟩
        show OkP (keep σ "load" (loadV P σ t (.elt b i esz off))) k
        unfold loadV
        split at h
        · rename_i sz hagg hsz
          obtain ⟨u, hu, hk⟩ := h.h
          rw [hagg, hsz]
          dsimp only
          rw [he, Option.bind_some, hu]
          exact hk
        · rename_i hagg
          obtain ⟨u, hu, hk⟩ := h.h
          rw [hagg]
          dsimp only
          rw [he, Option.bind_some, hu]
          exact hk
        · exact h.elim
      · exact h.elim
    · exact h.elim
  · exact h
/-- A store into a row's element. -/
noncomputable def storeEltP (P : Program) (σ : St) (t : TypeId) (v : V) (b i esz off : Nat) (k : VPost) : Option Blk → Prop
  | some (.row n f z p) => match sizeT P t with
    | some sz => match Nat.beq (len v.cells) sz && (Nat.beq z esz && (Nat.ble (Nat.add off (len v.cells)) esz && allOf V.scalar v.cells)) with
      | true => i < n ∧ k undefV (σ.set b (.row n (updF f i (putPart (f i) esz off v)) z p))
      | false => False
    | none => False
  | _ => False
noncomputable def storeP (P : Program) (σ : St) (t : TypeId) (v u : V) (k : VPost) : Prop :=
  match u with
  | .elt b i esz off => storeEltP P σ t v b i esz off k (σ.heap.get b)
  | u => OkP (opStore P σ t v u) k
theorem storeP_holds {σ : St} {t : TypeId} {v u : V} {k : VPost} (h : storeP P σ t v u k) : OkP (opStore P σ t v u) k := by
  unfold storeP at h
  split at h
  · rename_i b i esz off
    unfold storeEltP at h
    split at h
    · rename_i n f z p hb
      split at h
      · rename_i sz hsz
        split at h
        · rename_i hc
          rw [Bool.and_eq_true, Bool.and_eq_true] at hc
          obtain ⟨c1, c2, c3⟩ := hc
          have c1 := Nat.eq_of_beq_eq_true c1
          have c2 := Nat.eq_of_beq_eq_true c2
          subst c2
          obtain ⟨hi, hk⟩ := h
          refine OkP.mk' (v := _) (σ := _) ?_ hk
          unfold opStore
          dsimp only
          rw [hsz]
          dsimp only
          rw [if_pos c1]
          have : σ.storeElt b i z off v = some (σ.set b (.row n (updF f i (putPart (f i) z off v)) z p)) := by
            unfold St.storeElt
            rw [hb]
            dsimp only
            rw [if_pos ⟨hi, rfl⟩, c3]
          rw [this]; rfl
        · exact h.elim
      · exact h.elim
    · exact h.elim
  · exact h
/-- A part of a row that never turns. -/
def intO (d : Int) : Option V → Option Int
  | none => some d
  | some (.int _ i) => some i
  | _ => none
noncomputable def sliceArrP (σ : St) (n : Nat) (f : Nat → V) (esz : Nat) (ex : Bool) (mx : Bool) (k : VPost) : Option Int → Option Int → Option Int → Prop
  | some l, some h, some m => (0 ≤ l ∧ l ≤ h ∧ h ≤ m ∧ m ≤ n) ∧ k (.arr (h.toNat - l.toNat) (fun i => f (Nat.add l.toNat i)) esz ((mx || (ex && Nat.beq h.toNat n)) && Nat.beq h.toNat m.toNat) false) σ
  | _, _, _ => False
def sliceStrP (σ : St) (s : List UInt8) (k : VPost) : Option Int → Option Int → Prop
  | some l, some h => (0 ≤ l ∧ l ≤ h ∧ h ≤ (len s : Nat)) ∧ k (.str (dropOf l.toNat (takeOf s h.toNat))) σ
  | _, _ => False
noncomputable def sliceP (P : Program) (a : Act) (σ : St) (t : TypeId) (lo hi mx : Option Operand) (v : V) (k : VPost) : Prop :=
  match v with
  | .arr n f esz ex _ => match P.underlying t with
    | some (.slice e) => match sizeT P e with
      | some sz => match Nat.beq sz esz && (hi.isSome || !mx.isSome) with
        | true => match optV a lo, optV a hi, optV a mx with
          | some l, some h, some m => sliceArrP σ n f esz ex m.isSome k (intO 0 l) (intO n h) (intO n m)
          | _, _, _ => False
        | false => False
      | none => False
    | _ => False
  | .str s => match P.underlying t, mx with
    | some .string, none => match optV a lo, optV a hi with
      | some l, some h => sliceStrP σ s k (intO 0 l) (intO (len s) h)
      | _, _ => False
    | _, _ => False
  | v => OkP (opSlice P a σ t lo hi mx v) k
theorem optV_isSome {a : Act} {x : Option Operand} {v : Option V} (h : optV a x = some v) : v.isSome = x.isSome := by
  cases x with
  | none => cases h; rfl
  | some x =>
    have h' : (a.eval x).map some = some v := h
    rw [Option.map_eq_some_iff] at h'
    obtain ⟨u, _, rfl⟩ := h'; rfl
theorem asNat_int {lo hi : Nat} {k : IntKind} {i : Int} (h1 : (lo : Int) ≤ i) (h2 : i ≤ hi) : asNat lo hi (.int k i) = some i.toNat := if_pos ⟨h1, h2⟩
theorem bounds_ints {n : Nat} {l hh m : Option V} {L H M : Int} (e1 : intO 0 l = some L) (e2 : intO n hh = some H) (e3 : intO n m = some M) (c : (hh.isSome || !m.isSome) = true) (b1 : 0 ≤ L) (b2 : L ≤ H) (b3 : H ≤ M) (b4 : M ≤ n) :
    bounds n n l hh m = some (L.toNat, H.toNat, M.toNat) := by
  have hl : ∀ {d : Int} {o : Option V} {I : Int}, intO d o = some I → (o = none ∧ I = d) ∨ ∃ k, o = some (.int k I) := by
    intro d o I h
    unfold intO at h
    split at h
    · exact .inl ⟨rfl, (Option.some.inj h).symm⟩
    · rename_i k i; cases h; exact .inr ⟨k, rfl⟩
    · cases h
  rcases hl e3 with ⟨rfl, rfl⟩ | ⟨k3, rfl⟩
  · rcases hl e2 with ⟨rfl, rfl⟩ | ⟨k2, rfl⟩
    · rcases hl e1 with ⟨rfl, rfl⟩ | ⟨k1, rfl⟩
      · rfl
      · unfold bounds
        dsimp only
        rw [asNat_int (by omega) (by omega)]; rfl
    · rcases hl e1 with ⟨rfl, rfl⟩ | ⟨k1, rfl⟩
      · unfold bounds
        dsimp only
        rw [asNat_int (by omega) (by omega)]; rfl
      · unfold bounds
        dsimp only
        rw [asNat_int (by omega) (by omega)]
        dsimp only
        rw [asNat_int (by omega) (by omega)]; rfl
  · rcases hl e2 with ⟨rfl, rfl⟩ | ⟨k2, rfl⟩
    · simp at c
    · rcases hl e1 with ⟨rfl, rfl⟩ | ⟨k1, rfl⟩
      · unfold bounds
        dsimp only
        rw [asNat_int (by omega) (by omega)]
        dsimp only
        rw [asNat_int (by omega) (by omega)]; rfl
      · unfold bounds
        dsimp only
        rw [asNat_int (by omega) (by omega)]
        dsimp only
        rw [asNat_int (by omega) (by omega)]
        dsimp only
        rw [asNat_int (by omega) (by omega)]
theorem sliceP_holds {a : Act} {σ : St} {t : TypeId} {lo hi mx : Option Operand} {v : V} {k : VPost} (h : sliceP P a σ t lo hi mx v k) : OkP (opSlice P a σ t lo hi mx v) k := by
  unfold sliceP at h
  split at h
  · rename_i n f esz ex nn
    split at h
    · rename_i e hu
      split at h
      · rename_i sz hsz
        split at h
        · rename_i hc
          rw [Bool.and_eq_true] at hc
          obtain ⟨c1, c2⟩ := hc
          have c1 := Nat.eq_of_beq_eq_true c1
          subst c1
          split at h
          · rename_i l hh m h1 h2 h3
            have s2 := optV_isSome h2
            have s3 := optV_isSome h3
            unfold sliceArrP at h
            split at h
            · rename_i L H M e1 e2 e3
              obtain ⟨⟨b1, b2, b3, b4⟩, hk⟩ := h
              refine OkP.mk' (v := _) (σ := _) ?_ hk
              unfold opSlice
              rw [h1, h2, h3]
              dsimp only
              have ha : arrayE P t = none := by unfold arrayE; rw [hu]
              rw [ha]
              dsimp only
              have hbd := bounds_ints e1 e2 e3 (by rw [s2, s3]; exact c2) b1 b2 b3 b4
              unfold evalSlice
              rw [hu]
              dsimp only
              rw [hsz, hbd]
              dsimp only
              rw [if_neg (by simp)]
              rfl
            · exact h.elim
          · exact h.elim
        · exact h.elim
      · exact h.elim
    · exact h.elim
  · rename_i s
    split at h
    · rename_i hu
      split at h
      · rename_i l hh h1 h2
        unfold sliceStrP at h
        split at h
        · rename_i L H e1 e2
          obtain ⟨⟨b1, b2, b3⟩, hk⟩ := h
          refine OkP.mk' (v := _) (σ := _) ?_ hk
          unfold opSlice
          rw [h1, h2, show optV a none = some none from rfl]
          dsimp only
          have ha : arrayE P t = none := by unfold arrayE; rw [hu]
          rw [ha]
          dsimp only
          have hbd : bounds (len s) (len s) l hh none = some (L.toNat, H.toNat, len s) := by
            have := bounds_ints (n := len s) (m := none) (M := (len s : Nat)) e1 e2 rfl (by simp) b1 b2 b3 (Int.le_refl _)
            rw [this, Int.toNat_natCast]
          unfold evalSlice
          rw [hu]
          dsimp only
          rw [hbd, if_neg (by simp)]
          rfl
        · exact h.elim
      · exact h.elim
    · exact h.elim
  · exact h
/-- A row appended. -/
noncomputable def appendRowP (σ : St) (id sz by_ m : Nat) (g : Nat → V) (k : VPost) : V → Prop
  | .nilslice => CondP (decide (m = 0)) (k .nilslice σ) (m * by_ ≤ 1099511627776 ∧ k (.own id m sz) (σ.new id (.row m g sz true)))
  | .arr n f esz true _ => match Nat.beq n 0 && Nat.beq sz esz with
    | true => CondP (decide (m = 0)) (k (.arr n f esz true false) σ) (m * by_ ≤ 1099511627776 ∧ k (.own id m sz) (σ.new id (.row m g sz true)))
    | false => False
  | .slice b off n cap true esz => match Nat.beq n 0 && (Nat.beq cap 0 && Nat.beq sz esz), σ.cells b off 0 with
    | true, some [] => CondP (decide (m = 0)) (k (.slice b off n cap true esz) σ) (m * by_ ≤ 1099511627776 ∧ k (.own id m sz) (σ.new id (.row m g sz true)))
    | _, _ => False
  | _ => False
theorem appendRowP_holds {σ : St} {id sz by_ m : Nat} {g : Nat → V} {k : VPost} {s : V} (h : appendRowP σ id sz by_ m g k s) : ∃ v σ', appendRow σ id sz by_ m g s = some (v, σ') ∧ k v σ' := by
  unfold appendRowP at h
  split at h
  · by_cases hm : m = 0
    · exact ⟨_, _, if_pos hm, CondP.y h (decide_eq_true hm)⟩
    · obtain ⟨h1, h2⟩ := CondP.z h (decide_eq_false hm)
      exact ⟨_, _, by unfold appendRow; dsimp only; rw [if_neg hm, if_pos h1], h2⟩
  · rename_i n f esz nn
    split at h
    · rename_i hc
      rw [Bool.and_eq_true] at hc
      have c1 := Nat.eq_of_beq_eq_true hc.1
      have c2 := Nat.eq_of_beq_eq_true hc.2
      subst c1 c2
      by_cases hm : m = 0
      · exact ⟨_, _, by unfold appendRow; dsimp only; rw [if_neg (by simp), if_pos hm], CondP.y h (decide_eq_true hm)⟩
      · obtain ⟨h1, h2⟩ := CondP.z h (decide_eq_false hm)
        exact ⟨_, _, by unfold appendRow; dsimp only; rw [if_neg (by simp), if_neg hm, if_pos h1], h2⟩
    · exact h.elim
  · rename_i b off n cap esz
    split at h
    · rename_i hc hcs
      rw [Bool.and_eq_true, Bool.and_eq_true] at hc
      have c1 := Nat.eq_of_beq_eq_true hc.1
      have c2 := Nat.eq_of_beq_eq_true hc.2.1
      have c3 := Nat.eq_of_beq_eq_true hc.2.2
      subst c1 c2 c3
      by_cases hm : m = 0
      · exact ⟨_, _, by unfold appendRow; dsimp only; rw [hcs]; dsimp only; rw [if_neg (by simp), if_pos hm], CondP.y h (decide_eq_true hm)⟩
      · obtain ⟨h1, h2⟩ := CondP.z h (decide_eq_false hm)
        exact ⟨_, _, by unfold appendRow; dsimp only; rw [hcs]; dsimp only; rw [if_neg (by simp), if_neg hm, if_pos h1], h2⟩
    · exact h.elim
  · exact h.elim
noncomputable def appendP (P : Program) (σ : St) (id : Nat) (t t' : TypeId) (m : Nat) (g : Nat → V) (esz : Nat) (s : V) (k : VPost) : Prop :=
  match intType P t' with
  | true => False
  | false => match P.underlying t with
    | some (.slice e) => match sizeT P e, bytesT P e, zeroT P e with
      | some sz, some by_, some z => match Nat.beq sz 0 || (Nat.beq by_ 0 || (!Nat.beq (len z.cells) sz || !Nat.beq sz esz)) with
        | true => False
        | false => appendRowP σ id sz by_ m g k s
      | _, _, _ => False
    | _ => False
noncomputable def appendOwnP (σ : St) (id sz by_ b n : Nat) (k : VPost) : Option (Nat × (Nat → V) × List V) → Option Blk → Prop
  | some (m, g, new), some (.row n' f esz p) => match Nat.beq esz sz && (Nat.blt 0 m && allOf V.scalar new) with
    | true => (n' = n ∧ (n + m) * by_ ≤ 1099511627776) ∧ k (.own id (n + m) sz) ((σ.kill b).new id (.row (n + m) (catF n f g) sz p))
    | false => False
  | _, _ => False
noncomputable def appendOneP (P : Program) (σ : St) (id : Nat) (t t' : TypeId) (b n esz : Nat) (x : V) (k : VPost) : Prop :=
  match intType P t' with
  | true => False
  | false => match P.underlying t with
    | some (.slice e) => match sizeT P e, bytesT P e, zeroT P e with
      | some sz, some by_, some z => match Nat.beq sz 0 || (Nat.beq by_ 0 || (!Nat.beq (len z.cells) sz || !Nat.beq sz esz)) with
        | true => False
        | false => appendOwnP σ id sz by_ b n k (oneOf σ sz x) (σ.heap.get b)
      | _, _, _ => False
    | _ => False
theorem appendOneP_holds {σ : St} {id : Nat} {t t' : TypeId} {tl : List TypeId} {b n esz : Nat} {x : V} {k : VPost} (hx : ∀ m g e a c, x ≠ .arr m g e a c) (h : appendOneP P σ id t t' b n esz x k) :
    OkP (opBuiltin P σ id .append (t :: t' :: tl) (some [.own b n esz, x])) k := by
  unfold appendOneP at h
  split at h
  · exact h.elim
  · rename_i hi
    split at h
    · rename_i e hu
      split at h
      · rename_i sz by_ z h1 h2 h3
        split at h
        · exact h.elim
        · rename_i hc
          rw [Bool.or_eq_false_iff, Bool.or_eq_false_iff, Bool.or_eq_false_iff] at hc
          obtain ⟨c1, c2, c3, c4⟩ := hc
          unfold appendOwnP at h
          split at h
          · rename_i m g new n' f esz' p hone hb
            split at h
            · rename_i hs
              rw [Bool.and_eq_true, Bool.and_eq_true] at hs
              have hs1 := Nat.eq_of_beq_eq_true hs.1
              have hs2 := hs.2.1
              rw [Nat.blt_eq] at hs2
              obtain ⟨⟨rfl, hroom⟩, hk⟩ := h
              refine OkP.mk' (v := _) (σ := _) ?_ hk
              show Res.of "builtin" (match intType P t' with
                | true => appendZeros P σ id t t' (.own b n' esz) x
                | false => evalAppendR P σ id t (.own b n' esz) x) = _
              rw [hi]
              have he : evalAppendR P σ id t (.own b n' esz) x = appendOne P σ id t b n' esz x := by
                cases x with
                | arr m g e a c => exact absurd rfl (hx m g e a c)
                | _ => rfl
              dsimp only
              rw [he]
              unfold appendOne
              rw [hu]
              dsimp only
              rw [h1, h2, h3]
              dsimp only
              have d : ¬ (sz = 0 ∨ by_ = 0 ∨ len z.cells ≠ sz ∨ sz ≠ esz) := by
                rw [not_or, not_or, not_or]
                refine ⟨fun e => ?_, fun e => ?_, fun e => ?_, fun e => ?_⟩
                · subst e; simp at c1
                · subst e; simp at c2
                · simp only [Bool.not_eq_false'] at c3; exact e (Nat.eq_of_beq_eq_true c3)
                · simp only [Bool.not_eq_false'] at c4; exact e (Nat.eq_of_beq_eq_true c4)
              rw [if_neg d, hone]
              dsimp only
              unfold appendOwn
              rw [hb]
              dsimp only
              rw [if_pos ⟨rfl, hs1, by omega, hroom, hs.2.2⟩]
              rfl
            · exact h.elim
          · exact h.elim
      · exact h.elim
    · exact h.elim
noncomputable def builtinP (P : Program) (σ : St) (id : Nat) (b : Builtin) (tys : List TypeId) (vs : Option (List V)) (k : VPost) : Prop :=
  match b, tys, vs with
  | .append, t :: t' :: _, some [s, .arr m g esz _ _] => appendP P σ id t t' m g esz s k
  | .append, t :: t' :: _, some [.own b n esz, x] => appendOneP P σ id t t' b n esz x k
  | b, tys, vs => OkP (opBuiltin P σ id b tys vs) k
theorem builtinP_holds {σ : St} {id : Nat} {b : Builtin} {tys : List TypeId} {vs : Option (List V)} {k : VPost} (h : builtinP P σ id b tys vs k) : OkP (opBuiltin P σ id b tys vs) k := by
  unfold builtinP at h
  split at h
  · rename_i t t' tl s m g esz ex nn
    unfold appendP at h
    split at h
    · exact h.elim
    · rename_i hi
      split at h
      · rename_i e hu
        split at h
        · rename_i sz by_ z h1 h2 h3
          split at h
          · exact h.elim
          · rename_i hc
            rw [Bool.or_eq_false_iff, Bool.or_eq_false_iff, Bool.or_eq_false_iff] at hc
            obtain ⟨c1, c2, c3, c4⟩ := hc
            obtain ⟨v, σ', hr, hk⟩ := appendRowP_holds h
            refine OkP.mk' (v := v) (σ := σ') ?_ hk
            show Res.of "builtin" (match intType P t' with
              | true => appendZeros P σ id t t' s (.arr m g esz ex nn)
              | false => evalAppendR P σ id t s (.arr m g esz ex nn)) = _
            rw [hi]
            show Res.of "builtin" (appendArr P σ id t m g esz s) = _
            unfold appendArr
            rw [hu]
            dsimp only
            rw [h1, h2, h3]
            dsimp only
            have d : ¬ (sz = 0 ∨ by_ = 0 ∨ len z.cells ≠ sz ∨ sz ≠ esz) := by
              rw [not_or, not_or, not_or]
              refine ⟨fun e => ?_, fun e => ?_, fun e => ?_, fun e => ?_⟩
              · subst e; simp at c1
              · subst e; simp at c2
              · simp only [Bool.not_eq_false'] at c3; exact e (Nat.eq_of_beq_eq_true c3)
              · simp only [Bool.not_eq_false'] at c4; exact e (Nat.eq_of_beq_eq_true c4)
            rw [if_neg d, hr]; rfl
        · exact h.elim
      · exact h.elim
  · rename_i hne
    exact appendOneP_holds (fun m g e a c he => hne m g e a c he) h
  · exact h

/-- A text's bytes; a text out of bytes. -/
noncomputable def rowStrP (σ : St) (n : Nat) (k : VPost) : Option Blk → Prop
  | some (.row n' f z _) => match Nat.beq z 1 with
    | true => n' = n ∧ ∃ s, bytesOfV (flatCells (arrL n' f)) = some s ∧ k (.str s) σ
    | false => False
  | _ => False
noncomputable def convP (P : Program) (σ : St) (id : Nat) (src dst : TypeId) (v : V) (k : VPost) : Prop :=
  match v with
  | .str s => match P.underlying src, P.underlying dst with
    | some .string, some (.slice e) => match P.underlying e with
      | some (.int .u8) => match sizeT P e, bytesT P e with
        | some 1, some 1 => len s ≤ 1099511627776 ∧ k (.own id (len s) 1) (σ.new id (.row (len s) (byteF s) 1 false))
        | _, _ => False
      | _ => False
    | some .string, some .string => k (.str s) σ
    | _, _ => False
  | .own b n _ => match P.underlying src, P.underlying dst with
    | some (.slice e), some .string => match P.underlying e with
      | some (.int .u8) => rowStrP σ n k (σ.heap.get b)
      | _ => False
    | _, _ => False
  | v => OkP (opConv P σ id src dst v) k
theorem convP_holds {σ : St} {id : Nat} {src dst : TypeId} {v : V} {k : VPost} (h : convP P σ id src dst v k) : OkP (opConv P σ id src dst v) k := by
  unfold convP at h
  split at h
  · rename_i s
    split at h
    · rename_i e hs hd
      split at h
      · rename_i he
        split at h
        · rename_i h1 h2
          refine OkP.mk' (v := _) (σ := _) ?_ h.2
          unfold opConv evalConv
          rw [hs, hd]
          dsimp only
          rw [he]
          dsimp only
          rw [if_pos ⟨h1, h2, h.1⟩]
          rfl
        · exact h.elim
      · exact h.elim
    · rename_i hs hd
      refine OkP.mk' (v := _) (σ := _) ?_ h
      unfold opConv evalConv
      rw [hs, hd]
      rfl
    · exact h.elim
  · rename_i b n esz
    split at h
    · rename_i e hs hd
      split at h
      · rename_i he
        unfold rowStrP at h
        split at h
        · rename_i n' f z p hb
          split at h
          · rename_i hz
            obtain ⟨rfl, s, h1, hk⟩ := h
            refine OkP.mk' (v := _) (σ := _) ?_ hk
            unfold opConv evalConv
            rw [hs, hd]
            dsimp only
            rw [he]
            dsimp only
            rw [hb]
            dsimp only
            rw [if_pos ⟨rfl, Nat.eq_of_beq_eq_true hz⟩, h1]
            rfl
          · exact h.elim
        · exact h.elim
      · exact h.elim
    · exact h.elim
  · exact h
/-- A row of zeros, of a length that is a number like others. -/
noncomputable def makeSliceZP (σ : St) (id sz by_ : Nat) (z : List V) (n m : Int) (k : VPost) : Prop :=
  match !Nat.beq sz 0 && (Nat.beq (len z) sz && allOf V.scalar z) with
  | true => (0 ≤ n ∧ n ≤ m ∧ m.toNat * by_ ≤ 1099511627776 ∧ m ≤ 1099511627776) ∧ k (.slice id 0 n.toNat m.toNat true sz) (newRow σ id (m.toNat * sz) z .leaf true)
  | false => False
noncomputable def makeSliceP (P : Program) (σ : St) (id : Nat) (t : TypeId) (v u : V) (k : VPost) : Prop :=
  match v, u with
  | .int _ n, .int _ m => match sliceE P t with
    | some e => match sizeT P e, bytesT P e, zeroT P e with
      | some sz, some by_, some z => makeSliceZP σ id sz by_ z.cells n m k
      | _, _, _ => False
    | none => False
  | v, u => OkP (opMakeSlice P σ id t v u) k
theorem makeSliceP_holds {σ : St} {id : Nat} {t : TypeId} {v u : V} {k : VPost} (h : makeSliceP P σ id t v u k) : OkP (opMakeSlice P σ id t v u) k := by
  unfold makeSliceP at h
  split at h
  · rename_i k1 n k2 m
    split at h
    · rename_i e he
      split at h
      · rename_i sz by_ z h1 h2 h3
        unfold makeSliceZP at h
        split at h
        · rename_i hb
          rw [Bool.and_eq_true, Bool.and_eq_true] at hb
          obtain ⟨b1, b2, b3⟩ := hb
          obtain ⟨⟨c1, c2, c3, c4⟩, hk⟩ := h
          refine OkP.mk' (v := _) (σ := _) ?_ hk
          unfold opMakeSlice
          dsimp only
          rw [he]
          dsimp only
          rw [h1, h2, h3]
          dsimp only
          unfold opMakeSliceZ
          rw [if_pos ⟨c1, c2, c3, c4, fun e => by subst e; simp at b1, Nat.eq_of_beq_eq_true b2, b3⟩]
        · exact h.elim
      · exact h.elim
    · exact h.elim
  · exact h
/-- One of two. -/
noncomputable def pickP (a : Act) (σ : St) (x y : Operand) (k : VPost) : V → Prop
  | .bool b => CondP b (at1P (a.eval x) fun v => k v σ) (at1P (a.eval y) fun v => k v σ)
  | _ => False
theorem pickP_holds {a : Act} {σ : St} {x y : Operand} {k : VPost} {v : V} (h : pickP a σ x y k v) : (opPick a σ x y v).Holds (pairP k) := by
  cases v with
  | bool b =>
    have h' : CondP b (at1P (a.eval x) fun v => k v σ) (at1P (a.eval y) fun v => k v σ) := h
    have go : ∀ o : Option V, at1P o (fun v => k v σ) → (keep σ "pick" o : VS).Holds (pairP k) := by
      intro o ho
      cases o with
      | none => exact ho.elim
      | some v => exact ho
    cases b with
    | true => exact go _ (CondP.y h' rfl)
    | false => exact go _ (CondP.z h' rfl)
  | _ => exact h.elim
/-- One operation that is no call. -/
noncomputable def opP (P : Program) (o : Op) (a : Act) (σ : St) (id : Nat) (k : VPost) : Prop :=
  match o with
  | .load t x => at1P (a.eval x) fun v => loadP P σ t v k
  | .pick c x y => at1P (a.eval c) fun v => pickP a σ x y k v
  | .store t x y => at2P (a.eval y) (a.eval x) fun v p => storeP P σ t v p k
  | .binOp op t x y _ => at2P (a.eval x) (a.eval y) fun v u => binP P σ op t (isConst x || isConst y) v u k
  | .convert s d x => at1P (a.eval x) fun v => convP P σ id s d v k
  | .makeSlice t l c => at2P (a.eval l) (a.eval c) fun v u => makeSliceP P σ id t v u k
  | .slice t x lo hi mx => at1P (a.eval x) fun v => sliceP P a σ t lo hi mx v k
  | .indexAddr t x ix => at2P (a.eval x) (a.eval ix) fun v u => indexAddrP P σ t v u k
  | .index t x ix => at2P (a.eval x) (a.eval ix) fun v u => indexP P σ t v u k
  | .lookup t x kx ok => at2P (a.eval x) (a.eval kx) fun v u => OkP (opLookup P σ t ok v u) k
  | .box _ x => at1P (a.eval x) fun v => OkP (opBox σ id v) k
  | .field t x f => at1P (a.eval x) fun v => OkP (opField P σ t f v) k
  | .fieldAddr t x f => at1P (a.eval x) fun v => OkP (opFieldAddr P σ t f v) k
  | .build t ps => OkP (opBuild P σ t (a.parts ps.toList)) k
  | .buildSlice t n ps => OkP (opBuildSlice P σ id t n (a.parts ps.toList)) k
  | .alloc e => OkP (opAlloc P σ id e) k
  | .typeAssert x _ t ok => at1P (a.eval x) fun v => OkP (opAssert P σ t ok v) k
  | .makeInterface t x => at1P (a.eval x) fun v => OkP (opMakeInterface P σ t v) k
  | o => ((opC P o).f a σ id).Holds (pairP k)

theorem opP_holds {o : Op} {a : Act} {σ : St} {id : Nat} {k : VPost} (h : opP P o a σ id k) : ((opC P o).f a σ id).Holds (pairP k) := by
  cases o with
  | convert s d x => exact at1P_holds (at1P.mono h fun _ hv => (convP_holds hv).holds)
  | slice t x lo hi mx => exact at1P_holds (at1P.mono h fun _ hv => (sliceP_holds hv).holds)
  | box e x => exact at1P_holds (at1P.mono h fun _ hv => hv.holds)
  | field t x f => exact at1P_holds (at1P.mono h fun _ hv => hv.holds)
  | fieldAddr t x f => exact at1P_holds (at1P.mono h fun _ hv => hv.holds)
  | typeAssert x _ t ok => exact at1P_holds (at1P.mono h fun _ hv => hv.holds)
  | makeInterface t x => exact at1P_holds (at1P.mono h fun _ hv => hv.holds)
  | load t x => exact at1P_holds (at1P.mono h fun _ hv => (loadP_holds hv).holds)
  | pick c x y => exact at1P_holds (at1P.mono h fun _ hv => pickP_holds hv)
  | store t x y => exact at2P_holds (at2P.mono h fun _ _ hv => (storeP_holds hv).holds)
  | makeSlice t l c => exact at2P_holds (at2P.mono h fun _ _ hv => (makeSliceP_holds hv).holds)
  | indexAddr t x ix => exact at2P_holds (at2P.mono h fun _ _ hv => (indexAddrP_holds hv).holds)
  | index t x ix => exact at2P_holds (at2P.mono h fun _ _ hv => (indexP_holds hv).holds)
  | lookup t x kx ok => exact at2P_holds (at2P.mono h fun _ _ hv => hv.holds)
  | binOp op t x y _ => exact at2P_holds (at2P.mono h fun _ _ hv => binP_holds hv)
  | build t ps => exact OkP.holds h
  | buildSlice t n ps => exact OkP.holds h
  | alloc e => exact OkP.holds h
  | _ => exact h

/-! ### Calls -/
abbrev OPost := V → Act → St → Prop
def tripP (k : OPost) : V × Act × St → Prop
  | (v, a, σ) => k v a σ

theorem Res.Holds.withAct {a : Act} {r : VS} {k : OPost} (h : r.Holds (pairP fun v σ => k v a σ)) : (r.bind (withAct a)).Holds (tripP k) :=
  Res.Holds.bind_intro (h.mono fun ⟨_, _⟩ hx => hx)

/-- A list, laid out row by row, ahead of what is said of it. -/
noncomputable def layP {α : Type} (l : List α) : (List α → Prop) → Prop :=
  List.rec (motive := fun _ => (List α → Prop) → Prop) (fun k => k []) (fun x _ ih k => ih fun l => k (x :: l)) l
theorem layP_eq {α : Type} (l : List α) (k : List α → Prop) : layP l k = k l := by
  induction l generalizing k with
  | nil => rfl
  | cons x l ih => exact ih _
/-- Slots, laid out. -/
noncomputable def layS {α : Type} (l : List (List α)) : (List (List α) → Prop) → Prop :=
  List.rec (motive := fun _ => (List (List α) → Prop) → Prop) (fun k => k []) (fun x _ ih k => layP x fun x => ih fun l => k (x :: l)) l
theorem layS_eq {α : Type} (l : List (List α)) (k : List (List α) → Prop) : layS l k = k l := by
  induction l generalizing k with
  | nil => rfl
  | cons x l ih =>
    show layP x (fun x => layS l fun l => k (x :: l)) = _
    rw [layP_eq, ih]
noncomputable def putP (dst : Option Tmp) (k : Act → Prop) (a : Act) (v : V) : Prop :=
  match dst with
  | some d => match a with
    | ⟨t, s, ds⟩ => match Nat.blt d s with
      | true => layS (t.put d v) fun t => k ⟨t, s, ds⟩
      | false => False
  | none => k a

def actP (k : Act → St → Prop) : Act × St → Prop
  | (a, σ) => k a σ

theorem putP_holds {dst : Option Tmp} {a : Act} {v : V} {σ : St} {k : Act → St → Prop} (h : putP dst (fun a => k a σ) a v) : (putK σ (a.put dst v)).Holds (actP k) := by
  cases dst with
  | none => exact h
  | some d =>
    obtain ⟨t, s, ds⟩ := a
    have h' : match Nat.blt d s with
      | true => layS (t.put d v) fun t => k ⟨t, s, ds⟩ σ
      | false => False := h
    show (putK σ (match Nat.blt d s with
      | true => some ⟨t.put d v, s, ds⟩
      | false => none)).Holds (actP k)
    revert h'
    cases Nat.blt d s with
    | true => intro h; rw [layS_eq] at h; exact h
    | false => exact fun h => h.elim

/-! ### Regions -/
/-- A load that may come ahead of a write: it reads the same there. -/
def backP (b : Nat) (c : Bool) (k : Prop) : Prop :=
  match b with
  | 0 => k
  | _ + 1 => CondP c k False
/-! ### Code: all but loops, scopes and rounds is taken apart -/
/-! ### A function's body -/
def resP (Q : VPost) (σ : St) : Option (List V) → Prop
  | some l => Q (oneOrTuple l) σ
  | none => False
/-! ### What the kernel reckons -/
def checkV (p : V → St → Bool) : Out × St → Bool
  | (.val v, σ) => p v σ
  | _ => false
def checkE (p : Ex → Act → St → Bool) : Out × St → Bool
  | (.exit e a, σ) => p e a σ
  | _ => false
end
end Go.Ev
