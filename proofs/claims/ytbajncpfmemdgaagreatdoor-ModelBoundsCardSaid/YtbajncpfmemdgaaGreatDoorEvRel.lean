/- How the evaluator's values and heap stand to the machine's: a renaming of blocks; what a step may turn. -/
import Derived.Test.YtbajncpfmemdgaaGreatDoorEvRun
import Derived.RangeFuncLeaves
import Derived.Laws.IdiomCopy
import Derived.Laws.Cells
namespace Go.Ev

/-- Where a block lies in the machine: its block, where it begins there, how many cells that block has. -/
structure Loc where
  c : Nat
  o : Nat
  N : Nat
/-- Where blocks lie; and what lies in cells that never turn. -/
structure Ren where
  at' : Nat → Option Loc
  imm : Nat → Nat → Option Value
instance : CoeFun Ren (fun _ => Nat → Option Loc) := ⟨Ren.at'⟩

/-- The values of the machine's of which nothing is known: each of one cell. -/
class Env where
  val : Nat → Value
  one : ∀ i, (val i).oneCell' = true
  int : ∀ i, anyInts ≤ i → ∃ n, val i = .int .i64 n
  /-- Cells of which it is known what lies there, for good. -/
  laid : List (Nat × Nat × Value)

inductive FnRel (ρ : Ren) : Fn → Fn → Prop
  | yield {l : Nat} {k : Loc} (h : ρ l = some k) : FnRel ρ (.yield l) (.yield k.c)
  | same {f : Fn} (h : ∀ l, f ≠ .yield l) : FnRel ρ f f

mutual
inductive VRel [Env] (ρ : Ren) : V → Value → Prop
  | int (k : IntKind) (n : Int) : VRel ρ (.int k n) (.int k n)
  | bool (b : Bool) : VRel ρ (.bool b) (.bool b)
  | str (s : List UInt8) : VRel ρ (.str s) (.string ⟨⟨s⟩⟩)
  | nilptr : VRel ρ .nilptr (.pointer none)
  | ptr {b off : Nat} {l : Loc} (h : ρ b = some l) : VRel ρ (.ptr b off) (.pointer (some ⟨l.c, l.o + off, none⟩))
  | nilslice : VRel ρ .nilslice (.slice none 0 0)
  | slice {b off n cap esz : Nat} {ex : Bool} {l : Loc} {off' cap' : Nat} (h : ρ b = some l) (hex : ex = true → cap' = cap ∧ off' = l.o + off)
      (hin : ex = false → cap ≤ cap' ∧ (off' = l.o + off ∨ (n = 0 ∧ cap = 0))) (hN : off' + cap' * esz ≤ l.N) (hn : n ≤ cap) :
      VRel ρ (.slice b off n cap ex esz) (.slice (some ⟨l.c, off', none⟩) n cap')
  | nilmap : VRel ρ .nilmap (.map none)
  | map {b : Nat} {l : Loc} (h : ρ b = some l) : VRel ρ (.map b) (.map (some l.c))
  | func {f f' : Fn} {x y : List V} {x' y' : List Value} (hf : FnRel ρ f f') (hx : VsRel ρ x x') (hy : VsRel ρ y y') : VRel ρ (.func f x y) (.func f' ⟨x'⟩ ⟨y'⟩)
  | nilfunc : VRel ρ .nilfunc .nilFunc
  | iface {t : TypeId} {v : V} {x : Value} (h : VRel ρ v x) : VRel ρ (.iface t v) (.iface t x)
  | niliface : VRel ρ .niliface .nilIface
  | any (i : Nat) : VRel ρ (.any i) (Env.val i)
  | flt (k : FloatKind) (b : Nat) : VRel ρ (.flt k b) (.float k b)
  | lst {es : List V} {esz c off cap : Nat} {ex : Bool} {xs : List Value} (hu : ∀ v ∈ es, v.cells.length = esz) (hx : VsRel ρ (flatCells es) xs) (hi : ∀ k x, xs[k]? = some x → ρ.imm c (off + k) = some x)
      (hc : es.length ≤ cap) (he : ex = true → cap = es.length) : VRel ρ (.lst es esz ex) (.slice (some ⟨c, off, none⟩) es.length cap)
  | lstnil {esz : Nat} {ex : Bool} : VRel ρ (.lst [] esz ex) (.slice none 0 0)
  | lstzero {esz cap : Nat} {ex : Bool} {a : Addr} (he : ex = true → cap = 0) : VRel ρ (.lst [] esz ex) (.slice (some a) 0 cap)
  | eptr {cs : List V} {off c o : Nat} {xs : List Value} (hx : VsRel ρ cs xs) (hi : ∀ k x, xs[k]? = some x → ρ.imm c (o + k) = some x) : VRel ρ (.eptr cs off) (.pointer (some ⟨c, o + off, none⟩))
  | arr {n : Nat} {f : Nat → V} {esz : Nat} {ex nn : Bool} {x : Value} (hn : nn = true → ∃ a k c, x = .slice (some a) k c) (h : VRel ρ (.lst (arrL n f) esz ex) x) : VRel ρ (.arr n f esz ex nn) x
  | own {b n esz : Nat} {l : Loc} {cap : Nat} (h : ρ b = some l) (hc : n ≤ cap) (hN : l.o + cap * esz ≤ l.N) : VRel ρ (.own b n esz) (.slice (some ⟨l.c, l.o, none⟩) n cap)
  | elt {b i esz off : Nat} {l : Loc} (h : ρ b = some l) : VRel ρ (.elt b i esz off) (.pointer (some ⟨l.c, l.o + (i * esz + off), none⟩))
  | agg {x : List V} {x' : List Value} (h : VsRel ρ x x') : VRel ρ (.agg x) (.agg ⟨x'⟩)
  | tuple {x : List V} {x' : List Value} (h : VsRel ρ x x') : VRel ρ (.tuple x) (.tuple ⟨x'⟩)
inductive VsRel [Env] (ρ : Ren) : List V → List Value → Prop
  | nil : VsRel ρ [] []
  | cons {v : V} {x : Value} {l : List V} {l' : List Value} (h : VRel ρ v x) (hl : VsRel ρ l l') : VsRel ρ (v :: l) (x :: l')
end

structure Ren.le (ρ ρ' : Ren) : Prop where
  ap : ∀ b l, ρ b = some l → ρ' b = some l
  imm : ∀ c o x, ρ.imm c o = some x → ρ'.imm c o = some x
instance {ρ ρ' : Ren} : CoeFun (ρ.le ρ') (fun _ => ∀ b l, ρ b = some l → ρ' b = some l) := ⟨Ren.le.ap⟩
theorem Ren.le.refl (ρ : Ren) : ρ.le ρ := ⟨fun _ _ h => h, fun _ _ _ h => h⟩
theorem Ren.le.trans {a b c : Ren} (h : a.le b) (h' : b.le c) : a.le c := ⟨fun _ _ x => h' _ _ (h _ _ x), fun _ _ _ x => h'.imm _ _ _ (h.imm _ _ _ x)⟩

theorem FnRel.mono {ρ ρ' : Ren} (hρ : ρ.le ρ') {f f' : Fn} (h : FnRel ρ f f') : FnRel ρ' f f' := by
  cases h with
  | yield h => exact .yield (hρ _ _ h)
  | same h => exact .same h

mutual
theorem VRel.mono [Env] {ρ ρ' : Ren} (hρ : ρ.le ρ') : ∀ {v : V} {x : Value}, VRel ρ v x → VRel ρ' v x
  | _, _, .int k n => .int k n
  | _, _, .bool b => .bool b
  | _, _, .str s => .str s
  | _, _, .nilptr => .nilptr
  | _, _, .ptr h => .ptr (hρ _ _ h)
  | _, _, .nilslice => .nilslice
  | _, _, .slice h a b c d => .slice (hρ _ _ h) a b c d
  | _, _, .nilmap => .nilmap
  | _, _, .map h => .map (hρ _ _ h)
  | _, _, .func hf hx hy => .func (hf.mono hρ) (VsRel.mono hρ hx) (VsRel.mono hρ hy)
  | _, _, .nilfunc => .nilfunc
  | _, _, .iface h => .iface (VRel.mono hρ h)
  | _, _, .niliface => .niliface
  | _, _, .any i => .any i
  | _, _, .flt k b => .flt k b
  | _, _, .lst hu hx hi hc he => .lst hu (VsRel.mono hρ hx) (fun k x h => hρ.imm _ _ _ (hi k x h)) hc he
  | _, _, .lstnil => .lstnil
  | _, _, .lstzero he => .lstzero he
  | _, _, .arr hn h => .arr hn (VRel.mono hρ h)
  | _, _, .own h a b => .own (hρ _ _ h) a b
  | _, _, .elt h => .elt (hρ _ _ h)
  | _, _, .eptr hx hi => .eptr (VsRel.mono hρ hx) (fun k x h => hρ.imm _ _ _ (hi k x h))
  | _, _, .agg h => .agg (VsRel.mono hρ h)
  | _, _, .tuple h => .tuple (VsRel.mono hρ h)
theorem VsRel.mono [Env] {ρ ρ' : Ren} (hρ : ρ.le ρ') : ∀ {l : List V} {l' : List Value}, VsRel ρ l l' → VsRel ρ' l l'
  | _, _, .nil => .nil
  | _, _, .cons h hl => .cons (VRel.mono hρ h) (VsRel.mono hρ hl)
end

/-! ### Lists of values -/
section
variable {ρ : Ren}
theorem VsRel.length [Env] {l : List V} {l' : List Value} : VsRel ρ l l' → l.length = l'.length
  | .nil => rfl
  | .cons _ hl => congrArg (· + 1) hl.length
theorem VsRel.get [Env] {l : List V} {l' : List Value} (h : VsRel ρ l l') (i : Nat) {v : V} (hv : l[i]? = some v) : ∃ x, l'[i]? = some x ∧ VRel ρ v x := by
  induction i generalizing l l' with
  | zero =>
    cases h with
    | nil => simp at hv
    | cons h hl => simp at hv; subst hv; exact ⟨_, rfl, h⟩
  | succ i ih =>
    cases h with
    | nil => simp at hv
    | cons h hl => exact ih hl (by simpa using hv)
theorem VsRel.append [Env] {a b : List V} {a' b' : List Value} (h : VsRel ρ a a') (k : VsRel ρ b b') : VsRel ρ (a ++ b) (a' ++ b') := by
  induction a generalizing a' with
  | nil => cases h; exact k
  | cons v a ih => cases h with | cons h hl => exact .cons h (ih hl)
theorem VsRel.take [Env] {a : List V} {a' : List Value} (h : VsRel ρ a a') (n : Nat) : VsRel ρ (a.take n) (a'.take n) := by
  induction n generalizing a a' with
  | zero => simpa using VsRel.nil
  | succ n ih =>
    cases h with
    | nil => exact .nil
    | cons h hl => exact .cons h (ih hl)
theorem VsRel.drop [Env] {a : List V} {a' : List Value} (h : VsRel ρ a a') (n : Nat) : VsRel ρ (a.drop n) (a'.drop n) := by
  induction n generalizing a a' with
  | zero => simpa using h
  | succ n ih =>
    cases h with
    | nil => exact .nil
    | cons h hl => exact ih hl
theorem VsRel.of_get [Env] {l : List V} {l' : List Value} (hn : l.length = l'.length) (h : ∀ (i : Nat) (v : V) (x : Value), l[i]? = some v → l'[i]? = some x → VRel ρ v x) : VsRel ρ l l' := by
  induction l generalizing l' with
  | nil => cases l' with
    | nil => exact .nil
    | cons a l' => simp at hn
  | cons v l ih => cases l' with
    | nil => simp at hn
    | cons x l' => exact .cons (h 0 v x rfl rfl) (ih (by simpa using hn) fun i v x hv hx => h (i + 1) v x (by simpa using hv) (by simpa using hx))

/-- A slice whose elements never turn is a slice there. -/
theorem VRel.lst_slice [Env] {ρ : Ren} {v : V} {x : Value} (h : VRel ρ v x) {es : List V} {esz : Nat} {ex : Bool} (hv : v = .lst es esz ex) : ∃ a n cap, x = .slice a n cap := by
  cases h <;> first
    | exact ⟨_, _, _, rfl⟩
    | cases hv
theorem VRel.lst_len [Env] {ρ : Ren} {v : V} {x : Value} (h : VRel ρ v x) {es : List V} {esz : Nat} {ex : Bool} (hv : v = .lst es esz ex) : ∃ a cap, x = .slice a es.length cap := by
  cases h <;> first
    | (cases hv; exact ⟨_, _, rfl⟩)
    | cases hv
theorem VRel.cells [Env] {v : V} {x : Value} (h : VRel ρ v x) : VsRel ρ v.cells x.cells.toList := by
  cases h with
  | agg h => exact h
  | int k n => exact .cons (.int k n) .nil
  | flt k b => exact .cons (.flt k b) .nil
  | bool b => exact .cons (.bool b) .nil
  | str s => exact .cons (.str s) .nil
  | nilptr => exact .cons .nilptr .nil
  | ptr h => exact .cons (.ptr h) .nil
  | nilslice => exact .cons .nilslice .nil
  | slice h a b c d => exact .cons (.slice h a b c d) .nil
  | nilmap => exact .cons .nilmap .nil
  | map h => exact .cons (.map h) .nil
  | func a b c => exact .cons (.func a b c) .nil
  | nilfunc => exact .cons .nilfunc .nil
  | iface h => exact .cons (.iface h) .nil
  | niliface => exact .cons .niliface .nil
  | any i =>
    have h := Env.one i
    have e : (Env.val i).cells.toList = [Env.val i] := by
      generalize Env.val i = x at h ⊢
      cases x <;> first | rfl | cases h
    rw [e]
    exact .cons (.any i) .nil
  | tuple h => exact .cons (.tuple h) .nil
  | lst hu hx hi hc he => exact .cons (.lst hu hx hi hc he) .nil
  | lstnil => exact .cons .lstnil .nil
  | lstzero he => exact .cons (.lstzero he) .nil
  | eptr hx hi => exact .cons (.eptr hx hi) .nil
  | own h a b => exact .cons (.own h a b) .nil
  | elt h => exact .cons (.elt h) .nil
  | arr hn h =>
    obtain ⟨a, n, cap, rfl⟩ := h.lst_slice rfl
    exact .cons (.arr hn h) .nil

theorem VRel.oneCell [Env] {v : V} {x : Value} (h : VRel ρ v x) (hs : v.scalar = true) : x.oneCell' = true := by
  cases h <;> first
    | rfl
    | exact Env.one _
    | (rename_i h; obtain ⟨a, n, cap, rfl⟩ := h.lst_slice rfl; rfl)
    | simp [V.scalar] at hs

theorem VsRel.oneCell [Env] {l : List V} {l' : List Value} (h : VsRel ρ l l') (hs : l.all V.scalar = true) : ∀ x ∈ l', x.oneCell' = true := by
  induction l generalizing l' with
  | nil => cases h; intro x hx; simp at hx
  | cons v l ih =>
    cases h with
    | cons h hl =>
      simp only [List.all_cons, Bool.and_eq_true] at hs
      intro x hx
      rcases List.mem_cons.1 hx with rfl | hx
      · exact h.oneCell hs.1
      · exact ih hl hs.2 x hx
end

mutual
theorem ofValue_rel [Env] (ρ : Ren) : ∀ (x : Value) {v : V}, V.ofValue x = some v → VRel ρ v x
  | .int k n, v, h => by simp only [V.ofValue, Option.some.injEq] at h; subst h; exact .int k n
  | .bool b, v, h => by simp only [V.ofValue, Option.some.injEq] at h; subst h; exact .bool b
  | .string s, v, h => by
    simp only [V.ofValue, Option.some.injEq] at h; subst h
    exact .str s.data.toList
  | .pointer none, v, h => by simp only [V.ofValue, Option.some.injEq] at h; subst h; exact .nilptr
  | .pointer (some _), v, h => by simp [V.ofValue] at h
  | .slice none 0 0, v, h => by simp only [V.ofValue, Option.some.injEq] at h; subst h; exact .nilslice
  | .slice none (_ + 1) _, v, h => by simp [V.ofValue] at h
  | .slice none 0 (_ + 1), v, h => by simp [V.ofValue] at h
  | .slice (some _) _ _, v, h => by simp [V.ofValue] at h
  | .map none, v, h => by simp only [V.ofValue, Option.some.injEq] at h; subst h; exact .nilmap
  | .map (some _), v, h => by simp [V.ofValue] at h
  | .nilFunc, v, h => by simp only [V.ofValue, Option.some.injEq] at h; subst h; exact .nilfunc
  | .nilIface, v, h => by simp only [V.ofValue, Option.some.injEq] at h; subst h; exact .niliface
  | .iface t x, v, h => by
    simp only [V.ofValue, Option.map_eq_some_iff] at h
    obtain ⟨y, hy, rfl⟩ := h
    exact .iface (ofValue_rel ρ x hy)
  | .agg ⟨cs⟩, v, h => by
    simp only [V.ofValue, Option.map_eq_some_iff] at h
    obtain ⟨y, hy, rfl⟩ := h
    exact .agg (ofValues_rel ρ cs hy)
  | .tuple ⟨cs⟩, v, h => by
    simp only [V.ofValue, Option.map_eq_some_iff] at h
    obtain ⟨y, hy, rfl⟩ := h
    exact .tuple (ofValues_rel ρ cs hy)
  | .float k b, v, h => by simp only [V.ofValue, Option.some.injEq] at h; subst h; exact .flt k b
  | .complex _ _ _, v, h => by simp [V.ofValue] at h
  | .chan _, v, h => by simp [V.ofValue] at h
  | .func _ _ _, v, h => by simp [V.ofValue] at h
theorem ofValues_rel [Env] (ρ : Ren) : ∀ (l : List Value) {vs : List V}, V.ofValues l = some vs → VsRel ρ vs l
  | [], vs, h => by simp only [V.ofValues, Option.some.injEq] at h; subst h; exact .nil
  | x :: l, vs, h => by
    simp only [V.ofValues] at h
    cases hv : V.ofValue x with
    | none => simp [hv] at h
    | some v =>
      cases hl : V.ofValues l with
      | none => simp [hv, hl] at h
      | some r =>
        simp only [hv, hl, Option.some.injEq] at h
        subst h
        exact .cons (ofValue_rel ρ x hv) (ofValues_rel ρ l hl)
end

/-! ### Frames -/
def SlotsRel [Env] (ρ : Ren) (t : Slots V) (a : Array Value) : Prop := ∀ i v, t.get i = some v → ∃ x, a[i]? = some x ∧ VRel ρ v x

inductive DefRel [Env] (ρ : Ren) : Option (Fn × List V) × Nat × List V → Deferred → Prop
  | mark {d : Nat} {l : Loc} (h : ρ d = some l) : DefRel ρ (none, d, []) { target := .collected l.c, args := #[] }
  | call {f f' : Fn} {x y : List V} {x' y' : List Value} (n : Nat) (hf : FnRel ρ f f') (hx : VsRel ρ x x') (hy : VsRel ρ y y') :
      DefRel ρ (some (f, x), n, y) { target := .fn f' ⟨x'⟩, args := ⟨y'⟩ }
inductive DefsRel [Env] (ρ : Ren) : List (Option (Fn × List V) × Nat × List V) → List Deferred → Prop
  | nil : DefsRel ρ [] []
  | cons {d : Option (Fn × List V) × Nat × List V} {e : Deferred} {l : List (Option (Fn × List V) × Nat × List V)} {l' : List Deferred} (h : DefRel ρ d e) (hl : DefsRel ρ l l') : DefsRel ρ (d :: l) (e :: l')

structure ActRel [Env] (ρ : Ren) (a : Act) (a' : Go.Act) : Prop where
  tmps : SlotsRel ρ a.tmps a'.tmps
  size : a.size = a'.tmps.size
  defers : DefsRel ρ a.defers a'.defers

theorem SlotsRel.mono [Env] {ρ ρ' : Ren} (hρ : ρ.le ρ') {t : Slots V} {a : Array Value} (h : SlotsRel ρ t a) : SlotsRel ρ' t a :=
  fun i v hv => let ⟨x, hx, hr⟩ := h i v hv; ⟨x, hx, hr.mono hρ⟩
theorem DefRel.mono [Env] {ρ ρ' : Ren} (hρ : ρ.le ρ') {d : Option (Fn × List V) × Nat × List V} {e : Deferred} (h : DefRel ρ d e) : DefRel ρ' d e := by
  cases h with
  | mark h => exact .mark (hρ _ _ h)
  | call n hf hx hy => exact .call n (hf.mono hρ) (hx.mono hρ) (hy.mono hρ)
theorem DefsRel.mono [Env] {ρ ρ' : Ren} (hρ : ρ.le ρ') {d : List (Option (Fn × List V) × Nat × List V)} {e : List Deferred} (h : DefsRel ρ d e) : DefsRel ρ' d e := by
  induction d generalizing e with
  | nil => cases h; exact .nil
  | cons a d ih => cases h with | cons h hl => exact .cons (h.mono hρ) (ih hl)
theorem ActRel.mono [Env] {ρ ρ' : Ren} (hρ : ρ.le ρ') {a : Act} {a' : Go.Act} (h : ActRel ρ a a') : ActRel ρ' a a' :=
  ⟨h.tmps.mono hρ, h.size, h.defers.mono hρ⟩

theorem SlotsRel.put [Env] {ρ : Ren} {t : Slots V} {a : Array Value} (h : SlotsRel ρ t a) {d : Nat} (hd : d < a.size) {v : V} {x : Value} (hv : VRel ρ v x) :
    SlotsRel ρ (t.put d v) (a.setIfInBounds d x) := by
  intro i u hu
  rw [Slots.get_put] at hu
  by_cases hi : i = d
  · subst hi
    rw [if_pos rfl] at hu
    cases hu
    exact ⟨x, by simp [hd], hv⟩
  · rw [if_neg hi] at hu
    obtain ⟨y, hy, hr⟩ := h i u hu
    exact ⟨y, by rw [Array.getElem?_setIfInBounds_ne (by omega)]; exact hy, hr⟩

theorem ActRel.put [Env] {ρ : Ren} {a a₁ : Act} {a' : Go.Act} (h : ActRel ρ a a') {dst : Option Tmp} {v : V} {x : Value} (hv : VRel ρ v x) (hp : a.put dst v = some a₁) :
    ActRel ρ a₁ (a'.put dst x) := by
  cases dst with
  | none =>
    simp only [Act.put, Option.some.injEq] at hp
    subst hp; exact h
  | some d =>
    obtain ⟨t, s, ds⟩ := a
    simp only [Act.put] at hp
    cases hb : Nat.blt d s with
    | false => simp [hb] at hp
    | true =>
      simp only [hb, Option.some.injEq] at hp
      subst hp
      have hs : s = a'.tmps.size := h.size
      have hlt : d < a'.tmps.size := by rw [← hs]; rw [Nat.blt_eq] at hb; exact hb
      exact ⟨h.tmps.put hlt hv, by simp [Go.Act.put, hs], h.defers⟩

theorem ActRel.eval [Env] {ρ : Ren} {a : Act} {a' : Go.Act} (h : ActRel ρ a a') (x : Operand) {v : V} (hv : a.eval x = some v) : VRel ρ v (a'.eval x) := by
  cases x with
  | tmp t =>
    obtain ⟨y, hy, hr⟩ := h.tmps t v hv
    simpa [Go.Act.eval, hy] using hr
  | const c => exact ofValue_rel ρ c hv
  | global g => simp [Act.eval] at hv
  | func f =>
    simp only [Act.eval, Option.some.injEq] at hv
    subst hv
    exact .func (.same (by simp)) .nil .nil

theorem consO_some {α : Type} {x : Option α} {l : Option (List α)} {r : List α} (h : consO x l = some r) : ∃ v t, x = some v ∧ l = some t ∧ r = v :: t := by
  cases x with
  | none => simp [consO] at h
  | some v => cases l with
    | none => simp [consO] at h
    | some t => simp only [consO, Option.some.injEq] at h; exact ⟨v, t, rfl, rfl, h.symm⟩

theorem ActRel.evals [Env] {ρ : Ren} {a : Act} {a' : Go.Act} (h : ActRel ρ a a') (l : List Operand) {vs : List V} (hv : a.evals l = some vs) : VsRel ρ vs (l.map a'.eval) := by
  induction l generalizing vs with
  | nil => cases hv; exact .nil
  | cons x l ih =>
    obtain ⟨v, t, h1, h2, rfl⟩ := consO_some (x := a.eval x) (l := a.evals l) hv
    exact .cons (h.eval x h1) (ih h2)

/-! ### Heaps -/
structure EntRel [Env] (ρ : Ren) (e : V × V × Nat) (e' : MapEntry) : Prop where
  key : VRel ρ e.1 e'.key
  val : VRel ρ e.2.1 e'.val
  born : e.2.2 = e'.born
inductive EntsRel [Env] (ρ : Ren) : List (V × V × Nat) → List MapEntry → Prop
  | nil : EntsRel ρ [] []
  | cons {e : V × V × Nat} {e' : MapEntry} {l : List (V × V × Nat)} {l' : List MapEntry} (h : EntRel ρ e e') (hl : EntsRel ρ l l') : EntsRel ρ (e :: l) (e' :: l')
theorem EntsRel.mono [Env] {ρ ρ' : Ren} (hρ : ρ.le ρ') {l : List (V × V × Nat)} {l' : List MapEntry} (h : EntsRel ρ l l') : EntsRel ρ' l l' := by
  induction l generalizing l' with
  | nil => cases h; exact .nil
  | cons a d ih => cases h with | cons h hl => exact .cons ⟨h.key.mono hρ, h.val.mono hρ, h.born⟩ (ih hl)

inductive OptRel (ρ : Ren) : Option Nat → Option Nat → Prop
  | none : OptRel ρ none none
  | some {m : Nat} {l : Loc} (h : ρ m = some l) : OptRel ρ (some m) (some l.c)

/-- What the machine has where a block lies. -/
inductive BlkOk [Env] (ρ : Ren) (w : World) (l : Loc) : Blk → Prop
  | cells {n : Nat} {z : List V} {t : Trie V} {p ro : Bool} (hs : ∃ ty, w.shape? l.c = some (ty, l.N)) (hn : l.o + n ≤ l.N)
      (hv : ∀ i v, cellOf n z t i = some v → ∃ x, w.cell? ⟨l.c, l.o + i, none⟩ = some x ∧ VRel ρ v x)
      (hf : ro = false → ∀ i, i < l.N → w.frozen? ⟨l.c, i, none⟩ = false) (hp : p = true → ∀ i, w.frozen? ⟨l.c, i, none⟩ = false) : BlkOk ρ w l (.cells n z t p ro)
  | row {n : Nat} {f : Nat → V} {esz : Nat} {p : Bool} (hs : ∃ ty, w.shape? l.c = some (ty, l.N)) (hn : l.o + n * esz ≤ l.N) (hu : ∀ i, i < n → (f i).cells.length = esz)
      (hv : ∀ i, i < n → ∀ k v, (f i).cells[k]? = some v → ∃ x, w.cell? ⟨l.c, l.o + (i * esz + k), none⟩ = some x ∧ VRel ρ v x)
      (hf : ∀ i, i < l.N → w.frozen? ⟨l.c, i, none⟩ = false) (hp : p = true → ∀ i, w.frozen? ⟨l.c, i, none⟩ = false) : BlkOk ρ w l (.row n f esz p)
  | map {es : List (V × V × Nat)} {clock : Nat} {es' : Array MapEntry} (h : w.heap[l.c]? = some (.map es' clock)) (he : EntsRel ρ es es'.toList) : BlkOk ρ w l (.map es clock)
  | iter {m m' : Option Nat} {since last : Nat} {seen : List Nat} (h : w.heap[l.c]? = some (.mapIter m' since ⟨seen⟩ last)) (ho : l.o = 0) (hm : OptRel ρ m m') : BlkOk ρ w l (.iter m since seen last)
  | loop {st : LoopState} {pend : Option Code} {fn fn' : FuncId} {t : Slots V} {t' : Array Value} {size d : Nat} {ps : List Tmp} {as bo : Code} {ld : Loc}
      (h : w.heap[l.c]? = some (.loop { state := st, pending := pend, fn := fn', tmps := t', params := ⟨ps⟩, assign := as, body := bo, defers := ld.c }))
      (ht : SlotsRel ρ t t') (hs : size = t'.size) (hd : ρ d = some ld) : BlkOk ρ w l (.loop st pend fn t size ps as bo d)
  | deferred (h : w.heap[l.c]? = some (.deferred (some []))) : BlkOk ρ w l .deferred

def Blk.writable (_ : Blk) : Bool := true

/-- The machine's blocks that may be written. -/
def Wr (ρ : Ren) (σ : St) (c : Nat) : Prop := ∃ b k l, σ.heap.get b = some k ∧ k.writable = true ∧ ρ b = some l ∧ l.c = c

structure R [Env] (ρ : Ren) (σ : St) (w : World) : Prop where
  blk : ∀ b k, σ.heap.get b = some k → ∃ l, ρ b = some l ∧ BlkOk ρ w l k
  inj : ∀ b b' k k' l l', σ.heap.get b = some k → σ.heap.get b' = some k' → ρ b = some l → ρ b' = some l' → l.c = l'.c → b = b'
  fresh : ∀ b, σ.next ≤ b → ρ b = none
  valid : ∀ b l, ρ b = some l → l.c < w.heap.size
  imm : ∀ c o x, ρ.imm c o = some x → w.cell? ⟨c, o, none⟩ = some x ∧ ¬ Wr ρ σ c
  laid : ∀ q ∈ Env.laid, ρ.imm q.1 q.2.1 = some q.2.2
theorem R.laid_le [Env] {ρ ρ' : Ren} {σ : St} {w : World} (h : R ρ σ w) (hle : ρ.le ρ') : ∀ q ∈ Env.laid, ρ'.imm q.1 q.2.1 = some q.2.2 := fun q hq => hle.imm _ _ _ (h.laid q hq)

/-- From one state to a later one. 'ids': the numbers that may have become known beside the new ones. -/
structure Stp [Env] (ids : Nat → Prop) (ρ : Ren) (σ : St) (w : World) (ρ' : Ren) (σ' : St) (w' : World) : Prop where
  r : R ρ' σ' w'
  le : ρ.le ρ'
  next : σ.next ≤ σ'.next
  dom : ∀ b l, ρ' b = some l → ρ b = some l ∨ σ.next ≤ b ∨ ids b
  size : w.heap.size ≤ w'.heap.size
  os : w'.os = w.os
  tape : w'.tape = w.tape
  output : w'.output = w.output
  keep : ∀ c, c < w.heap.size → ¬ Wr ρ σ c → w'.heap[c]? = w.heap[c]?
  wr : ∀ c, c < w.heap.size → Wr ρ' σ' c → Wr ρ σ c
  hdom : ∀ b k, σ'.heap.get b = some k → (∃ k', σ.heap.get b = some k') ∨ σ.next ≤ b ∨ ids b
  idom : ∀ c o x, ρ'.imm c o = some x → ρ.imm c o = some x ∨ w.heap.size ≤ c ∨ Wr ρ σ c

theorem Stp.refl [Env] {ids : Nat → Prop} {ρ : Ren} {σ : St} {w : World} (h : R ρ σ w) : Stp ids ρ σ w ρ σ w :=
  ⟨h, Ren.le.refl ρ, Nat.le_refl _, fun _ _ h => .inl h, Nat.le_refl _, rfl, rfl, rfl, fun _ _ _ => rfl, fun _ _ h => h, fun _ k h => .inl ⟨k, h⟩, fun _ _ _ h => .inl h⟩

theorem Stp.trans [Env] {ids : Nat → Prop} {ρ ρ₁ ρ₂ : Ren} {σ σ₁ σ₂ : St} {w w₁ w₂ : World} (h : Stp ids ρ σ w ρ₁ σ₁ w₁) (k : Stp ids ρ₁ σ₁ w₁ ρ₂ σ₂ w₂) : Stp ids ρ σ w ρ₂ σ₂ w₂ :=
  ⟨k.r, h.le.trans k.le, Nat.le_trans h.next k.next,
   fun b l hb => by
     rcases k.dom b l hb with h1 | h1 | h1
     · exact h.dom b l h1
     · exact .inr (.inl (Nat.le_trans h.next h1))
     · exact .inr (.inr h1),
   Nat.le_trans h.size k.size, k.os.trans h.os, k.tape.trans h.tape, k.output.trans h.output,
   fun c hc hn => (k.keep c (Nat.lt_of_lt_of_le hc h.size) fun hw => hn (h.wr c hc hw)).trans (h.keep c hc hn),
   fun c hc hw => h.wr c hc (k.wr c (Nat.lt_of_lt_of_le hc h.size) hw),
   fun b q hb => by
     rcases k.hdom b q hb with ⟨q', h1⟩ | h1 | h1
     · exact h.hdom b q' h1
     · exact .inr (.inl (Nat.le_trans h.next h1))
     · exact .inr (.inr h1),
   fun c o x hx => by
     rcases k.idom c o x hx with h1 | h1 | h1
     · exact h.idom c o x h1
     · exact .inr (.inl (Nat.le_trans h.size h1))
     · by_cases hc : c < w.heap.size
       · exact .inr (.inr (h.wr c hc h1))
       · exact .inr (.inl (Nat.le_of_not_lt hc))⟩

theorem Stp.weaken [Env] {ids ids' : Nat → Prop} {ρ ρ' : Ren} {σ σ' : St} {w w' : World} (h : Stp ids ρ σ w ρ' σ' w') (hi : ∀ b, ids b → ids' b) : Stp ids' ρ σ w ρ' σ' w' :=
  { h with dom := fun b l hb => (h.dom b l hb).imp id (Or.imp id (hi b)), hdom := fun b k hb => (h.hdom b k hb).imp id (Or.imp id (hi b)) }

end Go.Ev
