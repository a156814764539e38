/- Sorting rows by a number, in plain Lean: what swaps, turns of three parts and merges come to. -/
namespace Go.Ev.Sorts

variable {α : Type}

/-- g is f outside [a, b), and has there what f has there, and nothing else. -/
structure Mix (a b : Nat) (f g : Nat → α) : Prop where
  out : ∀ k, k < a ∨ b ≤ k → g k = f k
  from_ : ∀ k, a ≤ k → k < b → ∃ j, a ≤ j ∧ j < b ∧ g k = f j
  to_ : ∀ k, a ≤ k → k < b → ∃ j, a ≤ j ∧ j < b ∧ g j = f k

theorem Mix.refl (a b : Nat) (f : Nat → α) : Mix a b f f := ⟨fun _ _ => rfl, fun k h1 h2 => ⟨k, h1, h2, rfl⟩, fun k h1 h2 => ⟨k, h1, h2, rfl⟩⟩
theorem Mix.trans {a b : Nat} {f g h : Nat → α} (x : Mix a b f g) (y : Mix a b g h) : Mix a b f h := by
  refine ⟨fun k hk => (y.out k hk).trans (x.out k hk), fun k h1 h2 => ?_, fun k h1 h2 => ?_⟩
  · obtain ⟨j, j1, j2, e⟩ := y.from_ k h1 h2
    obtain ⟨i, i1, i2, e'⟩ := x.from_ j j1 j2
    exact ⟨i, i1, i2, e.trans e'⟩
  · obtain ⟨j, j1, j2, e⟩ := x.to_ k h1 h2
    obtain ⟨i, i1, i2, e'⟩ := y.to_ j j1 j2
    exact ⟨i, i1, i2, e'.trans e⟩
theorem Mix.mono {a b a' b' : Nat} {f g : Nat → α} (x : Mix a b f g) (ha : a' ≤ a) (hb : b ≤ b') : Mix a' b' f g := by
  refine ⟨fun k hk => x.out k (by omega), fun k h1 h2 => ?_, fun k h1 h2 => ?_⟩
  · by_cases h : a ≤ k ∧ k < b
    · obtain ⟨j, j1, j2, e⟩ := x.from_ k h.1 h.2
      exact ⟨j, by omega, by omega, e⟩
    · exact ⟨k, h1, h2, x.out k (by omega)⟩
  · by_cases h : a ≤ k ∧ k < b
    · obtain ⟨j, j1, j2, e⟩ := x.to_ k h.1 h.2
      exact ⟨j, by omega, by omega, e⟩
    · exact ⟨k, h1, h2, x.out k (by omega)⟩

def swap (f : Nat → α) (i j : Nat) : Nat → α := fun k => if k = i then f j else if k = j then f i else f k
theorem swap_mix {a b i j : Nat} (f : Nat → α) (i1 : a ≤ i) (i2 : i < b) (j1 : a ≤ j) (j2 : j < b) : Mix a b f (swap f i j) := by
  refine ⟨fun k hk => ?_, fun k h1 h2 => ?_, fun k h1 h2 => ?_⟩
  · unfold swap; rw [if_neg (by omega), if_neg (by omega)]
  · unfold swap
    by_cases e : k = i
    · exact ⟨j, j1, j2, by rw [if_pos e]⟩
    · by_cases e' : k = j
      · exact ⟨i, i1, i2, by rw [if_neg e, if_pos e']⟩
      · exact ⟨k, h1, h2, by rw [if_neg e, if_neg e']⟩
  · unfold swap
    by_cases e : k = i
    · subst e
      by_cases e' : j = k
      · exact ⟨j, j1, j2, by subst e'; rw [if_pos rfl]⟩
      · exact ⟨j, j1, j2, by rw [if_neg e', if_pos rfl]⟩
    · by_cases e' : k = j
      · exact ⟨i, i1, i2, by rw [if_pos rfl, e']⟩
      · exact ⟨k, h1, h2, by rw [if_neg e, if_neg e']⟩

variable (key : α → Int)
def Sorted (a b : Nat) (f : Nat → α) : Prop := ∀ i j, a ≤ i → i < j → j < b → key (f i) ≤ key (f j)
variable {key}
theorem Sorted.sub {a b a' b' : Nat} {f : Nat → α} (h : Sorted key a b f) (ha : a ≤ a') (hb : b' ≤ b) : Sorted key a' b' f := fun i j h1 h2 h3 => h i j (by omega) h2 (by omega)
theorem Sorted.congr {a b : Nat} {f g : Nat → α} (h : Sorted key a b f) (he : ∀ k, a ≤ k → k < b → g k = f k) : Sorted key a b g := fun i j h1 h2 h3 => by
  rw [he i h1 (by omega), he j (by omega) h3]; exact h i j h1 h2 h3
theorem Sorted.one {a b : Nat} (f : Nat → α) (h : b ≤ a + 1) : Sorted key a b f := fun i j h1 h2 h3 => by omega
theorem Sorted.le {a b : Nat} {f : Nat → α} (h : Sorted key a b f) {i j : Nat} (h1 : a ≤ i) (h2 : i ≤ j) (h3 : j < b) : key (f i) ≤ key (f j) := by
  by_cases e : i = j
  · subst e; exact Int.le_refl _
  · exact h i j h1 (by omega) h3

/-- Two sorted parts, all of the one not above all of the other. -/
theorem Sorted.join {a m b : Nat} {f : Nat → α} (h1 : Sorted key a m f) (h2 : Sorted key m b f) (h : ∀ i j, a ≤ i → i < m → m ≤ j → j < b → key (f i) ≤ key (f j)) : Sorted key a b f := fun i j i1 ij jb => by
  by_cases e : j < m
  · exact h1 i j i1 ij e
  · by_cases e' : i < m
    · exact h i j i1 e' (by omega) jb
    · exact h2 i j (by omega) ij jb

/-- The state of an insertion: all but the one at j is sorted, and that one is not above those behind it. -/
structure Ins (key : α → Int) (a j b : Nat) (f : Nat → α) : Prop where
  but : ∀ i k, a ≤ i → i < k → k < b → i ≠ j → k ≠ j → key (f i) ≤ key (f k)
  up : ∀ k, j < k → k < b → key (f j) ≤ key (f k)
theorem Ins.start {a b : Nat} {f : Nat → α} (h : Sorted key a b f) : Ins key a b (b + 1) f :=
  ⟨fun i k i1 ik kb hi hk => h i k i1 ik (by omega), fun k h1 h2 => by omega⟩
theorem Ins.step {a j b : Nat} {f : Nat → α} (h : Ins key a j b f) (ja : a < j) (jb : j < b) (hlt : key (f j) < key (f (j - 1))) : Ins key a (j - 1) b (swap f j (j - 1)) := by
  have ej : swap f j (j - 1) j = f (j - 1) := by unfold swap; rw [if_pos rfl]
  have ep : swap f j (j - 1) (j - 1) = f j := by unfold swap; rw [if_neg (by omega), if_pos rfl]
  have eo : ∀ k, k ≠ j → k ≠ j - 1 → swap f j (j - 1) k = f k := fun k h1 h2 => by unfold swap; rw [if_neg h1, if_neg h2]
  refine ⟨fun i k i1 ik kb hi hk => ?_, fun k h1 h2 => ?_⟩
  · by_cases e : i = j
    · subst e
      rw [ej, eo k (by omega) hk]
      exact h.but (i - 1) k (by omega) (by omega) kb (by omega) (by omega)
    · by_cases e' : k = j
      · subst e'
        rw [ej, eo i e hi]
        exact h.but i (k - 1) i1 (by omega) (by omega) e (by omega)
      · rw [eo i e hi, eo k e' hk]
        exact h.but i k i1 ik kb e e'
  · rw [ep]
    by_cases e : k = j
    · subst e; rw [ej]; omega
    · rw [eo k e (by omega)]
      exact h.up k (by omega) h2
theorem Ins.done {a j b : Nat} {f : Nat → α} (h : Ins key a j b f) (hj : j ≤ a ∨ key (f (j - 1)) ≤ key (f j)) : Sorted key a b f := fun i k i1 ik kb => by
  by_cases e : i = j
  · subst e; exact h.up k ik kb
  · by_cases e' : k = j
    · subst e'
      rcases hj with hj | hj
      · omega
      · by_cases e2 : i = k - 1
        · subst e2; exact hj
        · exact Int.le_trans (h.but i (k - 1) i1 (by omega) (by omega) e (by omega)) hj
    · exact h.but i k i1 ik kb e e'

/-- Three parts, the middle two of which have changed places. -/
structure Turned (a m b : Nat) (f g : Nat → α) : Prop where
  out : ∀ k, k < a ∨ b ≤ k → g k = f k
  left : ∀ i, i < b - m → g (a + i) = f (m + i)
  right : ∀ i, i < m - a → g (a + (b - m) + i) = f (a + i)
theorem Turned.mix {a m b : Nat} {f g : Nat → α} (h : Turned a m b f g) (h1 : a ≤ m) (h2 : m ≤ b) : Mix a b f g := by
  refine ⟨h.out, fun k k1 k2 => ?_, fun k k1 k2 => ?_⟩
  · by_cases e : k < a + (b - m)
    · refine ⟨m + (k - a), by omega, by omega, ?_⟩
      rw [← h.left (k - a) (by omega)]; congr 1; omega
    · refine ⟨a + (k - (a + (b - m))), by omega, by omega, ?_⟩
      rw [← h.right (k - (a + (b - m))) (by omega)]; congr 1; omega
  · by_cases e : k < m
    · refine ⟨a + (b - m) + (k - a), by omega, by omega, ?_⟩
      rw [h.right (k - a) (by omega)]; congr 1; omega
    · refine ⟨a + (k - m), by omega, by omega, ?_⟩
      rw [h.left (k - m) (by omega)]; congr 1; omega

/-- Where a search in a merge ends. -/
structure Cut (key : α → Int) (a m b start end_ : Nat) (f : Nat → α) : Prop where
  sa : a ≤ start
  sm : start ≤ m
  me : m ≤ end_
  eb : end_ ≤ b
  low : a < start → end_ < b → key (f (start - 1)) ≤ key (f end_)
  high : start < m → m < end_ → key (f (end_ - 1)) < key (f start)

/-- A merge's middle: behind the turn the two halves are apart, each of two sorted parts. -/
theorem Cut.halves {a m b start end_ : Nat} {f g : Nat → α} (h : Cut key a m b start end_ f) (s1 : Sorted key a m f) (s2 : Sorted key m b f) (ht : Turned start m end_ f g) :
    Mix a b f g ∧ Sorted key a start g ∧ Sorted key start (start + (end_ - m)) g ∧ Sorted key (start + (end_ - m)) end_ g ∧ Sorted key end_ b g ∧
      ∀ i j, a ≤ i → i < start + (end_ - m) → start + (end_ - m) ≤ j → j < b → key (g i) ≤ key (g j) := by
  have h1 := h.sa; have h2 := h.sm; have h3 := h.me; have h4 := h.eb
  have gl : ∀ k, start ≤ k → k < start + (end_ - m) → g k = f (m + (k - start)) := fun k k1 k2 => by
    rw [← ht.left (k - start) (by omega)]; congr 1; omega
  have gr : ∀ k, start + (end_ - m) ≤ k → k < end_ → g k = f (start + (k - (start + (end_ - m)))) := fun k k1 k2 => by
    rw [← ht.right (k - (start + (end_ - m))) (by omega)]; congr 1; omega
  refine ⟨(ht.mix h2 h3).mono h1 h4, ?_, ?_, ?_, ?_, ?_⟩
  · exact (s1.sub (Nat.le_refl _) h2).congr fun k k1 k2 => ht.out k (by omega)
  · intro i j i1 ij jb
    rw [gl i i1 (by omega), gl j (by omega) jb]
    exact s2 _ _ (by omega) (by omega) (by omega)
  · intro i j i1 ij jb
    rw [gr i i1 (by omega), gr j (by omega) jb]
    exact s1 _ _ (by omega) (by omega) (by omega)
  · exact (s2.sub h3 (Nat.le_refl _)).congr fun k k1 k2 => ht.out k (by omega)
  · intro i j i1 i2 j1 j2
    by_cases ei : i < start
    · have e1 : g i = f i := ht.out i (by omega)
      by_cases ej : j < end_
      · rw [e1, gr j j1 ej]
        exact s1.le (by omega) (by omega) (by omega)
      · rw [e1, ht.out j (by omega)]
        exact Int.le_trans (s1.le (i := i) (j := start - 1) i1 (by omega) (by omega)) (Int.le_trans (h.low (by omega) (by omega)) (s2.le (i := end_) (j := j) (by omega) (by omega) (by omega)))
    · by_cases ej : j < end_
      · rw [gl i (by omega) i2, gr j j1 ej]
        have hh := h.high (by omega) (by omega)
        have x1 := s2.le (i := m + (i - start)) (j := end_ - 1) (by omega) (by omega) (by omega)
        have x2 := s1.le (i := start) (j := start + (j - (start + (end_ - m)))) (by omega) (by omega) (by omega)
        omega
      · rw [gl i (by omega) i2, ht.out j (by omega)]
        exact s2.le (by omega) (by omega) (by omega)

/-- Both halves sorted, each within itself: all is. -/
theorem halves_sorted {a c b : Nat} {g g1 g2 : Nat → α} (hac : a ≤ c) (hcb : c ≤ b) (hap : ∀ i j, a ≤ i → i < c → c ≤ j → j < b → key (g i) ≤ key (g j)) (x1 : Mix a c g g1) (s1 : Sorted key a c g1) (x2 : Mix c b g1 g2) (s2 : Sorted key c b g2) :
    Mix a b g g2 ∧ Sorted key a b g2 := by
  refine ⟨(x1.mono (Nat.le_refl _) hcb).trans (x2.mono hac (Nat.le_refl _)), ?_⟩
  refine Sorted.join (s1.congr fun k k1 k2 => x2.out k (by omega)) s2 fun i j i1 i2 j1 j2 => ?_
  rw [x2.out i (by omega)]
  obtain ⟨i', i1', i2', e⟩ := x1.from_ i i1 i2
  obtain ⟨j', j1', j2', e'⟩ := x2.from_ j j1 j2
  rw [e, e', x1.out j' (by omega)]
  exact hap i' j' i1' i2' j1' j2'

end Go.Ev.Sorts
