/- The sort's parts: ranges swapped, turns, merges. -/
import Derived.Test.YtbajncpfmemdgaaGreatDoorEvSrA
namespace Go.Proofs.YtbajncpfmemdgaaGreatDoor
open Go Go.Ev Go.IntWalk Go.Ev.Sorts

theorem upd_swap (g : Nat → T30) (i j : Nat) : updF (updF (fun k => T30.enc (g k)) i (T30.enc (g j))) j (T30.enc (g i)) = fun k => T30.enc (swap g i j k) := by
  funext k
  rw [updF_eq, updF_eq]
  unfold swap
  by_cases h1 : k = j
  · rw [if_pos h1]
    by_cases h2 : k = i
    · subst h1; subst h2; simp
    · rw [if_neg h2, if_pos h1]
  · rw [if_neg h1, if_neg h1]
    by_cases h2 : k = i
    · rw [if_pos h2, if_pos h2]
    · rw [if_neg h2, if_neg h2]
theorem upd_swap' (g : Nat → T30) (i j : Nat) : updF (updF (fun k => T30.enc (g k)) i (T30.enc (g j))) j (T30.enc (g i)) = fun k => T30.enc (swap g j i k) := by
  rw [upd_swap]
  funext k
  unfold swap
  by_cases h1 : k = j
  · rw [if_pos h1]
    by_cases h2 : k = i
    · subst h1; subst h2; simp
    · rw [if_neg h2, if_pos h1]
  · rw [if_neg h1, if_neg h1]
theorem st_eq (n : Nat) (F : Nat → V) : (⟨(St.new Go.Ev.start 0 (.row n F 6 false)).heap, 1⟩ : St) = mkS [.row n F 6] := by kernel_rfl
theorem at_eq {α : Type} {f : Nat → α} {x y : Nat} (h : x = y) : f x = f y := by rw [h]

/-! ### Plain laws -/
theorem swap_at {α : Type} (f : Nat → α) (i j k : Nat) : swap f i j k = if k = i then f j else if k = j then f i else f k := rfl
theorem range_step {n : Nat} {g h : Nat → T30} {a b c i : Int} (hp : Pre264 n g a b c) (h0 : 0 ≤ i) (h1 : i < c) (r : Rel264 n g h a b i) : Rel264 n g (swap h (a + i).toNat (b + i).toNat) a b (i + 1) := by
  obtain ⟨p0, p1, p2, p3, p4⟩ := hp
  refine ⟨fun t ht => ?_, fun t ht => ?_, fun k k1 k2 => ?_⟩
  · rw [swap_at]
    by_cases e : (t : Int) = i
    · rw [if_pos (by omega), r.out _ (by omega) (by omega)]
      exact at_eq (by omega)
    · rw [if_neg (by omega), if_neg (by omega)]
      exact r.lo t (by omega)
  · rw [swap_at]
    by_cases e : (t : Int) = i
    · rw [if_neg (by omega), if_pos (by omega), r.out _ (by omega) (by omega)]
      exact at_eq (by omega)
    · rw [if_neg (by omega), if_neg (by omega)]
      exact r.hi t (by omega)
  · rw [swap_at, if_neg (by omega), if_neg (by omega)]
    exact r.out k (by omega) (by omega)
theorem rot_left {n : Nat} {h h' F : Nat → T30} {m i j : Int} (hj : 0 < j) (hij : j < i) (hm : i ≤ m) (r : Rel264 n h h' (m - i) m j) (t : Turned (m - (i - j)).toNat m.toNat (m + j).toNat h' F) : Turned (m - i).toNat m.toNat (m + j).toNat h F := by
  refine ⟨fun k hk => ?_, fun k hk => ?_, fun k hk => ?_⟩
  · rw [t.out k (by omega), r.out k (by omega) (by omega)]
  · rw [t.out _ (by omega), r.lo k (by omega)]
  · by_cases e : (k : Int) < j
    · have := t.left k (by omega)
      rw [r.hi k e] at this
      rw [← this]; exact at_eq (by omega)
    · have := t.right (k - j.toNat) (by omega)
      rw [r.out _ (by omega) (by omega)] at this
      rw [show (m - i).toNat + k = (m - (i - j)).toNat + (k - j.toNat) by omega, ← this]
      exact at_eq (by omega)
theorem rot_right {n : Nat} {h h' F : Nat → T30} {m i j : Int} (hi : 0 < i) (hij : i < j) (hm : i ≤ m) (r : Rel264 n h h' (m - i) (m + j - i) i) (t : Turned (m - i).toNat m.toNat (m + (j - i)).toNat h' F) : Turned (m - i).toNat m.toNat (m + j).toNat h F := by
  refine ⟨fun k hk => ?_, fun k hk => ?_, fun k hk => ?_⟩
  · rw [t.out k (by omega), r.out k (by omega) (by omega)]
  · by_cases e : (k : Int) < j - i
    · rw [t.left k (by omega), r.out _ (by omega) (by omega)]
    · have := t.right (k - (j - i).toNat) (by omega)
      rw [r.lo _ (by omega)] at this
      rw [show m.toNat + k = (m + j - i).toNat + (k - (j - i).toNat) by omega, ← this]
      exact at_eq (by omega)
  · rw [show (m - i).toNat + ((m + j).toNat - m.toNat) + k = (m + j - i).toNat + k by omega, t.out _ (by omega), r.hi k (by omega)]
theorem rot_last {n : Nat} {h h' : Nat → T30} {m i : Int} (hi : 0 < i) (hm : i ≤ m) (r : Rel264 n h h' (m - i) m i) : Turned (m - i).toNat m.toNat (m + i).toNat h h' := by
  refine ⟨fun k hk => r.out k (by omega) (by omega), fun k hk => r.lo k (by omega), fun k hk => ?_⟩
  rw [show (m - i).toNat + ((m + i).toNat - m.toNat) + k = m.toNat + k by omega]
  exact r.hi k (by omega)

theorem F264 : FnF Tryz.prog 264 Tryz.f264 := ⟨by kernel_rfl, by kernel_rfl, by kernel_rfl, by kernel_rfl, by kernel_rfl⟩
theorem F239 : FnF Tryz.prog 239 Tryz.f239 := ⟨by kernel_rfl, by kernel_rfl, by kernel_rfl, by kernel_rfl, by kernel_rfl⟩
theorem F205 : FnF Tryz.prog 205 Tryz.f205 := ⟨by kernel_rfl, by kernel_rfl, by kernel_rfl, by kernel_rfl, by kernel_rfl⟩
theorem F204 : FnF Tryz.prog 204 Tryz.f204 := ⟨by kernel_rfl, by kernel_rfl, by kernel_rfl, by kernel_rfl, by kernel_rfl⟩
theorem F157 : FnF Tryz.prog 157 Tryz.f157 := ⟨by kernel_rfl, by kernel_rfl, by kernel_rfl, by kernel_rfl, by kernel_rfl⟩
theorem F117 : FnF Tryz.prog 117 Tryz.f117 := ⟨by kernel_rfl, by kernel_rfl, by kernel_rfl, by kernel_rfl, by kernel_rfl⟩
section
variable [Env] {vs : List V} {σ : St} {k : VPost}
theorem row_clean (n : Nat) (g : Nat → T30) : (rowT n g).clean := fun i _ => (g i).clean
omit [Env] in
theorem own0 {b n : Nat} {F : Nat → V} {p : Bool} (hb : σ.heap.get b = some (.row n F 6 p)) (hσ : σ = mkS [.row n F 6]) : b = 0 := by
  subst hσ
  obtain ⟨_, h⟩ := trieL_get (ks := blksOf [.row n F 6]) (n := 0) hb
  cases b with
  | zero => rfl
  | succ b => cases b <;> cases h
/-- What a call does to the row. -/
def Ends (R : (Nat → T30) → Prop) (n : Nat) (v : V) (τ : St) : Prop := v = .tuple [] ∧ ∃ h, R h ∧ τ = mkS [rowT n h]
theorem S264 {n : Nat} {g : Nat → T30} {a b c : Int} (hp : Pre264 n g a b c) : CallS Tryz.prog 264 [.own 0 n 6, .int .i64 a, .int .i64 b, .int .i64 c, .func (.func 62) [] []] (Ends (fun h => Rel264 n g h a b c) n) (mkS [rowT n g]) := by
  have hp' := hp
  obtain ⟨p0, p1, p2, p3, p4⟩ := hp
  refine F264.floyd (live := live264) (call := kn19) (n₀ := 1) (fun h => kn19_ok h) rfl 1 (by kernel_rfl) Nat.lt_wfRel.wf (fun _ ss => (c - lastI ss).toNat)
    (fun k ss => k = 0 ∧ ∃ (h : Nat → T30) (i : Int), 0 ≤ i ∧ i ≤ c ∧ Rel264 n g h a b i ∧ ss = [rowT n h, .val (.int .i64 a), .val (.int .i64 b), .val (.int .i64 c), .val (.int .i64 i)]) ?_ ?_ ?_
  · rintro k ss ⟨_, h, i, _, _, _, rfl⟩ s hs
    simp only [List.mem_cons, List.not_mem_nil, or_false] at hs
    rcases hs with rfl | rfl | rfl | rfl | rfl
    · exact row_clean n h
    · exact Go.Ev.Clean.int _ _
    · exact Go.Ev.Clean.int _ _
    · exact Go.Ev.Clean.int _ _
    · exact Go.Ev.Clean.int _ _
  · rw [e264]
    exact ⟨⟨rfl, rfl⟩, rfl, g, 0, by omega, by omega, ⟨fun i hi => by omega, fun i hi => by omega, fun k _ _ => rfl⟩, rfl⟩
  · rintro k hk ss ⟨rfl, h, i, h0, h1, r, rfl⟩
    rw [r264]
    refine ⟨rfl, CondP.mk (fun e => ?_) fun e => ?_⟩
    · have e := of_decide_eq_true e
      rw [i64_in (b + i) (by omega), i64_in (a + i) (by omega), i64_in (i + 1) (by omega), upd_swap]
      refine ⟨by omega, by omega, by omega, by omega, by omega, by omega, by omega, by omega, ⟨rfl, rfl⟩, ⟨rfl, _, i + 1, by omega, by omega, range_step hp' h0 e r, rfl⟩, ?_⟩
      show (c - (i + 1).toNat).toNat < (c - i.toNat).toNat
      omega
    · have e := of_decide_eq_false e
      obtain rfl : i = c := by omega
      exact ⟨rfl, h, r, st_eq _ _⟩
theorem W264_ok (h : W264 vs σ k) : CallS Tryz.prog 264 vs k σ := by
  unfold W264 at h
  split at h
  · split at h
    · rename_i hb
      obtain ⟨⟨rfl, hσ⟩, q, rfl, hp, hk⟩ := h
      obtain rfl := own0 hb hσ
      subst hσ
      exact (S264 hp).mono fun v τ ⟨h1, g, h2, h3⟩ => by subst h1 h3; exact hk g h2
    · exact h.elim
  · exact h.elim
theorem kn20_ok : ∀ {f : FuncId} {vs : List V} {σ : St} {k : VPost}, kn20 f vs σ k → CallS Tryz.prog f vs k σ := by
  intro f vs σ k h
  unfold kn20 at h
  split at h
  · rename_i hb; obtain rfl := Nat.eq_of_beq_eq_true hb; exact W264_ok h
  · exact kn19_ok h
theorem S239 {n : Nat} {g : Nat → T30} {a m b : Int} (hp : Pre239 n g a m b) : CallS Tryz.prog 239 [.own 0 n 6, .int .i64 a, .int .i64 m, .int .i64 b, .func (.func 62) [] []] (Ends (fun h => Rel239 n g h a m b) n) (mkS [rowT n g]) := by
  obtain ⟨p0, p1, p2, p3, p4⟩ := hp
  refine F239.floyd (live := live239) (call := kn20) (n₀ := 1) (fun h => kn20_ok h) rfl 1 (by kernel_rfl) Nat.lt_wfRel.wf (fun _ ss => match ss with
      | [_, _, _, .val (.int _ i), .val (.int _ j)] => (i + j).toNat
      | _ => 0)
    (fun k ss => k = 0 ∧ ∃ (h : Nat → T30) (i j : Int), 0 < i ∧ 0 < j ∧ a ≤ m - i ∧ m + j ≤ b ∧ (∀ F, Turned (m - i).toNat m.toNat (m + j).toNat h F → Turned a.toNat m.toNat b.toNat g F) ∧
      ss = [rowT n h, .val (.int .i64 m), .val (.func (.func 62) [] []), .val (.int .i64 i), .val (.int .i64 j)]) ?_ ?_ ?_
  · rintro k ss ⟨_, h, i, j, _, _, _, _, _, rfl⟩ s hs
    simp only [List.mem_cons, List.not_mem_nil, or_false] at hs
    rcases hs with rfl | rfl | rfl | rfl | rfl
    · exact row_clean n h
    · exact Go.Ev.Clean.int _ _
    · exact Go.Ev.Clean.func _
    · exact Go.Ev.Clean.int _ _
    · exact Go.Ev.Clean.int _ _
  · rw [e239, i64_in (m - a) (by omega), i64_in (b - m) (by omega)]
    refine ⟨⟨rfl, rfl⟩, rfl, g, m - a, b - m, by omega, by omega, by omega, by omega, fun F hF => ?_, rfl⟩
    rw [show m - (m - a) = a by omega, show m + (b - m) = b by omega] at hF
    exact hF
  · rintro k hk ss ⟨rfl, h, i, j, hi, hj, ha, hb, hT, rfl⟩
    rw [r239, i64_in (m - i) (by omega), i64_in (m + j) (by omega), i64_in (m + j - i) (by omega), i64_in (i - j) (by omega), i64_in (j - i) (by omega)]
    refine ⟨rfl, CondP.mk (fun e => ?_) fun e => ?_⟩
    · have e := of_decide_eq_true e
      refine ⟨rfl, CondP.mk (fun e2 => ?_) fun e2 => ?_⟩
      · have e2 := of_decide_eq_true e2
        refine ⟨⟨rfl, st_eq _ _⟩, h, rfl, ⟨p0, by omega, by omega, by omega, by omega⟩, fun h' r => ⟨⟨rfl, rfl⟩, ⟨rfl, h', i - j, j, by omega, hj, by omega, hb, fun F hF => hT F (rot_left hj e2 (by omega) r hF), rfl⟩, ?_⟩⟩
        show (i - j + j).toNat < (i + j).toNat
        omega
      · have e2 := of_decide_eq_false e2
        have e : i ≠ j := e
        refine ⟨⟨rfl, st_eq _ _⟩, h, rfl, ⟨p0, by omega, by omega, by omega, by omega⟩, fun h' r => ⟨⟨rfl, rfl⟩, ⟨rfl, h', i, j - i, hi, by omega, ha, by omega, fun F hF => hT F (rot_right hi (by omega) (by omega) r hF), rfl⟩, ?_⟩⟩
        show (i + (j - i)).toNat < (i + j).toNat
        omega
    · have e := of_decide_eq_false e
      obtain rfl : i = j := Decidable.not_not.1 e
      exact ⟨⟨rfl, st_eq _ _⟩, h, rfl, ⟨p0, by omega, by omega, by omega, by omega⟩, fun h' r => ⟨rfl, h', hT h' (rot_last hi (by omega) r), st_eq _ _⟩⟩
theorem W239_ok (h : W239 vs σ k) : CallS Tryz.prog 239 vs k σ := by
  unfold W239 at h
  split at h
  · split at h
    · rename_i hb
      obtain ⟨⟨rfl, hσ⟩, q, rfl, hp, hk⟩ := h
      obtain rfl := own0 hb hσ
      subst hσ
      exact (S239 hp).mono fun v τ ⟨h1, g, h2, h3⟩ => by subst h1 h3; exact hk g h2
    · exact h.elim
  · exact h.elim
theorem kn21_ok : ∀ {f : FuncId} {vs : List V} {σ : St} {k : VPost}, kn21 f vs σ k → CallS Tryz.prog f vs k σ := by
  intro f vs σ k h
  unfold kn21 at h
  split at h
  · rename_i hb; obtain rfl := Nat.eq_of_beq_eq_true hb; exact W239_ok h
  · exact kn20_ok h
end
end Go.Proofs.YtbajncpfmemdgaaGreatDoor
namespace Go.Proofs.YtbajncpfmemdgaaGreatDoor
open Go Go.Ev Go.IntWalk Go.Ev.Sorts

theorem half (s r : Int) (h : 0 ≤ s ∧ 0 ≤ r ∧ s + r ≤ 100) : IntKind.i64.wrap ((IntKind.u64.wrap (IntKind.i64.wrap (s + r))).fdiv (2 ^ min (1 : Int).toNat IntKind.u64.bits)) = (s + r) / 2 := by
  have e : (2 : Int) ^ min (1 : Int).toNat IntKind.u64.bits = 2 := by decide
  rw [e, i64_in (s + r) (by omega), wrap_u64, fdiv_pos _ _ (by decide), i64_in _ (by omega)]
  omega
theorem cmpI_lt (x y : Int) : cmpI x y < 0 ↔ x < y := by
  unfold cmpI
  by_cases h : x < y
  · rw [if_pos h]; simp [h]
  · rw [if_neg h]
    by_cases h2 : x > y
    · rw [if_pos h2]; simp [h]
    · rw [if_neg h2]; simp [h]

/-! ### Plain laws -/
/-- One taken to the right, over those that are less. -/
structure Right (a k : Int) (g h : Nat → T30) : Prop where
  lo : ∀ t : Nat, (t : Int) < a → h t = g t
  mid : ∀ t : Nat, a ≤ t → (t : Int) < k → h t = g (t + 1)
  at_ : h k.toNat = g a.toNat
  hi : ∀ t : Nat, k < t → h t = g t
theorem Right.step {a k : Int} {g h : Nat → T30} (r : Right a k g h) (ha : 0 ≤ a) (hk : a ≤ k) : Right a (k + 1) g (swap h k.toNat (k + 1).toNat) := by
  refine ⟨fun t ht => ?_, fun t h1 h2 => ?_, ?_, fun t ht => ?_⟩
  · rw [swap_at, if_neg (by omega), if_neg (by omega)]; exact r.lo t ht
  · rw [swap_at]
    by_cases e : (t : Int) = k
    · rw [if_pos (by omega), r.hi _ (by omega)]; exact at_eq (by omega)
    · rw [if_neg (by omega), if_neg (by omega)]; exact r.mid t h1 (by omega)
  · rw [swap_at, if_neg (by omega), if_pos rfl]; exact r.at_
  · rw [swap_at, if_neg (by omega), if_neg (by omega)]; exact r.hi t (by omega)
theorem Right.sorted {a b i : Int} {g h : Nat → T30} (ha : 0 ≤ a) (hi : a + 1 ≤ i) (hb : i ≤ b) (s : Sorted k30 (a + 1).toNat b.toNat g) (lo : a + 1 < i → k30 (g (i - 1).toNat) < k30 (g a.toNat)) (up : i < b → k30 (g a.toNat) ≤ k30 (g i.toNat)) (r : Right a (i - 1) g h) : Sorted k30 a.toNat b.toNat h := by
  have low : ∀ t : Nat, a ≤ t → (t : Int) < i - 1 → k30 (h t) ≤ k30 (g a.toNat) := fun t h1 h2 => by
    rw [r.mid t h1 h2]
    have := s.le (i := t + 1) (j := (i - 1).toNat) (by omega) (by omega) (by omega)
    have := lo (by omega)
    omega
  have high : ∀ t : Nat, i - 1 < t → (t : Int) < b → k30 (g a.toNat) ≤ k30 (h t) := fun t h1 h2 => by
    rw [r.hi t h1]
    have := s.le (i := i.toNat) (j := t) (by omega) (by omega) (by omega)
    have := up (by omega)
    omega
  intro t u h1 h2 h3
  by_cases e1 : (t : Int) < i - 1
  · by_cases e2 : (u : Int) < i - 1
    · rw [r.mid t (by omega) e1, r.mid u (by omega) e2]
      exact s.le (by omega) (by omega) (by omega)
    · have l := low t (by omega) e1
      by_cases e3 : (u : Int) = i - 1
      · rw [show u = (i - 1).toNat by omega, r.at_]; exact l
      · have := high u (by omega) (by omega); omega
  · by_cases e3 : (t : Int) = i - 1
    · rw [show t = (i - 1).toNat by omega, r.at_]; exact high u (by omega) (by omega)
    · rw [r.hi t (by omega), r.hi u (by omega)]
      exact s.le (by omega) (by omega) (by omega)
/-- One taken to the left, over those that are greater. -/
structure Left (m k : Int) (g h : Nat → T30) : Prop where
  lo : ∀ t : Nat, (t : Int) < k → h t = g t
  mid : ∀ t : Nat, k < t → (t : Int) ≤ m → h t = g (t - 1)
  at_ : h k.toNat = g m.toNat
  hi : ∀ t : Nat, m < t → h t = g t
theorem Left.step {m k : Int} {g h : Nat → T30} (r : Left m k g h) (h0 : 0 < k) (hk : k ≤ m) : Left m (k - 1) g (swap h k.toNat (k - 1).toNat) := by
  refine ⟨fun t ht => ?_, fun t h1 h2 => ?_, ?_, fun t ht => ?_⟩
  · rw [swap_at, if_neg (by omega), if_neg (by omega)]; exact r.lo t (by omega)
  · rw [swap_at]
    by_cases e : (t : Int) = k
    · rw [if_pos (by omega), r.lo _ (by omega)]; exact at_eq (by omega)
    · rw [if_neg (by omega), if_neg (by omega)]; exact r.mid t (by omega) h2
  · rw [swap_at, if_neg (by omega), if_pos rfl]; exact r.at_
  · rw [swap_at, if_neg (by omega), if_neg (by omega)]; exact r.hi t ht
theorem Left.sorted {a m i : Int} {g h : Nat → T30} (ha : 0 ≤ a) (hi : a ≤ i) (hm : i ≤ m) (s : Sorted k30 a.toNat m.toNat g) (lo : a < i → k30 (g (i - 1).toNat) ≤ k30 (g m.toNat)) (up : i < m → k30 (g m.toNat) < k30 (g i.toNat)) (r : Left m i g h) : Sorted k30 a.toNat (m + 1).toNat h := by
  have low : ∀ t : Nat, a ≤ t → (t : Int) < i → k30 (h t) ≤ k30 (g m.toNat) := fun t h1 h2 => by
    rw [r.lo t h2]
    have := s.le (i := t) (j := (i - 1).toNat) (by omega) (by omega) (by omega)
    have := lo (by omega)
    omega
  have high : ∀ t : Nat, i < t → (t : Int) ≤ m → k30 (g m.toNat) ≤ k30 (h t) := fun t h1 h2 => by
    rw [r.mid t h1 h2]
    have := s.le (i := i.toNat) (j := t - 1) (by omega) (by omega) (by omega)
    have := up (by omega)
    omega
  intro t u h1 h2 h3
  by_cases e1 : (t : Int) < i
  · by_cases e2 : (u : Int) < i
    · rw [r.lo t e1, r.lo u e2]
      exact s.le (by omega) (by omega) (by omega)
    · have l := low t (by omega) e1
      by_cases e3 : (u : Int) = i
      · rw [show u = i.toNat by omega, r.at_]; exact l
      · have := high u (by omega) (by omega); omega
  · by_cases e3 : (t : Int) = i
    · rw [show t = i.toNat by omega, r.at_]; exact high u (by omega) (by omega)
    · rw [r.mid t (by omega) (by omega), r.mid u (by omega) (by omega)]
      exact s.le (by omega) (by omega) (by omega)

/-! ### The merge -/
/-- At the heads of its loops. -/
def I205 (n : Nat) (g : Nat → T30) (a m b : Int) : Nat → List SV → Prop
  | 0, ss => m - a = 1 ∧ ∃ i j : Int, m ≤ i ∧ i ≤ j ∧ j ≤ b ∧ (m < i → k30 (g (i - 1).toNat) < k30 (g a.toNat)) ∧ (j < b → k30 (g a.toNat) ≤ k30 (g j.toNat)) ∧
      ss = [rowT n g, .val (.int .i64 a), .val (.func (.func 62) [] []), .val (.int .i64 i), .val (.int .i64 j)]
  | 1, ss => m - a = 1 ∧ ∃ (h : Nat → T30) (i k : Int), m ≤ i ∧ i ≤ b ∧ a ≤ k ∧ k ≤ i - 1 ∧ (m < i → k30 (g (i - 1).toNat) < k30 (g a.toNat)) ∧ (i < b → k30 (g a.toNat) ≤ k30 (g i.toNat)) ∧ Right a k g h ∧ Mix a.toNat b.toNat g h ∧
      ss = [rowT n h, .val (.int .i64 i), .val (.int .i64 k)]
  | 2, ss => b - m = 1 ∧ ∃ i j : Int, a ≤ i ∧ i ≤ j ∧ j ≤ m ∧ (a < i → k30 (g (i - 1).toNat) ≤ k30 (g m.toNat)) ∧ (j < m → k30 (g m.toNat) < k30 (g j.toNat)) ∧
      ss = [rowT n g, .val (.int .i64 m), .val (.func (.func 62) [] []), .val (.int .i64 i), .val (.int .i64 j)]
  | 3, ss => b - m = 1 ∧ ∃ (h : Nat → T30) (i k : Int), a ≤ i ∧ i ≤ k ∧ k ≤ m ∧ (a < i → k30 (g (i - 1).toNat) ≤ k30 (g m.toNat)) ∧ (i < m → k30 (g m.toNat) < k30 (g i.toNat)) ∧ Left m k g h ∧ Mix a.toNat b.toNat g h ∧
      ss = [rowT n h, .val (.int .i64 i), .val (.int .i64 k)]
  | 4, ss => ∃ s r s₀ r₀ : Int, ((m > (a + b) / 2 ∧ s₀ = (a + b) / 2 + m - b ∧ r₀ = (a + b) / 2) ∨ (m ≤ (a + b) / 2 ∧ s₀ = a ∧ r₀ = m)) ∧ s₀ ≤ s ∧ s ≤ r ∧ r ≤ r₀ ∧
      (s₀ < s → k30 (g (s - 1).toNat) ≤ k30 (g ((a + b) / 2 + m - s).toNat)) ∧ (r < r₀ → k30 (g ((a + b) / 2 + m - 1 - r).toNat) < k30 (g r.toNat)) ∧
      ss = [rowT n g, .val (.int .i64 a), .val (.int .i64 m), .val (.int .i64 b), .val (.func (.func 62) [] []), .val (.int .i64 ((a + b) / 2)), .val (.int .i64 ((a + b) / 2 + m)), .val (.int .i64 s), .val (.int .i64 r), .val (.int .i64 ((a + b) / 2 + m - 1))]
  | _, _ => False
def m205 : Nat → List SV → Nat
  | 0, [_, _, _, .val (.int _ i), .val (.int _ j)] => (j - i).toNat + 100
  | 1, [_, .val (.int _ i), .val (.int _ k)] => (i - k).toNat
  | 2, [_, _, _, .val (.int _ i), .val (.int _ j)] => (j - i).toNat + 100
  | 3, [_, .val (.int _ i), .val (.int _ k)] => (k - i).toNat
  | 4, [_, _, _, _, _, _, _, .val (.int _ s), .val (.int _ r), _] => (r - s).toNat
  | _, _ => 0
section
variable [Env] {vs : List V} {σ : St} {k : VPost}
theorem I205_clean {n : Nat} {g : Nat → T30} {a m b : Int} : ∀ k ss, I205 n g a m b k ss → ∀ s ∈ ss, s.clean := by
  intro k ss hI s hs
  match k, hI with
  | 0, hI =>
    obtain ⟨_, i, j, _, _, _, _, _, rfl⟩ := hI
    simp only [List.mem_cons, List.not_mem_nil, or_false] at hs
    rcases hs with rfl | rfl | rfl | rfl | rfl
    · exact row_clean n g
    · exact Go.Ev.Clean.int _ _
    · exact Go.Ev.Clean.func _
    · exact Go.Ev.Clean.int _ _
    · exact Go.Ev.Clean.int _ _
  | 1, hI =>
    obtain ⟨_, h, i, j, _, _, _, _, _, _, _, _, rfl⟩ := hI
    simp only [List.mem_cons, List.not_mem_nil, or_false] at hs
    rcases hs with rfl | rfl | rfl
    · exact row_clean n h
    · exact Go.Ev.Clean.int _ _
    · exact Go.Ev.Clean.int _ _
  | 2, hI =>
    obtain ⟨_, i, j, _, _, _, _, _, rfl⟩ := hI
    simp only [List.mem_cons, List.not_mem_nil, or_false] at hs
    rcases hs with rfl | rfl | rfl | rfl | rfl
    · exact row_clean n g
    · exact Go.Ev.Clean.int _ _
    · exact Go.Ev.Clean.func _
    · exact Go.Ev.Clean.int _ _
    · exact Go.Ev.Clean.int _ _
  | 3, hI =>
    obtain ⟨_, h, i, j, _, _, _, _, _, _, _, rfl⟩ := hI
    simp only [List.mem_cons, List.not_mem_nil, or_false] at hs
    rcases hs with rfl | rfl | rfl
    · exact row_clean n h
    · exact Go.Ev.Clean.int _ _
    · exact Go.Ev.Clean.int _ _
  | 4, hI =>
    obtain ⟨s, r, s₀, r₀, _, _, _, _, _, _, rfl⟩ := hI
    simp only [List.mem_cons, List.not_mem_nil, or_false] at hs
    rcases hs with rfl | rfl | rfl | rfl | rfl | rfl | rfl | rfl | rfl | rfl
    · exact row_clean n g
    · exact Go.Ev.Clean.int _ _
    · exact Go.Ev.Clean.int _ _
    · exact Go.Ev.Clean.int _ _
    · exact Go.Ev.Clean.func _
    · exact Go.Ev.Clean.int _ _
    · exact Go.Ev.Clean.int _ _
    · exact Go.Ev.Clean.int _ _
    · exact Go.Ev.Clean.int _ _
    · exact Go.Ev.Clean.int _ _

/-- The merge of the right half, and the end. -/
def Tail205 (N : Int) (n : Nat) (Q : V → St → Prop) (g : Nat → T30) (mid e b : Int) : Prop :=
  (.i64 : IntKind) = .i64 ∧ CondP (decide (mid < e)) ((.i64 : IntKind) = .i64 ∧ CondP (decide (e < b)) ((n = n ∧ ⟨(St.new Go.Ev.start 0 (.row n (fun i => T30.enc (g i)) 6 false)).heap, 1⟩ = mkS [.row n (fun i => T30.enc (g i)) 6]) ∧
    ∃ q : Nat → T30, (fun i => T30.enc (g i)) = (fun i => T30.enc (q i)) ∧ b - mid < N ∧ Pre205 n q mid e b ∧ ∀ g' : Nat → T30, Rel205 n q g' mid e b → Q (.tuple []) ⟨(St.new Go.Ev.start 0 (.row n (fun i => T30.enc (g' i)) 6 false)).heap, 1⟩)
      (Q (.tuple []) ⟨(St.new Go.Ev.start 0 (.row n (fun i => T30.enc (g i)) 6 false)).heap, 1⟩)) (Q (.tuple []) ⟨(St.new Go.Ev.start 0 (.row n (fun i => T30.enc (g i)) 6 false)).heap, 1⟩)
/-- The merge of the left half, and what stands behind. -/
def Head205 (N : Int) (n : Nat) (Q : V → St → Prop) (g : Nat → T30) (a s mid e b : Int) : Prop :=
  (.i64 : IntKind) = .i64 ∧ CondP (decide (a < s)) ((.i64 : IntKind) = .i64 ∧ CondP (decide (s < mid)) ((n = n ∧ ⟨(St.new Go.Ev.start 0 (.row n (fun i => T30.enc (g i)) 6 false)).heap, 1⟩ = mkS [.row n (fun i => T30.enc (g i)) 6]) ∧
    ∃ q : Nat → T30, (fun i => T30.enc (g i)) = (fun i => T30.enc (q i)) ∧ mid - a < N ∧ Pre205 n q a s mid ∧ ∀ g' : Nat → T30, Rel205 n q g' a s mid → Tail205 N n Q g' mid e b)
      (Tail205 N n Q g mid e b)) (Tail205 N n Q g mid e b)
omit [Env] in
theorem tail205 {N : Int} {n : Nat} {R : (Nat → T30) → Prop} {g : Nat → T30} {mid e b : Int} (hn : n ≤ 30) (h0 : 0 ≤ mid) (h1 : mid ≤ e) (h2 : e ≤ b) (hb : b ≤ n) (hN : b - mid < N) (s1 : Sorted k30 mid.toNat e.toNat g) (s2 : Sorted k30 e.toNat b.toNat g)
    (hR : ∀ h, Mix mid.toNat b.toNat g h → Sorted k30 mid.toNat b.toNat h → R h) : Tail205 N n (Ends R n) g mid e b := by
  refine ⟨rfl, CondP.mk (fun c1 => ⟨rfl, CondP.mk (fun c2 => ?_) fun c2 => ?_⟩) fun c1 => ?_⟩
  · exact ⟨⟨rfl, st_eq _ _⟩, g, rfl, hN, ⟨hn, h0, of_decide_eq_true c1, of_decide_eq_true c2, hb, s1, s2⟩, fun g' r => ⟨rfl, g', hR g' r.1 r.2, st_eq _ _⟩⟩
  · have c2 := of_decide_eq_false c2
    obtain rfl : e = b := by omega
    exact ⟨rfl, g, hR g (Mix.refl _ _ _) s1, st_eq _ _⟩
  · have c1 := of_decide_eq_false c1
    obtain rfl : mid = e := by omega
    exact ⟨rfl, g, hR g (Mix.refl _ _ _) s2, st_eq _ _⟩
omit [Env] in
theorem head205 {N : Int} {n : Nat} {R : (Nat → T30) → Prop} {g : Nat → T30} {a s mid e b : Int} (hn : n ≤ 30) (h0 : 0 ≤ a) (ha : a ≤ s) (hs : s ≤ mid) (h1 : mid ≤ e) (h2 : e ≤ b) (hb : b ≤ n) (hN : b - mid < N) (hN2 : mid - a < N) (s0 : Sorted k30 a.toNat s.toNat g) (s1 : Sorted k30 s.toNat mid.toNat g)
    (s2 : Sorted k30 mid.toNat e.toNat g) (s3 : Sorted k30 e.toNat b.toNat g) (hap : ∀ i j, a.toNat ≤ i → i < mid.toNat → mid.toNat ≤ j → j < b.toNat → k30 (g i) ≤ k30 (g j)) (hR : ∀ h, Mix a.toNat b.toNat g h → Sorted k30 a.toNat b.toNat h → R h) : Head205 N n (Ends R n) g a s mid e b := by
  have key : ∀ g', Mix a.toNat mid.toNat g g' → Sorted k30 a.toNat mid.toNat g' → Tail205 N n (Ends R n) g' mid e b := fun g' x1 y1 => by
    refine tail205 hn (by omega) h1 h2 hb hN (s2.congr fun k k1 k2 => x1.out k (by omega)) (s3.congr fun k k1 k2 => x1.out k (by omega)) fun h x2 y2 => ?_
    obtain ⟨z1, z2⟩ := halves_sorted (a := a.toNat) (c := mid.toNat) (b := b.toNat) (by omega) (by omega) hap x1 y1 x2 y2
    exact hR h z1 z2
  refine ⟨rfl, CondP.mk (fun c1 => ⟨rfl, CondP.mk (fun c2 => ?_) fun c2 => ?_⟩) fun c1 => ?_⟩
  · exact ⟨⟨rfl, st_eq _ _⟩, g, rfl, hN2, ⟨hn, h0, of_decide_eq_true c1, of_decide_eq_true c2, by omega, s0, s1⟩, fun g' r => key g' r.1 r.2⟩
  · have c2 := of_decide_eq_false c2
    obtain rfl : s = mid := by omega
    exact key g (Mix.refl _ _ _) s0
  · have c1 := of_decide_eq_false c1
    obtain rfl : a = s := by omega
    exact key g (Mix.refl _ _ _) s1
theorem W205_of {N : Int} (H : ∀ n g a m b, Pre205 n g a m b → b - a < N → CallS Tryz.prog 205 [.own 0 n 6, .int .i64 a, .int .i64 m, .int .i64 b, .func (.func 62) [] []] (Ends (fun h => Rel205 n g h a m b) n) (mkS [rowT n g])) (h : W205 N vs σ k) : CallS Tryz.prog 205 vs k σ := by
  unfold W205 at h
  split at h
  · split at h
    · rename_i hb
      obtain ⟨⟨rfl, hσ⟩, q, rfl, hN, hp, hk⟩ := h
      obtain rfl := own0 hb hσ
      subst hσ
      exact (H _ _ _ _ _ hp hN).mono fun v τ ⟨h1, g, h2, h3⟩ => by subst h1 h3; exact hk g h2
    · exact h.elim
  · exact h.elim
theorem knR_of {N : Int} (H : ∀ n g a m b, Pre205 n g a m b → b - a < N → CallS Tryz.prog 205 [.own 0 n 6, .int .i64 a, .int .i64 m, .int .i64 b, .func (.func 62) [] []] (Ends (fun h => Rel205 n g h a m b) n) (mkS [rowT n g])) {f : FuncId} (h : knR N f vs σ k) : CallS Tryz.prog f vs k σ := by
  unfold knR at h
  split at h
  · rename_i hb; obtain rfl := Nat.eq_of_beq_eq_true hb; exact W205_of H h
  · exact kn21_ok h
theorem S205 (N : Nat) : ∀ n g a m b, Pre205 n g a m b → b - a < (N : Int) → CallS Tryz.prog 205 [.own 0 n 6, .int .i64 a, .int .i64 m, .int .i64 b, .func (.func 62) [] []] (Ends (fun h => Rel205 n g h a m b) n) (mkS [rowT n g]) := by
  induction N with
  | zero => intro n g a m b hp hN; obtain ⟨p0, p1, p2, p3, p4, _, _⟩ := hp; omega
  | succ N ih =>
    intro n g a m b hp hN
    obtain ⟨p0, p1, p2, p3, p4, s1, s2⟩ := hp
    refine F205.floyd (live := live205) (call := knR (N : Int)) (n₀ := 1) (fun h => knR_of ih h) rfl 5 (by kernel_rfl) Nat.lt_wfRel.wf m205 (I205 n g a m b) I205_clean ?_ ?_
    · rw [e205, i64_in (m - a) (by omega), i64_in (b - m) (by omega), half a b (by omega), i64_in ((a + b) / 2 + m) (by omega), i64_in ((a + b) / 2 + m - b) (by omega), i64_in ((a + b) / 2 + m - 1) (by omega)]
      refine ⟨rfl, CondP.mk (fun c1 => ?_) fun c1 => ⟨rfl, CondP.mk (fun c2 => ?_) fun c2 => ⟨by decide, rfl, CondP.mk (fun c3 => ?_) fun c3 => ?_⟩⟩⟩
      · exact ⟨⟨rfl, rfl⟩, of_decide_eq_true c1, m, b, by omega, by omega, by omega, fun h => by omega, fun h => by omega, rfl⟩
      · exact ⟨⟨rfl, rfl⟩, of_decide_eq_true c2, a, m, by omega, by omega, by omega, fun h => by omega, fun h => by omega, rfl⟩
      · have c3 := of_decide_eq_true c3
        exact ⟨⟨rfl, rfl⟩, (a + b) / 2 + m - b, (a + b) / 2, _, _, .inl ⟨c3, rfl, rfl⟩, by omega, by omega, by omega, fun h => by omega, fun h => by omega, rfl⟩
      · have c3 := of_decide_eq_false c3
        exact ⟨⟨rfl, rfl⟩, a, m, _, _, .inr ⟨by omega, rfl, rfl⟩, by omega, by omega, by omega, fun h => by omega, fun h => by omega, rfl⟩
    · intro k hk ss hI
      match k, hI with
      | 0, hI =>
        obtain ⟨hma, i, j, i1, i2, i3, lo, up, rfl⟩ := hI
        rw [r205a]
        refine ⟨rfl, CondP.mk (fun c => ?_) fun c => ?_⟩
        · have c := of_decide_eq_true c
          rw [half i j (by omega), i64_in ((i + j) / 2 + 1) (by omega)]
          refine ⟨by decide, by omega, by omega, by omega, by omega, ⟨_, _, rfl⟩, rfl, CondP.mk (fun c2 => ?_) fun c2 => ?_⟩
          · have c2 := (cmpI_lt _ _).1 (of_decide_eq_true c2)
            refine ⟨⟨rfl, rfl⟩, ⟨hma, (i + j) / 2 + 1, j, by omega, by omega, i3, fun _ => ?_, up, rfl⟩, ?_⟩
            · rw [show (i + j) / 2 + 1 - 1 = (i + j) / 2 by omega]; exact c2
            · show (j - ((i + j) / 2 + 1)).toNat + 100 < (j - i).toNat + 100
              omega
          · have c2 := of_decide_eq_false c2
            rw [cmpI_lt] at c2
            refine ⟨⟨rfl, rfl⟩, ⟨hma, i, (i + j) / 2, i1, by omega, by omega, lo, fun _ => by unfold k30; omega, rfl⟩, ?_⟩
            show ((i + j) / 2 - i).toNat + 100 < (j - i).toNat + 100
            omega
        · have c := of_decide_eq_false c
          obtain rfl : i = j := by omega
          refine ⟨⟨rfl, rfl⟩, ⟨hma, g, i, a, i1, i3, by omega, by omega, lo, up, ⟨fun t _ => rfl, fun t _ _ => by omega, rfl, fun t _ => rfl⟩, Mix.refl _ _ _, rfl⟩, ?_⟩
          show (i - a).toNat < (i - i).toNat + 100
          omega
      | 1, hI =>
        obtain ⟨hma, h, i, k, i1, i2, k1, k2, lo, up, hR, hM, rfl⟩ := hI
        rw [r205b, i64_in (i - 1) (by omega), i64_in (k + 1) (by omega), upd_swap]
        refine ⟨rfl, CondP.mk (fun c => ?_) fun c => ?_⟩
        · have c := of_decide_eq_true c
          refine ⟨by omega, by omega, by omega, by omega, by omega, by omega, by omega, by omega, ⟨rfl, rfl⟩, ⟨hma, swap h k.toNat (k + 1).toNat, i, k + 1, i1, i2, by omega, by omega, lo, up, hR.step p1 k1, hM.trans (swap_mix h (by omega) (by omega) (by omega) (by omega)), rfl⟩, ?_⟩
          show (i - (k + 1)).toNat < (i - k).toNat
          omega
        · have c := of_decide_eq_false c
          obtain rfl : k = i - 1 := by omega
          refine ⟨rfl, h, ⟨hM, ?_⟩, st_eq _ _⟩
          refine Right.sorted (i := i) p1 (by omega) i2 ?_ (fun h => lo (by omega)) up hR
          rw [show a + 1 = m by omega]; exact s2
      | 2, hI =>
        obtain ⟨hbm, i, j, i1, i2, i3, lo, up, rfl⟩ := hI
        rw [r205c]
        refine ⟨rfl, CondP.mk (fun c => ?_) fun c => ?_⟩
        · have c := of_decide_eq_true c
          rw [half i j (by omega), i64_in ((i + j) / 2 + 1) (by omega)]
          refine ⟨by decide, by omega, by omega, by omega, by omega, ⟨_, _, rfl⟩, rfl, CondP.mk (fun c2 => ?_) fun c2 => ?_⟩
          · have c2 := (cmpI_lt _ _).1 (of_decide_eq_true c2)
            refine ⟨⟨rfl, rfl⟩, ⟨hbm, i, (i + j) / 2, i1, by omega, by omega, lo, fun _ => c2, rfl⟩, ?_⟩
            show ((i + j) / 2 - i).toNat + 100 < (j - i).toNat + 100
            omega
          · have c2 := of_decide_eq_false c2
            rw [cmpI_lt] at c2
            refine ⟨⟨rfl, rfl⟩, ⟨hbm, (i + j) / 2 + 1, j, by omega, by omega, i3, fun _ => ?_, up, rfl⟩, ?_⟩
            · rw [show (i + j) / 2 + 1 - 1 = (i + j) / 2 by omega]; unfold k30; omega
            · show (j - ((i + j) / 2 + 1)).toNat + 100 < (j - i).toNat + 100
              omega
        · have c := of_decide_eq_false c
          obtain rfl : i = j := by omega
          refine ⟨⟨rfl, rfl⟩, ⟨hbm, g, i, m, i1, i3, by omega, lo, up, ⟨fun t _ => rfl, fun t _ _ => by omega, rfl, fun t _ => rfl⟩, Mix.refl _ _ _, rfl⟩, ?_⟩
          show (m - i).toNat < (i - i).toNat + 100
          omega
      | 3, hI =>
        obtain ⟨hbm, h, i, k, i1, k1, k2, lo, up, hL, hM, rfl⟩ := hI
        rw [r205d, i64_in (k - 1) (by omega), upd_swap]
        refine ⟨rfl, CondP.mk (fun c => ?_) fun c => ?_⟩
        · have c := of_decide_eq_true c
          refine ⟨by omega, by omega, by omega, by omega, by omega, by omega, by omega, by omega, ⟨rfl, rfl⟩, ⟨hbm, swap h k.toNat (k - 1).toNat, i, k - 1, i1, by omega, by omega, lo, up, hL.step (by omega) k2, hM.trans (swap_mix h (by omega) (by omega) (by omega) (by omega)), rfl⟩, ?_⟩
          show (k - 1 - i).toNat < (k - i).toNat
          omega
        · have c := of_decide_eq_false c
          obtain rfl : k = i := by omega
          refine ⟨rfl, h, ⟨hM, ?_⟩, st_eq _ _⟩
          have := Left.sorted (i := k) p1 i1 k2 s1 lo up hL
          rw [show m + 1 = b by omega] at this
          exact this
      | 4, hI =>
        obtain ⟨s, r, s₀, r₀, hc, q1, q2, q3, lo, up, rfl⟩ := hI
        rw [r205e]
        refine ⟨rfl, CondP.mk (fun c => ?_) fun c => ?_⟩
        · have c := of_decide_eq_true c
          rw [half s r (by omega), i64_in ((s + r) / 2 + 1) (by omega), i64_in ((a + b) / 2 + m - 1 - (s + r) / 2) (by omega)]
          refine ⟨by decide, by omega, by omega, by omega, by omega, ⟨_, _, rfl⟩, rfl, CondP.mk (fun c2 => ?_) fun c2 => ?_⟩
          · have c2 := (cmpI_lt _ _).1 (of_decide_eq_true c2)
            refine ⟨⟨rfl, rfl⟩, ⟨s, (s + r) / 2, s₀, r₀, hc, q1, by omega, by omega, lo, fun _ => c2, rfl⟩, ?_⟩
            show ((s + r) / 2 - s).toNat < (r - s).toNat
            omega
          · have c2 := of_decide_eq_false c2
            rw [cmpI_lt] at c2
            refine ⟨⟨rfl, rfl⟩, ⟨(s + r) / 2 + 1, r, s₀, r₀, hc, by omega, by omega, q3, fun _ => ?_, up, rfl⟩, ?_⟩
            · rw [show (s + r) / 2 + 1 - 1 = (s + r) / 2 by omega, show (a + b) / 2 + m - ((s + r) / 2 + 1) = (a + b) / 2 + m - 1 - (s + r) / 2 by omega]
              unfold k30; omega
            · show (r - ((s + r) / 2 + 1)).toNat < (r - s).toNat
              omega
        · have c := of_decide_eq_false c
          obtain rfl : s = r := by omega
          rw [i64_in ((a + b) / 2 + m - s) (by omega)]
          have cut : Cut k30 a.toNat m.toNat b.toNat s.toNat ((a + b) / 2 + m - s).toNat g := by
            refine ⟨by omega, by omega, by omega, by omega, fun h1 h2 => ?_, fun h1 h2 => ?_⟩
            · have := lo (by omega)
              rw [show s.toNat - 1 = (s - 1).toNat by omega]; exact this
            · have := up (by omega)
              rw [show ((a + b) / 2 + m - s).toNat - 1 = ((a + b) / 2 + m - 1 - s).toNat by omega]; exact this
          have fin : ∀ g', Turned s.toNat m.toNat ((a + b) / 2 + m - s).toNat g g' → Head205 (N : Int) n (Ends (fun h => Rel205 n g h a m b) n) g' a s ((a + b) / 2) ((a + b) / 2 + m - s) b := by
            intro g' hT
            obtain ⟨x0, x1, x2, x3, x4, x5⟩ := cut.halves s1 s2 hT
            have em : s.toNat + (((a + b) / 2 + m - s).toNat - m.toNat) = ((a + b) / 2).toNat := by omega
            rw [em] at x2 x3 x5
            exact head205 p0 p1 (by omega) (by omega) (by omega) (by omega) p4 (by omega) (by omega) x1 x2 x3 x4 x5 fun h y1 y2 => ⟨x0.trans y1, y2⟩
          refine ⟨rfl, CondP.mk (fun c1 => ⟨rfl, CondP.mk (fun c2 => ?_) fun c2 => ?_⟩) fun c1 => ?_⟩
          · have c1 := of_decide_eq_true c1
            have c2 := of_decide_eq_true c2
            exact ⟨⟨rfl, st_eq _ _⟩, g, rfl, ⟨p0, by omega, c1, c2, by omega⟩, fun g' hT => fin g' hT⟩
          · have c1 := of_decide_eq_true c1
            have c2 := of_decide_eq_false c2
            refine fin g ⟨fun k _ => rfl, fun i hi => by omega, fun i hi => at_eq (by omega)⟩
          · have c1 := of_decide_eq_false c1
            refine fin g ⟨fun k _ => rfl, fun i hi => at_eq (by omega), fun i hi => by omega⟩
      | k + 5, hI => omega
theorem kn22_ok : ∀ {f : FuncId} {vs : List V} {σ : St} {k : VPost}, kn22 f vs σ k → CallS Tryz.prog f vs k σ := fun h => knR_of (N := 1000) (S205 1000) h
end
end Go.Proofs.YtbajncpfmemdgaaGreatDoor
