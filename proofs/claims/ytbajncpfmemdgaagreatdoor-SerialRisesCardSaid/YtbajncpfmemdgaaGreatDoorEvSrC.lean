/- The sort, the order, the law's call. -/
import Derived.Test.YtbajncpfmemdgaaGreatDoorEvSrB
import Derived.Test.YtbajncpfmemdgaaGreatDoorEvSrX
import Derived.Test.YtbajncpfmemdgaaGreatDoorEvAwakeRun
namespace Go.Proofs.YtbajncpfmemdgaaGreatDoor
open Go Go.Ev Go.IntWalk Go.Ev.Sorts

theorem F116 : FnF Tryz.prog 116 Tryz.f116 := ⟨by kernel_rfl, by kernel_rfl, by kernel_rfl, by kernel_rfl, by kernel_rfl⟩
theorem F61 : FnF Tryz.prog 61 Tryz.f61 := ⟨by kernel_rfl, by kernel_rfl, by kernel_rfl, by kernel_rfl, by kernel_rfl⟩
theorem F17 : FnF Tryz.prog 17 Tryz.f17 := ⟨by kernel_rfl, by kernel_rfl, by kernel_rfl, by kernel_rfl, by kernel_rfl⟩
theorem F19 : FnF Tryz.prog 19 Tryz.f19 := ⟨by kernel_rfl, by kernel_rfl, by kernel_rfl, by kernel_rfl, by kernel_rfl⟩
theorem F20 : FnF Tryz.prog 20 Tryz.f20 := ⟨by kernel_rfl, by kernel_rfl, by kernel_rfl, by kernel_rfl, by kernel_rfl⟩
section
variable [Env] {vs : List V} {σ : St} {k : VPost}
def m204 : Int → Int → Nat → List SV → Nat
  | _, b, 0, [_, _, _, _, .val (.int _ i)] => (b - i).toNat * 64 + 63
  | a, b, 1, [_, _, _, _, .val (.int _ i), .val (.int _ j)] => (b - i).toNat * 64 + (j - a).toNat
  | _, _, _, _ => 0
theorem S204 {n : Nat} {g : Nat → T30} {a b : Int} (hp : Pre204 n g a b) : CallS Tryz.prog 204 [.own 0 n 6, .int .i64 a, .int .i64 b, .func (.func 62) [] []] (Ends (fun h => Rel204 n g h a b) n) (mkS [rowT n g]) := by
  obtain ⟨p0, p1, p2, p3⟩ := hp
  refine F204.floyd (live := live204) (call := kn22) (n₀ := 1) (fun h => kn22_ok h) rfl 2 (by kernel_rfl) Nat.lt_wfRel.wf (m204 a b)
    (fun k ss => (k = 0 ∧ ∃ (h : Nat → T30) (i : Int), a < i ∧ (i ≤ b ∨ b ≤ a) ∧ Mix a.toNat b.toNat g h ∧ Sorted k30 a.toNat i.toNat h ∧ ss = [rowT n h, .val (.int .i64 a), .val (.int .i64 b), .val (.func (.func 62) [] []), .val (.int .i64 i)]) ∨
      (k = 1 ∧ ∃ (h : Nat → T30) (i j : Int), a < i ∧ i < b ∧ a ≤ j ∧ j ≤ i ∧ Mix a.toNat b.toNat g h ∧ Ins k30 a.toNat j.toNat (i + 1).toNat h ∧ ss = [rowT n h, .val (.int .i64 a), .val (.int .i64 b), .val (.func (.func 62) [] []), .val (.int .i64 i), .val (.int .i64 j)])) ?_ ?_ ?_
  · rintro k ss (⟨_, h, i, _, _, _, _, rfl⟩ | ⟨_, h, i, j, _, _, _, _, _, _, rfl⟩) s hs
    · simp only [List.mem_cons, List.not_mem_nil, or_false] at hs
      rcases hs with rfl | rfl | rfl | rfl | rfl
      · exact row_clean n h
      · exact Go.Ev.Clean.int _ _
      · exact Go.Ev.Clean.int _ _
      · exact Go.Ev.Clean.func _
      · exact Go.Ev.Clean.int _ _
    · simp only [List.mem_cons, List.not_mem_nil, or_false] at hs
      rcases hs with rfl | rfl | rfl | rfl | rfl | rfl
      · exact row_clean n h
      · exact Go.Ev.Clean.int _ _
      · exact Go.Ev.Clean.int _ _
      · exact Go.Ev.Clean.func _
      · exact Go.Ev.Clean.int _ _
      · exact Go.Ev.Clean.int _ _
  · rw [e204, i64_in (a + 1) (by omega)]
    exact ⟨⟨rfl, rfl⟩, .inl ⟨rfl, g, a + 1, by omega, by omega, Mix.refl _ _ _, Sorted.one g (by omega), rfl⟩⟩
  · rintro k hk ss (⟨rfl, h, i, i1, i2, hM, hs, rfl⟩ | ⟨rfl, h, i, j, i1, i2, j1, j2, hM, hI, rfl⟩)
    · rw [r204a]
      refine ⟨rfl, CondP.mk (fun c => ?_) fun c => ?_⟩
      · have c := of_decide_eq_true c
        refine ⟨⟨rfl, rfl⟩, .inr ⟨rfl, h, i, i, i1, c, by omega, by omega, hM, ?_, rfl⟩, ?_⟩
        · have := Ins.start hs
          rw [show i.toNat + 1 = (i + 1).toNat by omega] at this
          exact this
        · show (b - i).toNat * 64 + (i - a).toNat < (b - i).toNat * 64 + 63
          omega
      · have c := of_decide_eq_false c
        refine ⟨rfl, h, ⟨hM, ?_⟩, st_eq _ _⟩
        by_cases e : b ≤ a
        · exact Sorted.one h (by omega)
        · obtain rfl : i = b := by omega
          exact hs
    · rw [r204b]
      have out : (j ≤ a ∨ k30 (h (j - 1).toNat) ≤ k30 (h j.toNat)) → Sorted k30 a.toNat (i + 1).toNat h := fun hh => hI.done (by
        rcases hh with hh | hh
        · exact .inl (by omega)
        · by_cases e : j ≤ a
          · exact .inl (by omega)
          · right
            rw [show j.toNat - 1 = (j - 1).toNat by omega]; exact hh)
      have dec : (b - (i + 1)).toNat * 64 + 63 < (b - i).toNat * 64 + (j - a).toNat := by omega
      refine ⟨rfl, CondP.mk (fun c => ?_) fun c => ?_⟩
      · have c := of_decide_eq_true c
        rw [i64_in (j - 1) (by omega), i64_in (i + 1) (by omega)]
        refine ⟨by omega, by omega, by omega, by omega, ⟨_, _, rfl⟩, rfl, CondP.mk (fun c2 => ?_) fun c2 => ?_⟩
        · have c2 := (cmpI_lt _ _).1 (of_decide_eq_true c2)
          rw [upd_swap]
          refine ⟨by omega, by omega, by omega, by omega, by omega, by omega, by omega, by omega, ⟨rfl, rfl⟩, .inr ⟨rfl, swap h j.toNat (j - 1).toNat, i, j - 1, i1, i2, by omega, by omega, hM.trans (swap_mix h (by omega) (by omega) (by omega) (by omega)), ?_, rfl⟩, ?_⟩
          · have := hI.step (by omega) (by omega) (by rw [show j.toNat - 1 = (j - 1).toNat by omega]; exact c2)
            rw [show j.toNat - 1 = (j - 1).toNat by omega] at this
            exact this
          · show (b - i).toNat * 64 + (j - 1 - a).toNat < (b - i).toNat * 64 + (j - a).toNat
            omega
        · have c2 := of_decide_eq_false c2
          rw [cmpI_lt] at c2
          exact ⟨⟨rfl, rfl⟩, .inl ⟨rfl, h, i + 1, by omega, by omega, hM, out (.inr (by unfold k30; omega)), rfl⟩, dec⟩
      · have c := of_decide_eq_false c
        rw [i64_in (i + 1) (by omega)]
        exact ⟨⟨rfl, rfl⟩, .inl ⟨rfl, h, i + 1, by omega, by omega, hM, out (.inl (by omega)), rfl⟩, dec⟩
theorem W204_ok (h : W204 vs σ k) : CallS Tryz.prog 204 vs k σ := by
  unfold W204 at h
  split at h
  · split at h
    · rename_i hb
      obtain ⟨⟨rfl, hσ⟩, q, rfl, hp, hk⟩ := h
      obtain rfl := own0 hb hσ
      subst hσ
      exact (S204 hp).mono fun v τ ⟨h1, g, h2, h3⟩ => by subst h1 h3; exact hk g h2
    · exact h.elim
  · exact h.elim
theorem kn23_ok : ∀ {f : FuncId} {vs : List V} {σ : St} {k : VPost}, kn23 f vs σ k → CallS Tryz.prog f vs k σ := by
  intro f vs σ k h
  unfold kn23 at h
  split at h
  · rename_i hb; obtain rfl := Nat.eq_of_beq_eq_true hb; exact W204_ok h
  · exact kn22_ok h
def m157 : Nat → List SV → Nat
  | 0, [_, _, _, _, _, .val (.int _ b)] => 200 - b.toNat
  | 1, [_, _, _, .val (.int _ s)] => 100 - s.toNat
  | 2, _ => 70
  | _, _ => 0
def I157 (n : Nat) (g : Nat → T30) : Nat → List SV → Prop
  | 0, ss => ∃ (h : Nat → T30) (a b : Int), Mix 0 n g h ∧ ((a = 0 ∧ b = 20) ∨ (a = 20 ∧ b = 40 ∧ 20 ≤ n ∧ Sorted k30 0 20 h)) ∧ ss = [rowT n h, .val (.int .i64 n), .val (.func (.func 62) [] []), .val (.int .i64 20), .val (.int .i64 a), .val (.int .i64 b)]
  | 1, ss => ∃ (h : Nat → T30) (s : Int), Mix 0 n g h ∧ ((s = 20 ∧ n ≤ 20 ∧ Sorted k30 0 n h) ∨ (s = 20 ∧ 20 < n ∧ Sorted k30 0 20 h ∧ Sorted k30 20 n h) ∨ (s = 40 ∧ Sorted k30 0 n h)) ∧ ss = [rowT n h, .val (.int .i64 n), .val (.func (.func 62) [] []), .val (.int .i64 s)]
  | 2, ss => ∃ h : Nat → T30, Mix 0 n g h ∧ 20 < n ∧ Sorted k30 0 20 h ∧ Sorted k30 20 n h ∧ ss = [rowT n h, .val (.int .i64 n), .val (.func (.func 62) [] []), .val (.int .i64 20), .val (.int .i64 0), .val (.int .i64 40)]
  | _, _ => False
theorem S157 {n : Nat} {g : Nat → T30} (hn : n ≤ 30) : CallS Tryz.prog 157 [.own 0 n 6, .int .i64 n, .func (.func 62) [] []] (Ends (fun h => Rel157 n g h n) n) (mkS [rowT n g]) := by
  refine F157.floyd (live := live157) (call := kn23) (n₀ := 1) (fun h => kn23_ok h) rfl 3 (by kernel_rfl) Nat.lt_wfRel.wf m157 (I157 n g) ?_ ?_ ?_
  · intro k ss hI s hs
    match k, hI with
    | 0, hI =>
      obtain ⟨h, a, b, _, _, rfl⟩ := hI
      simp only [List.mem_cons, List.not_mem_nil, or_false] at hs
      rcases hs with rfl | rfl | rfl | rfl | rfl | rfl
      · exact row_clean n h
      · exact Go.Ev.Clean.int _ _
      · exact Go.Ev.Clean.func _
      · exact Go.Ev.Clean.int _ _
      · exact Go.Ev.Clean.int _ _
      · exact Go.Ev.Clean.int _ _
    | 1, hI =>
      obtain ⟨h, s, _, _, rfl⟩ := hI
      simp only [List.mem_cons, List.not_mem_nil, or_false] at hs
      rcases hs with rfl | rfl | rfl | rfl
      · exact row_clean n h
      · exact Go.Ev.Clean.int _ _
      · exact Go.Ev.Clean.func _
      · exact Go.Ev.Clean.int _ _
    | 2, hI =>
      obtain ⟨h, _, _, _, _, rfl⟩ := hI
      simp only [List.mem_cons, List.not_mem_nil, or_false] at hs
      rcases hs with rfl | rfl | rfl | rfl | rfl | rfl
      · exact row_clean n h
      · exact Go.Ev.Clean.int _ _
      · exact Go.Ev.Clean.func _
      · exact Go.Ev.Clean.int _ _
      · exact Go.Ev.Clean.int _ _
      · exact Go.Ev.Clean.int _ _
  · rw [e157]
    exact ⟨⟨rfl, rfl⟩, g, 0, 20, Mix.refl _ _ _, .inl ⟨rfl, rfl⟩, rfl⟩
  · intro k hk ss hI
    match k, hI with
    | 0, hI =>
      obtain ⟨h, a, b, hM, hc, rfl⟩ := hI
      rw [r157a, i64_in (b + 20) (by omega)]
      refine ⟨rfl, CondP.mk (fun c => ?_) fun c => ?_⟩
      · have c := of_decide_eq_true c
        rcases hc with ⟨rfl, rfl⟩ | ⟨rfl, rfl, _⟩
        · refine ⟨⟨rfl, st_eq _ _⟩, h, rfl, ⟨hn, by omega, by omega, c⟩, fun h' r => ⟨⟨rfl, rfl⟩, ⟨h', 20, 40, hM.trans (r.1.mono (Nat.zero_le _) (by omega)), .inr ⟨rfl, rfl, by omega, r.2⟩, rfl⟩, ?_⟩⟩
          show 200 - 40 < 200 - 20
          omega
        · omega
      · have c := of_decide_eq_false c
        rcases hc with ⟨rfl, rfl⟩ | ⟨rfl, rfl, h20, hs⟩
        · refine ⟨⟨rfl, st_eq _ _⟩, h, rfl, ⟨hn, by omega, by omega, by omega⟩, fun h' r => ⟨⟨rfl, rfl⟩, ⟨h', 20, hM.trans r.1, .inl ⟨rfl, by omega, r.2⟩, rfl⟩, ?_⟩⟩
          show 100 - 20 < 200 - 20
          omega
        · refine ⟨⟨rfl, st_eq _ _⟩, h, rfl, ⟨hn, by omega, by omega, by omega⟩, fun h' r => ⟨⟨rfl, rfl⟩, ⟨h', 20, hM.trans (r.1.mono (Nat.zero_le _) (by omega)), ?_, rfl⟩, ?_⟩⟩
          · have hs' : Sorted k30 0 20 h' := hs.congr fun k k1 k2 => r.1.out k (by omega)
            by_cases e : n ≤ 20
            · obtain rfl : n = 20 := by omega
              exact .inl ⟨rfl, by omega, hs'⟩
            · exact .inr (.inl ⟨rfl, by omega, hs', r.2⟩)
          · show 100 - 20 < 200 - 40
            omega
    | 1, hI =>
      obtain ⟨h, s, hM, hc, rfl⟩ := hI
      rw [r157b, i64_in (2 * s) (by omega)]
      refine ⟨rfl, CondP.mk (fun c => ?_) fun c => ?_⟩
      · have c := of_decide_eq_true c
        rcases hc with ⟨rfl, h1, _⟩ | ⟨rfl, h1, s1, s2⟩ | ⟨rfl, _⟩
        · omega
        · refine ⟨⟨rfl, rfl⟩, ⟨h, hM, h1, s1, s2, rfl⟩, ?_⟩
          show 70 < 100 - 20
          omega
        · omega
      · have c := of_decide_eq_false c
        refine ⟨rfl, h, ⟨hM, ?_⟩, st_eq _ _⟩
        rcases hc with ⟨_, _, hs⟩ | ⟨rfl, h1, _⟩ | ⟨_, hs⟩
        · exact hs
        · omega
        · exact hs
    | 2, hI =>
      obtain ⟨h, hM, h20, s1, s2, rfl⟩ := hI
      rw [r157c]
      refine ⟨rfl, CondP.mk (fun c => absurd (of_decide_eq_true c) (by omega)) fun _ => ⟨rfl, CondP.mk (fun c => ?_) fun c => ?_⟩⟩
      · refine ⟨⟨rfl, st_eq _ _⟩, h, rfl, by omega, ?_, fun h' r => ⟨⟨rfl, rfl⟩, ⟨h', 40, hM.trans r.1, .inr (.inr ⟨rfl, r.2⟩), rfl⟩, ?_⟩⟩
        · exact ⟨hn, by decide, by decide, by rw [i64_in (0 + 20) (by decide)]; omega, Int.le_refl _, s1, s2⟩
        · show 100 - 40 < 70
          omega
      · rw [i64_in (0 + 20) (by decide)] at c
        exact absurd (of_decide_eq_false c) (by omega)
theorem W157_ok (h : W157 vs σ k) : CallS Tryz.prog 157 vs k σ := by
  unfold W157 at h
  split at h
  · split at h
    · rename_i hb
      obtain ⟨⟨rfl, hσ⟩, q, rfl, hp, hk⟩ := h
      obtain rfl := own0 hb hσ
      subst hσ
      obtain ⟨hn, rfl⟩ := hp
      exact (S157 hn).mono fun v τ ⟨h1, g, h2, h3⟩ => by subst h1 h3; exact hk g h2
    · exact h.elim
  · exact h.elim
theorem kn24_ok : ∀ {f : FuncId} {vs : List V} {σ : St} {k : VPost}, kn24 f vs σ k → CallS Tryz.prog f vs k σ := by
  intro f vs σ k h
  unfold kn24 at h
  split at h
  · rename_i hb; obtain rfl := Nat.eq_of_beq_eq_true hb; exact W157_ok h
  · exact kn23_ok h
theorem S117 {n : Nat} {g : Nat → T30} (hn : n ≤ 30) : CallS Tryz.prog 117 [.own 0 n 6, .func (.func 62) [] []] (Ends (fun h => Rel117 n g h) n) (mkS [rowT n g]) := by
  refine F117.flat (live := live117) (call := kn24) (n₀ := 1) (fun h => kn24_ok h) rfl (by kernel_rfl) ?_
  rw [e117]
  exact ⟨⟨rfl, st_eq _ _⟩, g, rfl, ⟨hn, rfl⟩, fun h r => ⟨rfl, h, r, st_eq _ _⟩⟩
theorem W117_ok (h : W117 vs σ k) : CallS Tryz.prog 117 vs k σ := by
  unfold W117 at h
  split at h
  · split at h
    · rename_i hb
      obtain ⟨⟨rfl, hσ⟩, q, rfl, hp, hk⟩ := h
      obtain rfl := own0 hb hσ
      subst hσ
      exact (S117 hp).mono fun v τ ⟨h1, g, h2, h3⟩ => by subst h1 h3; exact hk g h2
    · exact h.elim
  · exact h.elim
theorem kn25_ok : ∀ {f : FuncId} {vs : List V} {σ : St} {k : VPost}, kn25 f vs σ k → CallS Tryz.prog f vs k σ := by
  intro f vs σ k h
  unfold kn25 at h
  split at h
  · rename_i hb; obtain rfl := Nat.eq_of_beq_eq_true hb; exact W117_ok h
  · exact kn24_ok h

/-! ### In order -/
theorem W116_ok (h : W116 vs σ k) : CallS Tryz.prog 116 vs k σ := by
  unfold W116 at h
  split at h
  · rename_i n f
    obtain ⟨⟨g, rfl⟩, ⟨hn, h30, rfl⟩, hk⟩ := h
    have base : CallS Tryz.prog 116 [V.arr n (fun i => T30.enc (g i)) 6 false true] (fun v τ => v = .own 1 n 6 ∧ τ = ⟨(St.new (St.new Go.Ev.start 0 (.cells 0 [] (putAll [] .leaf 0) true false)) 1 (.row n (fun i => T30.enc (g i)) 6 true)).heap, 2⟩) Go.Ev.start := by
      refine F116.flat (live := live116) (call := kn25) (n₀ := 0) (fun h => kn25_ok h) rfl (by kernel_rfl) ?_
      rw [e116]
      exact CondP.mk (fun c => absurd (of_decide_eq_true c) hn) fun _ => ⟨by omega, rfl, rfl⟩
    refine base.told fun v τ ⟨h1, h2⟩ => ⟨fun b => ([1] : List Nat)[b]?, .own 0 n 6, mkS [.row n (fun i => T30.enc (g i)) 6], ?_, ?_, hk⟩
    · subst h1; exact .own rfl
    · subst h2
      refine ⟨rfl, rfl, rfl, fun i v hv => (by rw [Slots.get_nil] at hv; cases hv), fun i b hb => ?_, fun i j c h1 h2 => ?_, fun i hi => ?_, fun i hi => absurd hi (Nat.not_lt_zero i), Nat.zero_le _⟩
      · obtain ⟨_, e⟩ := trieL_get (ks := blksOf [.row n (fun i => T30.enc (g i)) 6]) (n := 0) hb
        cases i with
        | zero =>
          have e : some (Blk.row n (fun i => T30.enc (g i)) 6 false) = some b := e
          cases e
          exact ⟨1, Blk.row n (fun i => T30.enc (g i)) 6 true, rfl, by kernel_rfl, .row (fun h => by cases h) fun i _ => VRenL.clean (g i).clean⟩
        | succ i => cases i <;> cases e
      · cases i with
        | zero => cases j with
          | zero => rfl
          | succ j => simp at h2
        | succ i => simp at h1
      · have hi : 1 ≤ i := hi
        cases i with
        | zero => omega
        | succ i => rfl
  · exact h.elim
theorem kn26_ok : ∀ {f : FuncId} {vs : List V} {σ : St} {k : VPost}, kn26 f vs σ k → CallS Tryz.prog f vs k σ := by
  intro f vs σ k h
  unfold kn26 at h
  split at h
  · rename_i hb; obtain rfl := Nat.eq_of_beq_eq_true hb; exact W116_ok h
  · exact kn25_ok h
def InOrder (n : Nat) (g : Nat → T30) (u : V) : Prop := ∃ o : Nat → T30, Mix 0 n g o ∧ Sorted k30 0 n o ∧ u = .arr n (fun i => T30.enc (o i)) 6 false false
theorem W61_ok (h : W61 vs σ k) : CallS Tryz.prog 61 vs k σ := by
  unfold W61 at h
  split at h
  · rename_i n f
    obtain ⟨g, rfl, ⟨hn, h30⟩, hk⟩ := h
    have base : CallS Tryz.prog 61 [V.arr n (fun i => T30.enc (g i)) 6 false true, .func (.func 62) [] []] (fun v τ => ∃ u, Frz τ v u ∧ InOrder n g u) Go.Ev.start := by
      refine F61.flat (live := live61) (call := kn26) (n₀ := 0) (fun h => kn26_ok h) rfl (by kernel_rfl) ?_
      rw [e61]
      exact ⟨⟨g, rfl⟩, ⟨hn, h30, rfl⟩, ⟨rfl, st_eq _ _⟩, g, rfl, h30, fun o r => ⟨_, .own (b := 0) (f := fun i => T30.enc (o i)) (g := fun i => T30.enc (o i)) (p := false) (by kernel_rfl) (fun i _ => FrzL.clean (o i).clean) (fun i _ => rfl), o, r.1, r.2, rfl⟩⟩
    refine (CallS.froz0 (Q := InOrder n g) (cl_cons (ev_clean n g true) (cl_cons (Go.Ev.Clean.func _) cl_nil)) base).mono fun v τ ⟨⟨o, h1, h2, h3⟩, h4⟩ => ?_
    subst h3 h4
    exact hk o h1 h2
  · exact h.elim
theorem kn27_ok : ∀ {f : FuncId} {vs : List V} {σ : St} {k : VPost}, kn27 f vs σ k → CallS Tryz.prog f vs k σ := by
  intro f vs σ k h
  unfold kn27 at h
  split at h
  · rename_i hb; obtain rfl := Nat.eq_of_beq_eq_true hb; exact W61_ok h
  · exact kn26_ok h
/-- No events. -/
noncomputable def emptyB (v : V) (τ : St) : Bool :=
  match v with
  | .nilslice => true
  | .slice b off n _ _ esz => Nat.beq n 0 && (Nat.beq esz 6 && (match τ.cells b off 0 with
    | some [] => true
    | _ => false))
  | _ => false
theorem empty_frz {v : V} {τ : St} {g : Nat → T30} (h : emptyB v τ = true) : ∃ u, Frz τ v u ∧ InOrder 0 g u := by
  refine ⟨_, ?_, g, Mix.refl _ _ _, Sorted.one g (by omega), rfl⟩
  unfold emptyB at h
  split at h
  · exact .toArr (.empty 6 false)
  · rename_i b off n cap ex esz
    rw [Bool.and_eq_true, Bool.and_eq_true] at h
    obtain ⟨h1, h2, h3⟩ := h
    have h1 := Nat.eq_of_beq_eq_true h1
    have h2 := Nat.eq_of_beq_eq_true h2
    subst h1 h2
    split at h3
    · rename_i hc
      exact .toArr (.slice (cs := []) (by rw [Nat.zero_mul]; exact hc) .nil (fun v hv => by cases hv) rfl)
    · cases h3
  · cases h
theorem W17_ok (h : W17 vs σ k) : CallS Tryz.prog 17 vs k σ := by
  unfold W17 at h
  split at h
  · rename_i n f
    obtain ⟨g, rfl, h30, hk⟩ := h
    have fin : ∀ (v : V) (τ : St), InOrder n g v ∧ τ = σ → k v τ := by
      rintro v τ ⟨⟨o, h1, h2, rfl⟩, rfl⟩
      exact hk o h1 h2
    refine CallS.nil_or (fun h0 => ?_) ?_
    · subst h0
      have base : CallS Tryz.prog 17 [.nilslice] (fun v τ => ∃ u, Frz τ v u ∧ InOrder 0 g u) Go.Ev.start := CallS.of_run (p := emptyB) 60 (by kernel_rfl) fun v τ h => empty_frz h
      exact (CallS.froz0 (cl_cons Go.Ev.Clean.nilslice cl_nil) base).mono fin
    · by_cases hn : n = 0
      · subst hn
        have base : CallS Tryz.prog 17 [.arr 0 (fun i => T30.enc (g i)) 6 false true] (fun v τ => ∃ u, Frz τ v u ∧ InOrder 0 g u) Go.Ev.start := CallS.of_run (p := emptyB) 60 (by kernel_rfl) fun v τ h => empty_frz h
        exact (CallS.froz0 (cl_cons (ev_clean 0 g true) cl_nil) base).mono fin
      · have base : CallS Tryz.prog 17 [.arr n (fun i => T30.enc (g i)) 6 false true] (fun v τ => ∃ u, Frz τ v u ∧ InOrder n g u) Go.Ev.start := by
          refine (F17.flat (live := live17) (call := kn27) (Q := fun v _ => InOrder n g v) (n₀ := 0) (fun h => kn27_ok h) rfl (by kernel_rfl) ?_).mono fun v τ h => ?_
          · rw [e17]
            exact ⟨g, rfl, ⟨hn, h30⟩, fun o h1 h2 => ⟨o, h1, h2, rfl⟩⟩
          · obtain ⟨o, h1, h2, rfl⟩ := h
            exact ⟨_, .clean (ev_clean n o false), o, h1, h2, rfl⟩
        exact (CallS.froz0 (cl_cons (ev_clean n g true) cl_nil) base).mono fin
  · exact h.elim
theorem kn28_ok : ∀ {f : FuncId} {vs : List V} {σ : St} {k : VPost}, kn28 f vs σ k → CallS Tryz.prog f vs k σ := by
  intro f vs σ k h
  unfold kn28 at h
  split at h
  · rename_i hb; obtain rfl := Nat.eq_of_beq_eq_true hb; exact W17_ok h
  · exact kn27_ok h
end
end Go.Proofs.YtbajncpfmemdgaaGreatDoor
namespace Go.Proofs.YtbajncpfmemdgaaGreatDoor
open Go Go.Ev Go.IntWalk Go.Ev.Sorts

theorem F3 : FnF Tryz.prog 3 Tryz.f3 := ⟨by kernel_rfl, by kernel_rfl, by kernel_rfl, by kernel_rfl, by kernel_rfl⟩
theorem cmpI_zero (x y : Int) : cmpI x y = 0 ↔ x = y := by
  unfold cmpI
  by_cases h : x < y
  · rw [if_pos h]
    exact ⟨fun h => absurd h (by decide), fun h => by omega⟩
  · rw [if_neg h]
    by_cases h2 : x > y
    · rw [if_pos h2]
      exact ⟨fun h => absurd h (by decide), fun h => by omega⟩
    · rw [if_neg h2]
      exact ⟨fun _ => by omega, fun _ => rfl⟩
theorem cmpI_ge (x y : Int) : cmpI x y ≥ 0 ↔ ¬ x < y := by
  have := cmpI_lt x y
  constructor
  · intro h h2
    have := this.2 h2
    omega
  · intro h
    by_cases h2 : cmpI x y < 0
    · exact absurd (this.1 h2) h
    · omega
theorem cmpI_gt (x y : Int) : cmpI x y > 0 ↔ y < x := by
  unfold cmpI
  by_cases h : x < y
  · rw [if_pos h]
    exact ⟨fun h => absurd h (by decide), fun h => by omega⟩
  · rw [if_neg h]
    by_cases h2 : x > y
    · rw [if_pos h2]
      exact ⟨fun _ => h2, fun _ => by decide⟩
    · rw [if_neg h2]
      exact ⟨fun h => absurd h (by decide), fun h => by omega⟩
/-- Sorted, and no two side by side alike. -/
theorem strict {n : Nat} {o : Nat → T30} (hs : Sorted k30 0 n o) (hd : ∀ t, 0 < t → t < n → k30 (o (t - 1)) ≠ k30 (o t)) : ∀ i j, i < j → j < n → k30 (o i) < k30 (o j) := fun i j h1 h2 => by
  have a := hs.le (i := i) (j := j - 1) (by omega) (by omega) (by omega)
  have b := hs (j - 1) j (by omega) (by omega) h2
  have c := hd j (by omega) h2
  omega
/-- Events whose words rise with their steps fit real time. -/
theorem real_of {n : Nat} {g o : Nat → T30} (hM : Sorts.Mix 0 n g o) (hs : Sorted k30 0 n o) (hc : ∀ t, 0 < t → t < n → (o (t - 1)).f2 < (o t).f1 ∧ (o (t - 1)).f1 ≤ (o (t - 1)).f2) (hl : 0 < n → (o (n - 1)).f1 ≤ (o (n - 1)).f2) (hu : Uniq n g) : RealP n g := by
  intro p q hp hq hpq
  obtain ⟨i, _, hi, ei⟩ := hM.to_ p (Nat.zero_le _) hp
  obtain ⟨j, _, hj, ej⟩ := hM.to_ q (Nat.zero_le _) hq
  obtain ⟨o', hM', hs'⟩ := hu
  obtain ⟨i', _, hi', ei'⟩ := hM'.to_ p (Nat.zero_le _) hp
  obtain ⟨j', _, hj', ej'⟩ := hM'.to_ q (Nat.zero_le _) hq
  have each : ∀ t, t < n → (o t).f1 ≤ (o t).f2 := fun t ht => by
    by_cases e : t + 1 < n
    · exact (hc (t + 1) (by omega) e).2
    · obtain rfl : t = n - 1 := by omega
      exact hl (by omega)
  have up : ∀ d s, s + d + 1 < n → (o s).f2 < (o (s + d + 1)).f1 := by
    intro d
    induction d with
    | zero => exact fun s h => (hc (s + 1) (by omega) h).1
    | succ d ih =>
      intro s h
      have a := ih s (by omega)
      have b := each (s + d + 1) (by omega)
      have c := (hc (s + d + 1 + 1) (by omega) h).1
      rw [show s + d + 1 + 1 - 1 = s + d + 1 by omega] at c
      rw [show s + (d + 1) + 1 = s + d + 1 + 1 by omega]
      omega
  -- not alike
  have hne : g p ≠ g q := fun e => by
    have := each i hi
    rw [ei] at this
    rw [e] at hpq this
    omega
  have hne' : i' ≠ j' := fun e => hne (by rw [← ei', ← ej', e])
  have hk : k30 (g p) ≠ k30 (g q) := by
    rw [← ei', ← ej']
    rcases Nat.lt_or_gt_of_ne hne' with h | h
    · have := hs' i' j' h hj'; omega
    · have := hs' j' i' h hi'; omega
  by_cases hij : i < j
  · have := hs.le (i := i) (j := j) (by omega) (by omega) hj
    rw [ei, ej] at this
    omega
  · exfalso
    by_cases e : i = j
    · exact hne (by rw [← ei, ← ej, e])
    · have a := up (i - j - 1) j (by omega)
      rw [show j + (i - j - 1) + 1 = i by omega] at a
      have b := each j hj
      have c := each i hi
      rw [← ei, ← ej] at hpq
      omega
section
variable [Env] {vs : List V} {σ : St} {k : VPost}
theorem W19_ok (h : W19 vs σ k) : CallS Tryz.prog 19 vs k σ := by
  unfold W19 at h
  split at h
  · rename_i n f
    obtain ⟨g, rfl, h30, h1, h2⟩ := h
    refine CallS.one_of (A := fun v => v = .bool false ∨ (v = .bool true ∧ Uniq n g)) (frz1 (ev_clean n g false)) (fun v hv => by rcases hv with rfl | ⟨rfl, _⟩ <;> rfl) ?_ fun v hv => by
      rcases hv with rfl | ⟨rfl, hv⟩
      · exact h2
      · exact h1 hv
    refine F19.floyd (live := live19) (call := kn28) (n₀ := 0) (fun h => kn28_ok h) rfl 1 (by kernel_rfl) Nat.lt_wfRel.wf (fun _ ss => 30 - lastI ss)
      (fun k ss => k = 0 ∧ ∃ (o : Nat → T30) (i : Int), 0 ≤ i ∧ i ≤ n ∧ Sorts.Mix 0 n g o ∧ Sorted k30 0 n o ∧ (∀ t : Nat, 0 < t → (t : Int) < i → k30 (o (t - 1)) ≠ k30 (o t)) ∧ ss = [.val (V.arr n (fun i => T30.enc (o i)) 6 false false), .val (.int .i64 n), .val (.int .i64 i)]) ?_ ?_ ?_
    · rintro k ss ⟨_, o, i, _, _, _, _, _, rfl⟩ s hs
      simp only [List.mem_cons, List.not_mem_nil, or_false] at hs
      rcases hs with rfl | rfl | rfl
      · exact ev_clean n o _
      · exact Go.Ev.Clean.int _ _
      · exact Go.Ev.Clean.int _ _
    · rw [e19 _ (fun v => v = .bool false ∨ (v = .bool true ∧ Uniq n g))]
      exact ⟨g, rfl, h30, fun o m s => ⟨rfl, o, 0, by omega, by omega, m, s, fun t _ h => by omega, rfl⟩⟩
    · rintro k hk ss ⟨rfl, o, i, i0, i1, m, s, hd, rfl⟩
      rw [r19 _ (fun v => v = .bool false ∨ (v = .bool true ∧ Uniq n g))]
      refine ⟨rfl, CondP.mk (fun c => ?_) fun c => ?_⟩
      · have c := of_decide_eq_true c
        rw [i64_in (i + 1) (by omega)]
        have dec : 30 - (i + 1).toNat < 30 - i.toNat := by omega
        refine ⟨rfl, CondP.mk (fun c1 => ?_) fun c1 => ?_⟩
        · have c1 := of_decide_eq_true c1
          rw [i64_in (i - 1) (by omega)]
          refine ⟨by omega, by omega, ⟨_, _, rfl⟩, rfl, CondP.mk (fun _ => .inl rfl) fun c2 => ⟨⟨rfl, o, i + 1, by omega, by omega, m, s, fun t t0 t1 => ?_, rfl⟩, dec⟩⟩
          by_cases e : (t : Int) < i
          · exact hd t t0 e
          · have c2 := of_decide_eq_false c2
            rw [cmpI_zero] at c2
            rw [show t - 1 = (i - 1).toNat by omega, show t = i.toNat by omega]
            exact c2
        · have c1 := of_decide_eq_false c1
          exact ⟨⟨rfl, o, i + 1, by omega, by omega, m, s, fun t t0 t1 => by omega, rfl⟩, dec⟩
      · have c := of_decide_eq_false c
        exact .inr ⟨rfl, o, m, strict s fun t t0 t1 => hd t t0 (by omega)⟩
  · exact h.elim
theorem kn29_ok : ∀ {f : FuncId} {vs : List V} {σ : St} {k : VPost}, kn29 f vs σ k → CallS Tryz.prog f vs k σ := by
  intro f vs σ k h
  unfold kn29 at h
  split at h
  · rename_i hb; obtain rfl := Nat.eq_of_beq_eq_true hb; exact W19_ok h
  · exact kn28_ok h
def m20 (n : Nat) : Nat → List SV → Nat
  | 0, [_, _, _, .val (.int _ i)] => (n - i.toNat) * 64 + 63
  | 1, [_, _, _, .val (.int _ i), _, _, _, .val (.int _ j)] => (n - i.toNat) * 64 + (n - j.toNat)
  | _, _ => 0
def I20 (n : Nat) (g : Nat → T30) : Nat → List SV → Prop
  | 0, ss => ∃ i : Int, 0 ≤ i ∧ i ≤ n ∧ ss = [.val (V.arr n (fun i => T30.enc (g i)) 6 false false), .val (V.arr n (fun i => T30.enc (g i)) 6 false false), .val (.int .i64 n), .val (.int .i64 i)]
  | 1, ss => ∃ i j : Int, 0 ≤ i ∧ i < n ∧ 0 ≤ j ∧ j ≤ n ∧ ss = [.val (V.arr n (fun i => T30.enc (g i)) 6 false false), .val (V.arr n (fun i => T30.enc (g i)) 6 false false), .val (.int .i64 n), .val (.int .i64 i),
      .box [.int .i64 (g i.toNat).f0, .int .i64 (g i.toNat).f1, .int .i64 (g i.toNat).f2, .int .i64 (g i.toNat).f3, arrOf T71.enc 24 (g i.toNat).f4, arrOf T76.enc 2 (g i.toNat).f5], .val (V.arr n (fun i => T30.enc (g i)) 6 false false), .val (.int .i64 n), .val (.int .i64 j)]
  | _, _ => False
theorem W20_ok (h : W20 vs σ k) : CallS Tryz.prog 20 vs k σ := by
  unfold W20 at h
  split at h
  · rename_i n f
    obtain ⟨g, rfl, h30, h1, h2⟩ := h
    refine CallS.one_of (A := fun v => v = .bool true ∨ (v = .bool false ∧ ¬ RealP n g)) (frz1 (ev_clean n g false)) (fun v hv => by rcases hv with rfl | ⟨rfl, _⟩ <;> rfl) ?_ fun v hv => by
      rcases hv with rfl | ⟨rfl, hv⟩
      · exact h1
      · exact h2 hv
    refine F20.floyd (live := live20) (call := kn29) (n₀ := 0) (fun h => kn29_ok h) rfl 2 (by kernel_rfl) Nat.lt_wfRel.wf (m20 n) (I20 n g) ?_ ?_ ?_
    · intro k ss hI s hs
      match k, hI with
      | 0, hI =>
        obtain ⟨i, _, _, rfl⟩ := hI
        simp only [List.mem_cons, List.not_mem_nil, or_false] at hs
        rcases hs with rfl | rfl | rfl | rfl
        · exact ev_clean n g _
        · exact ev_clean n g _
        · exact Go.Ev.Clean.int _ _
        · exact Go.Ev.Clean.int _ _
      | 1, hI =>
        obtain ⟨i, j, _, _, _, _, rfl⟩ := hI
        simp only [List.mem_cons, List.not_mem_nil, or_false] at hs
        rcases hs with rfl | rfl | rfl | rfl | rfl | rfl | rfl | rfl
        · exact ev_clean n g _
        · exact ev_clean n g _
        · exact Go.Ev.Clean.int _ _
        · exact Go.Ev.Clean.int _ _
        · exact (g i.toNat).clean
        · exact ev_clean n g _
        · exact Go.Ev.Clean.int _ _
        · exact Go.Ev.Clean.int _ _
    · rw [e20 _ (fun v => v = .bool true ∨ (v = .bool false ∧ ¬ RealP n g))]
      exact ⟨0, by omega, by omega, rfl⟩
    · intro k hk ss hI
      match k, hI with
      | 0, hI =>
        obtain ⟨i, i0, i1, rfl⟩ := hI
        rw [r20a _ (fun v => v = .bool true ∨ (v = .bool false ∧ ¬ RealP n g))]
        refine ⟨rfl, CondP.mk (fun c => ?_) fun c => .inl rfl⟩
        have c := of_decide_eq_true c
        refine ⟨⟨i0, c⟩, ⟨i, 0, i0, c, by omega, by omega, rfl⟩, ?_⟩
        show (n - i.toNat) * 64 + (n - (0 : Int).toNat) < (n - i.toNat) * 64 + 63
        omega
      | 1, hI =>
        obtain ⟨i, j, i0, i1, j0, j1, rfl⟩ := hI
        rw [r20b _ (fun v => v = .bool true ∨ (v = .bool false ∧ ¬ RealP n g))]
        refine ⟨rfl, CondP.mk (fun c => ?_) fun c => ?_⟩
        · have c := of_decide_eq_true c
          rw [i64_in (j + 1) (by omega)]
          have dec : (n - i.toNat) * 64 + (n - (j + 1).toNat) < (n - i.toNat) * 64 + (n - j.toNat) := by omega
          refine ⟨⟨j0, c⟩, rfl, CondP.mk (fun c1 => ?_) fun c1 => ⟨⟨i, j + 1, i0, i1, by omega, by omega, rfl⟩, dec⟩⟩
          have c1 := of_decide_eq_true c1
          refine ⟨⟨g i.toNat, g j.toNat, rfl⟩, rfl, CondP.mk (fun c2 => ?_) fun c2 => ⟨⟨i, j + 1, i0, i1, by omega, by omega, rfl⟩, dec⟩⟩
          have c2 := of_decide_eq_true c2
          rw [cmpI_ge] at c2
          exact .inr ⟨rfl, fun hr => c2 (hr i.toNat j.toNat (by omega) (by omega) c1)⟩
        · have c := of_decide_eq_false c
          rw [i64_in (i + 1) (by omega)]
          refine ⟨⟨i + 1, by omega, by omega, rfl⟩, ?_⟩
          show (n - (i + 1).toNat) * 64 + 63 < (n - i.toNat) * 64 + (n - j.toNat)
          omega
  · exact h.elim
theorem kn30_ok : ∀ {f : FuncId} {vs : List V} {σ : St} {k : VPost}, kn30 f vs σ k → CallS Tryz.prog f vs k σ := by
  intro f vs σ k h
  unfold kn30 at h
  split at h
  · rename_i hb; obtain rfl := Nat.eq_of_beq_eq_true hb; exact W20_ok h
  · exact kn29_ok h
theorem W16_of (H : ∀ {k : VPost} {σ : St}, k (.bool true) σ → CallS Tryz.prog 16 [] k σ) (h : W16 vs σ k) : CallS Tryz.prog 16 vs k σ := by
  unfold W16 at h
  split at h
  · exact H h
  · exact h.elim
theorem kn31_of (H : ∀ {k : VPost} {σ : St}, k (.bool true) σ → CallS Tryz.prog 16 [] k σ) {f : FuncId} (h : kn31 f vs σ k) : CallS Tryz.prog f vs k σ := by
  unfold kn31 at h
  split at h
  · rename_i hb; obtain rfl := Nat.eq_of_beq_eq_true hb; exact W16_of H h
  · exact kn30_ok h
/-- The law's call, if awake is. -/
theorem S3 (H : ∀ {k : VPost} {σ : St}, k (.bool true) σ → CallS Tryz.prog 16 [] k σ) (n : Nat) (g : Nat → T30) : CallS Tryz.prog 3 [V.arr n (fun i => T30.enc (g i)) 6 false false] (fun v _ => v = .bool true) Go.Ev.start := by
  refine F3.floyd (live := live3) (call := kn31) (n₀ := 0) (fun h => kn31_of H h) rfl 1 (by kernel_rfl) Nat.lt_wfRel.wf (fun _ ss => 60 - lastI ss)
    (fun k ss => k = 0 ∧ ∃ (o : Nat → T30) (b : Bool) (i : Int), n ≤ 30 ∧ 1 ≤ i ∧ (i ≤ n ∨ n = 0) ∧ i ≤ 31 ∧ Sorts.Mix 0 n g o ∧ Sorted k30 0 n o ∧ (b = true → ∀ t : Nat, 0 < t → (t : Int) < i → (o (t - 1)).f2 < (o t).f1 ∧ (o (t - 1)).f1 ≤ (o (t - 1)).f2) ∧
      ss = [.val (V.arr n (fun i => T30.enc (g i)) 6 false false), .val (V.arr n (fun i => T30.enc (o i)) 6 false false), .val (.bool b), .val (.int .i64 i)]) ?_ ?_ ?_
  · rintro k ss ⟨_, o, b, i, _, _, _, _, _, _, _, rfl⟩ s hs
    simp only [List.mem_cons, List.not_mem_nil, or_false] at hs
    rcases hs with rfl | rfl | rfl | rfl
    · exact ev_clean n g _
    · exact ev_clean n o _
    · exact Go.Ev.Clean.bool _
    · exact Go.Ev.Clean.int _ _
  · rw [e3]
    refine ⟨⟨g, rfl⟩, fun h30 => ⟨g, rfl, h30, fun o m s => ⟨rfl, CondP.mk (fun c => absurd rfl (of_decide_eq_true c)) fun _ => ⟨rfl, o, true, 1, h30, by omega, by omega, by omega, m, s, fun _ t t0 t1 => by omega, rfl⟩⟩⟩, rfl⟩
  · rintro k hk ss ⟨rfl, o, b, i, h30, i0, i1, i31, m, s, hc, rfl⟩
    have sorted : ∀ {j : Int}, 1 ≤ j → j < n → ¬ cmpI (key (o (j - 1).toNat).f3) (key (o j.toNat).f3) > 0 := fun {j} j0 j1 hgt => by
      rw [cmpI_gt] at hgt
      have := s (j - 1).toNat j.toNat (by omega) (by omega) (by omega)
      unfold k30 at this
      omega
    cases b with
    | true =>
      rw [r3t]
      refine ⟨rfl, CondP.mk (fun c => ?_) fun c => ?_⟩
      · have c := of_decide_eq_true c
        rw [i64_in (i - 1) (by omega), i64_in (i + 1) (by omega)]
        have dec : 60 - (i + 1).toNat < 60 - i.toNat := by omega
        have off : (0 = 0 ∧ ∃ (o' : Nat → T30) (b : Bool) (i' : Int), n ≤ 30 ∧ 1 ≤ i' ∧ (i' ≤ n ∨ n = 0) ∧ i' ≤ 31 ∧ Sorts.Mix 0 n g o' ∧ Sorted k30 0 n o' ∧ (b = true → ∀ t : Nat, 0 < t → (t : Int) < i' → (o' (t - 1)).f2 < (o' t).f1 ∧ (o' (t - 1)).f1 ≤ (o' (t - 1)).f2) ∧
            [SV.val (V.arr n (fun i => T30.enc (g i)) 6 false false), .val (V.arr n (fun i => T30.enc (o i)) 6 false false), .val (.bool false), .val (.int .i64 (i + 1))] = [.val (V.arr n (fun i => T30.enc (g i)) 6 false false), .val (V.arr n (fun i => T30.enc (o' i)) 6 false false), .val (.bool b), .val (.int .i64 i')]) :=
          ⟨rfl, o, false, i + 1, h30, by omega, by omega, by omega, m, s, fun h => (by cases h), rfl⟩
        refine ⟨by omega, by omega, rfl, CondP.mk (fun c1 => absurd (of_decide_eq_true c1) (sorted i0 c)) fun _ => ⟨by omega, by omega, rfl, CondP.mk (fun c2 => ⟨by omega, by omega, rfl, CondP.mk (fun c3 => ?_) fun _ => ⟨off, dec⟩⟩) fun _ => ⟨off, dec⟩⟩⟩
        have c2 := of_decide_eq_true c2
        have c3 := of_decide_eq_true c3
        refine ⟨⟨rfl, o, true, i + 1, h30, by omega, by omega, by omega, m, s, fun _ t t0 t1 => ?_, rfl⟩, dec⟩
        by_cases e : (t : Int) < i
        · exact hc rfl t t0 e
        · rw [show t - 1 = (i - 1).toNat by omega, show t = i.toNat by omega]
          exact ⟨c2, c3⟩
      · have c := of_decide_eq_false c
        have chain : ∀ t : Nat, 0 < t → t < n → (o (t - 1)).f2 < (o t).f1 ∧ (o (t - 1)).f1 ≤ (o (t - 1)).f2 := fun t t0 t1 => hc rfl t t0 (by omega)
        refine ⟨g, rfl, h30, fun hu => ⟨rfl, CondP.mk (fun c1 => ?_) fun c1 => ?_⟩, rfl⟩
        · have c1 := of_decide_eq_true c1
          rw [i64_in ((n : Int) - 1) (by omega)]
          refine ⟨by omega, by omega, rfl, CondP.mk (fun _ => rfl) fun c2 => ⟨g, rfl, h30, rfl, fun hr => absurd (real_of m s chain (fun h0 => ?_) hu) hr⟩⟩
          have c2 := of_decide_eq_false c2
          rw [show n - 1 = ((n : Int) - 1).toNat by omega]
          omega
        · have c1 := of_decide_eq_false c1
          exact ⟨g, rfl, h30, rfl, fun hr => absurd (real_of m s chain (fun h0 => by omega) hu) hr⟩
    | false =>
      rw [r3f]
      refine ⟨rfl, CondP.mk (fun c => ?_) fun c => rfl⟩
      have c := of_decide_eq_true c
      rw [i64_in (i - 1) (by omega), i64_in (i + 1) (by omega)]
      have dec : 60 - (i + 1).toNat < 60 - i.toNat := by omega
      exact ⟨by omega, by omega, rfl, CondP.mk (fun c1 => absurd (of_decide_eq_true c1) (sorted i0 c)) fun _ => ⟨⟨rfl, o, false, i + 1, h30, by omega, by omega, by omega, m, s, fun h => (by cases h), rfl⟩, dec⟩⟩
end
end Go.Proofs.YtbajncpfmemdgaaGreatDoor
namespace Go.Proofs.YtbajncpfmemdgaaGreatDoor
open Go Go.Ev

section
variable [Env]
theorem says {P : Program} [Go.Ev.Mix P] {f : FuncId} {vs : List V} {σ : St} {O : List Ev.Told} (hO : ∀ e ∈ O, e.ok P) (n : Nat) (h : (runO P O n (.call f vs) σ).check saysTrue = true) : CallS P f vs (fun v _ => v = .bool true) σ :=
  ⟨(SemE.of_runO (n := n) hO (Res.holds_of_check h)).mono fun ⟨o, τ⟩ hx => by
    cases o with
    | val v =>
      cases v with
      | bool b => have hx : b = true := hx; rw [hx]; rfl
      | _ => cases hx
    | exit e a => cases hx⟩
theorem S16 : CallS Tryz.prog 16 [] (fun v _ => v = .bool true) Go.Ev.start := says (n := 100000) Awake.awake_known Awake.awake_run
theorem awake_true {k : VPost} {σ : St} (h : k (.bool true) σ) : CallS Tryz.prog 16 [] k σ := CallS.one .nil rfl S16 h
end
theorem plain22 : plainT Tryz.prog 12 22 = true := by kernel_rfl
theorem typed_arg {P : Program} [Go.Ev.Mix P] {f : FuncId} {t : TypeId} {k : Nat} {A : V → Prop} (hp : plainT P k t = true) (hX : ∀ [Env] {us : List V}, HasT P k t us → ∃ u, A u ∧ Imp us [u]) (hS : ∀ [Env] u, A u → CallS P f [u] (fun v _ => v = .bool true) Go.Ev.start)
    {H : Type} {enc : TypeId × Value → H} {W : World} {v : Value} {d : DataW H} {p : List MemPlace} (hv : v.oneCell' = true) (h : DataW.Trod enc P W 0 (fun _ => true) true t v d p) :
    Calls P f #[v] W fun e W' => e = .returned (.bool true) ∧ RowKit.Below W.heap.size W W' := by
  letI : Env := envOf [] (fun x hx => by cases hx)
  obtain ⟨fuel, h⟩ := h
  obtain ⟨us, h1, h2⟩ := tree_of k hp h
  have hc : v.cells.toList = [v] := by cases v <;> first | rfl | cases hv
  rw [hc] at h1
  obtain ⟨u, hu, hl⟩ := hX h2
  exact calls_typed (hl _ _ h1) (hS u hu)
theorem ex22 [Env] {k : Nat} {us : List V} (h : HasT Tryz.prog k 22 us) : ∃ u, (∃ l : List T30, u = arrOf T30.enc 6 l) ∧ Imp us [u] := by
  obtain ⟨l, hl⟩ := X22 h
  exact ⟨arrOf T30.enc 6 l, ⟨l, rfl⟩, hl⟩
theorem serialRises_trod {H : Type} {enc : TypeId × Value → H} {W : World} {v : Value} {d : DataW H} {p : List MemPlace} (hv : v.oneCell' = true) (h : DataW.Trod enc Tryz.prog W 0 (fun _ => true) true 22 v d p) :
    Calls Tryz.prog 3 #[v] W fun e W' => e = .returned (.bool true) ∧ RowKit.Below W.heap.size W W' :=
  typed_arg (A := fun u => ∃ l : List T30, u = arrOf T30.enc 6 l) plain22 (ex22 (k := 12)) (fun u hu => by
    obtain ⟨l, rfl⟩ := hu
    exact S3 awake_true l.length fun i => l.getD i default) hv h
end Go.Proofs.YtbajncpfmemdgaaGreatDoor
