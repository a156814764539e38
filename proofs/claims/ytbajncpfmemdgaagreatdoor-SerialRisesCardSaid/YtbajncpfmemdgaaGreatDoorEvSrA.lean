/- Words compared, and whether arguments are few. -/
import Derived.Test.YtbajncpfmemdgaaGreatDoorEvSrEq
import Derived.IntWalk
namespace Go.Proofs.YtbajncpfmemdgaaGreatDoor
open Go Go.Ev Go.IntWalk

instance mixOk : Go.Ev.Mix Tryz.prog := ⟨by kernel_rfl⟩
theorem wrap_u64 (n : Int) : IntKind.u64.wrap n = n % 18446744073709551616 := by
  unfold IntKind.wrap
  show (if (false && _) = true then _ else _) = _
  rfl
theorem mask (y : Int) : IntKind.i64.wrap (BitVec.ofInt IntKind.i64.bits y &&& BitVec.ofInt IntKind.i64.bits (1048575 : Int)).toNat = y % 1048576 := by
  have h1 : (BitVec.ofInt IntKind.i64.bits y &&& BitVec.ofInt IntKind.i64.bits (1048575 : Int)).toNat = (y % 18446744073709551616).toNat % 1048576 := by
    have e : IntKind.i64.bits = 64 := rfl
    rw [BitVec.toNat_and, BitVec.toNat_ofInt, BitVec.toNat_ofInt]
    show (y % (2 ^ 64 : Nat)).toNat &&& ((1048575 : Int) % (2 ^ 64 : Nat)).toNat = _
    rw [show ((1048575 : Int) % (2 ^ 64 : Nat)).toNat = 2 ^ 20 - 1 by decide, Nat.and_two_pow_sub_one_eq_mod]
    rfl
  rw [h1, IntKind.wrap_i64]
  omega
theorem fdiv_pos (x y : Int) (h : 0 ≤ y) : x.fdiv y = x / y := Int.fdiv_eq_ediv_of_nonneg x h
theorem bits_eq (x n : Int) (h0 : 0 ≤ n) (h1 : n ≤ 30) : IntKind.i64.wrap (((IntKind.u64.wrap x).fdiv (2 ^ min (IntKind.u64.wrap n).toNat IntKind.u64.bits)).tmod (1048576 : Int)) = bitsI x n := by
  have e1 : IntKind.u64.wrap n = n := by rw [wrap_u64]; omega
  have e2 : min (IntKind.u64.wrap n).toNat IntKind.u64.bits = n.toNat := by
    rw [e1]
    show min n.toNat 64 = n.toNat
    omega
  have e3 : IntKind.u64.wrap x = x % 18446744073709551616 := wrap_u64 x
  rw [e2, e3]
  unfold bitsI
  obtain ⟨k, hk⟩ : ∃ k : Nat, n.toNat = k := ⟨_, rfl⟩
  have hk30 : k ≤ 30 := by omega
  rw [hk]
  have hp : (0 : Int) < 2 ^ k := Int.pow_pos (by decide)
  rw [fdiv_pos _ _ (Int.le_of_lt hp), fdiv_pos _ _ (Int.le_of_lt hp)]
  have hx : x % 18446744073709551616 = x + 2 ^ k * (-(2 ^ (64 - k) * (x / 18446744073709551616))) := by
    have : (2 : Int) ^ k * 2 ^ (64 - k) = 18446744073709551616 := by
      rw [← Int.pow_add, show k + (64 - k) = 64 by omega]; rfl
    rw [Int.mul_neg, ← Int.mul_assoc, this]
    have := Int.emod_add_mul_ediv x 18446744073709551616
    omega
  have hd : (x % 18446744073709551616) / 2 ^ k = x / 2 ^ k - 1048576 * (2 ^ (44 - k) * (x / 18446744073709551616)) := by
    rw [hx, Int.add_mul_ediv_left _ _ (by omega)]
    have : (2 : Int) ^ (64 - k) = 1048576 * 2 ^ (44 - k) := by
      rw [show (1048576 : Int) = 2 ^ 20 from rfl, ← Int.pow_add, show 20 + (44 - k) = 64 - k by omega]
    rw [this, Int.mul_assoc]; omega
  have hn : 0 ≤ (x % 18446744073709551616) / 2 ^ k := Int.ediv_nonneg (Int.emod_nonneg _ (by decide)) (Int.le_of_lt hp)
  rw [Int.tmod_eq_emod_of_nonneg hn, IntKind.wrap_i64]
  rw [hd] at hn ⊢
  generalize 2 ^ (44 - k) * (x / 18446744073709551616) = c at *
  generalize x / 2 ^ k = d at *
  omega

/-! ### Facts of the functions -/
theorem F206 : FnF Tryz.prog 206 Tryz.f206 := ⟨by kernel_rfl, by kernel_rfl, by kernel_rfl, by kernel_rfl, by kernel_rfl⟩
theorem F159 : FnF Tryz.prog 159 Tryz.f159 := ⟨by kernel_rfl, by kernel_rfl, by kernel_rfl, by kernel_rfl, by kernel_rfl⟩
theorem F160 : FnF Tryz.prog 160 Tryz.f160 := ⟨by kernel_rfl, by kernel_rfl, by kernel_rfl, by kernel_rfl, by kernel_rfl⟩
theorem F161 : FnF Tryz.prog 161 Tryz.f161 := ⟨by kernel_rfl, by kernel_rfl, by kernel_rfl, by kernel_rfl, by kernel_rfl⟩
theorem F158 : FnF Tryz.prog 158 Tryz.f158 := ⟨by kernel_rfl, by kernel_rfl, by kernel_rfl, by kernel_rfl, by kernel_rfl⟩
theorem F118 : FnF Tryz.prog 118 Tryz.f118 := ⟨by kernel_rfl, by kernel_rfl, by kernel_rfl, by kernel_rfl, by kernel_rfl⟩
theorem F62 : FnF Tryz.prog 62 Tryz.f62 := ⟨by kernel_rfl, by kernel_rfl, by kernel_rfl, by kernel_rfl, by kernel_rfl⟩
theorem F119 : FnF Tryz.prog 119 Tryz.f119 := ⟨by kernel_rfl, by kernel_rfl, by kernel_rfl, by kernel_rfl, by kernel_rfl⟩
theorem F63 : FnF Tryz.prog 63 Tryz.f63 := ⟨by kernel_rfl, by kernel_rfl, by kernel_rfl, by kernel_rfl, by kernel_rfl⟩
theorem F64 : FnF Tryz.prog 64 Tryz.f64 := ⟨by kernel_rfl, by kernel_rfl, by kernel_rfl, by kernel_rfl, by kernel_rfl⟩
theorem F18 : FnF Tryz.prog 18 Tryz.f18 := ⟨by kernel_rfl, by kernel_rfl, by kernel_rfl, by kernel_rfl, by kernel_rfl⟩

section
variable [Env] {vs : List V} {σ : St} {k : VPost}
/-- Numbers alone as arguments. -/
theorem ints1 (x : Int) : FrzL σ [.int .i64 x] [.int .i64 x] := .cons (.clean (Clean.int _ _)) .nil
theorem ints2 (x y : Int) : FrzL σ [.int .i64 x, .int .i64 y] [.int .i64 x, .int .i64 y] := .cons (.clean (Clean.int _ _)) (.cons (.clean (Clean.int _ _)) .nil)

theorem kn0_ok : ∀ {f : FuncId} {vs : List V} {σ : St} {k : VPost}, kn0 f vs σ k → CallS Tryz.prog f vs k σ := fun h => h.elim
theorem W206_ok (h : W206 vs σ k) : CallS Tryz.prog 206 vs k σ := by
  unfold W206 at h
  split at h
  · rename_i x
    refine CallS.one (v := .bool false) (ints1 x) rfl (F206.flat (live := live206) (call := kn0) (n₀ := 0) (σ := Go.Ev.start) (fun h => kn0_ok h) rfl (by kernel_rfl) ?_) h
    rw [e206]
    refine ⟨rfl, ?_⟩
    exact CondP.mk (fun e => by simp at e) fun _ => rfl
  · exact h.elim
theorem kn1_ok : ∀ {f : FuncId} {vs : List V} {σ : St} {k : VPost}, kn1 f vs σ k → CallS Tryz.prog f vs k σ := by
  intro f vs σ k h
  unfold kn1 at h
  split at h
  · rename_i hb; obtain rfl := Nat.eq_of_beq_eq_true hb; exact W206_ok h
  · exact kn0_ok h
theorem W159_ok (h : W159 vs σ k) : CallS Tryz.prog 159 vs k σ := by
  unfold W159 at h
  split at h
  · rename_i x y
    refine CallS.one (v := .int .i64 (cmpI x y)) (ints2 x y) rfl (F159.flat (live := live159) (call := kn1) (n₀ := 0) (σ := Go.Ev.start) (fun h => kn1_ok h) rfl (by kernel_rfl) ?_) h
    rw [e159]
    refine ⟨rfl, ?_⟩
    unfold cmpI
    refine CondP.mk (fun e => ?_) fun e => ⟨rfl, CondP.mk (fun e' => ?_) fun e' => ?_⟩
    · rw [if_pos (of_decide_eq_true e)]
    · rw [if_neg (of_decide_eq_false e), if_pos (of_decide_eq_true e')]
    · rw [if_neg (of_decide_eq_false e), if_neg (of_decide_eq_false e')]
  · exact h.elim
theorem kn2_ok : ∀ {f : FuncId} {vs : List V} {σ : St} {k : VPost}, kn2 f vs σ k → CallS Tryz.prog f vs k σ := by
  intro f vs σ k h
  unfold kn2 at h
  split at h
  · rename_i hb; obtain rfl := Nat.eq_of_beq_eq_true hb; exact W159_ok h
  · exact kn1_ok h
theorem W160_ok (h : W160 vs σ k) : CallS Tryz.prog 160 vs k σ := by
  unfold W160 at h
  split at h
  · rename_i x
    refine CallS.one (v := .int .i64 (epo x)) (ints1 x) rfl (F160.flat (live := live160) (call := kn2) (n₀ := 0) (σ := Go.Ev.start) (fun h => kn2_ok h) rfl (by kernel_rfl) ?_) h
    rw [e160]
    refine ⟨by decide, ?_⟩
    rw [mask]; rfl
  · exact h.elim
theorem kn3_ok : ∀ {f : FuncId} {vs : List V} {σ : St} {k : VPost}, kn3 f vs σ k → CallS Tryz.prog f vs k σ := by
  intro f vs σ k h
  unfold kn3 at h
  split at h
  · rename_i hb; obtain rfl := Nat.eq_of_beq_eq_true hb; exact W160_ok h
  · exact kn2_ok h
theorem W161_ok (h : W161 vs σ k) : CallS Tryz.prog 161 vs k σ := by
  unfold W161 at h
  split at h
  · rename_i x
    refine CallS.one (v := .int .i64 (seqn x)) (ints1 x) rfl (F161.flat (live := live161) (call := kn3) (n₀ := 0) (σ := Go.Ev.start) (fun h => kn3_ok h) rfl (by kernel_rfl) ?_) h
    rw [e161]
    refine ⟨by decide, ?_⟩
    rw [mask]; rfl
  · exact h.elim
theorem kn4_ok : ∀ {f : FuncId} {vs : List V} {σ : St} {k : VPost}, kn4 f vs σ k → CallS Tryz.prog f vs k σ := by
  intro f vs σ k h
  unfold kn4 at h
  split at h
  · rename_i hb; obtain rfl := Nat.eq_of_beq_eq_true hb; exact W161_ok h
  · exact kn3_ok h

/-- cmp.Or of two numbers: the heads of its loop. -/
def I158 (x y : Int) : Nat → List SV → Prop
  | 0, ss => ∃ i : Int, 0 ≤ i ∧ i ≤ 2 ∧ (0 < i → x = 0) ∧ (1 < i → y = 0) ∧ ss = [.val (.int .i64 0), .val (arrOf (V.int .i64) 1 [x, y]), .val (.int .i64 2), .val (.int .i64 i)]
  | _, _ => False
def lastI : List SV → Nat
  | [] => 0
  | [.val (.int _ i)] => i.toNat
  | _ :: r => lastI r
theorem W158_ok (h : W158 vs σ k) : CallS Tryz.prog 158 vs k σ := by
  unfold W158 at h
  split at h
  · rename_i b off cap ex
    split at h
    · rename_i x y hc
      have hf : FrzL σ [V.slice b off 2 cap ex 1] [arrOf (V.int .i64) 1 [x, y]] := .cons (.toArr (.slice (cs := [.int .i64 x, .int .i64 y]) hc (.cons (.clean (Clean.int _ _)) (.cons (.clean (Clean.int _ _)) .nil)) (by intro v hv; simp [arrL, List.range, List.range.loop] at hv; rcases hv with rfl | rfl <;> rfl) (by simp [arrL]))) .nil
      refine CallS.one (v := .int .i64 (orI x y)) hf rfl (F158.floyd (live := live158) (call := kn4) (n₀ := 0) (σ := Go.Ev.start) (fun h => kn4_ok h) rfl 1 (by kernel_rfl) Nat.lt_wfRel.wf (fun _ ss => 2 - lastI ss) (I158 x y) ?_ ?_ ?_) h
      · intro k ss hI s hs
        cases k with
        | zero =>
          obtain ⟨i, _, _, _, _, rfl⟩ := hI
          simp only [List.mem_cons, List.not_mem_nil, or_false] at hs
          rcases hs with rfl | rfl | rfl | rfl
          · exact Clean.int _ _
          · exact arrOf_clean fun _ _ u hu => by
              simp only [V.cells, List.mem_cons, List.not_mem_nil, or_false] at hu
              subst hu; exact Clean.int _ _
          · exact Clean.int _ _
          · exact Clean.int _ _
        | succ k => exact hI.elim
      · rw [e158]
        exact ⟨0, by omega, by omega, fun h => absurd h (by omega), fun h => absurd h (by omega), rfl⟩
      · intro k hk ss hI
        obtain rfl : k = 0 := by omega
        obtain ⟨i, h0, h2, hx, hy, rfl⟩ := hI
        rw [r158]
        refine ⟨rfl, CondP.mk (fun e => ?_) fun e => ?_⟩
        · have e := of_decide_eq_true e
          refine ⟨⟨h0, e⟩, rfl, CondP.mk (fun e1 => ?_) fun e1 => ?_⟩
          · have e1 := of_decide_eq_true e1
            rcases (show i = 0 ∨ i = 1 by omega) with rfl | rfl
            · have e1 : x ≠ 0 := e1
              unfold orI
              rw [if_pos e1]; rfl
            · have hx := hx (by omega)
              unfold orI
              rw [if_neg (by simp [hx])]; rfl
          · have e1 := of_decide_eq_false e1
            rw [i64_in _ (by omega)]
            refine ⟨⟨i + 1, by omega, by omega, fun _ => ?_, fun h => ?_, rfl⟩, ?_⟩
            · rcases (show i = 0 ∨ i = 1 by omega) with rfl | rfl
              · exact Decidable.not_not.1 e1
              · exact hx (by omega)
            · have : i = 1 := by omega
              subst this
              exact Decidable.not_not.1 e1
            · show 2 - (i + 1).toNat < 2 - i.toNat
              omega
        · have e := of_decide_eq_false e
          have hx := hx (by omega)
          have hy := hy (by omega)
          unfold orI
          rw [if_neg (by simp [hx]), hy]
    · exact h.elim
  · exact h.elim
theorem kn5_ok : ∀ {f : FuncId} {vs : List V} {σ : St} {k : VPost}, kn5 f vs σ k → CallS Tryz.prog f vs k σ := by
  intro f vs σ k h
  unfold kn5 at h
  split at h
  · rename_i hb; obtain rfl := Nat.eq_of_beq_eq_true hb; exact W158_ok h
  · exact kn4_ok h
omit [Env] in
theorem key_cmp (x y : Int) : orI (cmpI (epo x) (epo y)) (cmpI (seqn x) (seqn y)) = cmpI (key x) (key y) := by
  have h1 : 0 ≤ seqn x ∧ seqn x < 1048576 := ⟨Int.emod_nonneg _ (by decide), Int.emod_lt_of_pos _ (by decide)⟩
  have h2 : 0 ≤ seqn y ∧ seqn y < 1048576 := ⟨Int.emod_nonneg _ (by decide), Int.emod_lt_of_pos _ (by decide)⟩
  unfold orI cmpI key
  generalize epo x = a at *
  generalize epo y = b at *
  generalize seqn x = c at *
  generalize seqn y = d at *
  by_cases ab : a < b
  · rw [if_pos ab, if_pos (by decide), if_pos (by omega)]
  · by_cases ba : a > b
    · rw [if_neg ab, if_pos ba, if_pos (by decide), if_neg (by omega), if_pos (by omega)]
    · rw [if_neg ab, if_neg ba, if_neg (by simp)]
      by_cases cd : c < d
      · rw [if_pos cd, if_pos (by omega)]
      · by_cases dc : c > d
        · rw [if_neg cd, if_pos dc, if_neg (by omega), if_pos (by omega)]
        · rw [if_neg cd, if_neg dc, if_neg (by omega), if_neg (by omega)]
theorem W118_ok (h : W118 vs σ k) : CallS Tryz.prog 118 vs k σ := by
  unfold W118 at h
  split at h
  · rename_i x y
    refine CallS.one (v := .int .i64 (cmpI (key x) (key y))) (ints2 x y) rfl (F118.flat (live := live118) (call := kn5) (n₀ := 0) (σ := Go.Ev.start) (fun h => kn5_ok h) rfl (by kernel_rfl) ?_) h
    rw [e118]
    rw [key_cmp]
  · exact h.elim
theorem kn6_ok : ∀ {f : FuncId} {vs : List V} {σ : St} {k : VPost}, kn6 f vs σ k → CallS Tryz.prog f vs k σ := by
  intro f vs σ k h
  unfold kn6 at h
  split at h
  · rename_i hb; obtain rfl := Nat.eq_of_beq_eq_true hb; exact W118_ok h
  · exact kn5_ok h
end
end Go.Proofs.YtbajncpfmemdgaaGreatDoor
namespace Go.Proofs.YtbajncpfmemdgaaGreatDoor
open Go Go.Ev Go.IntWalk

theorem F69 : FnF Tryz.prog 69 Tryz.f69 := ⟨by kernel_rfl, by kernel_rfl, by kernel_rfl, by kernel_rfl, by kernel_rfl⟩
theorem F86 : FnF Tryz.prog 86 Tryz.f86 := ⟨by kernel_rfl, by kernel_rfl, by kernel_rfl, by kernel_rfl, by kernel_rfl⟩
theorem F68 : FnF Tryz.prog 68 Tryz.f68 := ⟨by kernel_rfl, by kernel_rfl, by kernel_rfl, by kernel_rfl, by kernel_rfl⟩
theorem F52 : FnF Tryz.prog 52 Tryz.f52 := ⟨by kernel_rfl, by kernel_rfl, by kernel_rfl, by kernel_rfl, by kernel_rfl⟩
theorem F28 : FnF Tryz.prog 28 Tryz.f28 := ⟨by kernel_rfl, by kernel_rfl, by kernel_rfl, by kernel_rfl, by kernel_rfl⟩
theorem F44 : FnF Tryz.prog 44 Tryz.f44 := ⟨by kernel_rfl, by kernel_rfl, by kernel_rfl, by kernel_rfl, by kernel_rfl⟩
theorem F21 : FnF Tryz.prog 21 Tryz.f21 := ⟨by kernel_rfl, by kernel_rfl, by kernel_rfl, by kernel_rfl, by kernel_rfl⟩
theorem F15 : FnF Tryz.prog 15 Tryz.f15 := ⟨by kernel_rfl, by kernel_rfl, by kernel_rfl, by kernel_rfl, by kernel_rfl⟩
section
variable [Env] {vs : List V} {σ : St} {k : VPost}
theorem frz1 {v : V} (h : Go.Ev.Clean v) : FrzL σ [v] [v] := .cons (.clean h) .nil
theorem T30.enc_clean (e : T30) : Go.Ev.Clean (T30.enc e) := Go.Ev.Clean.agg e.clean
theorem T46.enc_clean (e : T46) : Go.Ev.Clean (T46.enc e) := Go.Ev.Clean.agg e.clean
theorem T51.enc_clean (e : T51) : Go.Ev.Clean (T51.enc e) := Go.Ev.Clean.agg e.clean
theorem T53.enc_clean (e : T53) : Go.Ev.Clean (T53.enc e) := Go.Ev.Clean.agg e.clean
theorem T71.enc_clean (e : T71) : Go.Ev.Clean (T71.enc e) := Go.Ev.Clean.agg e.clean
theorem W62_ok (h : W62 vs σ k) : CallS Tryz.prog 62 vs k σ := by
  obtain ⟨⟨e₁, e₂, rfl⟩, h⟩ := h
  replace h : k (.int .i64 (cmpI (key e₁.f3) (key e₂.f3))) σ := h
  refine CallS.one (v := .int .i64 (cmpI (key e₁.f3) (key e₂.f3))) (.cons (.clean e₁.enc_clean) (frz1 e₂.enc_clean)) rfl (F62.flat (live := live62) (call := kn6) (n₀ := 0) (σ := Go.Ev.start) (fun h => kn6_ok h) rfl (by kernel_rfl) ?_) h
  rw [e62]
theorem kn7_ok : ∀ {f : FuncId} {vs : List V} {σ : St} {k : VPost}, kn7 f vs σ k → CallS Tryz.prog f vs k σ := by
  intro f vs σ k h
  unfold kn7 at h
  split at h
  · rename_i hb; obtain rfl := Nat.eq_of_beq_eq_true hb; exact W62_ok h
  · exact kn6_ok h
theorem W119_ok (h : W119 vs σ k) : CallS Tryz.prog 119 vs k σ := by
  unfold W119 at h
  split at h
  · rename_i x n
    obtain ⟨h0, h1, h⟩ := h
    refine CallS.one (v := .int .i64 (bitsI x n)) (ints2 x n) rfl (F119.flat (live := live119) (call := kn7) (n₀ := 0) (σ := Go.Ev.start) (fun h => kn7_ok h) rfl (by kernel_rfl) ?_) h
    rw [e119, bits_eq x n h0 h1]
    exact ⟨by rw [wrap_u64]; omega, ⟨rfl, by decide⟩, rfl⟩
  · exact h.elim
theorem kn8_ok : ∀ {f : FuncId} {vs : List V} {σ : St} {k : VPost}, kn8 f vs σ k → CallS Tryz.prog f vs k σ := by
  intro f vs σ k h
  unfold kn8 at h
  split at h
  · rename_i hb; obtain rfl := Nat.eq_of_beq_eq_true hb; exact W119_ok h
  · exact kn7_ok h
theorem W63_ok (h : W63 vs σ k) : CallS Tryz.prog 63 vs k σ := by
  unfold W63 at h
  split at h
  · rename_i x
    refine CallS.one (v := .int .i64 (bitsI x 23)) (ints1 x) rfl (F63.flat (live := live63) (call := kn8) (n₀ := 0) (σ := Go.Ev.start) (fun h => kn8_ok h) rfl (by kernel_rfl) ?_) h
    rw [e63]
    exact ⟨by decide, by decide, rfl⟩
  · exact h.elim
theorem kn9_ok : ∀ {f : FuncId} {vs : List V} {σ : St} {k : VPost}, kn9 f vs σ k → CallS Tryz.prog f vs k σ := by
  intro f vs σ k h
  unfold kn9 at h
  split at h
  · rename_i hb; obtain rfl := Nat.eq_of_beq_eq_true hb; exact W63_ok h
  · exact kn8_ok h
theorem W64_ok (h : W64 vs σ k) : CallS Tryz.prog 64 vs k σ := by
  unfold W64 at h
  split at h
  · rename_i x
    refine CallS.one (v := .int .i64 (bitsI x 3)) (ints1 x) rfl (F64.flat (live := live64) (call := kn9) (n₀ := 0) (σ := Go.Ev.start) (fun h => kn9_ok h) rfl (by kernel_rfl) ?_) h
    rw [e64]
    exact ⟨by decide, by decide, rfl⟩
  · exact h.elim
theorem kn10_ok : ∀ {f : FuncId} {vs : List V} {σ : St} {k : VPost}, kn10 f vs σ k → CallS Tryz.prog f vs k σ := by
  intro f vs σ k h
  unfold kn10 at h
  split at h
  · rename_i hb; obtain rfl := Nat.eq_of_beq_eq_true hb; exact W64_ok h
  · exact kn9_ok h
omit [Env] in
theorem key_wrap (x : Int) : IntKind.i64.wrap (IntKind.i64.wrap (bitsI x 23 * 1048576) + bitsI x 3) = key x := by
  have e1 : bitsI x 23 = epo x := rfl
  have e2 : bitsI x 3 = seqn x := rfl
  have h1 : 0 ≤ epo x ∧ epo x < 1048576 := ⟨Int.emod_nonneg _ (by decide), Int.emod_lt_of_pos _ (by decide)⟩
  have h2 : 0 ≤ seqn x ∧ seqn x < 1048576 := ⟨Int.emod_nonneg _ (by decide), Int.emod_lt_of_pos _ (by decide)⟩
  rw [e1, e2, i64_in (epo x * 1048576) (by omega), i64_in _ (by omega)]; rfl
theorem W18_ok (h : W18 vs σ k) : CallS Tryz.prog 18 vs k σ := by
  unfold W18 at h
  split at h
  · rename_i x y
    refine CallS.one (v := .int .i64 (cmpI (key x) (key y))) (ints2 x y) rfl (F18.flat (live := live18) (call := kn10) (n₀ := 0) (σ := Go.Ev.start) (fun h => kn10_ok h) rfl (by kernel_rfl) ?_) h
    rw [e18, key_wrap, key_wrap]
    unfold cmpI
    refine ⟨rfl, CondP.mk (fun e => ?_) fun e => ⟨rfl, CondP.mk (fun e' => ?_) fun e' => ?_⟩⟩
    · rw [if_pos (of_decide_eq_true e)]
    · rw [if_neg (of_decide_eq_false e), if_pos (of_decide_eq_true e')]
    · rw [if_neg (of_decide_eq_false e), if_neg (of_decide_eq_false e')]
  · exact h.elim
theorem kn11_ok : ∀ {f : FuncId} {vs : List V} {σ : St} {k : VPost}, kn11 f vs σ k → CallS Tryz.prog f vs k σ := by
  intro f vs σ k h
  unfold kn11 at h
  split at h
  · rename_i hb; obtain rfl := Nat.eq_of_beq_eq_true hb; exact W18_ok h
  · exact kn10_ok h

/-! ### Few -/
def Z (v : V) : Prop := v = .int .i64 0 ∨ v = .int .i64 1
omit [Env] in
theorem Z.scal (v : V) (h : Z v) : V.scal v = true := by rcases h with rfl | rfl <;> rfl
theorem tot_ok {f : FuncId} {us : List V} {p : Prop} (hf : FrzL σ vs us) (h : CallS Tryz.prog f us (fun v _ => Z v) Go.Ev.start) (ht : tot p σ k) : CallS Tryz.prog f vs k σ :=
  CallS.one_of hf Z.scal h fun v hv => by
    rcases hv with rfl | rfl
    · exact ht.2.1
    · exact ht.2.2
omit [Env] in
theorem z0 : Z (.int .i64 0) := .inl rfl
omit [Env] in
theorem z1 : Z (.int .i64 1) := .inr rfl
theorem W69_ok (h : W69 vs σ k) : CallS Tryz.prog 69 vs k σ := by
  obtain ⟨e, rfl⟩ := h.1
  refine tot_ok (frz1 e.enc_clean) (F69.flat (live := live69) (call := kn11) (n₀ := 0) (fun h => kn11_ok h) rfl (by kernel_rfl) ?_) h
  rw [e69]
  exact ⟨rfl, CondP.mk (fun _ => z0) fun _ => z1⟩
theorem kn12_ok : ∀ {f : FuncId} {vs : List V} {σ : St} {k : VPost}, kn12 f vs σ k → CallS Tryz.prog f vs k σ := by
  intro f vs σ k h
  unfold kn12 at h
  split at h
  · rename_i hb; obtain rfl := Nat.eq_of_beq_eq_true hb; exact W69_ok h
  · exact kn11_ok h
/-- A slice and a place in it, at a loop's head. -/
def Iat {α : Type} [Inhabited α] (enc : α → V) (esz : Nat) (l : List α) : Nat → List SV → Prop
  | 0, ss => ∃ i : Int, 0 ≤ i ∧ i ≤ l.length ∧ ss = [.val (arrOf enc esz l), .val (.int .i64 i)]
  | _, _ => False
theorem Iat_clean {α : Type} [Inhabited α] {enc : α → V} {esz : Nat} {l : List α} (hc : Go.Ev.Clean (arrOf enc esz l)) : ∀ k ss, Iat enc esz l k ss → ∀ s ∈ ss, s.clean := by
  intro k ss hI s hs
  cases k with
  | zero =>
    obtain ⟨i, _, _, rfl⟩ := hI
    simp only [List.mem_cons, List.not_mem_nil, or_false] at hs
    rcases hs with rfl | rfl
    · exact hc
    · exact Go.Ev.Clean.int _ _
  | succ k => exact hI.elim
omit [Env] in
theorem lastI_two (v : V) (i : Int) : lastI [.val v, .val (.int .i64 i)] = i.toNat := by cases v <;> rfl
theorem W86_ok (h : W86 vs σ k) : CallS Tryz.prog 86 vs k σ := by
  obtain ⟨l, rfl⟩ := h.1
  have hc : Go.Ev.Clean (arrOf T46.enc 4 l) := arrOf_clean fun x _ => x.clean
  refine tot_ok (frz1 hc) ?_ h
  by_cases hl : l.length ≤ 30
  · refine F86.floyd (live := live86) (call := kn12) (n₀ := 0) (fun h => kn12_ok h) rfl 1 (by kernel_rfl) Nat.lt_wfRel.wf (fun _ ss => 30 - lastI ss) (Iat T46.enc 4 l) (Iat_clean hc) ?_ ?_
    · rw [e86]
      exact ⟨rfl, CondP.mk (fun e => absurd (of_decide_eq_true e) (by omega)) fun _ => ⟨0, by omega, by omega, rfl⟩⟩
    · intro k hk ss hI
      obtain rfl : k = 0 := by omega
      obtain ⟨i, h0, h1, rfl⟩ := hI
      rw [r86]
      refine ⟨rfl, CondP.mk (fun e => ?_) fun _ => z1⟩
      have e := of_decide_eq_true e
      refine ⟨⟨h0, e⟩, ⟨_, rfl⟩, ⟨rfl, z0⟩, rfl, ⟨i + 1, by omega, by omega, by rw [i64_in _ (by omega)]⟩, ?_⟩
      rw [i64_in _ (by omega), lastI_two, lastI_two]
      show 30 - (i + 1).toNat < 30 - i.toNat
      omega
  · refine F86.floyd (live := live86) (call := kn12) (n₀ := 0) (fun h => kn12_ok h) rfl 1 (by kernel_rfl) Nat.lt_wfRel.wf (fun _ _ => 0) (fun _ _ => False) (fun _ _ h => h.elim) ?_ fun _ _ _ h => h.elim
    rw [e86]
    exact ⟨rfl, CondP.mk (fun _ => z0) fun e => absurd (of_decide_eq_false e) (by omega)⟩
theorem kn13_ok : ∀ {f : FuncId} {vs : List V} {σ : St} {k : VPost}, kn13 f vs σ k → CallS Tryz.prog f vs k σ := by
  intro f vs σ k h
  unfold kn13 at h
  split at h
  · rename_i hb; obtain rfl := Nat.eq_of_beq_eq_true hb; exact W86_ok h
  · exact kn12_ok h
end
end Go.Proofs.YtbajncpfmemdgaaGreatDoor
namespace Go.Proofs.YtbajncpfmemdgaaGreatDoor
open Go Go.Ev Go.IntWalk

section
variable [Env] {vs : List V} {σ : St} {k : VPost}
omit [Env] in
theorem arrL_getD {α : Type} [Inhabited α] (enc : α → V) (l : List α) : arrL l.length (fun i => enc (l.getD i default)) = l.map enc := by
  apply List.ext_getElem?
  intro i
  by_cases h : i < l.length
  · rw [arrL_get h, List.getElem?_map, List.getElem?_eq_getElem h, List.getD_eq_getElem?_getD, List.getElem?_eq_getElem h]; rfl
  · rw [List.getElem?_eq_none (by rw [arrL_length]; omega), List.getElem?_eq_none (by rw [List.length_map]; omega)]
/-- Texts in a slice of cells. -/
theorem frz_strs {b n cap : Nat} {ex : Bool} (ls : List (List UInt8)) (hn : ls.length = n) (h : σ.cells b 0 (n * 1) = some (ls.map V.str)) : FrzL σ [V.slice b 0 n cap ex 1] [arrOf V.str 1 ls] := by
  have e1 : ∀ l : List (List UInt8), flatCells (l.map V.str) = l.map V.str := by
    intro l
    induction l with
    | nil => rfl
    | cons x l ih => rw [List.map_cons, flatCells_cons, ih]; rfl
  have e2 : ∀ l : List (List UInt8), FrzL σ (l.map V.str) (l.map V.str) := fun l => FrzL.clean fun v hv => by
    obtain ⟨x, _, rfl⟩ := List.mem_map.1 hv
    exact Go.Ev.Clean.str x
  refine .cons (.toArr (.slice h ?_ ?_ ?_)) .nil
  · rw [arrL_getD, e1]; exact e2 ls
  · rw [arrL_getD]
    intro v hv
    obtain ⟨x, _, rfl⟩ := List.mem_map.1 hv
    rfl
  · rw [arrL_length, hn]
theorem W68_ok (h : W68 vs σ k) : CallS Tryz.prog 68 vs k σ := by
  obtain ⟨l, hf⟩ := h.1
  have hc : Go.Ev.Clean (arrOf V.str 1 l) := arrOf_clean fun _ _ => cl_cons (Go.Ev.Clean.str _) cl_nil
  refine tot_ok hf ?_ h
  by_cases hl : l.length ≤ 60
  · refine F68.floyd (live := live68) (call := kn13) (n₀ := 0) (fun h => kn13_ok h) rfl 1 (by kernel_rfl) Nat.lt_wfRel.wf (fun _ ss => 60 - lastI ss) (Iat V.str 1 l) (Iat_clean hc) ?_ ?_
    · rw [e68]
      exact ⟨rfl, CondP.mk (fun e => absurd (of_decide_eq_true e) (by omega)) fun _ => ⟨0, by omega, by omega, rfl⟩⟩
    · intro k hk ss hI
      obtain rfl : k = 0 := by omega
      obtain ⟨i, h0, h1, rfl⟩ := hI
      rw [r68]
      refine ⟨rfl, CondP.mk (fun e => ?_) fun _ => z1⟩
      have e := of_decide_eq_true e
      refine ⟨⟨h0, e⟩, rfl, CondP.mk (fun _ => z0) fun _ => ⟨⟨i + 1, by omega, by omega, by rw [i64_in _ (by omega)]⟩, ?_⟩⟩
      rw [i64_in _ (by omega), lastI_two, lastI_two]
      show 60 - (i + 1).toNat < 60 - i.toNat
      omega
  · refine F68.floyd (live := live68) (call := kn13) (n₀ := 0) (fun h => kn13_ok h) rfl 1 (by kernel_rfl) Nat.lt_wfRel.wf (fun _ _ => 0) (fun _ _ => False) (fun _ _ h => h.elim) ?_ fun _ _ _ h => h.elim
    rw [e68]
    exact ⟨rfl, CondP.mk (fun _ => z0) fun e => absurd (of_decide_eq_false e) (by omega)⟩
theorem kn14_ok : ∀ {f : FuncId} {vs : List V} {σ : St} {k : VPost}, kn14 f vs σ k → CallS Tryz.prog f vs k σ := by
  intro f vs σ k h
  unfold kn14 at h
  split at h
  · rename_i hb; obtain rfl := Nat.eq_of_beq_eq_true hb; exact W68_ok h
  · exact kn13_ok h
def I52 (e : T51) : Nat → List SV → Prop
  | 0, ss => ∃ i : Int, 0 ≤ i ∧ i ≤ e.f2.length ∧ ss = [.box [.str e.f0, .int .i64 e.f1, arrOf T48.enc 7 e.f2], .val (.int .i64 i)]
  | _, _ => False
theorem W52_ok (h : W52 vs σ k) : CallS Tryz.prog 52 vs k σ := by
  obtain ⟨e, rfl⟩ := h.1
  refine tot_ok (frz1 e.enc_clean) ?_ h
  by_cases hl : e.f2.length ≤ 20
  · refine F52.floyd (live := live52) (call := kn14) (n₀ := 0) (fun h => kn14_ok h) rfl 1 (by kernel_rfl) Nat.lt_wfRel.wf (fun _ ss => 20 - lastI ss) (I52 e) ?_ ?_ ?_
    · intro k ss hI s hs
      cases k with
      | zero =>
        obtain ⟨i, _, _, rfl⟩ := hI
        simp only [List.mem_cons, List.not_mem_nil, or_false] at hs
        rcases hs with rfl | rfl
        · exact e.clean
        · exact Go.Ev.Clean.int _ _
      | succ k => exact hI.elim
    · rw [e52]
      exact ⟨rfl, CondP.mk (fun e => absurd (of_decide_eq_true e) (by omega)) fun _ => ⟨rfl, CondP.mk (fun _ => z0) fun _ => ⟨0, by omega, by omega, rfl⟩⟩⟩
    · intro k hk ss hI
      obtain rfl : k = 0 := by omega
      obtain ⟨i, h0, h1, rfl⟩ := hI
      rw [r52]
      refine ⟨rfl, CondP.mk (fun q => ?_) fun _ => z1⟩
      have q := of_decide_eq_true q
      refine ⟨⟨h0, q⟩, rfl, CondP.mk (fun _ => z0) fun _ => ⟨⟨h0, q⟩, ⟨(e.f2.getD i.toNat default).f3, rfl⟩, ⟨rfl, z0⟩, rfl, ⟨i + 1, by omega, by omega, by rw [i64_in _ (by omega)]⟩, ?_⟩⟩
      rw [i64_in _ (by omega)]
      show 20 - (i + 1).toNat < 20 - i.toNat
      omega
  · refine F52.floyd (live := live52) (call := kn14) (n₀ := 0) (fun h => kn14_ok h) rfl 1 (by kernel_rfl) Nat.lt_wfRel.wf (fun _ _ => 0) (fun _ _ => False) (fun _ _ h => h.elim) ?_ fun _ _ _ h => h.elim
    rw [e52]
    exact ⟨rfl, CondP.mk (fun _ => z0) fun e => absurd (of_decide_eq_false e) (by omega)⟩
theorem kn15_ok : ∀ {f : FuncId} {vs : List V} {σ : St} {k : VPost}, kn15 f vs σ k → CallS Tryz.prog f vs k σ := by
  intro f vs σ k h
  unfold kn15 at h
  split at h
  · rename_i hb; obtain rfl := Nat.eq_of_beq_eq_true hb; exact W52_ok h
  · exact kn14_ok h
theorem W28_ok (h : W28 vs σ k) : CallS Tryz.prog 28 vs k σ := by
  obtain ⟨e, rfl⟩ := h.1
  refine tot_ok (frz1 e.enc_clean) (F28.flat (live := live28) (call := kn15) (n₀ := 0) (fun h => kn15_ok h) rfl (by kernel_rfl) ?_) h
  rw [e28]
  refine ⟨⟨e.f7, frz1 (arrOf_clean fun _ _ => cl_cons (Go.Ev.Clean.str _) cl_nil)⟩, ⟨rfl, z0⟩, rfl, ⟨[e.f1, e.f2, e.f3, e.f4, e.f5, e.f8.f0], frz_strs _ rfl (by kernel_rfl)⟩, ⟨rfl, z0⟩, rfl, ⟨e.f9, rfl⟩, ⟨rfl, z0⟩, rfl, ⟨e.f8.f3, rfl⟩, ⟨rfl, z0⟩, rfl, z1⟩
theorem kn16_ok : ∀ {f : FuncId} {vs : List V} {σ : St} {k : VPost}, kn16 f vs σ k → CallS Tryz.prog f vs k σ := by
  intro f vs σ k h
  unfold kn16 at h
  split at h
  · rename_i hb; obtain rfl := Nat.eq_of_beq_eq_true hb; exact W28_ok h
  · exact kn15_ok h
theorem W44_ok (h : W44 vs σ k) : CallS Tryz.prog 44 vs k σ := by
  obtain ⟨e, rfl⟩ := h.1
  refine tot_ok (frz1 e.enc_clean) (F44.flat (live := live44) (call := kn16) (n₀ := 0) (fun h => kn16_ok h) rfl (by kernel_rfl) ?_) h
  rw [e44]
  exact ⟨rfl, CondP.mk (fun _ => z0) fun _ => ⟨⟨_, rfl⟩, ⟨rfl, z0⟩, rfl, ⟨_, rfl⟩, ⟨rfl, z0⟩, rfl, ⟨_, rfl⟩, ⟨rfl, z0⟩, rfl, ⟨e.f6, rfl⟩, ⟨rfl, z0⟩, rfl, z1⟩⟩
theorem kn17_ok : ∀ {f : FuncId} {vs : List V} {σ : St} {k : VPost}, kn17 f vs σ k → CallS Tryz.prog f vs k σ := by
  intro f vs σ k h
  unfold kn17 at h
  split at h
  · rename_i hb; obtain rfl := Nat.eq_of_beq_eq_true hb; exact W44_ok h
  · exact kn16_ok h
theorem W21_ok (h : W21 vs σ k) : CallS Tryz.prog 21 vs k σ := by
  obtain ⟨l, rfl⟩ := h.1
  have hc : Go.Ev.Clean (arrOf T71.enc 24 l) := arrOf_clean fun x _ => x.clean
  refine tot_ok (.cons (.clean hc) (ints1 10)) ?_ h
  by_cases hl : l.length ≤ 10
  · refine F21.floyd (live := live21) (call := kn17) (n₀ := 0) (fun h => kn17_ok h) rfl 1 (by kernel_rfl) Nat.lt_wfRel.wf (fun _ ss => 30 - lastI ss) (Iat T71.enc 24 l) (Iat_clean hc) ?_ ?_
    · rw [e21]
      exact ⟨rfl, CondP.mk (fun e => absurd (of_decide_eq_true e) (by omega)) fun _ => ⟨0, by omega, by omega, rfl⟩⟩
    · intro k hk ss hI
      obtain rfl : k = 0 := by omega
      obtain ⟨i, h0, h1, rfl⟩ := hI
      rw [r21]
      refine ⟨rfl, CondP.mk (fun e => ?_) fun _ => z1⟩
      have e := of_decide_eq_true e
      refine ⟨⟨h0, e⟩, ⟨_, rfl⟩, ⟨rfl, z0⟩, rfl, ⟨i + 1, by omega, by omega, by rw [i64_in _ (by omega)]⟩, ?_⟩
      rw [i64_in _ (by omega), lastI_two, lastI_two]
      show 30 - (i + 1).toNat < 30 - i.toNat
      omega
  · refine F21.floyd (live := live21) (call := kn17) (n₀ := 0) (fun h => kn17_ok h) rfl 1 (by kernel_rfl) Nat.lt_wfRel.wf (fun _ _ => 0) (fun _ _ => False) (fun _ _ h => h.elim) ?_ fun _ _ _ h => h.elim
    rw [e21]
    exact ⟨rfl, CondP.mk (fun _ => z0) fun e => absurd (of_decide_eq_false e) (by omega)⟩
theorem kn18_ok : ∀ {f : FuncId} {vs : List V} {σ : St} {k : VPost}, kn18 f vs σ k → CallS Tryz.prog f vs k σ := by
  intro f vs σ k h
  unfold kn18 at h
  split at h
  · rename_i hb; obtain rfl := Nat.eq_of_beq_eq_true hb; exact W21_ok h
  · exact kn17_ok h
/-- Events. -/
theorem ev_clean (n : Nat) (g : Nat → T30) (nn : Bool) : Go.Ev.Clean (V.arr n (fun i => T30.enc (g i)) 6 false nn) := Go.Ev.Clean.arr fun i _ => (g i).clean
def I15 (n : Nat) (g : Nat → T30) : Nat → List SV → Prop
  | 0, ss => ∃ i : Int, 0 ≤ i ∧ i ≤ n ∧ ss = [.val (V.arr n (fun i => T30.enc (g i)) 6 false false), .val (.int .i64 i)]
  | 1, ss => ∃ i j : Int, 0 ≤ i ∧ i < n ∧ 0 ≤ j ∧ j ≤ (g i.toNat).f5.length ∧ (g i.toNat).f5.length ≤ 20 ∧ ss = [.val (V.arr n (fun i => T30.enc (g i)) 6 false false), .val (.int .i64 i), .val (.int .i64 j)]
  | _, _ => False
def m15 : List SV → Nat
  | [_, .val (.int _ i)] => (31 - i.toNat) * 32
  | [_, .val (.int _ i), .val (.int _ j)] => (31 - i.toNat) * 32 - 1 - j.toNat
  | _ => 0
theorem W15_ok (h : W15 vs σ k) : CallS Tryz.prog 15 vs k σ := by
  unfold W15 at h
  split at h
  · rename_i n f ex nn
    obtain ⟨⟨g, rfl⟩, h1, h2⟩ := h
    have key : CallS Tryz.prog 15 [V.arr n (fun i => T30.enc (g i)) 6 false false] (fun v _ => v = .bool false ∨ (v = .bool true ∧ n ≤ 30)) Go.Ev.start := by
      by_cases hl : n ≤ 30
      · refine F15.floyd (live := live15) (call := kn18) (n₀ := 0) (fun h => kn18_ok h) rfl 2 (by kernel_rfl) Nat.lt_wfRel.wf (fun _ ss => m15 ss) (I15 n g) ?_ ?_ ?_
        · intro k ss hI s hs
          match k, hI with
          | 0, hI =>
            obtain ⟨i, _, _, rfl⟩ := hI
            simp only [List.mem_cons, List.not_mem_nil, or_false] at hs
            rcases hs with rfl | rfl
            · exact ev_clean n g _
            · exact Go.Ev.Clean.int _ _
          | 1, hI =>
            obtain ⟨i, j, _, _, _, _, _, rfl⟩ := hI
            simp only [List.mem_cons, List.not_mem_nil, or_false] at hs
            rcases hs with rfl | rfl | rfl
            · exact ev_clean n g _
            · exact Go.Ev.Clean.int _ _
            · exact Go.Ev.Clean.int _ _
        · rw [e15 _ (fun v => v = .bool false ∨ (v = .bool true ∧ n ≤ 30))]
          exact ⟨rfl, CondP.mk (fun e => absurd (of_decide_eq_true e) (by omega)) fun _ => ⟨0, by omega, by omega, rfl⟩⟩
        · intro k hk ss hI
          match k, hI with
          | 0, hI =>
            obtain ⟨i, h0, h1, rfl⟩ := hI
            rw [r15a _ (fun v => v = .bool false ∨ (v = .bool true ∧ n ≤ 30))]
            refine ⟨rfl, CondP.mk (fun e => ?_) fun _ => .inr ⟨rfl, hl⟩⟩
            have e := of_decide_eq_true e
            refine ⟨⟨h0, e⟩, ⟨_, rfl⟩, ⟨rfl, .inl rfl⟩, rfl, ⟨h0, e⟩, rfl, CondP.mk (fun _ => .inl rfl) fun e2 => ?_⟩
            have e2 := of_decide_eq_false e2
            refine ⟨⟨i, 0, h0, e, by omega, by omega, by omega, rfl⟩, ?_⟩
            show (31 - i.toNat) * 32 - 1 - (0 : Int).toNat < (31 - i.toNat) * 32
            omega
          | 1, hI =>
            obtain ⟨i, j, h0, h1, j0, j1, j2, rfl⟩ := hI
            rw [r15b _ (fun v => v = .bool false ∨ (v = .bool true ∧ n ≤ 30))]
            refine ⟨⟨h0, h1⟩, rfl, CondP.mk (fun e => ?_) fun e => ?_⟩
            · have e := of_decide_eq_true e
              refine ⟨⟨h0, h1⟩, ⟨j0, e⟩, rfl, CondP.mk (fun _ => .inl rfl) fun _ => ?_⟩
              rw [i64_in (j + 1) (by omega)]
              refine ⟨⟨i, j + 1, h0, h1, by omega, by omega, j2, rfl⟩, ?_⟩
              show (31 - i.toNat) * 32 - 1 - (j + 1).toNat < (31 - i.toNat) * 32 - 1 - j.toNat
              omega
            · rw [i64_in (i + 1) (by omega)]
              refine ⟨⟨i + 1, by omega, by omega, rfl⟩, ?_⟩
              show (31 - (i + 1).toNat) * 32 < (31 - i.toNat) * 32 - 1 - j.toNat
              omega
      · refine F15.floyd (live := live15) (call := kn18) (n₀ := 0) (fun h => kn18_ok h) rfl 2 (by kernel_rfl) Nat.lt_wfRel.wf (fun _ _ => 0) (fun _ _ => False) (fun _ _ h => h.elim) ?_ fun _ _ _ h => h.elim
        rw [e15 _ (fun v => v = .bool false ∨ (v = .bool true ∧ n ≤ 30))]
        exact ⟨rfl, CondP.mk (fun _ => .inl rfl) fun e => absurd (of_decide_eq_false e) (by omega)⟩
    have frz : FrzL σ [V.arr n (fun i => T30.enc (g i)) 6 ex nn] [V.arr n (fun i => T30.enc (g i)) 6 false false] :=
      .cons (.arr (fun i _ => FrzL.clean (g i).clean) (fun i _ => rfl) (fun h => by cases h) (fun h => by cases h)) .nil
    refine CallS.one_of frz (fun v hv => ?_) key fun v hv => ?_
    · rcases hv with rfl | ⟨rfl, _⟩ <;> rfl
    · rcases hv with rfl | ⟨rfl, hn⟩
      · exact h2
      · exact h1 hn
  · exact h.elim
theorem kn19_ok : ∀ {f : FuncId} {vs : List V} {σ : St} {k : VPost}, kn19 f vs σ k → CallS Tryz.prog f vs k σ := by
  intro f vs σ k h
  unfold kn19 at h
  split at h
  · rename_i hb; obtain rfl := Nat.eq_of_beq_eq_true hb; exact W15_ok h
  · exact kn18_ok h
end
end Go.Proofs.YtbajncpfmemdgaaGreatDoor
