/- Values and rows as bytes: program and reference. -/
import Derived.Test.YtbajncpfmemdgaaGreatDoorEvBnQ
namespace Go.Proofs.YtbajncpfmemdgaaGreatDoor
open Go Go.Ev Go.IntWalk
theorem F197 : FnF Tryz.prog 197 Tryz.f197 := ⟨by kernel_rfl, by kernel_rfl, by kernel_rfl, by kernel_rfl, by kernel_rfl⟩
theorem F200 : FnF Tryz.prog 200 Tryz.f200 := ⟨by kernel_rfl, by kernel_rfl, by kernel_rfl, by kernel_rfl, by kernel_rfl⟩
theorem F199 : FnF Tryz.prog 199 Tryz.f199 := ⟨by kernel_rfl, by kernel_rfl, by kernel_rfl, by kernel_rfl, by kernel_rfl⟩
theorem F201 : FnF Tryz.prog 201 Tryz.f201 := ⟨by kernel_rfl, by kernel_rfl, by kernel_rfl, by kernel_rfl, by kernel_rfl⟩
theorem F151 : FnF Tryz.prog 151 Tryz.f151 := ⟨by kernel_rfl, by kernel_rfl, by kernel_rfl, by kernel_rfl, by kernel_rfl⟩
theorem F105 : FnF Tryz.prog 105 Tryz.f105 := ⟨by kernel_rfl, by kernel_rfl, by kernel_rfl, by kernel_rfl, by kernel_rfl⟩
theorem signU (y : Int) (hy : 0 ≤ y ∧ y < 18446744073709551616) : IntKind.u64.wrap (BitVec.ofInt IntKind.u64.bits y &&& BitVec.ofInt IntKind.u64.bits (9223372036854775808 : Int)).toNat = if y < 9223372036854775808 then 0 else 9223372036854775808 := by
  have h1 : (BitVec.ofInt IntKind.u64.bits y &&& BitVec.ofInt IntKind.u64.bits (9223372036854775808 : Int)).toNat = if y < 9223372036854775808 then 0 else 9223372036854775808 := by
    rw [BitVec.toNat_and, BitVec.toNat_ofInt, BitVec.toNat_ofInt]
    show (y % (2 ^ 64 : Nat)).toNat &&& 2 ^ 63 = _
    rw [show (y % (2 ^ 64 : Nat)).toNat = y.toNat from congrArg Int.toNat (Int.emod_eq_of_lt hy.1 hy.2)]
    refine Nat.eq_of_testBit_eq fun i => ?_
    rw [Nat.testBit_and, Nat.testBit_two_pow]
    by_cases hi : 63 = i
    · subst hi
      rw [Nat.testBit_eq_decide_div_mod_eq, decide_eq_true rfl, Bool.and_true]
      by_cases h : y < 9223372036854775808
      · rw [if_pos h, decide_eq_false (by omega)]; rfl
      · rw [if_neg h, decide_eq_true (by omega)]; rfl
    · rw [decide_eq_false hi, Bool.and_false]
      by_cases h : y < 9223372036854775808
      · rw [if_pos h, Nat.zero_testBit]
      · rw [if_neg h, show (9223372036854775808 : Nat) = 2 ^ 63 from rfl, Nat.testBit_two_pow, decide_eq_false hi]
  rw [h1, wrap_u64]
  split <;> rfl
theorem canonI_range {x : Int} (hx : 0 ≤ x ∧ x < 18446744073709551616) : 0 ≤ canonI x ∧ canonI x < 18446744073709551616 := by
  unfold canonI
  split <;> omega
theorem shAmt {i : Nat} (hi : i < 8) : IntKind.u64.wrap (IntKind.i64.wrap ((56 : Int) - (IntKind.i64.wrap ((8 : Int) * (i : Int))))) = ((56 - 8 * i : Nat) : Int) := by
  rw [i64_in (8 * (i : Int)) (by omega), i64_in (56 - 8 * (i : Int)) (by omega), wrap_u64, Int.emod_eq_of_lt (by omega) (by omega)]
  omega
theorem octI_eq (x : Int) {i : Nat} (hi : i < 8) : IntKind.u8.wrap (x.fdiv (2 ^ min (IntKind.u64.wrap (IntKind.i64.wrap ((56 : Int) - (IntKind.i64.wrap ((8 : Int) * (i : Int)))))).toNat IntKind.u64.bits)) = octI x (56 - 8 * i) := by
  rw [shAmt hi, Int.toNat_natCast, Nat.min_eq_left (show 56 - 8 * i ≤ IntKind.u64.bits by show 56 - 8 * i ≤ 64; omega)]
  rfl
theorem octI_range (x : Int) (m : Nat) : 0 ≤ octI x m ∧ octI x m < 256 := u8_range _
theorem eightP_length (x : Int) : ∀ j, (eightP x j).length = j
  | 0 => rfl
  | j + 1 => by
    show (eightP x j ++ [_]).length = _
    rw [List.length_append, eightP_length x j]; rfl
theorem escP_length (s : List UInt8) : ∀ n, (escP s n).length ≤ 2 * n
  | 0 => Nat.le_refl _
  | n + 1 => by
    show (escP s n ++ [_] ++ (if _ then _ else _)).length ≤ _
    have := escP_length s n
    rw [List.length_append, List.length_append]
    split
    · show (escP s n).length + 1 + 1 ≤ _; omega
    · show (escP s n).length + 1 + 0 ≤ _; omega
theorem escL_length (s : List UInt8) : (escL s).length ≤ 2 * s.length + 2 := by
  show (escP s s.length ++ [_] ++ [_]).length ≤ _
  have := escP_length s s.length
  rw [List.length_append, List.length_append]
  show (escP s s.length).length + 1 + 1 ≤ _
  omega
theorem rep_bytes_sv {n : Nat} {f : Nat → V} {L : List UInt8} (h : Rep n f L) [Env] {l : List SV} (hl : ∀ u ∈ l, u.clean) : ∀ u ∈ SV.row n f 1 :: l, u.clean := sv_cons (fun i hi u hu => by
  rw [h.2 i hi, List.mem_singleton] at hu
  subst hu; exact Go.Ev.Clean.int _ _) hl
section
variable [Env] [ErrT] {vs : List V} {σ : St} {k : VPost}
theorem W197_ok (h : W197 vs σ k) : CallS Tryz.prog 197 vs k σ := by
  unfold W197 at h
  split at h
  · rename_i x
    obtain ⟨hx, h⟩ := h
    refine CallS.oneV (fz_cons (Go.Ev.Clean.int _ _) fz_nil) (.int _ _) (F197.flat (live := live197) (call := kn39) (n₀ := 0) (σ := Go.Ev.start) (fun h => kn39_ok h) rfl (by kernel_rfl) ?_) h
    have hc := canonI_range hx
    rw [e197, signU _ hc]
    refine ⟨hx, rfl, cIf (fun h1 => ?_) fun h1 => ?_⟩
    · have hlt : ¬ canonI x < 9223372036854775808 := fun hh => h1 (if_pos hh)
      unfold keyI
      rw [if_neg hlt]
    · have hlt : canonI x < 9223372036854775808 := Decidable.byContradiction fun hh => h1 (by rw [if_neg hh]; decide)
      unfold keyI
      rw [if_pos hlt]
  · exact h.elim
theorem kn40_ok : ∀ {f : FuncId} {vs : List V} {σ : St} {k : VPost}, kn40 f vs σ k → CallS Tryz.prog f vs k σ := by
  intro f vs σ k h
  unfold kn40 at h
  split at h
  · rename_i hb; obtain rfl := Nat.eq_of_beq_eq_true hb; exact W197_ok h
  · exact kn39_ok h
theorem W200_ok (h : W200 vs σ k) : CallS Tryz.prog 200 vs k σ := by
  unfold W200 at h
  split at h
  · rename_i x
    obtain ⟨hx, h⟩ := h
    refine CallS.oneV (fz_cons (Go.Ev.Clean.int _ _) fz_nil) (.int _ _) (F200.flat (live := live200) (call := kn40) (n₀ := 0) (σ := Go.Ev.start) (fun h => kn40_ok h) rfl (by kernel_rfl) ?_) h
    have hc := canonI_range hx
    have hd : (canonI x).fdiv (2 ^ min (63 : Int).toNat IntKind.u64.bits) = canonI x / 9223372036854775808 := by
      rw [Int.fdiv_eq_ediv_of_nonneg _ (by decide)]; rfl
    rw [e200, hd]
    refine ⟨hx, by decide, rfl, cIf (fun h1 => ?_) fun h1 => ?_⟩
    · have hlt : canonI x < 9223372036854775808 := by omega
      unfold keyI
      rw [if_pos hlt]
    · have hlt : ¬ canonI x < 9223372036854775808 := by omega
      unfold keyI
      rw [if_neg hlt]
  · exact h.elim
theorem kn41_ok : ∀ {f : FuncId} {vs : List V} {σ : St} {k : VPost}, kn41 f vs σ k → CallS Tryz.prog f vs k σ := by
  intro f vs σ k h
  unfold kn41 at h
  split at h
  · rename_i hb; obtain rfl := Nat.eq_of_beq_eq_true hb; exact W200_ok h
  · exact kn40_ok h
def I199 (x : Int) : Nat → List SV → Prop
  | 0, ss => ss = [.val (.int .u64 x), .val .nilslice, .val (.int .i64 (0 : Int))] ∨ ∃ (i : Nat) (f : Nat → V), 0 < i ∧ i ≤ 8 ∧ Rep i f (eightP x i) ∧ ss = [.val (.int .u64 x), .row i f 1, .val (.int .i64 i)]
  | _, _ => False
theorem W199_ok (h : W199 vs σ k) : CallS Tryz.prog 199 vs k σ := by
  unfold W199 at h
  split at h
  · rename_i x
    refine CallS.oneV (fz_cons (Go.Ev.Clean.int _ _) fz_nil) (.str _) (F199.floyd (live := live199) (call := kn41) (n₀ := 0) (σ := Go.Ev.start) (fun h => kn41_ok h) rfl 1 (by kernel_rfl) Nat.lt_wfRel.wf (fun _ ss => 8 - lastI ss) (I199 x) ?_ ?_ ?_) h
    · intro k ss hI
      cases k with
      | zero =>
        rcases hI with rfl | ⟨i, f, _, _, hf, rfl⟩
        · exact sv_int (sv_cons Go.Ev.Clean.nilslice (sv_int sv_nil))
        · exact sv_int (rep_bytes_sv hf (sv_int sv_nil))
      | succ k => exact hI.elim
    · rw [e199]
      exact .inl rfl
    · intro k hk ss hI
      obtain rfl : k = 0 := by omega
      rcases hI with rfl | ⟨i, f, h0, hi, hf, rfl⟩
      · have e1 := octI_eq x (i := 0) (by omega)
        have e2 := shAmt (i := 0) (by omega)
        rw [show ((0 : Nat) : Int) = 0 from rfl] at e1 e2
        rw [r199n, e1, e2]
        refine ⟨rfl, cIf (fun h1 => ⟨by omega, ⟨rfl, rfl, rfl⟩, ?_⟩) fun h1 => absurd (by decide) h1⟩
        rw [i64_in ((0 : Int) + 1) (by omega)]
        have hr := octI_range x (56 - 8 * 0)
        refine ⟨.inr ⟨1, _, by omega, by omega, .one hr.1 hr.2 rfl, rfl⟩, ?_⟩
        show 8 - ((0 : Int) + 1).toNat < 8 - (0 : Int).toNat
        decide
      · rw [r199o]
        refine ⟨rfl, cIf (fun h1 => ?_) fun h1 => ?_⟩
        · have hi8 : i < 8 := by omega
          rw [octI_eq x hi8, shAmt hi8, i64_in ((i : Int) + 1) (by omega)]
          have hr := octI_range x (56 - 8 * i)
          refine ⟨by omega, ⟨rfl, by omega⟩, ⟨rfl, rfl⟩, .inr ⟨i + 1, _, by omega, by omega, hf.append (.lst1 hr.1 hr.2 rfl), rfl⟩, ?_⟩
          show 8 - ((i : Int) + 1).toNat < 8 - (i : Int).toNat
          omega
        · obtain rfl : i = 8 := by omega
          exact ⟨rfl, _, hf.bytes, rfl⟩
  · exact h.elim
theorem kn42_ok : ∀ {f : FuncId} {vs : List V} {σ : St} {k : VPost}, kn42 f vs σ k → CallS Tryz.prog f vs k σ := by
  intro f vs σ k h
  unfold kn42 at h
  split at h
  · rename_i hb; obtain rfl := Nat.eq_of_beq_eq_true hb; exact W199_ok h
  · exact kn41_ok h
def I201 (s : List UInt8) : Nat → List SV → Prop
  | 0, ss => ss = [.val (.str s), .val .nilslice, .val (.int .i64 (0 : Int))] ∨ ∃ (i n : Nat) (f : Nat → V), 0 < i ∧ i ≤ s.length ∧ n ≤ 2 * i ∧ Rep n f (escP s i) ∧ ss = [.val (.str s), .row n f 1, .val (.int .i64 i)]
  | _, _ => False
omit [Env] [ErrT] in
theorem escP_z {s : List UInt8} {n : Nat} (h : byteN s n = 0) : escP s (n + 1) = escP s n ++ [byteOf (byteN s n)] ++ [byteOf 255] := by
  show escP s n ++ [byteOf (byteN s n)] ++ (if byteN s n = 0 then [byteOf 255] else []) = _
  rw [if_pos h]
omit [Env] [ErrT] in
theorem escP_n {s : List UInt8} {n : Nat} (h : byteN s n ≠ 0) : escP s (n + 1) = escP s n ++ [byteOf (byteN s n)] := by
  show escP s n ++ [byteOf (byteN s n)] ++ (if byteN s n = 0 then [byteOf 255] else []) = _
  rw [if_neg h, List.append_nil]
theorem W201_ok (h : W201 vs σ k) : CallS Tryz.prog 201 vs k σ := by
  unfold W201 at h
  split at h
  · rename_i s
    obtain ⟨hs, h⟩ := h
    refine CallS.oneV (fz_cons (Go.Ev.Clean.str _) fz_nil) (.str _) (F201.floyd (live := live201) (call := kn42) (n₀ := 0) (σ := Go.Ev.start) (fun h => kn42_ok h) rfl 1 (by kernel_rfl) Nat.lt_wfRel.wf (fun _ ss => s.length - lastI ss) (I201 s) ?_ ?_ ?_) h
    · intro k ss hI
      cases k with
      | zero =>
        rcases hI with rfl | ⟨i, n, f, _, _, _, hf, rfl⟩
        · exact sv_str (sv_cons Go.Ev.Clean.nilslice (sv_int sv_nil))
        · exact sv_str (rep_bytes_sv hf (sv_int sv_nil))
      | succ k => exact hI.elim
    · rw [e201]
      exact .inl rfl
    · intro k hk ss hI
      obtain rfl : k = 0 := by omega
      rcases hI with rfl | ⟨i, n, f, h0, hi, hn, hf, rfl⟩
      · rw [r201n]
        have hb := byteN_range s 0
        refine ⟨rfl, cIf (fun h1 => ?_) fun h1 => ?_⟩
        · have h1' := h1
          rw [len_eq] at h1'
          rw [i64_in ((0 : Int) + 1) (by omega)]
          refine ⟨⟨by omega, h1⟩, ⟨by omega, h1⟩, rfl, cIf (fun h2 => ⟨⟨rfl, rfl⟩, .inr ⟨1, 2, _, by omega, by omega, by omega, ?_, rfl⟩, ?_⟩) fun h2 => ⟨⟨rfl, rfl, rfl⟩, .inr ⟨1, 1, _, by omega, by omega, by omega, ?_, rfl⟩, ?_⟩⟩
          · rw [escP_z (n := 0) h2]
            exact .lst2 hb.1 hb.2 (by decide) (by decide) rfl rfl
          · show s.length - ((0 : Int) + 1).toNat < s.length - (0 : Int).toNat
            omega
          · rw [escP_n (n := 0) h2]
            exact .one hb.1 hb.2 rfl
          · show s.length - ((0 : Int) + 1).toNat < s.length - (0 : Int).toNat
            omega
        · rw [len_eq] at h1
          obtain rfl : s = [] := List.eq_nil_of_length_eq_zero (by omega)
          rfl
      · rw [r201o]
        have hb := byteN_range s i
        have eb : byteAt s (i : Int) = byteN s i := rfl
        rw [eb]
        refine ⟨rfl, cIf (fun h1 => ?_) fun h1 => ?_⟩
        · have h1' := h1
          rw [len_eq] at h1'
          rw [i64_in ((i : Int) + 1) (by omega)]
          refine ⟨⟨by omega, h1⟩, ⟨rfl, by omega⟩, ⟨by omega, h1⟩, rfl, cIf (fun h2 => ⟨⟨rfl, by omega⟩, ⟨rfl, rfl⟩, .inr ⟨i + 1, n + 1 + 1, _, by omega, by omega, by omega, ?_, rfl⟩, ?_⟩) fun h2 => ⟨⟨rfl, rfl⟩, .inr ⟨i + 1, n + 1, _, by omega, by omega, by omega, ?_, rfl⟩, ?_⟩⟩
          · rw [escP_z h2]
            exact (hf.append (.lst1 hb.1 hb.2 rfl)).append (.lst1 (by decide) (by decide) rfl)
          · show s.length - ((i : Int) + 1).toNat < s.length - (i : Int).toNat
            omega
          · rw [escP_n h2]
            exact hf.append (.lst1 hb.1 hb.2 rfl)
          · show s.length - ((i : Int) + 1).toNat < s.length - (i : Int).toNat
            omega
        · rw [len_eq] at h1
          obtain rfl : i = s.length := by omega
          refine ⟨⟨rfl, by omega⟩, rfl, _, (hf.append (.lst2 (x := 0) (y := 0) (by decide) (by decide) (by decide) (by decide) rfl rfl)).bytes, ?_⟩
          show V.str _ = V.str (escP s s.length ++ [byteOf 0] ++ [byteOf 0])
          rw [List.append_assoc]
  · exact h.elim
theorem kn43_ok : ∀ {f : FuncId} {vs : List V} {σ : St} {k : VPost}, kn43 f vs σ k → CallS Tryz.prog f vs k σ := by
  intro f vs σ k h
  unfold kn43 at h
  split at h
  · rename_i hb; obtain rfl := Nat.eq_of_beq_eq_true hb; exact W201_ok h
  · exact kn42_ok h
omit [Env] [ErrT] in
theorem valErr_len {v : T46} (h : valErr v = 0) : v.f3.length ≤ 64 := by
  unfold valErr at h
  repeat' split at h
  all_goals omega
omit [Env] [ErrT] in
theorem valB_length {v : T46} (h : valErr v = 0) : (valB v).length ≤ 131 := by
  have h3 := valErr_len h
  have h4 := escL_length v.f3
  unfold valB
  rw [List.length_append]
  repeat' split
  · show 1 + 1 ≤ 131; omega
  · rw [eightP_length]; show 1 + 8 ≤ 131; omega
  · rw [eightP_length]; show 1 + 8 ≤ 131; omega
  · show 1 + _ ≤ 131; omega
  · show 1 + 0 ≤ 131; omega
theorem W151_ok (h : W151 vs σ k) : CallS Tryz.prog 151 vs k σ := by
  unfold W151 at h
  split at h
  · rename_i a b c s
    obtain ⟨hc, h⟩ := h
    refine CallS.oneV (fz_cons (T46.enc_clean ⟨a, b, c, s⟩) fz_nil) (.tuple (sc_cons (.str _) (sc_cons (.int _ _) sc_nil))) (F151.flat (live := live151) (call := kn43) (n₀ := 0) (σ := Go.Ev.start) (fun h => kn43_ok h) rfl (by kernel_rfl) ?_) h
    rw [show [V.agg [.int .i64 a, .int .i64 b, .int .u64 c, .str s]] = [T46.enc ⟨a, b, c, s⟩] from rfl, e151]
    refine ⟨hc, rfl, cIf (fun h1 => ?_) fun h1 => ?_⟩
    · rw [if_neg h1]
    · have h0 := Decidable.not_not.1 h1
      have h3 := valErr_len h0
      have h4 := escL_length s
      have key : ∀ L : List UInt8, valB ⟨a, b, c, s⟩ = L → V.tuple [.str L, .int .i64 0] = .tuple [.str (if valErr ⟨a, b, c, s⟩ = 0 then valB ⟨a, b, c, s⟩ else []), .int .i64 (valErr ⟨a, b, c, s⟩)] := fun L hL => by
        rw [if_pos h0, h0, hL]
      have hu : valB ⟨a, b, c, s⟩ = [byteOf (IntKind.u8.wrap a)] ++ (if a = 1 then [byteOf (IntKind.u8.wrap b)] else if a = 2 then eightP (intI b) 8 else if a = 3 then eightP (keyI c) 8 else if a = 4 ∨ a = 5 then escL s else []) := rfl
      refine ⟨rfl, cIf (fun k1 => ⟨by show 1 + 1 ≤ 9223372036854775807; omega, key _ ?_⟩) fun k1 => ⟨rfl, cIf (fun k2 => ⟨?_, key _ ?_⟩) fun k2 => ⟨rfl, cIf (fun k3 => ⟨hc, ?_, key _ ?_⟩) fun k3 => ⟨rfl, cIf (fun k4 => ⟨h3, ?_, key _ ?_⟩) fun k4 => ⟨rfl, cIf (fun k5 => ⟨h3, ?_, key _ ?_⟩) fun k5 => key _ ?_⟩⟩⟩⟩⟩
      · rw [hu, if_pos k1]; rfl
      · rw [eightP_length]; show 1 + 8 ≤ 9223372036854775807; omega
      · rw [hu, if_neg k1, if_pos k2]; rfl
      · rw [eightP_length]; show 1 + 8 ≤ 9223372036854775807; omega
      · rw [hu, if_neg k1, if_neg k2, if_pos k3]; rfl
      · show 1 + (escL s).length ≤ _
        have h3 : s.length ≤ 64 := h3
        omega
      · rw [hu, if_neg k1, if_neg k2, if_neg k3, if_pos (.inl k4)]; rfl
      · show 1 + (escL s).length ≤ _
        have h3 : s.length ≤ 64 := h3
        omega
      · rw [hu, if_neg k1, if_neg k2, if_neg k3, if_pos (.inr k5)]; rfl
      · rw [hu, if_neg k1, if_neg k2, if_neg k3, if_neg fun hh => hh.elim k4 k5]; rfl
  · exact h.elim
theorem kn44_ok : ∀ {f : FuncId} {vs : List V} {σ : St} {k : VPost}, kn44 f vs σ k → CallS Tryz.prog f vs k σ := by
  intro f vs σ k h
  unfold kn44 at h
  split at h
  · rename_i hb; obtain rfl := Nat.eq_of_beq_eq_true hb; exact W151_ok h
  · exact kn43_ok h
omit [Env] [ErrT] in
theorem rowB_length {q : Nat → T46} : ∀ {n : Nat}, (∀ i, i < n → valErr (q i) = 0) → (rowB q n).length ≤ 131 * n
  | 0, _ => Nat.le_refl _
  | n + 1, h => by
    show (rowB q n ++ valB (q n)).length ≤ _
    have h1 := rowB_length (q := q) (n := n) fun i hi => h i (by omega)
    have h2 := valB_length (h n (by omega))
    rw [List.length_append]; omega
omit [Env] [ErrT] in
theorem rowS_bad {q : Nat → T46} {n i : Nat} (hi : i < n) (h : valErr (q i) ≠ 0) (hl : ∀ j, j < i → valErr (q j) = 0) : rowE q n = valErr (q i) ∧ rowS q n = [] := by
  have h1 : rowE q n = valErr (q i) := firstE_at (fun i => valErr (q i)) n i hi h hl
  exact ⟨h1, by unfold rowS; rw [h1, if_neg h]⟩
omit [Env] [ErrT] in
theorem rowS_good {q : Nat → T46} {n : Nat} (hl : ∀ j, j < n → valErr (q j) = 0) : rowE q n = 0 ∧ rowS q n = rowB q n := by
  have h1 : rowE q n = 0 := (firstE_zero (fun i => valErr (q i)) n).2 hl
  exact ⟨h1, by unfold rowS; rw [h1, if_pos rfl]⟩
def I105 (n : Nat) (q : Nat → T46) : Nat → List SV → Prop
  | 0, ss => ∃ i : Nat, i ≤ n ∧ (∀ j, j < i → valErr (q j) = 0) ∧ ss = [.val (V.arr n (fun i => T46.enc (q i)) 4 false false), .val (.str (rowB q i)), .val (.int .i64 i)]
  | _, _ => False
theorem W105_ok (h : W105 vs σ k) : CallS Tryz.prog 105 vs k σ := by
  unfold W105 at h
  split at h
  · rename_i n f
    obtain ⟨q, rfl, ⟨hn, hq⟩, h⟩ := h
    refine CallS.oneV (fz_cons (cl_vals n q) fz_nil) (.tuple (sc_cons (.str _) (sc_cons (.int _ _) sc_nil))) (F105.floyd (live := live105) (call := kn44) (n₀ := 0) (σ := Go.Ev.start) (fun h => kn44_ok h) rfl 1 (by kernel_rfl) Nat.lt_wfRel.wf (fun _ ss => n - lastI ss) (I105 n q) ?_ ?_ ?_) h
    · intro k ss hI
      cases k with
      | zero => obtain ⟨i, _, _, rfl⟩ := hI; exact sv_vals (sv_str (sv_int sv_nil))
      | succ k => exact hI.elim
    · rw [e105]
      exact ⟨0, by omega, fun j hj => absurd hj (Nat.not_lt_zero j), rfl⟩
    · intro k hk ss hI
      obtain rfl : k = 0 := by omega
      obtain ⟨i, hi, hj, rfl⟩ := hI
      have hv : (⟨(q (i : Int).toNat).f0, (q (i : Int).toNat).f1, (q (i : Int).toNat).f2, (q (i : Int).toNat).f3⟩ : T46) = q i := rfl
      rw [r105, hv, toT]
      refine ⟨rfl, cIf (fun h1 => ⟨⟨by omega, by omega⟩, hq i (by omega), rfl, cIf (fun h2 => ?_) fun h2 => ?_⟩) fun h1 => ?_⟩
      · obtain ⟨e1, e2⟩ := rowS_bad (q := q) (n := n) (i := i) (by omega) h2 hj
        rw [e1, e2]
      · have h2 := Decidable.not_not.1 h2
        have l1 := rowB_length hj
        have l2 := valB_length h2
        rw [if_pos h2, i64_in ((i : Int) + 1) (by omega)]
        refine ⟨by omega, ⟨i + 1, by omega, fun j hj' => ?_, rfl⟩, ?_⟩
        · by_cases e : j = i
          · rw [e]; exact h2
          · exact hj j (by omega)
        · show n - ((i : Int) + 1).toNat < n - (i : Int).toNat
          omega
      · obtain rfl : i = n := by omega
        obtain ⟨e1, e2⟩ := rowS_good hj
        rw [e1, e2]
  · exact h.elim
theorem kn45_ok : ∀ {f : FuncId} {vs : List V} {σ : St} {k : VPost}, kn45 f vs σ k → CallS Tryz.prog f vs k σ := by
  intro f vs σ k h
  unfold kn45 at h
  split at h
  · rename_i hb; obtain rfl := Nat.eq_of_beq_eq_true hb; exact W105_ok h
  · exact kn44_ok h
end
end Go.Proofs.YtbajncpfmemdgaaGreatDoor
namespace Go.Proofs.YtbajncpfmemdgaaGreatDoor
open Go Go.Ev Go.IntWalk
theorem F196 : FnF Tryz.prog 196 Tryz.f196 := ⟨by kernel_rfl, by kernel_rfl, by kernel_rfl, by kernel_rfl, by kernel_rfl⟩
theorem F198 : FnF Tryz.prog 198 Tryz.f198 := ⟨by kernel_rfl, by kernel_rfl, by kernel_rfl, by kernel_rfl, by kernel_rfl⟩
theorem F236 : FnF Tryz.prog 236 Tryz.f236 := ⟨by kernel_rfl, by kernel_rfl, by kernel_rfl, by kernel_rfl, by kernel_rfl⟩
theorem set_get' (σ : St) (c : Nat) (k : Blk) (b : Nat) : (σ.set c k).heap.get b = if b = c then some k else σ.heap.get b := by
  rw [set_heap, Trie.get_put]
theorem kill_get' (σ : St) (c b : Nat) : (σ.kill c).heap.get b = if b = c then none else σ.heap.get b := by
  rw [kill_heap, Trie.get_put]
theorem new_get' (σ : St) (c : Nat) (k : Blk) (b : Nat) : (σ.new c k).heap.get b = if b = c then some k else σ.heap.get b := by
  rw [new_heap, Trie.get_put]
theorem set_next' (σ : St) (c : Nat) (k : Blk) : (σ.set c k).next = σ.next := rfl
theorem kill_next' (σ : St) (c : Nat) : (σ.kill c).next = σ.next := rfl
theorem cell_any {z : List V} {t : Trie V} {v : V} (h : cellOf 1 [] t 0 = some v) : cellOf 1 z t 0 = some v := by
  have h : (match t.get 0 with
    | some v => some v
    | none => none) = some v := h
  show (match t.get 0 with
    | some v => some v
    | none => nth z (Nat.mod 0 (len z))) = some v
  cases hg : t.get 0 with
  | none => rw [hg] at h; cases h
  | some u => rw [hg] at h; exact h
section
variable [Env] [ErrT] {vs : List V} {σ : St} {k : VPost}
omit [ErrT] in
theorem CallN.mono {f : FuncId} {Q Q' : VPost} (h : CallN Tryz.prog f vs Q σ) (hq : ∀ v τ, Q v τ → Q' v τ) : CallN Tryz.prog f vs Q' σ :=
  ⟨let ⟨v, τ, hx⟩ := h.ex; ⟨v, τ, hq v τ hx⟩, fun ρ w vs' hr hv => ⟨(h.h ρ w vs' hr hv).1, (h.h ρ w vs' hr hv).2.mono fun e w' ⟨v, τ, ρ', v', h1, h2⟩ => ⟨v, τ, ρ', v', hq v τ h1, h2⟩⟩⟩
omit [ErrT] in
theorem bufP_ok {Q : Nat → (Nat → V) → Prop} {v : V} {τ : St} (hc : ∀ n g, Q n g → ∀ i, i < n → ∀ u ∈ (g i).cells, Go.Ev.Clean u) (h : bufP Q v τ) : BufQ 1 Q v τ := by
  have key : ∀ {n : Nat} {f : Nat → V} {z : Nat}, (match SV.row n f z with
      | .row n f 1 => Q n f
      | _ => False) → z = 1 ∧ Q n f := fun {n f z} h => by
    split at h
    · rename_i he; cases he; exact ⟨rfl, h⟩
    · exact h.elim
  unfold bufP canonV at h
  split at h
  · split at h
    · rename_i hb
      obtain ⟨⟨rfl, rfl⟩, h⟩ := h
      obtain ⟨rfl, h⟩ := key h
      exact ⟨_, _, .own hb (hc _ _ h), h⟩
    · exact h.elim
  · split at h
    · split at h
      · exact h.elim
      · exact h.elim
    · exact h.elim
  · split at h
    · rename_i hb
      obtain ⟨f, hk, hN, hex, hu, hcell⟩ := rowOf_cells h
      obtain ⟨rfl, hk⟩ := key hk
      subst hN
      refine ⟨_, f, ⟨_, _, hb, fun m i hm => ⟨?_, .toRow (fun h => by cases h) hu fun i hi k v hv => ⟨v, hcell i hi k v hv, .clean (hc _ _ hk i hi v (List.mem_of_getElem? hv))⟩⟩⟩, hk⟩
      rcases hex with ⟨rfl, hle⟩ | ⟨rfl, rfl, hne⟩
      · exact .ownEx hm hle
      · exact .ownOf hm hne
    · exact h.elim
  · exact h.elim
omit [ErrT] in
theorem rep_clean {n : Nat} {g : Nat → V} {L : List UInt8} (h : Rep n g L) : ∀ i, i < n → ∀ u ∈ (g i).cells, Go.Ev.Clean u := fun i hi u hu => by
  rw [h.2 i hi, List.mem_singleton] at hu
  subst hu; exact Go.Ev.Clean.int _ _
def rowLen : List SV → Nat
  | .row n _ _ :: _ => n
  | _ => 0
def I196 (x : Int) (n : Nat) (L : List UInt8) : Nat → List SV → Prop
  | 0, ss => ∃ (j : Nat) (g : Nat → V), j ≤ 8 ∧ Rep (n + j) g (L ++ eightP x j) ∧ ss = [.row (n + j) g 1, .val (.int .u64 x), .val (.int .i64 (56 - 8 * (j : Int)))]
  | _, _ => False
theorem put8N {x : Int} {n : Nat} {f : Nat → V} {L : List UInt8} (hf : Rep n f L) (hn : n ≤ 1000000) : CallN Tryz.prog 196 [.own 0 n 1, .int .u64 x] (BufQ 1 fun m h => Rep m h (L ++ eightP x 8)) (bufS n f 1 false) := by
  refine CallN.mono (Q := bufP fun m h => Rep m h (L ++ eightP x 8)) ?_ fun v τ h => bufP_ok (fun n g hg => rep_clean hg) h
  show CallN Tryz.prog 196 [.own 0 n 1, .int .u64 x] _ (mkS [.row n f 1])
  refine F196.floydN (live := live196) (call := kn45) (fun h => kn45_ok h) 1 (by kernel_rfl) Nat.lt_wfRel.wf (fun _ ss => n + 9 - rowLen ss) (I196 x n L) ?_ ?_ ?_
  · intro k ss hI
    cases k with
    | zero => obtain ⟨j, g, _, hg, rfl⟩ := hI; exact rep_bytes_sv hg (sv_int (sv_int sv_nil))
    | succ k => exact hI.elim
  · rw [e196]
    exact ⟨⟨rfl, rfl⟩, 0, f, by omega, by rw [show eightP x 0 = [] from rfl, List.append_nil]; exact hf, rfl⟩
  · intro k hk ss hI
    obtain rfl : k = 0 := by omega
    obtain ⟨j, g, hj, hg, rfl⟩ := hI
    rw [r196]
    refine ⟨rfl, cIf (fun h1 => ?_) fun h1 => ?_⟩
    · have ho : IntKind.u8.wrap (x.fdiv (2 ^ min (56 - 8 * (j : Int)).toNat IntKind.u64.bits)) = octI x (56 - 8 * j) := by
        rw [show (56 - 8 * (j : Int)).toNat = 56 - 8 * j by omega, Nat.min_eq_left (show 56 - 8 * j ≤ IntKind.u64.bits by show 56 - 8 * j ≤ 64; omega)]
        rfl
      have hr := octI_range x (56 - 8 * j)
      rw [ho, i64_in (56 - 8 * (j : Int) - 8) (by omega)]
      refine ⟨by omega, ⟨rfl, by omega⟩, ⟨rfl, rfl⟩, ⟨j + 1, catF (n + j) g (lstF [.int .u8 (octI x (56 - 8 * j))]), by omega, ?_, ?_⟩, ?_⟩
      · have := hg.append (.lst1 hr.1 hr.2 (v := .int .u8 (octI x (56 - 8 * j))) rfl)
        rw [List.append_assoc] at this
        exact this
      · rw [show (56 - 8 * (j : Int) - 8) = 56 - 8 * ((j + 1 : Nat) : Int) by omega]; rfl
      · show n + 9 - (n + j + 1) < n + 9 - (n + j)
        omega
    · obtain rfl : j = 8 := by omega
      exact ⟨⟨rfl, rfl⟩, hg⟩
theorem W196_ok (h : W196 vs σ k) : CallS Tryz.prog 196 vs k σ := by
  unfold W196 at h
  split at h
  · rename_i b n x
    split at h
    · rename_i n' f p hb
      obtain ⟨⟨rfl, hn⟩, L, hf, h⟩ := h
      exact CallS.buf hb (rep_clean hf) (cl_cons (Go.Ev.Clean.int _ _) cl_nil) (put8N hf hn) h
    · exact h.elim
  · rename_i b x
    split at h
    · rename_i z t p hb
      split at h
      · rename_i y hy
        obtain ⟨hyr, h⟩ := h
        have hf : Rep 1 (fun _ => .agg [.int .u8 y]) [byteOf y] := .one hyr.1 hyr.2 rfl
        refine CallS.bufV (n := 1) (g := fun _ => .agg [.int .u8 y]) hb (fun m i hm => ⟨.ownOf hm (by decide), .toRow (fun h => by cases h) (fun _ _ => rfl) fun i hi k v hv => ⟨v, ?_, .clean (rep_clean hf i hi v (List.mem_of_getElem? hv))⟩⟩) (cl_cons (Go.Ev.Clean.int _ _) cl_nil) (put8N hf (by decide)) h
        obtain rfl : i = 0 := by omega
        have hv : [V.int .u8 y][k]? = some v := hv
        cases k with
        | zero =>
          cases hv
          show cellOf 1 z t 0 = some (.int .u8 y)
          exact cell_any hy
        | succ k => simp at hv
      · exact h.elim
    · exact h.elim
  · exact h.elim
theorem kn46_ok : ∀ {f : FuncId} {vs : List V} {σ : St} {k : VPost}, kn46 f vs σ k → CallS Tryz.prog f vs k σ := by
  intro f vs σ k h
  unfold kn46 at h
  split at h
  · rename_i hb; obtain rfl := Nat.eq_of_beq_eq_true hb; exact W196_ok h
  · exact kn45_ok h
theorem W198_ok (h : W198 vs σ k) : CallS Tryz.prog 198 vs k σ := by
  unfold W198 at h
  split at h
  · rename_i s
    refine (CallS.froz0 (Q := fun u => u = .func (.func 236) [] [.eptr [.str s] 0]) (cl_cons (Go.Ev.Clean.str _) cl_nil) (F198.flat (live := live198) (call := kn46) (n₀ := 0) (σ := Go.Ev.start) (fun h => kn46_ok h) rfl (by kernel_rfl) ?_)).mono fun v τ ⟨h1, h2⟩ => by subst h1; subst h2; exact h
    rw [e198]
    exact ⟨_, .func .nil (.cons (.ptrE (n := 1) (cs := [.str s]) (by rfl) (.cons (.str _) .nil)) .nil), rfl⟩
  · exact h.elim
theorem kn47_ok : ∀ {f : FuncId} {vs : List V} {σ : St} {k : VPost}, kn47 f vs σ k → CallS Tryz.prog f vs k σ := by
  intro f vs σ k h
  unfold kn47 at h
  split at h
  · rename_i hb; obtain rfl := Nat.eq_of_beq_eq_true hb; exact W198_ok h
  · exact kn46_ok h
/-- A round comes to this. -/
def YR (l : Nat) (τ : St) (c : Int) (τ' : St) : Prop := ∀ k : VPost, k (.bool true) τ' → TaskS Tryz.prog (.round l [.int .u8 c]) (valP k) τ
omit [ErrT] in
theorem yldY_ok {l l' : Nat} (h : yldY l (YR l) l' vs σ k) : TaskS Tryz.prog (.round l' vs) (valP k) σ := by
  unfold yldY at h
  split at h
  · obtain ⟨rfl, τ, h1, h2⟩ := h
    exact h1 k h2
  · exact h.elim
def lastV : List V → Nat
  | [] => 0
  | [.int _ i] => i.toNat
  | _ :: r => lastV r
def I236 (l : Nat) (T : List UInt8 → St → Prop) (s L : List UInt8) : Nat → List V → St → Prop
  | 0, vs, τ => ∃ i : Nat, i ≤ s.length ∧ T (L ++ escP s i) τ ∧ vs = [.func (.yield l) [] [], .eptr [.str s] 0, .int .i64 ((len s : Nat) : Int), .int .i64 i]
  | _, _, _ => False
theorem esc236 {l : Nat} {T : List UInt8 → St → Prop} {s L : List UInt8} (step : ∀ {M : List UInt8} {τ : St} {c : Int}, T M τ → M.length ≤ L.length + 2 * s.length + 1 → 0 ≤ c → c < 256 → ∃ τ', YR l τ c τ' ∧ T (M ++ [byteOf c]) τ') (hT : T L σ) (hs : s.length ≤ 64) :
    CallS Tryz.prog 236 [.func (.yield l) [] [], .eptr [.str s] 0] (fun _ τ => T (L ++ escL s) τ) σ := by
  refine F236.floydS (live := live236) (call := kn47) (yld := yldY l (YR l)) (fun h => kn47_ok h) (fun h => yldY_ok h) 1 (by kernel_rfl) Nat.lt_wfRel.wf (fun _ vs _ => s.length - lastV vs) (I236 l T s L) ?_ ?_
  · rw [e236]
    exact ⟨0, by omega, by rw [show escP s 0 = [] from rfl, List.append_nil]; exact hT, rfl⟩
  · intro k hk vs τ hI
    obtain rfl : k = 0 := by omega
    obtain ⟨i, hi, hTi, rfl⟩ := hI
    have hb := byteN_range s i
    have eb : byteAt s (i : Int) = byteN s i := rfl
    have hl := escP_length s i
    rw [r236, eb]
    refine ⟨rfl, cIf (fun h1 => ?_) fun h1 => ?_⟩
    · have h1' := h1
      rw [len_eq] at h1'
      obtain ⟨τ₁, hy₁, hT₁⟩ := step hTi (by rw [List.length_append]; omega) hb.1 hb.2
      rw [i64_in ((i : Int) + 1) (by omega)]
      have hm : s.length - lastV [V.func (.yield l) [] [], .eptr [.str s] 0, .int .i64 ((len s : Nat) : Int), .int .i64 ((i : Int) + 1)] < s.length - lastV [V.func (.yield l) [] [], .eptr [.str s] 0, .int .i64 ((len s : Nat) : Int), .int .i64 (i : Int)] := by
        show s.length - ((i : Int) + 1).toNat < s.length - (i : Int).toNat
        omega
      refine ⟨⟨by omega, h1⟩, rfl, τ₁, hy₁, ⟨by omega, h1⟩, rfl, cIf (fun h2 => ?_) fun h2 => ?_⟩
      · obtain ⟨τ₂, hy₂, hT₂⟩ := step (c := 255) hT₁ (by rw [List.length_append, List.length_append]; show _ + _ + 1 ≤ _; omega) (by decide) (by decide)
        refine ⟨rfl, τ₂, hy₂, ⟨i + 1, by omega, ?_, rfl⟩, hm⟩
        rw [escP_z h2, ← List.append_assoc, ← List.append_assoc]; exact hT₂
      · refine ⟨⟨i + 1, by omega, ?_, rfl⟩, hm⟩
        rw [escP_n h2, ← List.append_assoc]; exact hT₁
    · rw [len_eq] at h1
      obtain rfl : i = s.length := by omega
      obtain ⟨τ₁, hy₁, hT₁⟩ := step (c := 0) hTi (by rw [List.length_append]; omega) (by decide) (by decide)
      obtain ⟨τ₂, hy₂, hT₂⟩ := step (c := 0) hT₁ (by rw [List.length_append, List.length_append]; show _ + _ + 1 ≤ _; omega) (by decide) (by decide)
      refine ⟨rfl, τ₁, hy₁, rfl, τ₂, hy₂, ?_⟩
      show T (L ++ (escP s s.length ++ [byteOf 0] ++ [byteOf 0])) τ₂
      rw [← List.append_assoc, ← List.append_assoc]; exact hT₂
end
end Go.Proofs.YtbajncpfmemdgaaGreatDoor
namespace Go.Proofs.YtbajncpfmemdgaaGreatDoor
open Go Go.Ev Go.IntWalk
/-! ### The loop's parts -/
noncomputable def rgA : Code := match rg149 with
  | .rangeFunc _ _ a _ => a
  | c => c
noncomputable def rgB : Code := match rg149 with
  | .rangeFunc _ _ _ b => b
  | c => c
noncomputable def opsIn : Code → List Oper
  | .region _ o _ => o.toList
  | .block _ (.region _ o _) => o.toList
  | _ => []
noncomputable def regIn : Code → Code
  | .block _ c => c
  | c => c
theorem rg149_eq : rg149 = .rangeFunc (.tmp 42) #[43] rgA rgB := by kernel_rfl
noncomputable def t149 (B : Nat) (s : List UInt8) : Slots V := putL [2, 42] [.ptr B 0, .func (.func 236) [] [.eptr [.str s] 0]]
def A0 (t : Slots V) : Go.Ev.Act := ⟨t, 49, []⟩
section
variable [Env] {vs : List V} {σ : St} {k : VPost}
theorem codeA_eq (l : Nat) (a : Go.Ev.Act) (p : Out × St → Prop) : ((codeC Tryz.prog 149 rgA).f (semR Tryz.prog) (some l) a σ).Holds p = ((opsC Tryz.prog (opsIn rgA) (opsIn rgA)).f (semR Tryz.prog) (some l) a σ).Holds p := by kernel_rfl
theorem codeB_eq (l : Nat) (a : Go.Ev.Act) (p : Out × St → Prop) : ((codeC Tryz.prog 149 (regIn rgB)).f (semR Tryz.prog) (some l) a σ).Holds p = ((opsC Tryz.prog (opsIn rgB) (opsIn rgB)).f (semR Tryz.prog) (some l) a σ).Holds p := by kernel_rfl
omit [Env] in
theorem rgB_eq : rgB = .block 2 (regIn rgB) := by kernel_rfl
theorem A_eq (K : Know Tryz.prog) (l : Nat) (k : Go.Ev.Act → St → Prop) (B : Nat) (s : List UInt8) (c : Int) : opsS Tryz.prog K (some l) (opsIn rgA) k (opsIn rgA) (A0 ((t149 B s).put 43 (.int .u8 c))) σ = k (A0 (((t149 B s).put 43 (.int .u8 c)).put 5 (.int .u8 c))) σ := by kernel_rfl
noncomputable def t5 (B : Nat) (s : List UInt8) (c : Int) : Slots V := ((t149 B s).put 43 (.int .u8 c)).put 5 (.int .u8 c)
noncomputable def t46' (B : Nat) (s : List UInt8) (c : Int) (r n : Nat) : Slots V := (((t5 B s c).put 44 (.own r n 1)).put 45 (.int .u8 c)).put 46 (.lst [.int .u8 c] 1 true)
theorem B1_eq (K : Know Tryz.prog) (l : Nat) (k : Go.Ev.Act → St → Prop) (B : Nat) (s : List UInt8) (c : Int) : opsS Tryz.prog K (some l) (opsIn rgB) k (opsIn rgB) (A0 (t5 B s c)) σ = OkP (Go.Ev.keep σ "load" (σ.cell B 0)) fun v τ => opsS Tryz.prog K (some l) (opsIn rgB) k (dropOf 1 (opsIn rgB)) (A0 ((t5 B s c).put 44 v)) τ := by kernel_rfl
theorem B2_eq (K : Know Tryz.prog) (l : Nat) (k : Go.Ev.Act → St → Prop) (B : Nat) (s : List UInt8) (c : Int) (r n : Nat) : opsS Tryz.prog K (some l) (opsIn rgB) k (dropOf 1 (opsIn rgB)) (A0 ((t5 B s c).put 44 (.own r n 1))) σ =
    appendOwnP σ σ.next 1 1 r n (fun v τ => opsS Tryz.prog K (some l) (opsIn rgB) k (dropOf 4 (opsIn rgB)) (A0 ((t46' B s c r n).put 47 v)) τ) (some (1, lstF [.int .u8 c], [.int .u8 c])) (σ.heap.get r) := by kernel_rfl
theorem B3_eq (K : Know Tryz.prog) (l : Nat) (k : Go.Ev.Act → St → Prop) (B : Nat) (s : List UInt8) (c : Int) (r n q m : Nat) : opsS Tryz.prog K (some l) (opsIn rgB) k (dropOf 4 (opsIn rgB)) (A0 ((t46' B s c r n).put 47 (.own q m 1))) σ =
    OkP (opStoreAt σ "store" (σ.store B 0 [.own q m 1])) fun _ τ => k (A0 ((t46' B s c r n).put 47 (.own q m 1))) τ := by kernel_rfl
theorem B1' {K : Know Tryz.prog} {l : Nat} {k : Go.Ev.Act → St → Prop} {B : Nat} {s : List UInt8} {c : Int} {r n : Nat} (h : σ.cell B 0 = some (.own r n 1)) : opsS Tryz.prog K (some l) (opsIn rgB) k (opsIn rgB) (A0 (t5 B s c)) σ = opsS Tryz.prog K (some l) (opsIn rgB) k (dropOf 1 (opsIn rgB)) (A0 ((t5 B s c).put 44 (.own r n 1))) σ := by
  rw [B1_eq, h]; kernel_rfl
theorem B2' {K : Know Tryz.prog} {l : Nat} {k : Go.Ev.Act → St → Prop} {B : Nat} {s : List UInt8} {c : Int} {r n : Nat} {f : Nat → V} {p : Bool} (h : σ.heap.get r = some (.row n f 1 p)) : opsS Tryz.prog K (some l) (opsIn rgB) k (dropOf 1 (opsIn rgB)) (A0 ((t5 B s c).put 44 (.own r n 1))) σ =
    ((n = n ∧ (n + 1) * 1 ≤ 1099511627776) ∧ opsS Tryz.prog K (some l) (opsIn rgB) k (dropOf 4 (opsIn rgB)) (A0 ((t46' B s c r n).put 47 (.own σ.next (n + 1) 1))) ((σ.kill r).new σ.next (.row (n + 1) (catF n f (lstF [.int .u8 c])) 1 p))) := by
  rw [B2_eq, h]; kernel_rfl
theorem B3' {K : Know Tryz.prog} {l : Nat} {k : Go.Ev.Act → St → Prop} {B : Nat} {s : List UInt8} {c : Int} {r n q m : Nat} {σ' : St} (h : σ.store B 0 [.own q m 1] = some σ') : opsS Tryz.prog K (some l) (opsIn rgB) k (dropOf 4 (opsIn rgB)) (A0 ((t46' B s c r n).put 47 (.own q m 1))) σ = k (A0 ((t46' B s c r n).put 47 (.own q m 1))) σ' := by
  rw [B3_eq, h]; kernel_rfl
theorem rgB_code {Q : Go.Ev.Post} {a : Go.Ev.Act} {l : Nat} (h : CodeS Tryz.prog 149 (some l) (.block 2 (regIn rgB)) Q a σ) : CodeS Tryz.prog 149 (some l) rgB Q a σ :=
  Eq.mpr (congrArg (fun c => CodeS Tryz.prog 149 (some l) c Q a σ) rgB_eq) h
theorem codeB {Q : Go.Ev.Post} {a : Go.Ev.Act} {l : Nat} (h : opsS Tryz.prog (Know.nil Tryz.prog) (some l) (opsIn rgB) (Q .normal) (opsIn rgB) a σ) : CodeS Tryz.prog 149 (some l) rgB Q a σ :=
  rgB_code (CodeS.block ⟨(codeB_eq l a _).mpr (opsS_holds (K := Know.nil Tryz.prog) Know.nil_ok.toOkC (Q := blockQ 2 Q) (ops := opsIn rgB) (l := opsIn rgB) h)⟩)
theorem body149 {Q : Go.Ev.Post} {l : Nat} {B : Nat} {s : List UInt8} {c : Int} {r n : Nat} {f : Nat → V} {p : Bool} {σ' : St} (h1 : σ.cell B 0 = some (.own r n 1)) (h2 : σ.heap.get r = some (.row n f 1 p)) (h3 : (n + 1) * 1 ≤ 1099511627776)
    (h4 : ((σ.kill r).new σ.next (.row (n + 1) (catF n f (lstF [.int .u8 c])) 1 p)).store B 0 [.own σ.next (n + 1) 1] = some σ') (hk : Q .normal (A0 ((t46' B s c r n).put 47 (.own σ.next (n + 1) 1))) σ') : CodeS Tryz.prog 149 (some l) rgB Q (A0 (t5 B s c)) σ := by
  refine codeB ?_
  rw [B1' h1, B2' h2]
  refine ⟨⟨rfl, h3⟩, ?_⟩
  rw [B3' h4]
  exact hk
/-- What stands there at a round's head. -/
def T149 (B d l : Nat) (s M : List UInt8) (τ : St) : Prop := ∃ r n f z t p p', τ.heap.get B = some (.cells 1 z t p false) ∧ cellOf 1 z t 0 = some (.own r n 1) ∧ τ.heap.get r = some (.row n f 1 p') ∧ Rep n f M ∧
  τ.heap.get l = some (.loop .ready none 149 (t149 B s) 49 [43] rgA rgB d) ∧ τ.heap.get d = some .deferred ∧ (r ≠ B ∧ r ≠ l ∧ r ≠ d ∧ B ≠ l ∧ B ≠ d ∧ l ≠ d) ∧ (r < τ.next ∧ B < τ.next ∧ l < τ.next ∧ d < τ.next)
theorem round149 {B d l : Nat} {s M : List UInt8} {τ : St} {c : Int} (hT : T149 B d l s M τ) (hM : M.length ≤ 1100000) (h0 : 0 ≤ c) (h1 : c < 256) : ∃ τ', YR l τ c τ' ∧ T149 B d l s (M ++ [byteOf c]) τ' := by
  obtain ⟨r, n, f, z, t, p, p', hB, hc, hr, hf, hl, hd, ⟨e1, e2, e3, e4, e5, e6⟩, n1, n2, n3, n4⟩ := hT
  have hn := hf.1
  let τ₁ := τ.set l (.loop .busy none 149 (t149 B s) 49 [43] rgA rgB d)
  let τ₂ := (τ₁.kill r).new τ₁.next (.row (n + 1) (catF n f (lstF [.int .u8 c])) 1 p')
  let τ₃ := τ₂.set B (.cells 1 z (putAll [.own τ₁.next (n + 1) 1] t 0) p false)
  let τ₄ := τ₃.set l (.loop .ready none 149 (t149 B s) 49 [43] rgA rgB d)
  have nx : τ₁.next = τ.next := rfl
  have g1 : ∀ b, b ≠ l → τ₁.heap.get b = τ.heap.get b := fun b hb => by rw [set_get', if_neg hb]
  have g2 : ∀ b, b ≠ r → b ≠ τ₁.next → τ₂.heap.get b = τ₁.heap.get b := fun b hb hb' => by rw [new_get', if_neg hb', kill_get', if_neg hb]
  have hB₂ : τ₂.heap.get B = some (.cells 1 z t p false) := by rw [g2 B (Ne.symm e1) (by omega), g1 B e4]; exact hB
  have hl₃ : τ₃.heap.get l = some (.loop .busy none 149 (t149 B s) 49 [43] rgA rgB d) := by
    rw [set_get', if_neg (Ne.symm e4), g2 l (Ne.symm e2) (by omega), set_get', if_pos rfl]
  have hst : τ₂.store B 0 [.own τ₁.next (n + 1) 1] = some τ₃ := by
    unfold St.store
    rw [hB₂]; rfl
  refine ⟨τ₄, fun k hk => ?_, τ₁.next, n + 1, catF n f (lstF [.int .u8 c]), z, putAll [.own τ₁.next (n + 1) 1] t 0, p, p', ?_, ?_, ?_, hf.append (.lst1 (v := .int .u8 c) h0 h1 rfl), ?_, ?_, ?_, ?_⟩
  · refine TaskS.round (t' := (t149 B s).put 43 (.int .u8 c)) hl rfl ⟨?_⟩
    rw [codeA_eq]
    refine opsS_holds (K := Know.nil Tryz.prog) Know.nil_ok.toOkC ?_
    refine (A_eq (Know.nil Tryz.prog) l _ B s c).mpr ⟨rfl, rfl, none, t149 B s, 49, hl, ?_⟩
    have hcell : τ₁.cell B 0 = some (.own r n 1) := by
      unfold St.cell
      rw [g1 B e4, hB]; exact hc
    have hr₁ : τ₁.heap.get r = some (.row n f 1 p') := by rw [g1 r e2, hr]
    have hlim : (n + 1) * 1 ≤ 1099511627776 := by omega
    exact body149 hcell hr₁ hlim hst ⟨rfl, .busy, none, t149 B s, 49, hl₃, hk⟩
  · rw [set_get', if_neg e4, set_get', if_pos rfl]
  · show (match (putAll [V.own τ₁.next (n + 1) 1] t 0).get 0 with
      | some v => some v
      | none => nth z (Nat.mod 0 (len z))) = _
    rw [show (putAll [V.own τ₁.next (n + 1) 1] t 0) = t.put 0 (some (.own τ₁.next (n + 1) 1)) from rfl, Trie.get_put, if_pos rfl]
  · rw [set_get', if_neg (by omega), set_get', if_neg (by omega), new_get', if_pos rfl]
  · rw [set_get', if_pos rfl]
  · rw [set_get', if_neg (Ne.symm e6), set_get', if_neg (Ne.symm e5), g2 d (Ne.symm e3) (by omega), g1 d (Ne.symm e6)]; exact hd
  · omega
  · have hx : τ₄.next = max τ₁.next (τ₁.next + 1) := new_next' (τ₁.kill r) τ₁.next (.row (n + 1) (catF n f (lstF [.int .u8 c])) 1 p')
    omega
omit [Env] in
theorem t149_get {B : Nat} {s : List UInt8} {i : Nat} {v : V} (h : (t149 B s).get i = some v) : v = .ptr B 0 ∨ v = .func (.func 236) [] [.eptr [.str s] 0] := by
  have h : ((Slots.put (Slots.put ([] : Slots V) 42 (.func (.func 236) [] [.eptr [.str s] 0])) 2 (.ptr B 0)) : Slots V).get i = some v := h
  rw [Slots.get_put, Slots.get_put, Slots.get_nil] at h
  split at h
  · cases h; exact .inl rfl
  · split at h
    · cases h; exact .inr rfl
    · cases h
theorem cl_clo (s : List UInt8) : Go.Ev.Clean (.func (.func 236) [] [.eptr [.str s] 0]) := Go.Ev.Clean.fn cl_nil (cl_cons (Go.Ev.Clean.eptr (cl_cons (Go.Ev.Clean.str _) cl_nil)) cl_nil)
variable [ErrT]
/-- The whole loop, from a row of its own on. -/
theorem range149 {B r n : Nat} {f : Nat → V} {z : List V} {t : Trie V} {p p' : Bool} {s L : List UInt8} {Q : Go.Ev.Post} (hB : σ.heap.get B = some (.cells 1 z t p false)) (hc : cellOf 1 z t 0 = some (.own r n 1)) (hr : σ.heap.get r = some (.row n f 1 p')) (hL : Rep n f L)
    (hn : n ≤ 1000000) (hs : s.length ≤ 64) (hBn : B < σ.next) (hrn : r < σ.next) (h : ∀ m g, Rep m g (L ++ escL s) → Q .normal ⟨t149 B s, 49, [(none, σ.next, [])]⟩ (afterR B σ.next m g)) : CodeN Tryz.prog 0 rg149 Q (A0 (t149 B s)) σ := by
  have hBr : r ≠ B := fun e => by rw [e, hB] at hr; cases hr
  have hLl := hL.1
  let σ₁ := σ.new σ.next .deferred
  have x1 : σ₁.next = σ.next + 1 := by
    have : σ₁.next = max σ.next (σ.next + 1) := new_next' _ _ _
    omega
  let l := σ₁.next
  let a₁ : Go.Ev.Act := ⟨t149 B s, 49, [(none, σ.next, [])]⟩
  let Q' : Go.Ev.Post := fun e a τ => e = .normal ∧ a = a₁ ∧ ∃ υ, T149 B σ.next l s (L ++ escL s) υ ∧ τ = (υ.set l (.loop .exhausted none 149 (t149 B s) 49 [43] rgA rgB σ.next)).kill l
  have hS : CodeS Tryz.prog 149 none rg149 Q' (A0 (t149 B s)) σ := by
    rw [rg149_eq]
    refine CodeS.range (g := 236) (x := []) (y := [.eptr [.str s] 0]) rfl ?_
    let σ₂ := σ₁.new l (.loop .ready none 149 (t149 B s) 49 [43] rgA rgB σ.next)
    have g2 : ∀ b, b ≠ σ.next → b ≠ l → σ₂.heap.get b = σ.heap.get b := fun b h1 h2 => by rw [new_get', if_neg h2, new_get', if_neg h1]
    have hT : T149 B σ.next l s L σ₂ := by
      have x2 : σ₂.next = max σ₁.next (l + 1) := new_next' _ _ _
      have hl : l = σ.next + 1 := x1
      refine ⟨r, n, f, z, t, p, p', ?_, hc, ?_, hL, ?_, ?_, ⟨hBr, by omega, by omega, by omega, by omega, by omega⟩, by omega, by omega, by omega, by omega⟩
      · rw [g2 B (by omega) (by omega)]; exact hB
      · rw [g2 r (by omega) (by omega)]; exact hr
      · rw [new_get', if_pos rfl]
      · rw [new_get', if_neg (by omega), new_get', if_pos rfl]
    refine (esc236 (T := T149 B σ.next l s) (L := L) (fun hT hM h0 h1 => round149 hT (by omega) h0 h1) hT hs).mono fun v τ hτ => ?_
    have hτ' := hτ
    obtain ⟨_, _, _, _, _, _, _, _, _, _, _, hl, _⟩ := hτ
    show rangeQ (Q' .normal) a₁ l τ
    unfold rangeQ
    rw [hl]
    exact ⟨rfl, rfl, τ, hτ', rfl⟩
  refine (CodeN.of hS).tell fun e b τ hq => ?_
  obtain ⟨rfl, rfl, υ, hT, rfl⟩ := hq
  obtain ⟨r', n', f', z', t', q, q', hB', hc', hr', hf', hl', hd', ⟨e1, e2, e3, e4, e5, e6⟩, n1, n2, n3, n4⟩ := hT
  have hl : l = σ.next + 1 := x1
  let m : Nat → Option Nat := fun i => if i = B then some B else if i = σ.next then some σ.next else if i = σ.next + 1 then some r' else none
  have mB : m B = some B := if_pos rfl
  have md : m σ.next = some σ.next := by show (if _ then _ else _) = _; rw [if_neg (by omega), if_pos rfl]
  have mr : m (σ.next + 1) = some r' := by show (if _ then _ else if _ then _ else _) = _; rw [if_neg (by omega), if_neg (by omega), if_pos rfl]
  have gg : ∀ b, b ≠ l → ((υ.set l (.loop .exhausted none 149 (t149 B s) 49 [43] rgA rgB σ.next)).kill l).heap.get b = υ.heap.get b := fun b hb => by rw [kill_get', if_neg hb, set_get', if_neg hb]
  have cases_m : ∀ {i c}, m i = some c → (i = B ∧ c = B) ∨ (i = σ.next ∧ c = σ.next) ∨ (i = σ.next + 1 ∧ c = r') := fun {i c} hi => by
    have hi : (if i = B then some B else if i = σ.next then some σ.next else if i = σ.next + 1 then some r' else none) = some c := hi
    split at hi
    · rename_i h; cases hi; exact .inl ⟨h, rfl⟩
    · split at hi
      · rename_i h; cases hi; exact .inr (.inl ⟨h, rfl⟩)
      · split at hi
        · rename_i h; cases hi; exact .inr (.inr ⟨h, rfl⟩)
        · cases hi
  refine ⟨m, a₁, afterR B σ.next n' f', ⟨⟨rfl, rfl, rfl, fun i v hv => ?_, fun i k hk => ?_, fun i j c h1 h2 => ?_, fun i hi => ?_, fun i hi => absurd hi (Nat.not_lt_zero i), Nat.zero_le _⟩, rfl, fun i v hv => ⟨v, hv, ?_⟩, .inr ⟨σ.next, σ.next, [], rfl, rfl, md⟩⟩, h n' f' hf'⟩
  · have hv : Slots.get ([] : Slots V) i = some v := hv
    rw [Slots.get_nil] at hv; cases hv
  · have hk : (Trie.put (Trie.put (Trie.put .leaf B (some (.cells 1 [] (putAll [.own (Nat.add σ.next 1) n' 1] .leaf 0) false false))) σ.next (some .deferred)) (Nat.add σ.next 1) (some (.row n' f' 1 false))).get i = some k := hk
    rw [Trie.get_put, Trie.get_put, Trie.get_put, Trie.get_leaf] at hk
    split at hk
    · rename_i hi
      cases hk
      exact ⟨r', _, by rw [show i = σ.next + 1 from hi]; exact mr, by rw [gg r' e2]; exact hr', .row (fun h => by cases h) fun i hi => VRenL.clean (rep_clean hf' i hi)⟩
    · split at hk
      · rename_i hi
        cases hk
        exact ⟨σ.next, _, by rw [hi]; exact md, by rw [gg _ (by omega)]; exact hd', .deferred⟩
      · split at hk
        · rename_i hi
          cases hk
          refine ⟨B, _, by rw [hi]; exact mB, by rw [gg B e4]; exact hB', .cells (fun h => by cases h) fun j v hv => ?_⟩
          by_cases hj : j = 0
          · subst hj
            have hv : some (V.own (Nat.add σ.next 1) n' 1) = some v := hv
            cases hv
            exact ⟨_, hc', .own mr⟩
          · unfold cellOf at hv
            rw [show Nat.blt j 1 = false by cases j with
              | zero => exact absurd rfl hj
              | succ j => rfl] at hv
            cases hv
        · cases hk
  · rcases cases_m h1 with ⟨i1, c1⟩ | ⟨i1, c1⟩ | ⟨i1, c1⟩ <;> rcases cases_m h2 with ⟨j1, c2⟩ | ⟨j1, c2⟩ | ⟨j1, c2⟩ <;> omega
  · have hi : σ.next + 2 ≤ i := hi
    show (if i = B then some B else if i = σ.next then some σ.next else if i = σ.next + 1 then some r' else none) = none
    rw [if_neg (by omega), if_neg (by omega), if_neg (by omega)]
  · rcases t149_get hv with rfl | rfl
    · exact .ptr mB
    · exact .clean (cl_clo s)
theorem RK149_ok {f : FuncId} {c : Code} {Q : Go.Ev.Post} {a : Go.Ev.Act} (h : RK149 f none c Q a σ) : CodeN Tryz.prog 0 c Q a σ := by
  obtain ⟨⟨rfl, _, rfl⟩, h⟩ := h
  obtain ⟨vs, h, h1, h2, h3⟩ := headP_get h
  refine CodeN.sub h1 h2 h3 ?_
  split at h
  · rename_i B s
    split at h
    · rename_i z t p hB
      split at h
      · rename_i r n hc
        split at h
        · rename_i n' f p' hr
          obtain ⟨⟨rfl, hn, hs, hBn, hrn⟩, L, hL, h⟩ := h
          exact range149 hB (cell_any hc) hr hL hn hs hBn hrn h
        · exact h.elim
      · rename_i r hc
        split at h
        · rename_i z' t' p' hr
          split at h
          · rename_i x hx
            obtain ⟨⟨hxr, hs, hBn, hrn⟩, h⟩ := h
            have hf : Rep 1 (fun _ => .agg [.int .u8 x]) [byteOf x] := .one hxr.1 hxr.2 rfl
            have hBr : r ≠ B := fun e => by
              rw [e, hB] at hr; cases hr
              rw [hc] at hx; cases hx
            let σ' : St := ⟨Trie.put (Trie.put .leaf B (some (.cells 1 [] (putAll [.own r 1 1] .leaf 0) false false))) r (some (.row 1 (fun _ => .agg [.int .u8 x]) 1 false)), σ.next⟩
            have gB : σ'.heap.get B = some (.cells 1 [] (putAll [.own r 1 1] .leaf 0) false false) := by
              show (Trie.put (Trie.put .leaf B _) r _).get B = _
              rw [Trie.get_put, if_neg (Ne.symm hBr), Trie.get_put, if_pos rfl]
            have gr : σ'.heap.get r = some (.row 1 (fun _ => .agg [.int .u8 x]) 1 false) := by
              show (Trie.put (Trie.put .leaf B _) r _).get r = _
              rw [Trie.get_put, if_pos rfl]
            have hN : CodeN Tryz.prog 0 rg149 Q (A0 (t149 B s)) σ' := range149 (r := r) (n := 1) gB rfl gr hf (by decide) hs hBn hrn h
            let m : Nat → Option Nat := fun i => if i = B then some B else if i = r then some r else none
            have mB : m B = some B := if_pos rfl
            have mr : m r = some r := by show (if _ then _ else _) = _; rw [if_neg hBr, if_pos rfl]
            refine CodeN.fgt (m := m) ⟨rfl, rfl, rfl, fun i v hv => ⟨v, hv, ?_⟩, fun i k hk => ?_, fun i j c h1 h2 => ?_, fun i hi => ?_, fun i hi => absurd hi (Nat.not_lt_zero i), Nat.zero_le _⟩ hN
            · rcases t149_get hv with rfl | rfl
              · exact .ptr mB
              · exact .clean (cl_clo s)
            · have hk : (Trie.put (Trie.put .leaf B (some (.cells 1 [] (putAll [.own r 1 1] .leaf 0) false false))) r (some (.row 1 (fun _ => .agg [.int .u8 x]) 1 false))).get i = some k := hk
              rw [Trie.get_put, Trie.get_put, Trie.get_leaf] at hk
              split at hk
              · rename_i hi
                cases hk
                refine ⟨r, _, by rw [hi]; exact mr, hr, .toRow (fun h => by cases h) (fun _ _ => rfl) fun i hi k v hv => ?_⟩
                obtain rfl : i = 0 := by omega
                have hv : [V.int .u8 x][k]? = some v := hv
                cases k with
                | zero => cases hv; exact ⟨_, cell_any hx, .clean (Go.Ev.Clean.int _ _)⟩
                | succ k => simp at hv
              · split at hk
                · rename_i hi
                  cases hk
                  refine ⟨B, _, by rw [hi]; exact mB, hB, .cells (fun h => by cases h) fun j v hv => ?_⟩
                  by_cases hj : j = 0
                  · subst hj
                    have hv : some (V.own r 1 1) = some v := hv
                    cases hv
                    exact ⟨_, cell_any hc, .ownOf mr (by decide)⟩
                  · unfold cellOf at hv
                    rw [show Nat.blt j 1 = false by cases j with
                      | zero => exact absurd rfl hj
                      | succ j => rfl] at hv
                    cases hv
                · cases hk
            · have h1 : (if i = B then some B else if i = r then some r else none) = some c := h1
              have h2 : (if j = B then some B else if j = r then some r else none) = some c := h2
              split at h1 <;> split at h2 <;> (try split at h1) <;> (try split at h2) <;> first | (cases h1; done) | (cases h2; done) | (cases h1; cases h2; omega)
            · have hi : σ.next ≤ i := hi
              show (if i = B then some B else if i = r then some r else none) = none
              rw [if_neg (by omega), if_neg (by omega)]
          · exact h.elim
        · exact h.elim
      · exact h.elim
    · exact h.elim
  · exact h.elim
end
end Go.Proofs.YtbajncpfmemdgaaGreatDoor
namespace Go.Proofs.YtbajncpfmemdgaaGreatDoor
open Go Go.Ev Go.IntWalk
theorem F103 : FnF Tryz.prog 103 Tryz.f103 := ⟨by kernel_rfl, by kernel_rfl, by kernel_rfl, by kernel_rfl, by kernel_rfl⟩
theorem hf149 : Tryz.prog.funcs[149]? = some Tryz.f149 := by kernel_rfl
theorem hb149 : Tryz.f149.body = some (Tryz.f149.body.getD .skip) := by kernel_rfl
theorem hn149 : (Tryz.f149.name == "runtime.NumGoroutine") = false := by kernel_rfl
theorem hl149 : loopsOf (Tryz.f149.body.getD .skip) = [] := by kernel_rfl
theorem own_beq (b n z : Nat) : V.beq (.own b n z) (.own b n z) = true := by simp [V.beq]
theorem slice_beq (b o n c z : Nat) (e : Bool) : V.beq (.slice b o n c e z) (.slice b o n c e z) = true := by simp [V.beq]
section
variable [Env] {vs : List V} {σ : St} {k : VPost}
omit [Env] in
theorem leafn (Q : Nat → (Nat → V) → Prop) (m : Nat) (g : Nat → V) (s : List UInt8) : resP (bufP Q) ((afterR 0 3 m g).kill 3) (resultsV Tryz.prog ⟨Slots.put (Slots.put (putL [2, 42] [.ptr 0 0, .func (.func 236) [] [.eptr [.str s] 0]]) 48 (.own 4 m 1)) 4 (.own 4 m 1), 49, []⟩ ((afterR 0 3 m g).kill 3) Tryz.f149.results.toList) = ((m = m ∧ 1 = 1) ∧ Q m g) := by kernel_rfl
omit [Env] in
theorem leafo (Q : Nat → (Nat → V) → Prop) (m : Nat) (g : Nat → V) (s : List UInt8) : resP (bufP Q) ((afterR 1 4 m g).kill 4) (resultsV Tryz.prog ⟨Slots.put (Slots.put (putL [2, 42] [.ptr 1 0, .func (.func 236) [] [.eptr [.str s] 0]]) 48 (.own 5 m 1)) 4 (.own 5 m 1), 49, []⟩ ((afterR 1 4 m g).kill 4) Tryz.f149.results.toList) = ((m = m ∧ 1 = 1) ∧ Q m g) := by kernel_rfl
theorem endn {Q : Nat → (Nat → V) → Prop} {m : Nat} {g : Nat → V} {s : List UInt8} (h : Q m g) : TaskS Tryz.prog (.leave Tryz.f149 ⟨(Slots.put (Slots.put (putL [2, 42] [.ptr 0 0, .func (.func 236) [] [.eptr [.str s] 0]]) 48 (.own 4 m 1)) 4 (.own 4 m 1)), 49, [(none, 3, [])]⟩) (valP (bufP Q)) (afterR 0 3 m g) :=
  TaskS.leaveMark (by rfl) (by rw [leafn]; exact ⟨⟨rfl, rfl⟩, h⟩)
theorem endo {Q : Nat → (Nat → V) → Prop} {m : Nat} {g : Nat → V} {s : List UInt8} (h : Q m g) : TaskS Tryz.prog (.leave Tryz.f149 ⟨(Slots.put (Slots.put (putL [2, 42] [.ptr 1 0, .func (.func 236) [] [.eptr [.str s] 0]]) 48 (.own 5 m 1)) 4 (.own 5 m 1)), 49, [(none, 4, [])]⟩) (valP (bufP Q)) (afterR 1 4 m g) :=
  TaskS.leaveMark (by rfl) (by rw [leafo]; exact ⟨⟨rfl, rfl⟩, h⟩)
variable [ErrT]
omit [Env] [ErrT] in
theorem valB_eq (e : T46) : valB e = [byteOf (IntKind.u8.wrap e.f0)] ++ (if e.f0 = 1 then [byteOf (IntKind.u8.wrap e.f1)] else if e.f0 = 2 then eightP (intI e.f1) 8 else if e.f0 = 3 then eightP (keyI e.f2) 8 else if e.f0 = 4 ∨ e.f0 = 5 then escL e.f3 else []) := rfl
theorem putN {e : T46} (hc : 0 ≤ e.f2 ∧ e.f2 < 18446744073709551616) (h0 : valErr e = 0) : CallN Tryz.prog 149 [.nilslice, T46.enc e] (BufQ 1 fun m g => Rep m g (valB e)) Go.Ev.start := by
  refine CallN.mono (Q := bufP fun m g => Rep m g (valB e)) ?_ fun v τ h => bufP_ok (fun n g hg => rep_clean hg) h
  refine CallN.flatR hf149 hb149 hn149 (call := kn47) (rng := RK149) (A := fun _ _ => False) (live := fun _ => []) (fun h => kn47_ok h) (fun h => RK149_ok h) hl149 ?_
  rw [e149n]
  have hl := valErr_len h0
  have r0 := u8_range e.f0
  have r1 := u8_range e.f1
  refine ⟨rfl, cIf (fun k1 => ⟨⟨rfl, rfl⟩, ?_⟩) fun k1 => ⟨rfl, cIf (fun k2 => ⟨r0, fun m g hg => ⟨⟨rfl, rfl⟩, ?_⟩⟩) fun k2 => ⟨rfl, cIf (fun k3 => ⟨hc, CondP.mk (fun _ => ⟨r0, fun m g hg => ⟨⟨rfl, rfl⟩, ?_⟩⟩) fun hh => ?_⟩) fun k3 => ⟨rfl, cIf (fun k4 => ⟨⟨rfl, rfl, rfl⟩, ⟨r0, hl, by decide, by decide⟩, fun m g hg => endn ?_⟩) fun k4 =>
    ⟨rfl, cIf (fun k5 => ⟨⟨rfl, rfl, rfl⟩, ⟨r0, hl, by decide, by decide⟩, fun m g hg => endn ?_⟩) fun k5 => ⟨⟨rfl, rfl, rfl⟩, ?_⟩⟩⟩⟩⟩⟩
  · rw [valB_eq, if_pos k1]; exact .lst2 r0.1 r0.2 r1.1 r1.2 rfl rfl
  · rw [valB_eq, if_neg k1, if_pos k2]; exact hg
  · rw [valB_eq, if_neg k1, if_neg k2, if_pos k3]; exact hg
  · rw [slice_beq] at hh; cases hh
  · rw [valB_eq, if_neg k1, if_neg k2, if_neg k3, if_pos (.inl k4)]; exact hg
  · rw [valB_eq, if_neg k1, if_neg k2, if_neg k3, if_pos (.inr k5)]; exact hg
  · rw [valB_eq, if_neg k1, if_neg k2, if_neg k3, if_neg fun hh => hh.elim k4 k5]; exact .one r0.1 r0.2 rfl
theorem putO {e : T46} {n : Nat} {f : Nat → V} {L : List UInt8} (hf : Rep n f L) (hn : n ≤ 500000) (hc : 0 ≤ e.f2 ∧ e.f2 < 18446744073709551616) (h0 : valErr e = 0) : CallN Tryz.prog 149 [.own 0 n 1, T46.enc e] (BufQ 1 fun m g => Rep m g (L ++ valB e)) (bufS n f 1 false) := by
  refine CallN.mono (Q := bufP fun m g => Rep m g (L ++ valB e)) ?_ fun v τ h => bufP_ok (fun n g hg => rep_clean hg) h
  show CallN Tryz.prog 149 [.own 0 n 1, T46.enc e] _ (mkS [.row n f 1])
  refine CallN.flatR hf149 hb149 hn149 (call := kn47) (rng := RK149) (A := fun _ _ => False) (live := fun _ => []) (fun h => kn47_ok h) (fun h => RK149_ok h) hl149 ?_
  rw [e149o]
  have hl := valErr_len h0
  have r0 := u8_range e.f0
  have r1 := u8_range e.f1
  have h1 : Rep (n + 1) (catF n f (lstF [.int .u8 (IntKind.u8.wrap e.f0)])) (L ++ [byteOf (IntKind.u8.wrap e.f0)]) := hf.append (.lst1 (v := .int .u8 (IntKind.u8.wrap e.f0)) r0.1 r0.2 rfl)
  refine ⟨⟨rfl, by omega⟩, rfl, cIf (fun k1 => ⟨⟨rfl, by omega⟩, ⟨rfl, rfl⟩, ?_⟩) fun k1 => ⟨rfl, cIf (fun k2 => ⟨⟨rfl, by omega⟩, _, h1, fun m g hg => ⟨⟨rfl, rfl⟩, ?_⟩⟩) fun k2 => ⟨rfl, cIf (fun k3 => ⟨hc, CondP.mk (fun _ => ⟨⟨rfl, by omega⟩, _, h1, fun m g hg => ⟨⟨rfl, rfl⟩, ?_⟩⟩) fun hh => ?_⟩) fun k3 =>
    ⟨rfl, cIf (fun k4 => ⟨⟨rfl, rfl, rfl⟩, ⟨rfl, by omega, hl, by decide, by decide⟩, _, h1, fun m g hg => endo ?_⟩) fun k4 => ⟨rfl, cIf (fun k5 => ⟨⟨rfl, rfl, rfl⟩, ⟨rfl, by omega, hl, by decide, by decide⟩, _, h1, fun m g hg => endo ?_⟩) fun k5 => ⟨⟨rfl, rfl⟩, ?_⟩⟩⟩⟩⟩⟩
  · rw [valB_eq, if_pos k1, ← List.append_assoc]; exact h1.append (.lst1 (v := .int .u8 (IntKind.u8.wrap e.f1)) r1.1 r1.2 rfl)
  · rw [valB_eq, if_neg k1, if_pos k2, ← List.append_assoc]; exact hg
  · rw [valB_eq, if_neg k1, if_neg k2, if_pos k3, ← List.append_assoc]; exact hg
  · rw [own_beq] at hh; cases hh
  · rw [valB_eq, if_neg k1, if_neg k2, if_neg k3, if_pos (.inl k4), ← List.append_assoc]; exact hg
  · rw [valB_eq, if_neg k1, if_neg k2, if_neg k3, if_pos (.inr k5), ← List.append_assoc]; exact hg
  · rw [valB_eq, if_neg k1, if_neg k2, if_neg k3, if_neg fun hh => hh.elim k4 k5, List.append_nil]; exact h1
theorem W149_ok (h : W149 vs σ k) : CallS Tryz.prog 149 vs k σ := by
  unfold W149 at h
  split at h
  · rename_i a b c s
    obtain ⟨⟨hc, h0⟩, h⟩ := h
    exact CallS.bufNil (cs := [.nilslice, T46.enc ⟨a, b, c, s⟩]) (cl_cons Go.Ev.Clean.nilslice (cl_cons (T46.enc_clean _) cl_nil)) (putN (e := ⟨a, b, c, s⟩) hc h0) h
  · rename_i w n a b c s
    split at h
    · rename_i n' f p hb
      obtain ⟨⟨rfl, hn, hc, h0⟩, L, hf, h⟩ := h
      exact CallS.buf (cs := [T46.enc ⟨a, b, c, s⟩]) hb (rep_clean hf) (cl_cons (T46.enc_clean _) cl_nil) (putO (e := ⟨a, b, c, s⟩) hf hn hc h0) h
    · exact h.elim
  · exact h.elim
theorem kn48_ok : ∀ {f : FuncId} {vs : List V} {σ : St} {k : VPost}, kn48 f vs σ k → CallS Tryz.prog f vs k σ := by
  intro f vs σ k h
  unfold kn48 at h
  split at h
  · rename_i hb; obtain rfl := Nat.eq_of_beq_eq_true hb; exact W149_ok h
  · exact kn47_ok h
def I103 (n : Nat) (q : Nat → T46) : Nat → List SV → Prop
  | 0, ss => ss = [.val .nilslice, .val (V.arr n (fun i => T46.enc (q i)) 4 false false), .val (.int .i64 ((n : Nat) : Int)), .val (.int .i64 (0 : Int))] ∨
      ∃ (i m : Nat) (f : Nat → V), i ≤ n ∧ (∀ j, j < i → valErr (q j) = 0) ∧ Rep m f (rowB q i) ∧ ss = [.row m f 1, .val (V.arr n (fun i => T46.enc (q i)) 4 false false), .val (.int .i64 ((n : Nat) : Int)), .val (.int .i64 i)]
  | _, _ => False
theorem W103_ok (h : W103 vs σ k) : CallS Tryz.prog 103 vs k σ := by
  unfold W103 at h
  split at h
  · rename_i n f
    obtain ⟨q, rfl, ⟨hn, hq⟩, h⟩ := h
    refine CallS.oneV (fz_cons (cl_vals n q) fz_nil) (.tuple (sc_cons (.str _) (sc_cons (.int _ _) sc_nil))) (F103.floyd (live := live103) (call := kn48) (n₀ := 0) (σ := Go.Ev.start) (fun h => kn48_ok h) rfl 1 (by kernel_rfl) Nat.lt_wfRel.wf (fun _ ss => n - lastI ss) (I103 n q) ?_ ?_ ?_) h
    · intro k ss hI
      cases k with
      | zero =>
        rcases hI with rfl | ⟨i, m, f, _, _, hf, rfl⟩
        · exact sv_cons Go.Ev.Clean.nilslice (sv_vals (sv_int (sv_int sv_nil)))
        · exact rep_bytes_sv hf (sv_vals (sv_int (sv_int sv_nil)))
      | succ k => exact hI.elim
    · rw [e103]
      exact .inl rfl
    · intro k hk ss hI
      obtain rfl : k = 0 := by omega
      rcases hI with rfl | ⟨i, m, f, hi, hj, hf, rfl⟩
      · have hv : (⟨(q (0 : Int).toNat).f0, (q (0 : Int).toNat).f1, (q (0 : Int).toNat).f2, (q (0 : Int).toNat).f3⟩ : T46) = q 0 := rfl
        rw [r103n, hv, show (0 : Int).toNat = 0 from rfl]
        refine ⟨rfl, cIf (fun h1 => ⟨⟨by omega, by omega⟩, hq 0 (by omega), rfl, cIf (fun h2 => ?_) fun h2 => ?_⟩) fun h1 => ?_⟩
        · obtain ⟨e1, e2⟩ := rowS_bad (q := q) (n := n) (i := 0) (by omega) h2 fun j hj => absurd hj (Nat.not_lt_zero j)
          rw [e1, e2]
        · have h2 := Decidable.not_not.1 h2
          refine ⟨⟨hq 0 (by omega), h2⟩, fun m g hg => ⟨⟨rfl, rfl⟩, .inr ⟨1, m, g, by omega, fun j hj => ?_, hg, ?_⟩, ?_⟩⟩
          · obtain rfl : j = 0 := by omega
            exact h2
          · rw [i64_in ((0 : Int) + 1) (by omega)]; rfl
          · rw [i64_in ((0 : Int) + 1) (by omega)]
            show n - ((0 : Int) + 1).toNat < n - (0 : Int).toNat
            omega
        · obtain rfl : n = 0 := by omega
          obtain ⟨e1, e2⟩ := rowS_good (q := q) (n := 0) fun j hj => absurd hj (Nat.not_lt_zero j)
          rw [e1, e2]; rfl
      · have hv : (⟨(q (i : Int).toNat).f0, (q (i : Int).toNat).f1, (q (i : Int).toNat).f2, (q (i : Int).toNat).f3⟩ : T46) = q i := rfl
        have hl := rowB_length hj
        have hm := hf.1
        rw [r103o, hv, toT]
        refine ⟨rfl, cIf (fun h1 => ⟨⟨by omega, by omega⟩, hq i (by omega), rfl, cIf (fun h2 => ?_) fun h2 => ?_⟩) fun h1 => ?_⟩
        · obtain ⟨e1, e2⟩ := rowS_bad (q := q) (n := n) (i := i) (by omega) h2 hj
          rw [e1, e2]
        · have h2 := Decidable.not_not.1 h2
          refine ⟨⟨rfl, by omega, hq i (by omega), h2⟩, _, hf, fun w g hg => ⟨⟨rfl, rfl⟩, .inr ⟨i + 1, w, g, by omega, fun j hj' => ?_, hg, ?_⟩, ?_⟩⟩
          · by_cases e : j = i
            · rw [e]; exact h2
            · exact hj j (by omega)
          · rw [i64_in ((i : Int) + 1) (by omega)]; rfl
          · rw [i64_in ((i : Int) + 1) (by omega)]
            show n - ((i : Int) + 1).toNat < n - (i : Int).toNat
            omega
        · obtain rfl : i = n := by omega
          obtain ⟨e1, e2⟩ := rowS_good hj
          rw [e1, e2]
          exact ⟨rfl, _, hf.bytes, rfl⟩
  · exact h.elim
theorem kn49_ok : ∀ {f : FuncId} {vs : List V} {σ : St} {k : VPost}, kn49 f vs σ k → CallS Tryz.prog f vs k σ := by
  intro f vs σ k h
  unfold kn49 at h
  split at h
  · rename_i hb; obtain rfl := Nat.eq_of_beq_eq_true hb; exact W103_ok h
  · exact kn48_ok h
end
end Go.Proofs.YtbajncpfmemdgaaGreatDoor
