/- Tables, rows, keys: program and reference. -/
import Derived.Test.YtbajncpfmemdgaaGreatDoorEvBnP
namespace Go.Proofs.YtbajncpfmemdgaaGreatDoor
open Go Go.Ev Go.IntWalk
section
variable [Env] {vs : List V} {σ : St} {k : VPost}
theorem sv_strs {n : Nat} {h : Nat → List UInt8} {l : List SV} (hl : ∀ u ∈ l, u.clean) : ∀ u ∈ SV.val (V.arr n (fun i => V.str (h i)) 1 false false) :: l, u.clean := sv_cons (cl_strs n h) hl
def I222 (s : List UInt8) (n : Nat) (q : Nat → List UInt8) : Nat → List SV → Prop
  | 0, ss => ∃ i : Nat, i ≤ n ∧ ss = [.val (.str s), .val (.int .i64 (cntN s q i)), .val (V.arr n (fun i => V.str (q i)) 1 false false), .val (.int .i64 ((n : Nat) : Int)), .val (.int .i64 i)]
  | _, _ => False
theorem W222_ok (h : W222 vs σ k) : CallS Tryz.prog 222 vs k σ := by
  unfold W222 at h
  split at h
  · rename_i s n f
    obtain ⟨q, rfl, hn, h⟩ := h
    refine CallS.oneV (fz_cons (Go.Ev.Clean.str _) (fz_cons (cl_strs n q) fz_nil)) (.int _ _) ?_ h
    refine F222.floyd (live := live222) (call := kn20) (n₀ := 0) (σ := Go.Ev.start) (fun h => kn20_ok h) rfl 1 (by kernel_rfl) Nat.lt_wfRel.wf (fun _ ss => n - lastI ss) (I222 s n q) ?_ ?_ ?_
    · intro k ss hI
      cases k with
      | zero => obtain ⟨i, _, rfl⟩ := hI; exact sv_str (sv_int (sv_strs (sv_int (sv_int sv_nil))))
      | succ k => exact hI.elim
    · rw [e222]
      exact ⟨0, by omega, rfl⟩
    · intro k hk ss hI
      obtain rfl : k = 0 := by omega
      obtain ⟨i, hi, rfl⟩ := hI
      have hc := cntN_ge s q i
      rw [r222]
      refine ⟨rfl, cIf (fun h1 => ⟨⟨by omega, by omega⟩, cIf (fun h2 => ?_) fun h2 => ?_⟩) fun h1 => ?_⟩
      · rw [toT] at h2
        rw [i64_in ((i : Int) + 1) (by omega), i64_in (cntN s q i + 1) (by omega)]
        refine ⟨⟨i + 1, by omega, ?_⟩, ?_⟩
        · show _ = [_, SV.val (.int .i64 (cntN s q i + if q i = s then 1 else 0)), _, _, _]
          rw [if_pos h2]; rfl
        · show n - ((i : Int) + 1).toNat < n - (i : Int).toNat
          omega
      · rw [toT] at h2
        rw [i64_in ((i : Int) + 1) (by omega)]
        refine ⟨⟨i + 1, by omega, ?_⟩, ?_⟩
        · show _ = [_, SV.val (.int .i64 (cntN s q i + if q i = s then 1 else 0)), _, _, _]
          rw [if_neg h2, Int.add_zero]; rfl
        · show n - ((i : Int) + 1).toNat < n - (i : Int).toNat
          omega
      · obtain rfl : i = n := by omega
        rfl
  · exact h.elim
theorem kn21_ok : ∀ {f : FuncId} {vs : List V} {σ : St} {k : VPost}, kn21 f vs σ k → CallS Tryz.prog f vs k σ := by
  intro f vs σ k h
  unfold kn21 at h
  split at h
  · rename_i hb; obtain rfl := Nat.eq_of_beq_eq_true hb; exact W222_ok h
  · exact kn20_ok h
def I178 (n : Nat) (q : Nat → List UInt8) : Nat → List SV → Prop
  | 0, ss => ∃ i : Nat, i ≤ n ∧ (∀ j, j < i → cntN (q j) q n ≤ 1) ∧ ss = [.val (V.arr n (fun i => V.str (q i)) 1 false false), .val (V.arr n (fun i => V.str (q i)) 1 false false), .val (.int .i64 ((n : Nat) : Int)), .val (.int .i64 i)]
  | _, _ => False
theorem W178_ok (h : W178 vs σ k) : CallS Tryz.prog 178 vs k σ := by
  unfold W178 at h
  split at h
  · rename_i n f
    obtain ⟨q, rfl, hn, h⟩ := h
    refine CallS.oneV (fz_cons (cl_strs n q) fz_nil) (.bool _) ?_ h
    refine F178.floyd (live := live178) (call := kn21) (n₀ := 0) (σ := Go.Ev.start) (fun h => kn21_ok h) rfl 1 (by kernel_rfl) Nat.lt_wfRel.wf (fun _ ss => n - lastI ss) (I178 n q) ?_ ?_ ?_
    · intro k ss hI
      cases k with
      | zero => obtain ⟨i, _, _, rfl⟩ := hI; exact sv_strs (sv_strs (sv_int (sv_int sv_nil)))
      | succ k => exact hI.elim
    · rw [e178]
      exact ⟨0, by omega, fun j hj => absurd hj (Nat.not_lt_zero j), rfl⟩
    · intro k hk ss hI
      obtain rfl : k = 0 := by omega
      obtain ⟨i, hi, hj, rfl⟩ := hI
      rw [r178]
      refine ⟨rfl, cIf (fun h1 => ⟨⟨by omega, by omega⟩, q, rfl, hn, rfl, cIf (fun h2 => ?_) fun h2 => ?_⟩) fun h1 => ?_⟩
      · rw [toT] at h2
        have : uniqB q n = false := by
          cases hu : uniqB q n with
          | false => rfl
          | true =>
            obtain ⟨a, b, hab, hb, e1, e2⟩ := (cntN_two (q i) q n).1 h2
            exact absurd (e1.trans e2.symm) ((uniqB_iff q n).1 hu a b hab hb)
        rw [this]
      · rw [toT] at h2
        rw [i64_in ((i : Int) + 1) (by omega)]
        refine ⟨⟨i + 1, by omega, fun j hj' => ?_, rfl⟩, ?_⟩
        · by_cases e : j = i
          · rw [e]; omega
          · exact hj j (by omega)
        · show n - ((i : Int) + 1).toNat < n - (i : Int).toNat
          omega
      · obtain rfl : i = n := by omega
        have : uniqB q i = true := (uniqB_iff q i).2 fun a b hab hb e => by
          have := hj b hb
          have := (cntN_two (q b) q i).2 ⟨a, b, hab, hb, e, rfl⟩
          omega
        rw [this]
  · exact h.elim
theorem kn22_ok : ∀ {f : FuncId} {vs : List V} {σ : St} {k : VPost}, kn22 f vs σ k → CallS Tryz.prog f vs k σ := by
  intro f vs σ k h
  unfold kn22 at h
  split at h
  · rename_i hb; obtain rfl := Nat.eq_of_beq_eq_true hb; exact W178_ok h
  · exact kn21_ok h
def I42 (s : List UInt8) (n : Nat) (q : Nat → List UInt8) : Nat → List SV → Prop
  | 0, ss => ∃ i : Nat, i ≤ n ∧ (∀ j, j < i → q j ≠ s) ∧ ss = [.val (V.arr n (fun i => V.str (q i)) 1 false false), .val (.str s), .val (.int .i64 i)]
  | _, _ => False
theorem W42_ok (h : W42 vs σ k) : CallS Tryz.prog 42 vs k σ := by
  unfold W42 at h
  split at h
  · rename_i n f s
    obtain ⟨q, rfl, hn, h⟩ := h
    refine CallS.oneV (fz_cons (cl_strs n q) (fz_cons (Go.Ev.Clean.str _) fz_nil)) (.int _ _) ?_ h
    refine F42.floyd (live := live42) (call := kn22) (n₀ := 0) (σ := Go.Ev.start) (fun h => kn22_ok h) rfl 1 (by kernel_rfl) Nat.lt_wfRel.wf (fun _ ss => n - lastI ss) (I42 s n q) ?_ ?_ ?_
    · intro k ss hI
      cases k with
      | zero => obtain ⟨i, _, _, rfl⟩ := hI; exact sv_strs (sv_str (sv_int sv_nil))
      | succ k => exact hI.elim
    · rw [e42]
      exact ⟨0, by omega, fun j hj => absurd hj (Nat.not_lt_zero j), rfl⟩
    · intro k hk ss hI
      obtain rfl : k = 0 := by omega
      obtain ⟨i, hi, hj, rfl⟩ := hI
      rw [r42]
      refine ⟨rfl, cIf (fun h1 => ⟨⟨by omega, by omega⟩, cIf (fun h2 => ?_) fun h2 => ?_⟩) fun h1 => ?_⟩
      · rw [toT] at h2
        rw [findN_some s q n i (by omega) h2 hj]
      · rw [toT] at h2
        rw [i64_in ((i : Int) + 1) (by omega)]
        refine ⟨⟨i + 1, by omega, fun j hj' => ?_, rfl⟩, ?_⟩
        · by_cases e : j = i
          · rw [e]; exact h2
          · exact hj j (by omega)
        · show n - ((i : Int) + 1).toNat < n - (i : Int).toNat
          omega
      · obtain rfl : i = n := by omega
        rw [findN_none s q i hj]
  · exact h.elim
theorem kn23_ok : ∀ {f : FuncId} {vs : List V} {σ : St} {k : VPost}, kn23 f vs σ k → CallS Tryz.prog f vs k σ := by
  intro f vs σ k h
  unfold kn23 at h
  split at h
  · rename_i hb; obtain rfl := Nat.eq_of_beq_eq_true hb; exact W42_ok h
  · exact kn22_ok h
def I108 (n : Nat) (q : Nat → List UInt8) : Nat → List SV → Prop
  | 0, ss => ∃ i : Nat, i ≤ n ∧ (∀ a b, a < b → b < i → q a ≠ q b) ∧ ss = [.val (V.arr n (fun i => V.str (q i)) 1 false false), .val (.int .i64 i)]
  | _, _ => False
theorem W108_ok (h : W108 vs σ k) : CallS Tryz.prog 108 vs k σ := by
  unfold W108 at h
  split at h
  · rename_i n f
    obtain ⟨q, rfl, hn, h⟩ := h
    refine CallS.oneV (fz_cons (cl_strs n q) fz_nil) (.bool _) ?_ h
    refine F108.floyd (live := live108) (call := kn23) (n₀ := 0) (σ := Go.Ev.start) (fun h => kn23_ok h) rfl 1 (by kernel_rfl) Nat.lt_wfRel.wf (fun _ ss => n - lastI ss) (I108 n q) ?_ ?_ ?_
    · intro k ss hI
      cases k with
      | zero => obtain ⟨i, _, _, rfl⟩ := hI; exact sv_strs (sv_int sv_nil)
      | succ k => exact hI.elim
    · rw [e108]
      exact ⟨0, by omega, fun a b _ hb => absurd hb (Nat.not_lt_zero b), rfl⟩
    · intro k hk ss hI
      obtain rfl : k = 0 := by omega
      obtain ⟨i, hi, hj, rfl⟩ := hI
      rw [r108]
      refine ⟨rfl, cIf (fun h1 => ⟨⟨by omega, by omega⟩, q, rfl, hn, rfl, cIf (fun h2 => ?_) fun h2 => ?_⟩) fun h1 => ?_⟩
      · rw [toT] at h2
        have : uniqB q n = false := by
          cases hu : uniqB q n with
          | false => rfl
          | true =>
            rcases findN_cases (q i) q n with ⟨_, h3⟩ | ⟨m, hm, hmn, e, hl⟩
            · exact absurd rfl (h3 i (by omega))
            · rw [hm] at h2
              have hne : m ≠ i := fun e => h2 (by rw [e])
              rcases Nat.lt_or_gt_of_ne hne with hlt | hgt
              · exact absurd e ((uniqB_iff q n).1 hu m i hlt (by omega))
              · exact absurd rfl (hl i hgt)
        rw [this]
      · rw [toT] at h2
        rw [i64_in ((i : Int) + 1) (by omega)]
        refine ⟨⟨i + 1, by omega, fun a b hab hb => ?_, rfl⟩, ?_⟩
        · by_cases e : b = i
          · subst e
            intro hq
            rcases findN_cases (q b) q n with ⟨_, h3⟩ | ⟨m, hm, hmn, e, hl⟩
            · exact absurd rfl (h3 b (by omega))
            · have : findN (q b) q n = b := Decidable.not_not.1 h2
              rw [hm] at this
              obtain rfl : m = b := by omega
              exact absurd hq (hl a hab)
          · exact hj a b hab (by omega)
        · show n - ((i : Int) + 1).toNat < n - (i : Int).toNat
          omega
      · obtain rfl : i = n := by omega
        rw [(uniqB_iff q i).2 hj]
  · exact h.elim
theorem kn24_ok : ∀ {f : FuncId} {vs : List V} {σ : St} {k : VPost}, kn24 f vs σ k → CallS Tryz.prog f vs k σ := by
  intro f vs σ k h
  unfold kn24 at h
  split at h
  · rename_i hb; obtain rfl := Nat.eq_of_beq_eq_true hb; exact W108_ok h
  · exact kn23_ok h
end
end Go.Proofs.YtbajncpfmemdgaaGreatDoor
namespace Go.Proofs.YtbajncpfmemdgaaGreatDoor
open Go Go.Ev Go.IntWalk
theorem F179 : FnF Tryz.prog 179 Tryz.f179 := ⟨by kernel_rfl, by kernel_rfl, by kernel_rfl, by kernel_rfl, by kernel_rfl⟩
theorem F109 : FnF Tryz.prog 109 Tryz.f109 := ⟨by kernel_rfl, by kernel_rfl, by kernel_rfl, by kernel_rfl, by kernel_rfl⟩
theorem F181 : FnF Tryz.prog 181 Tryz.f181 := ⟨by kernel_rfl, by kernel_rfl, by kernel_rfl, by kernel_rfl, by kernel_rfl⟩
theorem F223 : FnF Tryz.prog 223 Tryz.f223 := ⟨by kernel_rfl, by kernel_rfl, by kernel_rfl, by kernel_rfl, by kernel_rfl⟩
theorem F180 : FnF Tryz.prog 180 Tryz.f180 := ⟨by kernel_rfl, by kernel_rfl, by kernel_rfl, by kernel_rfl, by kernel_rfl⟩
theorem F177 : FnF Tryz.prog 177 Tryz.f177 := ⟨by kernel_rfl, by kernel_rfl, by kernel_rfl, by kernel_rfl, by kernel_rfl⟩
theorem F107 : FnF Tryz.prog 107 Tryz.f107 := ⟨by kernel_rfl, by kernel_rfl, by kernel_rfl, by kernel_rfl, by kernel_rfl⟩
theorem F134 : FnF Tryz.prog 134 Tryz.f134 := ⟨by kernel_rfl, by kernel_rfl, by kernel_rfl, by kernel_rfl, by kernel_rfl⟩
theorem F81 : FnF Tryz.prog 81 Tryz.f81 := ⟨by kernel_rfl, by kernel_rfl, by kernel_rfl, by kernel_rfl, by kernel_rfl⟩
theorem F57 : FnF Tryz.prog 57 Tryz.f57 := ⟨by kernel_rfl, by kernel_rfl, by kernel_rfl, by kernel_rfl, by kernel_rfl⟩
section
theorem updF_at (f : Nat → V) (i : Nat) (v : V) : updF f i v i = v := by
  show (Bool.rec (f i) v (Nat.beq i i) : V) = v
  rw [Nat.beq_refl]
theorem updF_ne (f : Nat → V) {i j : Nat} (v : V) (h : j ≠ i) : updF f i v j = f j := by
  show (Bool.rec (f j) v (Nat.beq j i) : V) = f j
  have : Nat.beq j i = false := by
    cases hb : Nat.beq j i with
    | false => rfl
    | true => exact absurd (Nat.eq_of_beq_eq_true hb) h
  rw [this]
theorem catF_lt {n j : Nat} (f g : Nat → V) (h : j < n) : catF n f g j = f j := by
  show (Bool.rec (g (Nat.sub j n)) (f j) (Nat.blt j n) : V) = f j
  have : Nat.blt j n = true := Nat.ble_eq_true_of_le h
  rw [this]
theorem catF_at (n : Nat) (f g : Nat → V) : catF n f g n = g 0 := by
  show (Bool.rec (g (Nat.sub n n)) (f n) (Nat.blt n n) : V) = g 0
  have : Nat.blt n n = false := by
    cases hb : Nat.blt n n with
    | false => rfl
    | true => exact absurd (Nat.le_of_ble_eq_true hb) (Nat.not_succ_le_self n)
  rw [this]
  exact congrArg g (Nat.sub_self n)
variable [Env] {vs : List V} {σ : St} {k : VPost}
theorem cl_cols (n : Nat) (q : Nat → T48) : Go.Ev.Clean (V.arr n (fun i => T48.enc (q i)) 7 false false) :=
  Go.Ev.Clean.arr fun i _ u hu => (q i).clean u hu
theorem sv_cols {n : Nat} {q : Nat → T48} {l : List SV} (hl : ∀ u ∈ l, u.clean) : ∀ u ∈ SV.val (V.arr n (fun i => T48.enc (q i)) 7 false false) :: l, u.clean := sv_cons (cl_cols n q) hl
theorem sv_row {n : Nat} {f : Nat → V} {l : List SV} (h : ∀ i, i < n → ∃ t, (f i).cells = [V.str t]) (hl : ∀ u ∈ l, u.clean) : ∀ u ∈ SV.row n f 1 :: l, u.clean := sv_cons (fun i hi u hu => by
  obtain ⟨t, ht⟩ := h i hi
  rw [ht, List.mem_singleton] at hu
  subst hu; exact Go.Ev.Clean.str _) hl
/-- A row of texts, told without its block. -/
theorem frz_strs {n : Nat} {f : Nat → V} {q : Nat → T48} {b : Nat} {τ : St} {p : Bool} (hb : τ.heap.get b = some (.row n f 1 p)) (h : ∀ i, i < n → (f i).cells = [V.str (q i).f0]) : Frz τ (.own b n 1) (.arr n (fun i => V.str (q i).f0) 1 false false) :=
  .own hb (fun i hi => by rw [h i hi]; exact .cons (.str _) .nil) fun _ _ => rfl
def I179 (n : Nat) (q : Nat → T48) : Nat → List SV → Prop
  | 0, ss => ∃ (i : Nat) (f : Nat → V), i ≤ n ∧ (∀ j, j < n → ∃ t, (f j).cells = [V.str t]) ∧ (∀ j, j < i → (f j).cells = [V.str (q j).f0]) ∧ ss = [.row n f 1, .val (V.arr n (fun i => T48.enc (q i)) 7 false false), .val (.int .i64 ((n : Nat) : Int)), .val (.int .i64 i)]
  | _, _ => False
theorem W179_ok (h : W179 vs σ k) : CallS Tryz.prog 179 vs k σ := by
  unfold W179 at h
  split at h
  · rename_i n f
    obtain ⟨q, rfl, hn, h⟩ := h
    refine (CallS.froz0 (Q := fun u => u = .arr n (fun i => V.str (q i).f0) 1 false false) (cl_cons (cl_cols n q) cl_nil) ?_).mono fun v τ ⟨h1, h2⟩ => by subst h1; subst h2; exact h
    refine F179.floyd (live := live179) (call := kn24) (n₀ := 0) (σ := Go.Ev.start) (fun h => kn24_ok h) rfl 1 (by kernel_rfl) Nat.lt_wfRel.wf (fun _ ss => n - lastI ss) (I179 n q) ?_ ?_ ?_
    · intro k ss hI
      cases k with
      | zero => obtain ⟨i, f, _, hf, _, rfl⟩ := hI; exact sv_row hf (sv_cols (sv_int (sv_int sv_nil)))
      | succ k => exact hI.elim
    · rw [e179]
      simp only [Int.toNat_natCast]
      exact ⟨⟨by omega, by omega, by omega, by omega⟩, ⟨Nat.le_refl _, trivial⟩, 0, _, by omega, fun j _ => ⟨[], rfl⟩, fun j hj => absurd hj (Nat.not_lt_zero j), rfl⟩
    · intro k hk ss hI
      obtain rfl : k = 0 := by omega
      obtain ⟨i, f, hi, hf, hj, rfl⟩ := hI
      rw [r179]
      refine ⟨rfl, cIf (fun h1 => ⟨⟨by omega, by omega⟩, ⟨by omega, by omega⟩, by rw [toT]; omega, ⟨rfl, rfl⟩, ?_⟩) fun h1 => ?_⟩
      · rw [toT, i64_in ((i : Int) + 1) (by omega)]
        refine ⟨⟨i + 1, _, by omega, fun j hjn => ?_, fun j hj' => ?_, rfl⟩, ?_⟩
        · by_cases e : j = i
          · subst e; exact ⟨_, by rw [updF_at]; rfl⟩
          · rw [updF_ne _ _ e]; exact hf j hjn
        · by_cases e : j = i
          · subst e; rw [updF_at]; rfl
          · rw [updF_ne _ _ e]; exact hj j (by omega)
        · show n - ((i : Int) + 1).toNat < n - (i : Int).toNat
          omega
      · obtain rfl : i = n := by omega
        refine ⟨_, frz_strs (p := false) ?_ hj, rfl⟩
        show (St.new Go.Ev.start 0 (.row i f 1 false)).heap.get 0 = _
        rw [new_get, if_pos rfl]
  · exact h.elim
theorem kn25_ok : ∀ {f : FuncId} {vs : List V} {σ : St} {k : VPost}, kn25 f vs σ k → CallS Tryz.prog f vs k σ := by
  intro f vs σ k h
  unfold kn25 at h
  split at h
  · rename_i hb; obtain rfl := Nat.eq_of_beq_eq_true hb; exact W179_ok h
  · exact kn24_ok h
def I109 (n : Nat) (q : Nat → T48) : Nat → List SV → Prop
  | 0, ss => (ss = [.val (V.arr n (fun i => T48.enc (q i)) 7 false false), .val .nilslice, .val (.int .i64 (0 : Int))]) ∨
      ∃ (i : Nat) (f : Nat → V), 0 < i ∧ i ≤ n ∧ (∀ j, j < i → (f j).cells = [V.str (q j).f0]) ∧ ss = [.val (V.arr n (fun i => T48.enc (q i)) 7 false false), .row i f 1, .val (.int .i64 i)]
  | _, _ => False
theorem W109_ok (h : W109 vs σ k) : CallS Tryz.prog 109 vs k σ := by
  unfold W109 at h
  split at h
  · rename_i n f
    obtain ⟨q, rfl, hn, h⟩ := h
    refine (CallS.froz0 (Q := fun u => u = .arr n (fun i => V.str (q i).f0) 1 false false) (cl_cons (cl_cols n q) cl_nil) ?_).mono fun v τ ⟨h1, h2⟩ => by subst h1; subst h2; exact h
    refine F109.floyd (live := live109) (call := kn25) (n₀ := 0) (σ := Go.Ev.start) (fun h => kn25_ok h) rfl 1 (by kernel_rfl) Nat.lt_wfRel.wf (fun _ ss => n - lastI ss) (I109 n q) ?_ ?_ ?_
    · intro k ss hI
      cases k with
      | zero =>
        rcases hI with rfl | ⟨i, f, _, _, hf, rfl⟩
        · exact sv_cols (sv_cons Go.Ev.Clean.nilslice (sv_int sv_nil))
        · exact sv_cols (sv_row (fun j hj => ⟨_, hf j hj⟩) (sv_int sv_nil))
      | succ k => exact hI.elim
    · rw [e109]
      exact .inl rfl
    · intro k hk ss hI
      obtain rfl : k = 0 := by omega
      rcases hI with rfl | ⟨i, f, h0, hi, hf, rfl⟩
      · rw [r109n]
        refine ⟨rfl, cIf (fun h1 => ⟨⟨by omega, by omega⟩, ⟨rfl, rfl, rfl⟩, ?_⟩) fun h1 => ?_⟩
        · rw [show (0 : Int).toNat = 0 from rfl, i64_in ((0 : Int) + 1) (by omega)]
          refine ⟨.inr ⟨1, _, by omega, by omega, fun j hj => ?_, rfl⟩, ?_⟩
          · obtain rfl : j = 0 := by omega
            rfl
          · show n - ((0 : Int) + 1).toNat < n - (0 : Int).toNat
            omega
        · obtain rfl : n = 0 := by omega
          exact ⟨_, .toArr (.empty _ _), rfl⟩
      · rw [r109o]
        refine ⟨rfl, cIf (fun h1 => ⟨⟨by omega, by omega⟩, ⟨rfl, by omega⟩, ⟨rfl, rfl⟩, ?_⟩) fun h1 => ?_⟩
        · rw [toT, i64_in ((i : Int) + 1) (by omega)]
          refine ⟨.inr ⟨i + 1, _, by omega, by omega, fun j hj => ?_, rfl⟩, ?_⟩
          · by_cases e : j = i
            · subst e; rw [catF_at]; rfl
            · rw [catF_lt _ _ (by omega)]; exact hf j (by omega)
          · show n - ((i : Int) + 1).toNat < n - (i : Int).toNat
            omega
        · obtain rfl : i = n := by omega
          refine ⟨_, frz_strs (p := false) ?_ hf, rfl⟩
          show (St.new Go.Ev.start 0 (.row i f 1 false)).heap.get 0 = _
          rw [new_get, if_pos rfl]
  · exact h.elim
theorem kn26_ok : ∀ {f : FuncId} {vs : List V} {σ : St} {k : VPost}, kn26 f vs σ k → CallS Tryz.prog f vs k σ := by
  intro f vs σ k h
  unfold kn26 at h
  split at h
  · rename_i hb; obtain rfl := Nat.eq_of_beq_eq_true hb; exact W109_ok h
  · exact kn25_ok h
theorem W181_ok (h : W181 vs σ k) : CallS Tryz.prog 181 vs k σ := by
  unfold W181 at h
  obtain ⟨⟨e, rfl⟩, h⟩ := h
  have h : k (.bool e.f2) σ := h
  refine CallS.oneV (fz_cons e.enc_clean fz_nil) (.bool _) (F181.flat (live := live181) (call := kn26) (n₀ := 0) (σ := Go.Ev.start) (fun h => kn26_ok h) rfl (by kernel_rfl) ?_) h
  rw [e181]
theorem kn27_ok : ∀ {f : FuncId} {vs : List V} {σ : St} {k : VPost}, kn27 f vs σ k → CallS Tryz.prog f vs k σ := by
  intro f vs σ k h
  unfold kn27 at h
  split at h
  · rename_i hb; obtain rfl := Nat.eq_of_beq_eq_true hb; exact W181_ok h
  · exact kn26_ok h
omit [Env] in
theorem anyNull_iff (q : Nat → T48) : ∀ n, anyNull q n = true ↔ ∃ i, i < n ∧ (q i).f2 = true
  | 0 => ⟨fun h => (by cases h), fun ⟨i, hi, _⟩ => absurd hi (Nat.not_lt_zero i)⟩
  | n + 1 => by
    show (anyNull q n || (q n).f2) = true ↔ _
    rw [Bool.or_eq_true, anyNull_iff q n]
    constructor
    · rintro (⟨i, hi, e⟩ | e)
      · exact ⟨i, by omega, e⟩
      · exact ⟨n, by omega, e⟩
    · rintro ⟨i, hi, e⟩
      by_cases hin : i = n
      · subst hin; exact .inr e
      · exact .inl ⟨i, by omega, e⟩
def I223 (n : Nat) (q : Nat → T48) : Nat → List SV → Prop
  | 0, ss => ∃ i : Nat, i ≤ n ∧ (∀ j, j < i → (q j).f2 = false) ∧ ss = [.val (V.arr n (fun i => T48.enc (q i)) 7 false false), .val (.func (.func 181) [] []), .val (.int .i64 ((n : Nat) : Int)), .val (.int .i64 i)]
  | _, _ => False
def A223 (n : Nat) (q : Nat → T48) (v : V) : Prop := ∃ c : Int, (0 ≤ c ↔ anyNull q n = true) ∧ v = .int .i64 c
theorem W223_ok (h : W223 vs σ k) : CallS Tryz.prog 223 vs k σ := by
  unfold W223 at h
  split at h
  · rename_i n f
    obtain ⟨q, rfl, hn, h⟩ := h
    refine CallS.oneS (A := A223 n q) (fz_cons (cl_cols n q) (fz_cons (Go.Ev.Clean.func 181) fz_nil)) (fun v hv => by obtain ⟨c, _, rfl⟩ := hv; exact .int _ _)
      (F223.floyd (live := live223) (call := kn27) (n₀ := 0) (σ := Go.Ev.start) (fun h => kn27_ok h) rfl 1 (by kernel_rfl) Nat.lt_wfRel.wf (fun _ ss => n - lastI ss) (I223 n q) ?_ ?_ ?_) fun v hv => by obtain ⟨c, hc, rfl⟩ := hv; exact h c hc
    · intro k ss hI
      cases k with
      | zero => obtain ⟨i, _, _, rfl⟩ := hI; exact sv_cols (sv_cons (Go.Ev.Clean.func 181) (sv_int (sv_int sv_nil)))
      | succ k => exact hI.elim
    · rw [e223]
      exact ⟨0, by omega, fun j hj => absurd hj (Nat.not_lt_zero j), rfl⟩
    · intro k hk ss hI
      obtain rfl : k = 0 := by omega
      obtain ⟨i, hi, hj, rfl⟩ := hI
      rw [r223]
      refine ⟨rfl, cIf (fun h1 => ⟨⟨by omega, by omega⟩, ⟨_, rfl⟩, CondP.mk (fun h2 => ?_) fun h2 => ?_⟩) fun h1 => ?_⟩
      · rw [toT] at h2
        exact ⟨i, ⟨fun _ => (anyNull_iff q n).2 ⟨i, by omega, h2⟩, fun _ => by omega⟩, rfl⟩
      · rw [toT] at h2
        rw [i64_in ((i : Int) + 1) (by omega)]
        refine ⟨⟨i + 1, by omega, fun j hj' => ?_, rfl⟩, ?_⟩
        · by_cases e : j = i
          · subst e; exact h2
          · exact hj j (by omega)
        · show n - ((i : Int) + 1).toNat < n - (i : Int).toNat
          omega
      · obtain rfl : i = n := by omega
        refine ⟨-1, ⟨fun h => by omega, fun h => ?_⟩, rfl⟩
        obtain ⟨j, hjn, e⟩ := (anyNull_iff q i).1 h
        rw [hj j hjn] at e; cases e
  · exact h.elim
theorem kn28_ok : ∀ {f : FuncId} {vs : List V} {σ : St} {k : VPost}, kn28 f vs σ k → CallS Tryz.prog f vs k σ := by
  intro f vs σ k h
  unfold kn28 at h
  split at h
  · rename_i hb; obtain rfl := Nat.eq_of_beq_eq_true hb; exact W223_ok h
  · exact kn27_ok h
theorem W180_ok (h : W180 vs σ k) : CallS Tryz.prog 180 vs k σ := by
  unfold W180 at h
  split at h
  · rename_i n f
    obtain ⟨q, rfl, hn, h⟩ := h
    refine CallS.oneV (fz_cons (cl_cols n q) (fz_cons (Go.Ev.Clean.func 181) fz_nil)) (.bool _) (F180.flat (live := live180) (call := kn28) (n₀ := 0) (σ := Go.Ev.start) (fun h => kn28_ok h) rfl (by kernel_rfl) ?_) h
    rw [e180]
    refine ⟨q, rfl, hn, fun c hc => ⟨rfl, cIf (fun h1 => ?_) fun h1 => ?_⟩⟩
    · rw [hc.1 h1]
    · have : anyNull q n = false := by
        cases hb : anyNull q n with
        | false => rfl
        | true => exact absurd (hc.2 hb) h1
      rw [this]
  · exact h.elim
theorem kn29_ok : ∀ {f : FuncId} {vs : List V} {σ : St} {k : VPost}, kn29 f vs σ k → CallS Tryz.prog f vs k σ := by
  intro f vs σ k h
  unfold kn29 at h
  split at h
  · rename_i hb; obtain rfl := Nat.eq_of_beq_eq_true hb; exact W180_ok h
  · exact kn28_ok h
end
end Go.Proofs.YtbajncpfmemdgaaGreatDoor
namespace Go.Proofs.YtbajncpfmemdgaaGreatDoor
open Go Go.Ev Go.IntWalk
section
theorem firstE_zero (f : Nat → Int) : ∀ n, firstE f n = 0 ↔ ∀ i, i < n → f i = 0
  | 0 => ⟨fun _ i hi => absurd hi (Nat.not_lt_zero i), fun _ => rfl⟩
  | n + 1 => by
    show (if firstE f n ≠ 0 then firstE f n else f n) = 0 ↔ _
    have ih := firstE_zero f n
    by_cases h : firstE f n = 0
    · rw [if_neg (by rw [h]; exact fun h => h rfl)]
      constructor
      · intro e i hi
        by_cases hin : i = n
        · rw [hin]; exact e
        · exact ih.1 h i (by omega)
      · exact fun hh => hh n (by omega)
    · rw [if_pos h]
      exact ⟨fun e => absurd e h, fun hh => absurd (ih.2 fun i hi => hh i (by omega)) h⟩
theorem firstE_at (f : Nat → Int) : ∀ n i, i < n → f i ≠ 0 → (∀ j, j < i → f j = 0) → firstE f n = f i
  | 0, i, hi, _, _ => absurd hi (Nat.not_lt_zero i)
  | n + 1, i, hi, hne, hl => by
    show (if firstE f n ≠ 0 then firstE f n else f n) = f i
    by_cases e : i = n
    · subst e
      rw [if_neg (by rw [(firstE_zero f i).2 hl]; exact fun h => h rfl)]
    · have := firstE_at f n i (by omega) hne hl
      rw [this, if_pos hne]
theorem getD_mem {α : Type} [Inhabited α] {l : List α} {i : Nat} (h : i < l.length) : l.getD i default ∈ l := by
  rw [List.getD_eq_getElem?_getD, List.getElem?_eq_getElem h]
  exact List.getElem_mem h
variable [Env] {vs : List V} {σ : St} {k : VPost}
theorem cl_tab (e : T51) : Go.Ev.Clean (arrOf T48.enc 7 e.f2) := e.clean _ (List.mem_cons_of_mem _ (List.mem_cons_of_mem _ List.mem_cons_self))
theorem sv_box (e : T51) {l : List SV} (hl : ∀ u ∈ l, u.clean) : ∀ u ∈ SV.box [.str e.f0, .int .i64 e.f1, arrOf T48.enc 7 e.f2] :: l, u.clean := sv_cons e.clean hl
/-- No error, or one by its number. -/
def ErrV (n : Int) (v : V) : Prop := (n = 0 ∧ v = .niliface) ∨ (n ≠ 0 ∧ v = .iface 216 (.agg [.int .i64 n]))
theorem ErrV.scal (n : Int) : ∀ v, ErrV n v → Scal v := fun v hv => by
  rcases hv with ⟨_, rfl⟩ | ⟨_, rfl⟩
  · exact .niliface
  · exact .iface (.agg (sc_cons (.int _ _) sc_nil))
omit [Env] in
theorem ErrV.bad {n x : Int} (h : n = x) (hx : x ≠ 0) : ErrV n (.iface 216 (.agg [.int .i64 x])) := .inr ⟨by rw [h]; exact hx, by rw [h]⟩
omit [Env] in
theorem ErrV.good {n : Int} (h : n = 0) : ErrV n .niliface := .inl ⟨h, rfl⟩
theorem W177_ok (h : W177 vs σ k) : CallS Tryz.prog 177 vs k σ := by
  unfold W177 at h
  obtain ⟨e, rfl, hok, h⟩ := h
  refine CallS.oneS (A := ErrV (colErr e)) (fz_cons e.enc_clean fz_nil) (ErrV.scal _) (F177.flat (live := live177) (call := kn29) (n₀ := 0) (σ := Go.Ev.start) (fun h => kn29_ok h) rfl (by kernel_rfl) ?_) fun v hv => by
    rcases hv with ⟨h1, rfl⟩ | ⟨h1, rfl⟩
    · exact h.1 h1
    · exact h.2 h1
  rw [e177]
  have hu : colErr e = if nameErr e.f0 ≠ 0 then nameErr e.f0 else if e.f1 < 1 ∨ e.f1 > 5 then 5 else if valErr e.f3 ≠ 0 then valErr e.f3 else if e.f3.f0 ≠ 0 ∧ e.f3.f0 ≠ e.f1 then 11 else 0 := rfl
  refine ⟨rfl, cIf (fun h1 => ?_) fun h1 => ⟨rfl, cIf (fun h2 => ?_) fun h2 => ⟨rfl, cIf (fun h3 => ?_) fun h3 => ⟨hok, rfl, cIf (fun h4 => ?_) fun h4 => ⟨rfl, cIf (fun h5 => ⟨rfl, cIf (fun h6 => ?_) fun h6 => ?_⟩) fun h5 => ?_⟩⟩⟩⟩⟩
  · exact .bad (by rw [hu, if_pos h1]) h1
  · exact .bad (by rw [hu, if_neg h1, if_pos (.inl h2)]) (by decide)
  · exact .bad (by rw [hu, if_neg h1, if_pos (.inr h3)]) (by decide)
  · exact .bad (by rw [hu, if_neg h1, if_neg (by omega), if_pos h4]) h4
  · exact .bad (by rw [hu, if_neg h1, if_neg (by omega), if_neg h4, if_pos ⟨h5, h6⟩]) (by decide)
  · exact .good (by rw [hu, if_neg h1, if_neg (by omega), if_neg h4, if_neg fun hh => h6 hh.2])
  · exact .good (by rw [hu, if_neg h1, if_neg (by omega), if_neg h4, if_neg fun hh => h5 hh.1])
theorem kn30_ok : ∀ {f : FuncId} {vs : List V} {σ : St} {k : VPost}, kn30 f vs σ k → CallS Tryz.prog f vs k σ := by
  intro f vs σ k h
  unfold kn30 at h
  split at h
  · rename_i hb; obtain rfl := Nat.eq_of_beq_eq_true hb; exact W177_ok h
  · exact kn29_ok h
theorem W107_ok (h : W107 vs σ k) : CallS Tryz.prog 107 vs k σ := by
  unfold W107 at h
  obtain ⟨e, rfl, hok, h⟩ := h
  refine CallS.oneV (fz_cons e.enc_clean fz_nil) (.int _ _) (F107.flat (live := live107) (call := kn30) (n₀ := 0) (σ := Go.Ev.start) (fun h => kn30_ok h) rfl (by kernel_rfl) ?_) h
  rw [e107]
  have hu : colErr e = if nameErr e.f0 ≠ 0 then nameErr e.f0 else if e.f1 < 1 ∨ e.f1 > 5 then 5 else if valErr e.f3 ≠ 0 then valErr e.f3 else if e.f3.f0 ≠ 0 ∧ e.f3.f0 ≠ e.f1 then 11 else 0 := rfl
  refine ⟨rfl, cIf (fun h1 => ?_) fun h1 => ⟨rfl, cIf (fun h2 => ?_) fun h2 => ⟨rfl, cIf (fun h3 => ?_) fun h3 => ⟨hok, rfl, cIf (fun h4 => ?_) fun h4 => ⟨rfl, cIf (fun h5 => ⟨rfl, cIf (fun h6 => ?_) fun h6 => ?_⟩) fun h5 => ?_⟩⟩⟩⟩⟩
  · rw [hu, if_pos h1]
  · rw [hu, if_neg h1, if_pos (.inl h2)]
  · rw [hu, if_neg h1, if_pos (.inr h3)]
  · rw [hu, if_neg h1, if_neg (by omega), if_pos h4]
  · rw [hu, if_neg h1, if_neg (by omega), if_neg h4, if_pos ⟨h5, h6⟩]
  · rw [hu, if_neg h1, if_neg (by omega), if_neg h4, if_neg fun hh => h6 hh.2]
  · rw [hu, if_neg h1, if_neg (by omega), if_neg h4, if_neg fun hh => h5 hh.1]
theorem kn31_ok : ∀ {f : FuncId} {vs : List V} {σ : St} {k : VPost}, kn31 f vs σ k → CallS Tryz.prog f vs k σ := by
  intro f vs σ k h
  unfold kn31 at h
  split at h
  · rename_i hb; obtain rfl := Nat.eq_of_beq_eq_true hb; exact W107_ok h
  · exact kn30_ok h
/-- A table's cols. -/
def colF (e : T51) (i : Nat) : T48 := e.f2.getD i default
omit [Env] in
theorem tabE (e : T51) : tabErr e = if nameErr e.f0 ≠ 0 then nameErr e.f0 else if e.f2.length < 1 ∨ e.f2.length > 8 then 2 else if e.f1 < 1 ∨ e.f1 > 3 ∨ e.f1 > e.f2.length then 1
  else if firstE (fun i => colErr (colF e i)) e.f2.length ≠ 0 then firstE (fun i => colErr (colF e i)) e.f2.length
  else if uniqB (fun i => (colF e i).f0) e.f2.length = false then 12 else if anyNull (colF e) e.f1.toNat = true then 11 else 0 := rfl
/-- What is known of a table ahead of its columns. -/
def TabOk (e : T51) : Prop := nameErr e.f0 = 0 ∧ (1 ≤ e.f2.length ∧ e.f2.length ≤ 8) ∧ 1 ≤ e.f1 ∧ e.f1 ≤ 3 ∧ e.f1 ≤ e.f2.length
omit [Env] in
theorem TabOk.err {e : T51} (h : TabOk e) : tabErr e = if firstE (fun i => colErr (colF e i)) e.f2.length ≠ 0 then firstE (fun i => colErr (colF e i)) e.f2.length
  else if uniqB (fun i => (colF e i).f0) e.f2.length = false then 12 else if anyNull (colF e) e.f1.toNat = true then 11 else 0 := by
  obtain ⟨h1, ⟨h2, h3⟩, h4, h5, h6⟩ := h
  rw [tabE, if_neg (fun h => h h1), if_neg (by omega), if_neg (by omega)]
def I134 (e : T51) : Nat → List SV → Prop
  | 0, ss => TabOk e ∧ ∃ i : Nat, i ≤ e.f2.length ∧ (∀ j, j < i → colErr (colF e j) = 0) ∧ ss = [.box [.str e.f0, .int .i64 e.f1, arrOf T48.enc 7 e.f2], .val (arrOf T48.enc 7 e.f2), .val (.int .i64 ((e.f2.length : Nat) : Int)), .val (.int .i64 i)]
  | _, _ => False
theorem W134_ok (h : W134 vs σ k) : CallS Tryz.prog 134 vs k σ := by
  unfold W134 at h
  obtain ⟨e, rfl, hok, h⟩ := h
  refine CallS.oneS (A := ErrV (tabErr e)) (fz_cons e.enc_clean fz_nil) (ErrV.scal _) (F134.floyd (live := live134) (call := kn31) (n₀ := 0) (σ := Go.Ev.start) (fun h => kn31_ok h) rfl 1 (by kernel_rfl) Nat.lt_wfRel.wf (fun _ ss => e.f2.length - lastI ss) (I134 e) ?_ ?_ ?_) fun v hv => by
    rcases hv with ⟨h1, rfl⟩ | ⟨h1, rfl⟩
    · exact h.1 h1
    · exact h.2 h1
  · intro k ss hI
    cases k with
    | zero => obtain ⟨_, i, _, _, rfl⟩ := hI; exact sv_box e (sv_cons (cl_tab e) (sv_int (sv_int sv_nil)))
    | succ k => exact hI.elim
  · rw [e134]
    refine ⟨rfl, cIf (fun h1 => ?_) fun h1 => ⟨rfl, cIf (fun h2 => ?_) fun h2 => ⟨rfl, cIf (fun h3 => ?_) fun h3 => ⟨rfl, cIf (fun h4 => ?_) fun h4 => ⟨rfl, cIf (fun h5 => ?_) fun h5 => ?_⟩⟩⟩⟩⟩
    · exact .bad (by rw [tabE, if_pos h1]) h1
    · exact .bad (by rw [tabE, if_neg h1, if_pos (by omega)]) (by decide)
    · exact .bad (by rw [tabE, if_neg h1, if_pos (by omega)]) (by decide)
    · exact .bad (by rw [tabE, if_neg h1, if_neg (by omega), if_pos (.inl h4)]) (by decide)
    · refine .bad ?_ (by decide)
      rw [tabE, if_neg h1, if_neg (by omega), if_pos]
      split at h5 <;> omega
    · have : e.f1 ≤ 3 ∧ e.f1 ≤ e.f2.length := by split at h5 <;> omega
      exact ⟨⟨Decidable.not_not.1 h1, ⟨by omega, by omega⟩, by omega, this.1, this.2⟩, 0, by omega, fun j hj => absurd hj (Nat.not_lt_zero j), rfl⟩
  · intro k hk ss hI
    obtain rfl : k = 0 := by omega
    obtain ⟨ht, i, hi, hj, rfl⟩ := hI
    have hlen := ht.2.1
    rw [r134]
    refine ⟨rfl, cIf (fun h1 => ⟨⟨by omega, by omega⟩, colF e i, rfl, hok _ (getD_mem (by omega)), fun h2 => ?_, fun h2 => ?_⟩) fun h1 => ?_⟩
    · rw [i64_in ((i : Int) + 1) (by omega)]
      refine ⟨⟨ht, i + 1, by omega, fun j hj' => ?_, rfl⟩, ?_⟩
      · by_cases e : j = i
        · rw [e]; exact h2
        · exact hj j (by omega)
      · show e.f2.length - ((i : Int) + 1).toNat < e.f2.length - (i : Int).toNat
        omega
    · have hf := firstE_at (fun i => colErr (colF e i)) e.f2.length i (by omega) h2 hj
      refine .bad ?_ h2
      rw [ht.err, hf, if_pos h2]
    · obtain rfl : i = e.f2.length := by omega
      have hf := (firstE_zero (fun i => colErr (colF e i)) e.f2.length).2 hj
      refine ⟨colF e, rfl, by omega, _, rfl, by omega, CondP.mk (fun h2 => ?_) fun h2 => ⟨⟨by omega, by have := ht.2.2; omega, by have := ht.2.2; omega, by omega⟩, colF e, ?_, ?_, CondP.mk (fun h3 => ?_) fun h3 => ?_⟩⟩
      · refine .bad ?_ (by decide)
        have h2 : uniqB (fun i => (colF e i).f0) e.f2.length = false := by simpa using h2
        rw [ht.err, if_neg (fun h => h hf), if_pos h2]
      · funext i
        show T48.enc (e.f2.getD (Nat.add 0 i) default) = _
        rw [show Nat.add 0 i = i from Nat.zero_add i]; rfl
      · have := ht.2.2; omega
      · have h2 : uniqB (fun i => (colF e i).f0) e.f2.length = true := by simpa using h2
        have h3 : anyNull (colF e) e.f1.toNat = true := h3
        refine .bad ?_ (by decide)
        rw [ht.err, if_neg (fun h => h hf), if_neg (by rw [h2]; decide), if_pos h3]
      · have h2 : uniqB (fun i => (colF e i).f0) e.f2.length = true := by simpa using h2
        refine .good ?_
        have h3 : anyNull (colF e) e.f1.toNat = false := h3
        rw [ht.err, if_neg (fun h => h hf), if_neg (by rw [h2]; decide), if_neg (by rw [h3]; decide)]
theorem kn32_ok : ∀ {f : FuncId} {vs : List V} {σ : St} {k : VPost}, kn32 f vs σ k → CallS Tryz.prog f vs k σ := by
  intro f vs σ k h
  unfold kn32 at h
  split at h
  · rename_i hb; obtain rfl := Nat.eq_of_beq_eq_true hb; exact W134_ok h
  · exact kn31_ok h
variable [ErrT]
theorem W133_ok (h : W133 vs σ k) : CallS Tryz.prog 133 vs k σ := by
  unfold W133 at h
  split at h
  · exact S133_nil.mono fun v τ ⟨h1, h2⟩ => by subst h1; subst h2; exact h
  · exact S133_hit.mono fun v τ ⟨h1, h2⟩ => by subst h1; subst h2; exact h
  · exact h.elim
theorem kn33_ok : ∀ {f : FuncId} {vs : List V} {σ : St} {k : VPost}, kn33 f vs σ k → CallS Tryz.prog f vs k σ := by
  intro f vs σ k h
  unfold kn33 at h
  split at h
  · rename_i hb; obtain rfl := Nat.eq_of_beq_eq_true hb; exact W133_ok h
  · exact kn32_ok h
theorem W81_ok (h : W81 vs σ k) : CallS Tryz.prog 81 vs k σ := by
  unfold W81 at h
  obtain ⟨e, rfl, hok, h⟩ := h
  refine CallS.oneV (fz_cons e.enc_clean fz_nil) (.int _ _) (F81.flat (live := live81) (call := kn33) (n₀ := 0) (σ := Go.Ev.start) (fun h => kn33_ok h) rfl (by kernel_rfl) ?_) h
  rw [e81]
  exact ⟨e, rfl, hok, fun h1 => by rw [h1], fun _ => rfl⟩
theorem kn34_ok : ∀ {f : FuncId} {vs : List V} {σ : St} {k : VPost}, kn34 f vs σ k → CallS Tryz.prog f vs k σ := by
  intro f vs σ k h
  unfold kn34 at h
  split at h
  · rename_i hb; obtain rfl := Nat.eq_of_beq_eq_true hb; exact W81_ok h
  · exact kn33_ok h
def I57 (e : T51) : Nat → List SV → Prop
  | 0, ss => TabOk e ∧ ∃ i : Nat, i ≤ e.f2.length ∧ (∀ j, j < i → colErr (colF e j) = 0) ∧ ss = [.box [.str e.f0, .int .i64 e.f1, arrOf T48.enc 7 e.f2], .val (.int .i64 i)]
  | 1, ss => TabOk e ∧ (∀ j, j < e.f2.length → colErr (colF e j) = 0) ∧ uniqB (fun i => (colF e i).f0) e.f2.length = true ∧ ∃ i : Nat, i ≤ e.f1 ∧ (∀ j, j < i → (colF e j).f2 = false) ∧ ss = [.box [.str e.f0, .int .i64 e.f1, arrOf T48.enc 7 e.f2], .val (.int .i64 i)]
  | _, _ => False
theorem W57_ok (h : W57 vs σ k) : CallS Tryz.prog 57 vs k σ := by
  unfold W57 at h
  obtain ⟨e, rfl, hok, h⟩ := h
  refine CallS.oneV (fz_cons e.enc_clean fz_nil) (.int _ _) (F57.floyd (live := live57) (call := kn34) (n₀ := 0) (σ := Go.Ev.start) (fun h => kn34_ok h) rfl 2 (by kernel_rfl) Nat.lt_wfRel.wf (fun k ss => 20 * (1 - k) + (10 - lastI ss)) (I57 e) ?_ ?_ ?_) h
  · intro k ss hI
    match k, hI with
    | 0, hI => obtain ⟨_, i, _, _, rfl⟩ := hI; exact sv_box e (sv_int sv_nil)
    | 1, hI => obtain ⟨_, _, _, i, _, _, rfl⟩ := hI; exact sv_box e (sv_int sv_nil)
  · rw [e57]
    refine ⟨rfl, cIf (fun h1 => ?_) fun h1 => ⟨rfl, cIf (fun h2 => ?_) fun h2 => ⟨rfl, cIf (fun h3 => ?_) fun h3 => ⟨rfl, cIf (fun h4 => ?_) fun h4 => ⟨rfl, cIf (fun h5 => ?_) fun h5 => ⟨rfl, cIf (fun h6 => ?_) fun h6 => ?_⟩⟩⟩⟩⟩⟩
    · rw [tabE, if_pos h1]
    · rw [tabE, if_neg h1, if_pos (by omega)]
    · rw [tabE, if_neg h1, if_pos (by omega)]
    · rw [tabE, if_neg h1, if_neg (by omega), if_pos (.inl h4)]
    · rw [tabE, if_neg h1, if_neg (by omega), if_pos (.inr (.inl h5))]
    · rw [tabE, if_neg h1, if_neg (by omega), if_pos (.inr (.inr h6))]
    · exact ⟨⟨Decidable.not_not.1 h1, ⟨by omega, by omega⟩, by omega, by omega, by omega⟩, 0, by omega, fun j hj => absurd hj (Nat.not_lt_zero j), rfl⟩
  · intro k hk ss hI
    match k, hk, hI with
    | 0, hk, hI =>
      obtain ⟨ht, i, hi, hj, rfl⟩ := hI
      have hlen := ht.2.1
      rw [r57a]
      refine ⟨rfl, cIf (fun h1 => ⟨⟨by omega, by omega⟩, colF e i, rfl, hok _ (getD_mem (by omega)), rfl, cIf (fun h2 => ?_) fun h2 => ?_⟩) fun h1 => ?_⟩
      · have hf := firstE_at (fun i => colErr (colF e i)) e.f2.length i (by omega) h2 hj
        rw [ht.err, hf, if_pos h2]
      · rw [i64_in ((i : Int) + 1) (by omega)]
        refine ⟨⟨ht, i + 1, by omega, fun j hj' => ?_, rfl⟩, ?_⟩
        · by_cases e : j = i
          · rw [e]; exact Decidable.not_not.1 h2
          · exact hj j (by omega)
        · show 20 * (1 - 0) + (10 - ((i : Int) + 1).toNat) < 20 * (1 - 0) + (10 - (i : Int).toNat)
          omega
      · obtain rfl : i = e.f2.length := by omega
        have hf := (firstE_zero (fun i => colErr (colF e i)) e.f2.length).2 hj
        refine ⟨colF e, rfl, by omega, _, rfl, by omega, CondP.mk (fun h2 => ?_) fun h2 => ?_⟩
        · have h2 : uniqB (fun i => (colF e i).f0) e.f2.length = false := by simpa using h2
          rw [ht.err, if_neg (fun h => h hf), if_pos h2]
        · have h2 : uniqB (fun i => (colF e i).f0) e.f2.length = true := by simpa using h2
          refine ⟨⟨ht, hj, h2, 0, by have := ht.2.2; omega, fun j hj => absurd hj (Nat.not_lt_zero j), rfl⟩, ?_⟩
          show 20 * (1 - 1) + (10 - (0 : Int).toNat) < 20 * (1 - 0) + (10 - ((e.f2.length : Nat) : Int).toNat)
          omega
    | 1, hk, hI =>
      obtain ⟨ht, hj, hu, i, hi, hn, rfl⟩ := hI
      have hlen := ht.2.1
      have hk1 := ht.2.2
      have hf := (firstE_zero (fun i => colErr (colF e i)) e.f2.length).2 hj
      rw [r57b]
      refine ⟨rfl, cIf (fun h1 => ⟨⟨by omega, by omega⟩, CondP.mk (fun h2 => ?_) fun h2 => ?_⟩) fun h1 => ?_⟩
      · have h3 : anyNull (colF e) e.f1.toNat = true := (anyNull_iff _ _).2 ⟨i, by omega, h2⟩
        rw [ht.err, if_neg (fun h => h hf), if_neg (by rw [hu]; decide), if_pos h3]
      · rw [i64_in ((i : Int) + 1) (by omega)]
        refine ⟨⟨ht, hj, hu, i + 1, by omega, fun j hj' => ?_, rfl⟩, ?_⟩
        · by_cases e : j = i
          · rw [e]; exact h2
          · exact hn j (by omega)
        · show 20 * (1 - 1) + (10 - ((i : Int) + 1).toNat) < 20 * (1 - 1) + (10 - (i : Int).toNat)
          omega
      · have h3 : anyNull (colF e) e.f1.toNat = false := by
          cases hb : anyNull (colF e) e.f1.toNat with
          | false => rfl
          | true =>
            obtain ⟨j, hjn, e2⟩ := (anyNull_iff _ _).1 hb
            rw [hn j (by omega)] at e2; cases e2
        rw [ht.err, if_neg (fun h => h hf), if_neg (by rw [hu]; decide), if_neg (by rw [h3]; decide)]
theorem kn35_ok : ∀ {f : FuncId} {vs : List V} {σ : St} {k : VPost}, kn35 f vs σ k → CallS Tryz.prog f vs k σ := by
  intro f vs σ k h
  unfold kn35 at h
  split at h
  · rename_i hb; obtain rfl := Nat.eq_of_beq_eq_true hb; exact W57_ok h
  · exact kn34_ok h
end
end Go.Proofs.YtbajncpfmemdgaaGreatDoor
namespace Go.Proofs.YtbajncpfmemdgaaGreatDoor
open Go Go.Ev Go.IntWalk
theorem F147 : FnF Tryz.prog 147 Tryz.f147 := ⟨by kernel_rfl, by kernel_rfl, by kernel_rfl, by kernel_rfl, by kernel_rfl⟩
theorem F150 : FnF Tryz.prog 150 Tryz.f150 := ⟨by kernel_rfl, by kernel_rfl, by kernel_rfl, by kernel_rfl, by kernel_rfl⟩
theorem F102 : FnF Tryz.prog 102 Tryz.f102 := ⟨by kernel_rfl, by kernel_rfl, by kernel_rfl, by kernel_rfl, by kernel_rfl⟩
theorem F104 : FnF Tryz.prog 104 Tryz.f104 := ⟨by kernel_rfl, by kernel_rfl, by kernel_rfl, by kernel_rfl, by kernel_rfl⟩
theorem CondP_t (A B : Prop) : CondP true A B = A := propext ⟨fun h => CondP.y h rfl, fun h => CondP.mk (fun _ => h) fun e => by cases e⟩
theorem CondP_f (A B : Prop) : CondP false A B = B := propext ⟨fun h => CondP.z h rfl, fun h => CondP.mk (fun e => by cases e) fun _ => h⟩
theorem colErr_kind {c : T48} (h : colErr c = 0) : 1 ≤ c.f1 ∧ c.f1 ≤ 5 := by
  have hu : colErr c = if nameErr c.f0 ≠ 0 then nameErr c.f0 else if c.f1 < 1 ∨ c.f1 > 5 then 5 else if valErr c.f3 ≠ 0 then valErr c.f3 else if c.f3.f0 ≠ 0 ∧ c.f3.f0 ≠ c.f1 then 11 else 0 := rfl
  rw [hu] at h
  split at h
  · omega
  · split at h
    · omega
    · omega
theorem tab_ok {e : T51} (h : tabErr e = 0) : TabOk e ∧ ∀ i, i < e.f2.length → colErr (colF e i) = 0 := by
  have h' := h
  rw [tabE] at h
  split at h
  · omega
  rename_i h1
  split at h
  · omega
  rename_i h2
  split at h
  · omega
  rename_i h3
  have ht : TabOk e := ⟨Decidable.not_not.1 h1, ⟨by omega, by omega⟩, by omega, by omega, by omega⟩
  refine ⟨ht, ?_⟩
  split at h
  · omega
  rename_i h4
  exact (firstE_zero (fun i => colErr (colF e i)) e.f2.length).1 (Decidable.not_not.1 h4)
theorem fit1_eq (c : T48) (v : T46) : fit1 c v = if valErr v ≠ 0 then valErr v else if v.f0 ≠ c.f1 ∧ (v.f0 ≠ 0 ∨ c.f2 = false) then 11 else 0 := rfl
section
variable [Env] {vs : List V} {σ : St} {k : VPost}
theorem cl_vals (n : Nat) (q : Nat → T46) : Go.Ev.Clean (V.arr n (fun i => T46.enc (q i)) 4 false false) := Go.Ev.Clean.arr fun i _ u hu => (q i).clean u hu
theorem sv_vals {n : Nat} {q : Nat → T46} {l : List SV} (hl : ∀ u ∈ l, u.clean) : ∀ u ∈ SV.val (V.arr n (fun i => T46.enc (q i)) 4 false false) :: l, u.clean := sv_cons (cl_vals n q) hl
variable [ErrT]
def I147 (e : T51) (n : Nat) (q : Nat → T46) : Nat → List SV → Prop
  | 0, ss => ∃ i : Nat, i ≤ n ∧ (∀ j, j < i → fit1 (colF e j) (q j) = 0) ∧ ss = [.box [.str e.f0, .int .i64 e.f1, arrOf T48.enc 7 e.f2], .val (V.arr n (fun i => T46.enc (q i)) 4 false false), .val (.int .i64 ((n : Nat) : Int)), .val (.int .i64 i)]
  | _, _ => False
theorem W147_ok (h : W147 vs σ k) : CallS Tryz.prog 147 vs k σ := by
  unfold W147 at h
  obtain ⟨e, n, q, rfl, ⟨hok, ht, hn, hq⟩, h⟩ := h
  have htab := tab_ok ht
  have hlen := htab.1.2.1
  have he : fitsErr e.f2 q n = firstE (fun i => fit1 (colF e i) (q i)) n := rfl
  rw [he] at h
  refine CallS.oneV (fz_cons e.enc_clean (fz_cons (cl_vals n q) fz_nil)) (.int _ _) (F147.floyd (live := live147) (call := kn35) (n₀ := 0) (σ := Go.Ev.start) (fun h => kn35_ok h) rfl 1 (by kernel_rfl) Nat.lt_wfRel.wf (fun _ ss => n - lastI ss) (I147 e n q) ?_ ?_ ?_) h
  · intro k ss hI
    cases k with
    | zero => obtain ⟨i, _, _, rfl⟩ := hI; exact sv_box e (sv_vals (sv_int (sv_int sv_nil)))
    | succ k => exact hI.elim
  · rw [e147]
    exact ⟨0, by omega, fun j hj => absurd hj (Nat.not_lt_zero j), rfl⟩
  · intro k hk ss hI
    obtain rfl : k = 0 := by omega
    obtain ⟨i, hi, hj, rfl⟩ := hI
    rw [r147]
    refine ⟨rfl, cIf (fun h1 => ?_) fun h1 => ?_⟩
    · have hin : i < n := by omega
      have bad : ∀ x : Int, fit1 (colF e i) (q i) = x → x ≠ 0 → V.int .i64 x = .int .i64 (firstE (fun i => fit1 (colF e i) (q i)) n) := fun x hx hne => by
        rw [firstE_at (fun i => fit1 (colF e i) (q i)) n i hin (by show fit1 (colF e i) (q i) ≠ 0; rw [hx]; exact hne) hj]
        show _ = V.int .i64 (fit1 (colF e i) (q i))
        rw [hx]
      have cont : fit1 (colF e i) (q i) = 0 → (I147 e n q 0 [.box [.str e.f0, .int .i64 e.f1, arrOf T48.enc 7 e.f2], .val (V.arr n (fun i => T46.enc (q i)) 4 false false), .val (.int .i64 ((n : Nat) : Int)), .val (.int .i64 (IntKind.i64.wrap ((i : Int) + 1)))] ∧
          (fun x1 x2 : Nat => x1 < x2) (n - lastI [.box [.str e.f0, .int .i64 e.f1, arrOf T48.enc 7 e.f2], .val (V.arr n (fun i => T46.enc (q i)) 4 false false), .val (.int .i64 ((n : Nat) : Int)), .val (.int .i64 (IntKind.i64.wrap ((i : Int) + 1)))])
            (n - lastI [.box [.str e.f0, .int .i64 e.f1, arrOf T48.enc 7 e.f2], .val (V.arr n (fun i => T46.enc (q i)) 4 false false), .val (.int .i64 ((n : Nat) : Int)), .val (.int .i64 i)])) := fun h0 => by
        rw [i64_in ((i : Int) + 1) (by omega)]
        refine ⟨⟨i + 1, by omega, fun j hj' => ?_, rfl⟩, ?_⟩
        · by_cases e : j = i
          · rw [e]; exact h0
          · exact hj j (by omega)
        · show n - ((i : Int) + 1).toNat < n - (i : Int).toNat
          omega
      rw [fit1_eq] at bad cont
      refine ⟨⟨by omega, by omega⟩, hq i hin, rfl, cIf (fun h2 => bad _ (if_pos h2) h2) fun h2 => ⟨⟨by omega, by omega⟩, rfl, cIf (fun h3 => ⟨rfl, cIf (fun h4 => bad _ ?_ (by decide)) fun h4 => CondP.mk (fun h5 => bad _ ?_ (by decide)) fun h5 => cont ?_⟩) fun h3 => cont ?_⟩⟩
      · exact (if_neg h2).trans (if_pos ⟨h3, .inl h4⟩)
      · have h5' : (!(colF e i).f2) = true := h5
        have h5 : (colF e i).f2 = false := by simpa using h5'
        exact (if_neg h2).trans (if_pos ⟨h3, .inr h5⟩)
      · have h5' : (!(colF e i).f2) = false := h5
        have h5 : (colF e i).f2 = true := by simpa using h5'
        exact (if_neg h2).trans (if_neg fun hh => by
          rcases hh.2 with h6 | h6
          · exact h4 h6
          · rw [h5] at h6; cases h6)
      · exact (if_neg h2).trans (if_neg fun hh => h3 hh.1)
    · obtain rfl : i = n := by omega
      rw [(firstE_zero (fun i => fit1 (colF e i) (q i)) i).2 hj]
theorem kn36_ok : ∀ {f : FuncId} {vs : List V} {σ : St} {k : VPost}, kn36 f vs σ k → CallS Tryz.prog f vs k σ := by
  intro f vs σ k h
  unfold kn36 at h
  split at h
  · rename_i hb; obtain rfl := Nat.eq_of_beq_eq_true hb; exact W147_ok h
  · exact kn35_ok h
def I150 (e : T51) (n : Nat) (q : Nat → T46) : Nat → List SV → Prop
  | 0, ss => ∃ i : Nat, i ≤ n ∧ (∀ j, j < i → fit1 (colF e j) (q j) = 0) ∧ ss = [.val (V.arr n (fun i => T46.enc (q i)) 4 false false), .box [.str e.f0, .int .i64 e.f1, arrOf T48.enc 7 e.f2], .val (.int .i64 i)]
  | _, _ => False
theorem W150_ok (h : W150 vs σ k) : CallS Tryz.prog 150 vs k σ := by
  unfold W150 at h
  obtain ⟨e, n, q, rfl, ⟨hok, ht, hn, hq⟩, h⟩ := h
  have htab := tab_ok ht
  have hlen := htab.1.2.1
  have he : fitsErr e.f2 q n = firstE (fun i => fit1 (colF e i) (q i)) n := rfl
  rw [he] at h
  refine CallS.oneV (fz_cons e.enc_clean (fz_cons (cl_vals n q) fz_nil)) (.int _ _) (F150.floyd (live := live150) (call := kn36) (n₀ := 0) (σ := Go.Ev.start) (fun h => kn36_ok h) rfl 1 (by kernel_rfl) Nat.lt_wfRel.wf (fun _ ss => n - lastI ss) (I150 e n q) ?_ ?_ ?_) h
  · intro k ss hI
    cases k with
    | zero => obtain ⟨i, _, _, rfl⟩ := hI; exact sv_vals (sv_box e (sv_int sv_nil))
    | succ k => exact hI.elim
  · rw [e150]
    exact ⟨0, by omega, fun j hj => absurd hj (Nat.not_lt_zero j), rfl⟩
  · intro k hk ss hI
    obtain rfl : k = 0 := by omega
    obtain ⟨i, hi, hj, rfl⟩ := hI
    rw [r150]
    have hw : ∀ h1 : (i : Int) < ((n : Nat) : Int), IntKind.i64.wrap ((i : Int) + 1) = (i : Int) + 1 := fun h1 => i64_in ((i : Int) + 1) (by omega)
    have bad : ∀ x : Int, i < n → fit1 (colF e i) (q i) = x → x ≠ 0 → V.int .i64 x = .int .i64 (firstE (fun i => fit1 (colF e i) (q i)) n) := fun x hin hx hne => by
      rw [firstE_at (fun i => fit1 (colF e i) (q i)) n i hin (by show fit1 (colF e i) (q i) ≠ 0; rw [hx]; exact hne) hj]
      show _ = V.int .i64 (fit1 (colF e i) (q i))
      rw [hx]
    have cont : (h1 : i < n) → fit1 (colF e i) (q i) = 0 → (I150 e n q 0 [.val (V.arr n (fun i => T46.enc (q i)) 4 false false), .box [.str e.f0, .int .i64 e.f1, arrOf T48.enc 7 e.f2], .val (.int .i64 (IntKind.i64.wrap ((i : Int) + 1)))] ∧
        (fun x1 x2 : Nat => x1 < x2) (n - lastI [.val (V.arr n (fun i => T46.enc (q i)) 4 false false), .box [.str e.f0, .int .i64 e.f1, arrOf T48.enc 7 e.f2], .val (.int .i64 (IntKind.i64.wrap ((i : Int) + 1)))])
          (n - lastI [.val (V.arr n (fun i => T46.enc (q i)) 4 false false), .box [.str e.f0, .int .i64 e.f1, arrOf T48.enc 7 e.f2], .val (.int .i64 i)])) := fun h1 h0 => by
      rw [hw (by omega)]
      refine ⟨⟨i + 1, by omega, fun j hj' => ?_, rfl⟩, ?_⟩
      · by_cases e : j = i
        · rw [e]; exact h0
        · exact hj j (by omega)
      · show n - ((i : Int) + 1).toNat < n - (i : Int).toNat
        omega
    have kind : i < n → 1 ≤ (colF e i).f1 ∧ (colF e i).f1 ≤ 5 := fun hin => colErr_kind (htab.2 i (by omega))
    rw [fit1_eq] at bad cont
    have e1 : e.f2.getD (i : Int).toNat default = colF e i := rfl
    have e2 : (i : Int).toNat = i := rfl
    have t1 : ((!true) == false) = true := rfl
    have t2 : ((!false) == false) = false := rfl
    have hv : (⟨(q i).f0, (q i).f1, (q i).f2, (q i).f3⟩ : T46) = q i := rfl
    rw [e1, e2, hv]
    generalize hA : I150 e n q 0 [.val (V.arr n (fun i => T46.enc (q i)) 4 false false), .box [.str e.f0, .int .i64 e.f1, arrOf T48.enc 7 e.f2], .val (.int .i64 (IntKind.i64.wrap ((i : Int) + 1)))] = A at cont ⊢
    have t3 : (false == false) = true := rfl
    have t4 : (true == false) = false := rfl
    have last : ¬ (i : Int) < ((n : Nat) : Int) → V.int .i64 0 = .int .i64 (firstE (fun i => fit1 (colF e i) (q i)) n) := fun h1 => by
      obtain rfl : i = n := by omega
      rw [(firstE_zero (fun i => fit1 (colF e i) (q i)) i).2 hj]
    have badV : i < n → valErr (q i) ≠ 0 → V.int .i64 (valErr (q i)) = .int .i64 (firstE (fun i => fit1 (colF e i) (q i)) n) := fun hin h2 => bad _ hin (if_pos h2) h2
    have rng : i < n → (0 ≤ (q i).f2 ∧ (q i).f2 < 18446744073709551616) := fun hin => hq i hin
    cases hb : (colF e i).f2 with
    | true =>
      have bad11 : i < n → valErr (q i) = 0 → (q i).f0 ≠ (colF e i).f1 → (q i).f0 ≠ 0 → V.int .i64 11 = .int .i64 (firstE (fun i => fit1 (colF e i) (q i)) n) := fun hin h2 h3 h4 =>
        bad _ hin ((if_neg fun h => h h2).trans (if_pos ⟨h3, .inl h4⟩)) (by decide)
      have go := fun (hin : i < n) (h2 : valErr (q i) = 0) (h3 : (q i).f0 = (colF e i).f1 ∨ (q i).f0 = 0) => cont hin ((if_neg fun h => h h2).trans (if_neg fun hh => by
        rcases hh.2 with h6 | h6
        · rcases h3 with h3 | h3
          · exact hh.1 h3
          · exact h6 h3
        · rw [hb] at h6; cases h6))
      simp only [CondP_t, CondP_f, t1, t2, t3, t4, Bool.not_true, Bool.not_false]
      generalize lastI [SV.val (V.arr n (fun i => T46.enc (q i)) 4 false false), .box [.str e.f0, .int .i64 e.f1, arrOf T48.enc 7 e.f2], .val (.int .i64 (IntKind.i64.wrap ((i : Int) + 1)))] = b1 at go ⊢
      generalize lastI [SV.val (V.arr n (fun i => T46.enc (q i)) 4 false false), .box [.str e.f0, .int .i64 e.f1, arrOf T48.enc 7 e.f2], .val (.int .i64 i)] = b2 at go ⊢
      generalize (V.int .i64 0 = V.int .i64 (firstE (fun i => fit1 (colF e i) (q i)) n)) = L0 at last ⊢
      generalize (V.int .i64 11 = V.int .i64 (firstE (fun i => fit1 (colF e i) (q i)) n)) = L11 at bad11 ⊢
      generalize (V.int .i64 (valErr (q i)) = V.int .i64 (firstE (fun i => fit1 (colF e i) (q i)) n)) = LV at badV ⊢
      clear bad cont hj h hA he hw kind
      generalize valErr (q i) = ve at go badV bad11 ⊢
      generalize (q i).f0 = kd at go bad11 ⊢
      generalize (colF e i).f1 = ck at go bad11 ⊢
      generalize (q i).f2 = bi at rng ⊢
      repeat' first
        | exact last (by omega)
        | exact badV (by omega) (by omega)
        | exact bad11 (by omega) (by omega) (by omega) (by omega)
        | exact go (by omega) (by omega) (by omega)
        | exact rng (by omega)
        | refine ⟨trivial, cIf (fun _ => ?_) (fun _ => ?_)⟩
        | refine ⟨⟨by omega, by omega⟩, ?_⟩
        | refine ⟨rng (by omega), ?_⟩
        | refine cIf (fun _ => ?_) (fun _ => ?_)
        | exfalso; omega
    | false =>
      have bad11 : i < n → valErr (q i) = 0 → (q i).f0 ≠ (colF e i).f1 → V.int .i64 11 = .int .i64 (firstE (fun i => fit1 (colF e i) (q i)) n) := fun hin h2 h3 =>
        bad _ hin ((if_neg fun h => h h2).trans (if_pos ⟨h3, .inr hb⟩)) (by decide)
      have go := fun (hin : i < n) (h2 : valErr (q i) = 0) (h3 : (q i).f0 = (colF e i).f1) => cont hin ((if_neg fun h => h h2).trans (if_neg fun hh => hh.1 h3))
      have bad12 : i < n → valErr (q i) = 0 → (q i).f0 = 0 → V.int .i64 11 = .int .i64 (firstE (fun i => fit1 (colF e i) (q i)) n) := fun hin h2 h3 => bad11 hin h2 (by have := kind hin; omega)
      simp only [CondP_t, CondP_f, t1, t2, t3, t4, Bool.not_true, Bool.not_false]
      generalize lastI [SV.val (V.arr n (fun i => T46.enc (q i)) 4 false false), .box [.str e.f0, .int .i64 e.f1, arrOf T48.enc 7 e.f2], .val (.int .i64 (IntKind.i64.wrap ((i : Int) + 1)))] = b1 at go ⊢
      generalize lastI [SV.val (V.arr n (fun i => T46.enc (q i)) 4 false false), .box [.str e.f0, .int .i64 e.f1, arrOf T48.enc 7 e.f2], .val (.int .i64 i)] = b2 at go ⊢
      generalize (V.int .i64 0 = V.int .i64 (firstE (fun i => fit1 (colF e i) (q i)) n)) = L0 at last ⊢
      generalize (V.int .i64 11 = V.int .i64 (firstE (fun i => fit1 (colF e i) (q i)) n)) = L11 at bad11 bad12 ⊢
      generalize (V.int .i64 (valErr (q i)) = V.int .i64 (firstE (fun i => fit1 (colF e i) (q i)) n)) = LV at badV ⊢
      clear bad cont hj h hA he hw kind
      generalize valErr (q i) = ve at go badV bad11 bad12 ⊢
      generalize (q i).f0 = kd at go bad11 bad12 ⊢
      generalize (colF e i).f1 = ck at go bad11 ⊢
      generalize (q i).f2 = bi at rng ⊢
      repeat' first
        | exact last (by omega)
        | exact badV (by omega) (by omega)
        | exact bad11 (by omega) (by omega) (by omega)
        | exact bad12 (by omega) (by omega) (by omega)
        | exact go (by omega) (by omega) (by omega)
        | exact rng (by omega)
        | refine ⟨trivial, cIf (fun _ => ?_) (fun _ => ?_)⟩
        | refine ⟨⟨by omega, by omega⟩, ?_⟩
        | refine ⟨rng (by omega), ?_⟩
        | refine cIf (fun _ => ?_) (fun _ => ?_)
        | exfalso; omega
theorem kn37_ok : ∀ {f : FuncId} {vs : List V} {σ : St} {k : VPost}, kn37 f vs σ k → CallS Tryz.prog f vs k σ := by
  intro f vs σ k h
  unfold kn37 at h
  split at h
  · rename_i hb; obtain rfl := Nat.eq_of_beq_eq_true hb; exact W150_ok h
  · exact kn36_ok h
theorem W102_ok (h : W102 vs σ k) : CallS Tryz.prog 102 vs k σ := by
  unfold W102 at h
  obtain ⟨e, n, q, rfl, ⟨hok, hq⟩, h⟩ := h
  have hu : keyErr e q n = if tabErr e ≠ 0 then tabErr e else if (n : Int) > e.f1 then 11 else fitsErr e.f2 q n := rfl
  refine CallS.oneV (fz_cons e.enc_clean (fz_cons (cl_vals n q) (fz_cons (Go.Ev.Clean.bool _) fz_nil))) (.int _ _) (F102.flat (live := live102) (call := kn37) (n₀ := 0) (σ := Go.Ev.start) (fun h => kn37_ok h) rfl (by kernel_rfl) ?_) h
  rw [e102]
  refine ⟨e, rfl, hok, rfl, cIf (fun h1 => ?_) fun h1 => ⟨rfl, cIf (fun h2 => ?_) fun h2 => ⟨e, n, q, rfl, ⟨hok, Decidable.not_not.1 h1, ?_, hq⟩, ?_⟩⟩⟩
  · rw [hu, if_pos h1]
  · rw [hu, if_neg h1, if_pos h2]
  · have := (tab_ok (Decidable.not_not.1 h1)).1.2.2; omega
  · rw [hu, if_neg h1, if_neg h2]
theorem kn38_ok : ∀ {f : FuncId} {vs : List V} {σ : St} {k : VPost}, kn38 f vs σ k → CallS Tryz.prog f vs k σ := by
  intro f vs σ k h
  unfold kn38 at h
  split at h
  · rename_i hb; obtain rfl := Nat.eq_of_beq_eq_true hb; exact W102_ok h
  · exact kn37_ok h
theorem W104_ok (h : W104 vs σ k) : CallS Tryz.prog 104 vs k σ := by
  unfold W104 at h
  obtain ⟨e, n, q, rfl, ⟨hok, hq⟩, h⟩ := h
  have hu : keyErr e q n = if tabErr e ≠ 0 then tabErr e else if (n : Int) > e.f1 then 11 else fitsErr e.f2 q n := rfl
  refine CallS.oneV (fz_cons e.enc_clean (fz_cons (cl_vals n q) (fz_cons (Go.Ev.Clean.bool _) fz_nil))) (.int _ _) (F104.flat (live := live104) (call := kn38) (n₀ := 0) (σ := Go.Ev.start) (fun h => kn38_ok h) rfl (by kernel_rfl) ?_) h
  rw [e104]
  refine ⟨e, rfl, hok, rfl, cIf (fun h1 => ?_) fun h1 => ⟨rfl, cIf (fun h2 => ?_) fun h2 => ⟨e, n, q, rfl, ⟨hok, Decidable.not_not.1 h1, ?_, hq⟩, ?_⟩⟩⟩
  · rw [hu, if_pos h1]
  · rw [hu, if_neg h1, if_pos h2]
  · have := (tab_ok (Decidable.not_not.1 h1)).1.2.2; omega
  · rw [hu, if_neg h1, if_neg h2]
theorem kn39_ok : ∀ {f : FuncId} {vs : List V} {σ : St} {k : VPost}, kn39 f vs σ k → CallS Tryz.prog f vs k σ := by
  intro f vs σ k h
  unfold kn39 at h
  split at h
  · rename_i hb; obtain rfl := Nat.eq_of_beq_eq_true hb; exact W104_ok h
  · exact kn38_ok h
end
end Go.Proofs.YtbajncpfmemdgaaGreatDoor
