/- Characters, floats' bits, values, names: program and reference. -/
import Derived.Test.YtbajncpfmemdgaaGreatDoorEvBnF
import Derived.IntWalk
namespace Go.Proofs.YtbajncpfmemdgaaGreatDoor
open Go Go.Ev Go.IntWalk

instance mixOk : Go.Ev.Mix Tryz.prog := ⟨by kernel_rfl⟩
section
variable [Env]
/-- A value that reads the same whatever is known. -/
def Scal (v : V) : Prop := ∀ (ρ ρ' : Ren) (x : Value), VRel ρ v x → VRel ρ' v x
theorem Scal.int (k : IntKind) (n : Int) : Scal (.int k n) := fun _ _ _ h => by cases h; exact .int _ _
theorem Scal.bool (b : Bool) : Scal (.bool b) := fun _ _ _ h => by cases h; exact .bool _
theorem Scal.str (s : List UInt8) : Scal (.str s) := fun _ _ _ h => by cases h; exact .str _
theorem Scal.niliface : Scal .niliface := fun _ _ _ h => by cases h; exact .niliface
theorem scals {l : List V} (h : ∀ v ∈ l, Scal v) {ρ ρ' : Ren} {xs : List Value} (hx : VsRel ρ l xs) : VsRel ρ' l xs := by
  induction l generalizing xs with
  | nil => cases hx; exact .nil
  | cons v l ih =>
    cases hx with
    | cons h1 h2 => exact .cons (h v List.mem_cons_self _ _ _ h1) (ih (fun u hu => h u (List.mem_cons_of_mem _ hu)) h2)
theorem Scal.tuple {l : List V} (h : ∀ v ∈ l, Scal v) : Scal (.tuple l) := fun _ _ _ hx => by cases hx with | tuple hx => exact .tuple (scals h hx)
theorem Scal.agg {l : List V} (h : ∀ v ∈ l, Scal v) : Scal (.agg l) := fun _ _ _ hx => by cases hx with | agg hx => exact .agg (scals h hx)
theorem Scal.iface {t : TypeId} {v : V} (h : Scal v) : Scal (.iface t v) := fun _ _ _ hx => by cases hx with | iface hx => exact .iface (h _ _ _ hx)
theorem sc_nil : ∀ v ∈ ([] : List V), Scal v := fun _ h => by cases h
theorem sc_cons {v : V} {l : List V} (h : Scal v) (hl : ∀ u ∈ l, Scal u) : ∀ u ∈ v :: l, Scal u := fun u hu => by
  rcases List.mem_cons.1 hu with rfl | hu
  · exact h
  · exact hl u hu
variable {vs us : List V} {σ : St} {k : VPost} {f : FuncId} {P : Program}
theorem CallS.oneS {A : V → Prop} (hf : FrzL σ vs us) (hA : ∀ v, A v → Scal v) (h : CallS P f us (fun v _ => A v) Go.Ev.start) (hk : ∀ v, A v → k v σ) : CallS P f vs k σ :=
  (CallS.lend0 (Q := A) hf (fun v hv ρ ρ' x hx => hA v hv ρ ρ' x hx) h).mono fun v τ ⟨h1, h2⟩ => by subst h2; exact hk v h1
theorem CallS.oneV {v : V} (hf : FrzL σ vs us) (hA : Scal v) (h : CallS P f us (fun u _ => u = v) Go.Ev.start) (hk : k v σ) : CallS P f vs k σ :=
  CallS.oneS hf (fun u e => by rw [e]; exact hA) h fun u e => by rw [e]; exact hk
theorem fz_nil : FrzL σ [] [] := .nil
theorem fz_cons {v : V} {l l' : List V} (h : Go.Ev.Clean v) (hl : FrzL σ l l') : FrzL σ (v :: l) (v :: l') := .cons (.clean h) hl
theorem sv_nil : ∀ s ∈ ([] : List SV), s.clean := fun _ h => by cases h
theorem sv_cons {s : SV} {l : List SV} (h : s.clean) (hl : ∀ u ∈ l, u.clean) : ∀ u ∈ s :: l, u.clean := fun u hu => by
  rcases List.mem_cons.1 hu with rfl | hu
  · exact h
  · exact hl u hu
theorem sv_int {kd : IntKind} {n : Int} {l : List SV} (hl : ∀ u ∈ l, u.clean) : ∀ u ∈ SV.val (.int kd n) :: l, u.clean := sv_cons (Go.Ev.Clean.int _ _) hl
theorem sv_str {s : List UInt8} {l : List SV} (hl : ∀ u ∈ l, u.clean) : ∀ u ∈ SV.val (.str s) :: l, u.clean := sv_cons (Go.Ev.Clean.str _) hl
end
theorem cIf {c : Prop} [Decidable c] {A B : Prop} (h1 : c → A) (h2 : ¬ c → B) : CondP (decide c) A B := CondP.mk (fun e => h1 (of_decide_eq_true e)) fun e => h2 (of_decide_eq_false e)
/-- The last whole number of a frame. -/
def lastI : List SV → Nat
  | [] => 0
  | [.val (.int _ i)] => i.toNat
  | _ :: r => lastI r
theorem toT (n : Nat) : ((n : Nat) : Int).toNat = n := rfl
theorem byteN_range (s : List UInt8) (i : Nat) : 0 ≤ byteN s i ∧ byteN s i < 256 := by
  unfold byteN
  cases nth s i with
  | none => exact ⟨by decide, by decide⟩
  | some c => have := c.toNat_lt; exact ⟨by simp, by show (c.toNat : Int) < 256; omega⟩
theorem T46.enc_clean [Env] (e : T46) : Go.Ev.Clean (T46.enc e) := Go.Ev.Clean.agg e.clean
theorem T48.enc_clean [Env] (e : T48) : Go.Ev.Clean (T48.enc e) := Go.Ev.Clean.agg e.clean
theorem T51.enc_clean [Env] (e : T51) : Go.Ev.Clean (T51.enc e) := Go.Ev.Clean.agg e.clean
end Go.Proofs.YtbajncpfmemdgaaGreatDoor
namespace Go.Proofs.YtbajncpfmemdgaaGreatDoor
open Go Go.Ev Go.IntWalk
theorem F273 : FnF Tryz.prog 273 Tryz.f273 := ⟨by kernel_rfl, by kernel_rfl, by kernel_rfl, by kernel_rfl, by kernel_rfl⟩
theorem F260 : FnF Tryz.prog 260 Tryz.f260 := ⟨by kernel_rfl, by kernel_rfl, by kernel_rfl, by kernel_rfl, by kernel_rfl⟩
theorem F235 : FnF Tryz.prog 235 Tryz.f235 := ⟨by kernel_rfl, by kernel_rfl, by kernel_rfl, by kernel_rfl, by kernel_rfl⟩
theorem F195 : FnF Tryz.prog 195 Tryz.f195 := ⟨by kernel_rfl, by kernel_rfl, by kernel_rfl, by kernel_rfl, by kernel_rfl⟩
theorem F274 : FnF Tryz.prog 274 Tryz.f274 := ⟨by kernel_rfl, by kernel_rfl, by kernel_rfl, by kernel_rfl, by kernel_rfl⟩
theorem F275 : FnF Tryz.prog 275 Tryz.f275 := ⟨by kernel_rfl, by kernel_rfl, by kernel_rfl, by kernel_rfl, by kernel_rfl⟩
theorem F263 : FnF Tryz.prog 263 Tryz.f263 := ⟨by kernel_rfl, by kernel_rfl, by kernel_rfl, by kernel_rfl, by kernel_rfl⟩
theorem F238 : FnF Tryz.prog 238 Tryz.f238 := ⟨by kernel_rfl, by kernel_rfl, by kernel_rfl, by kernel_rfl, by kernel_rfl⟩
theorem F203 : FnF Tryz.prog 203 Tryz.f203 := ⟨by kernel_rfl, by kernel_rfl, by kernel_rfl, by kernel_rfl, by kernel_rfl⟩
section
variable [Env] {vs : List V} {σ : St} {k : VPost}
theorem kn0_ok : ∀ {f : FuncId} {vs : List V} {σ : St} {k : VPost}, kn0 f vs σ k → CallS Tryz.prog f vs k σ := fun h => h.elim
def A273 (c : Int) (v : V) : Prop := ∃ r : Int, v = .tuple [.int .i64 (utw c), .int .i64 r, .int .u8 (utlo c), .int .u8 (uthi c)]
omit [Env] in
theorem tup4 {c a b d : Int} (r : Int) (h1 : utw c = a) (h2 : utlo c = b) (h3 : uthi c = d) : A273 c (.tuple [.int .i64 a, .int .i64 r, .int .u8 b, .int .u8 d]) := ⟨r, by rw [h1, h2, h3]⟩
theorem W273_ok (h : W273 vs σ k) : CallS Tryz.prog 273 vs k σ := by
  unfold W273 at h
  split at h
  · rename_i c
    obtain ⟨hc, h⟩ := h
    refine CallS.oneS (A := A273 c) (fz_cons (Go.Ev.Clean.int _ _) fz_nil) (fun v hv => by obtain ⟨r, rfl⟩ := hv; exact .tuple (sc_cons (.int _ _) (sc_cons (.int _ _) (sc_cons (.int _ _) (sc_cons (.int _ _) sc_nil)))))
      (F273.flat (live := live273) (call := kn0) (n₀ := 0) (σ := Go.Ev.start) (fun h => kn0_ok h) rfl (by kernel_rfl) ?_) fun v hv => by obtain ⟨r, rfl⟩ := hv; exact h r
    rw [e273]
    refine ⟨rfl, cIf (fun h1 => ?_) fun h1 => ⟨rfl, cIf (fun h2 => ?_) fun h2 => ⟨rfl, cIf (fun h3 => ?_) fun h3 => ⟨rfl, cIf (fun h4 => ?_) fun h4 => ⟨rfl, cIf (fun h5 => ?_) fun h5 => ⟨rfl, cIf (fun h6 => ?_) fun h6 => ⟨rfl, cIf (fun h7 => ?_) fun h7 => ⟨rfl, cIf (fun h8 => ?_) fun h8 => ⟨rfl, cIf (fun h9 => ?_) fun h9 => ?_⟩⟩⟩⟩⟩⟩⟩⟩⟩
    all_goals (refine tup4 _ ?_ ?_ ?_)
    all_goals first
      | (unfold utw; (repeat' split) <;> omega)
      | (unfold utlo; (repeat' split) <;> omega)
      | (unfold uthi; (repeat' split) <;> omega)
  · exact h.elim
theorem kn1_ok : ∀ {f : FuncId} {vs : List V} {σ : St} {k : VPost}, kn1 f vs σ k → CallS Tryz.prog f vs k σ := by
  intro f vs σ k h
  unfold kn1 at h
  split at h
  · rename_i hb; obtain rfl := Nat.eq_of_beq_eq_true hb; exact W273_ok h
  · exact kn0_ok h
def A260 (s : List UInt8) (v : V) : Prop := (nextI s ≠ 0 ∧ ∃ r : Int, v = .tuple [.int .i64 r, .int .i64 (nextI s), .int .i64 0]) ∨ (nextI s = 0 ∧ ∃ e : Int, e ≠ 0 ∧ v = .tuple [.int .i64 0, .int .i64 0, .int .i64 e])
theorem A260.scal (s : List UInt8) : ∀ v, A260 s v → Scal v := fun v hv => by
  rcases hv with ⟨_, r, rfl⟩ | ⟨_, e, _, rfl⟩ <;> exact .tuple (sc_cons (.int _ _) (sc_cons (.int _ _) (sc_cons (.int _ _) sc_nil)))
omit [Env] in
theorem A260.bad {s : List UInt8} {e : Int} (h : nextI s = 0) (he : e ≠ 0) : A260 s (.tuple [.int .i64 0, .int .i64 0, .int .i64 e]) := .inr ⟨h, e, he, rfl⟩
omit [Env] in
theorem A260.good {s : List UInt8} {r w : Int} (h : nextI s = w) (hw : w ≠ 0) : A260 s (.tuple [.int .i64 r, .int .i64 w, .int .i64 0]) := .inl ⟨by rw [h]; exact hw, r, by rw [h]⟩
omit [Env] in
theorem utw_range (c : Int) : 0 ≤ utw c ∧ utw c ≤ 4 := by unfold utw; (repeat' split) <;> omega
omit [Env] in
theorem nextI_eq {s : List UInt8} (h : s.length ≠ 0) : nextI s = if contB s (utlo (byteN s 0)) (uthi (byteN s 0)) ((utw (byteN s 0)).toNat - 1) 1 = true then utw (byteN s 0) else 0 := by unfold nextI; rw [if_neg h]
omit [Env] in
theorem contB_succ (s : List UInt8) (lo hi : Int) (m i : Nat) : contB s lo hi (m + 1) i = (decide (i < s.length ∧ lo ≤ byteN s i ∧ byteN s i ≤ hi) && contB s 128 191 m (i + 1)) := rfl
def I260 (s : List UInt8) : Nat → List SV → Prop
  | 0, ss => ∃ (r lo hi : Int) (i : Nat), s.length ≠ 0 ∧ 1 ≤ i ∧ (i : Int) ≤ utw (byteN s 0) ∧ contB s (utlo (byteN s 0)) (uthi (byteN s 0)) ((utw (byteN s 0)).toNat - 1) 1 = contB s lo hi ((utw (byteN s 0)).toNat - i) i ∧
      ss = [.val (.str s), .val (.int .i64 (utw (byteN s 0))), .val (.int .i64 r), .val (.int .u8 lo), .val (.int .u8 hi), .val (.int .i64 0), .val (.int .i64 i)]
  | _, _ => False
theorem W260_ok (h : W260 vs σ k) : CallS Tryz.prog 260 vs k σ := by
  unfold W260 at h
  split at h
  · rename_i s
    refine CallS.oneS (A := A260 s) (fz_cons (Go.Ev.Clean.str _) fz_nil) (A260.scal s)
      (F260.floyd (live := live260) (call := kn1) (n₀ := 0) (σ := Go.Ev.start) (fun h => kn1_ok h) rfl 1 (by kernel_rfl) Nat.lt_wfRel.wf (fun _ ss => 5 - lastI ss) (I260 s) ?_ ?_ ?_) fun v hv => by
        rcases hv with ⟨h0, r, rfl⟩ | ⟨h0, e, he, rfl⟩
        · exact h.1 h0 r
        · exact h.2 h0 e he
    · intro k ss hI
      cases k with
      | zero => obtain ⟨r, lo, hi, i, _, _, _, _, rfl⟩ := hI; exact sv_str (sv_int (sv_int (sv_int (sv_int (sv_int (sv_int sv_nil))))))
      | succ k => exact hI.elim
    · rw [e260]
      have hb := byteN_range s 0
      have hw := utw_range (byteN s 0)
      refine cIf (fun h0 => .bad (by rw [h0]; rfl) (by decide)) fun h0 => ?_
      have hl : s.length ≠ 0 := fun e => h0 (List.eq_nil_of_length_eq_zero e)
      refine ⟨⟨by decide, by rw [len_eq]; omega⟩, hb, fun r => ⟨rfl, cIf (fun h1 => .bad ?_ (by decide)) fun h1 => ?_⟩⟩
      · rw [nextI_eq hl]
        have h1 : utw (byteN s 0) = 0 := h1
        rw [h1]; split <;> rfl
      · have h1 : utw (byteN s 0) ≠ 0 := h1
        exact ⟨r, _, _, 1, hl, by omega, by omega, rfl, rfl⟩
    · intro k hk ss hI
      obtain rfl : k = 0 := by omega
      obtain ⟨r, lo, hi, i, hl, h1, h2, hc, rfl⟩ := hI
      have hw := utw_range (byteN s 0)
      rw [r260]
      refine ⟨rfl, cIf (fun h3 => ?_) fun h3 => ?_⟩
      · obtain ⟨m, hm⟩ : ∃ m, (utw (byteN s 0)).toNat - i = m + 1 := ⟨(utw (byteN s 0)).toNat - i - 1, by omega⟩
        rw [hm, contB_succ] at hc
        have bad : ¬ (i < s.length ∧ lo ≤ byteN s i ∧ byteN s i ≤ hi) → nextI s = 0 := fun hn => by
          rw [nextI_eq hl, hc, decide_eq_false hn, Bool.false_and, if_neg (by simp)]
        refine ⟨rfl, cIf (fun h4 => ⟨rfl, .bad (bad fun hh => ?_) (by decide)⟩) fun h4 => ?_⟩
        · rw [len_eq] at h4; omega
        · rw [len_eq] at h4
          have hi' : (0 ≤ (i : Int) ∧ (i : Int) < ((len s : Nat) : Int)) := ⟨by omega, by rw [len_eq]; omega⟩
          refine ⟨hi', rfl, cIf (fun h5 => ⟨rfl, .bad (bad fun hh => ?_) (by decide)⟩) fun h5 => ⟨hi', rfl, cIf (fun h6 => ⟨rfl, .bad (bad fun hh => ?_) (by decide)⟩) fun h6 => ⟨by decide, hi', ?_⟩⟩⟩
          · have h5 : byteN s i < lo := h5
            omega
          · have h6 : byteN s i > hi := h6
            omega
          · have h5 : ¬ byteN s i < lo := h5
            have h6 : ¬ byteN s i > hi := h6
            have hc' : contB s (utlo (byteN s 0)) (uthi (byteN s 0)) ((utw (byteN s 0)).toNat - 1) 1 = contB s 128 191 ((utw (byteN s 0)).toNat - (i + 1)) (i + 1) := by
              rw [hc, decide_eq_true ⟨by omega, by omega, by omega⟩, Bool.true_and, show (utw (byteN s 0)).toNat - (i + 1) = m by omega]
            rw [i64_in ((i : Int) + 1) (by omega)]
            refine ⟨⟨_, 128, 191, i + 1, hl, by omega, by omega, hc', rfl⟩, ?_⟩
            show 5 - ((i : Int) + 1).toNat < 5 - (i : Int).toNat
            omega
      · refine ⟨rfl, .good ?_ (by omega)⟩
        rw [nextI_eq hl, hc, show (utw (byteN s 0)).toNat - i = 0 by omega]
        rfl
  · exact h.elim
theorem kn2_ok : ∀ {f : FuncId} {vs : List V} {σ : St} {k : VPost}, kn2 f vs σ k → CallS Tryz.prog f vs k σ := by
  intro f vs σ k h
  unfold kn2 at h
  split at h
  · rename_i hb; obtain rfl := Nat.eq_of_beq_eq_true hb; exact W260_ok h
  · exact kn1_ok h
omit [Env] in
theorem nextI_le (s : List UInt8) : 0 ≤ nextI s ∧ nextI s ≤ s.length ∧ nextI s ≤ 4 := by
  have hw := utw_range (byteN s 0)
  by_cases h : s.length = 0
  · unfold nextI; rw [if_pos h]; omega
  · rw [nextI_eq h]
    split
    · rename_i hc
      have key : ∀ (m i : Nat) (lo hi : Int), contB s lo hi m i = true → m = 0 ∨ i + m ≤ s.length := by
        intro m
        induction m with
        | zero => intro i lo hi _; exact .inl rfl
        | succ m ih =>
          intro i lo hi hh
          rw [contB_succ, Bool.and_eq_true] at hh
          have h1 := of_decide_eq_true hh.1
          rcases ih _ _ _ hh.2 with h2 | h2
          · right; omega
          · right; omega
      rcases key _ _ _ _ hc with h1 | h1 <;> omega
    · omega
omit [Env] in
theorem utfB_none {n : Nat} {s : List UInt8} (h : s.length ≤ n) (h0 : s.length ≠ 0) (hn : nextI s = 0) : utfB n s = false := by
  cases n with
  | zero => omega
  | succ n => show (if _ then _ else if _ then _ else _) = _; rw [if_neg h0, if_pos hn]
omit [Env] in
theorem utfB_more : ∀ {n m : Nat} {s : List UInt8}, s.length ≤ n → s.length ≤ m → utfB n s = utfB m s := by
  intro n
  induction n with
  | zero =>
    intro m s h1 h2
    have h0 : s.length = 0 := by omega
    cases m with
    | zero => rfl
    | succ m => show decide _ = if _ then _ else _; rw [if_pos h0, decide_eq_true h0]
  | succ n ih =>
    intro m s h1 h2
    by_cases h0 : s.length = 0
    · cases m with
      | zero => show (if _ then _ else _) = decide _; rw [if_pos h0, decide_eq_true h0]
      | succ m => show (if _ then _ else _) = if _ then _ else _; rw [if_pos h0, if_pos h0]
    · cases m with
      | zero => omega
      | succ m =>
        show (if _ then _ else if _ then _ else _) = if _ then _ else if _ then _ else _
        rw [if_neg h0, if_neg h0]
        by_cases hn : nextI s = 0
        · rw [if_pos hn, if_pos hn]
        · rw [if_neg hn, if_neg hn]
          have := nextI_le s
          exact ih (by rw [List.length_drop]; omega) (by rw [List.length_drop]; omega)
omit [Env] in
theorem utfB_step {s : List UInt8} (h0 : s.length ≠ 0) (hn : nextI s ≠ 0) : utfB s.length s = utfB (s.drop (nextI s).toNat).length (s.drop (nextI s).toNat) := by
  have := nextI_le s
  obtain ⟨m, hm⟩ : ∃ m, s.length = m + 1 := ⟨s.length - 1, by omega⟩
  have e : utfB s.length s = utfB m (s.drop (nextI s).toNat) := by
    rw [hm]
    show (if _ then _ else if _ then _ else _) = _
    rw [if_neg h0, if_neg hn]
  rw [e]
  exact utfB_more (by rw [List.length_drop]; omega) (Nat.le_refl _)
def A235 (s : List UInt8) (v : V) : Prop := ∃ c : Int, (0 ≤ c ↔ utfB s.length s = true) ∧ v = .int .i64 c
def I235 (s : List UInt8) : Nat → List SV → Prop
  | 0, ss => ∃ (t : List UInt8) (i : Int), 0 ≤ i ∧ i + t.length ≤ 64 ∧ utfB s.length s = utfB t.length t ∧ ss = [.val (.str t), .val (.int .i64 i)]
  | _, _ => False
def strLen : List SV → Nat
  | .val (.str s) :: _ => s.length
  | _ => 0
theorem W235_ok (h : W235 vs σ k) : CallS Tryz.prog 235 vs k σ := by
  unfold W235 at h
  split at h
  · rename_i s
    obtain ⟨hs, h⟩ := h
    refine CallS.oneS (A := A235 s) (fz_cons (Go.Ev.Clean.str _) fz_nil) (fun v hv => by obtain ⟨c, _, rfl⟩ := hv; exact .int _ _)
      (F235.floyd (live := live235) (call := kn2) (n₀ := 0) (σ := Go.Ev.start) (fun h => kn2_ok h) rfl 1 (by kernel_rfl) Nat.lt_wfRel.wf (fun _ ss => strLen ss) (I235 s) ?_ ?_ ?_) fun v hv => by obtain ⟨c, hc, rfl⟩ := hv; exact h c hc
    · intro k ss hI
      cases k with
      | zero => obtain ⟨t, i, _, _, _, rfl⟩ := hI; exact sv_str (sv_int sv_nil)
      | succ k => exact hI.elim
    · rw [e235]
      exact ⟨s, 0, by omega, by omega, rfl, rfl⟩
    · intro k hk ss hI
      obtain rfl : k = 0 := by omega
      obtain ⟨t, i, h0, h1, he, rfl⟩ := hI
      rw [r235]
      refine cIf (fun ht => ?_) fun ht => ?_
      · have ht' : t.length ≠ 0 := fun e => ht (List.eq_nil_of_length_eq_zero e)
        have hn := nextI_le t
        refine ⟨fun hne r => ⟨rfl, ⟨hn.1, by rw [len_eq]; omega, by omega⟩, ?_⟩, fun hz e hne => ⟨rfl, cIf (fun _ => ?_) fun hh => absurd hne hh⟩⟩
        · have hd : dropOf (nextI t).toNat (takeOf t ((len t : Nat) : Int).toNat) = t.drop (nextI t).toNat := by
            rw [dropOf_eq, takeOf_eq, len_eq, Int.toNat_natCast, List.take_length]
          rw [hd, i64_in (i + 1) (by omega)]
          refine ⟨⟨_, i + 1, by omega, ?_, ?_, rfl⟩, ?_⟩
          · rw [List.length_drop]; omega
          · rw [he]; exact utfB_step ht' hne
          · show (t.drop (nextI t).toNat).length < t.length
            rw [List.length_drop]; omega
        · refine ⟨-1, ⟨fun h => by omega, fun h => ?_⟩, rfl⟩
          rw [he, utfB_none (Nat.le_refl _) ht' hz] at h; cases h
      · have ht : t = [] := Decidable.not_not.1 ht
        subst ht
        exact ⟨i, ⟨fun _ => by rw [he]; rfl, fun _ => h0⟩, rfl⟩
  · exact h.elim
theorem kn3_ok : ∀ {f : FuncId} {vs : List V} {σ : St} {k : VPost}, kn3 f vs σ k → CallS Tryz.prog f vs k σ := by
  intro f vs σ k h
  unfold kn3 at h
  split at h
  · rename_i hb; obtain rfl := Nat.eq_of_beq_eq_true hb; exact W235_ok h
  · exact kn2_ok h
theorem W195_ok (h : W195 vs σ k) : CallS Tryz.prog 195 vs k σ := by
  unfold W195 at h
  split at h
  · rename_i s
    obtain ⟨hs, h⟩ := h
    refine CallS.oneV (fz_cons (Go.Ev.Clean.str _) fz_nil) (.bool _) (F195.flat (live := live195) (call := kn3) (n₀ := 0) (σ := Go.Ev.start) (fun h => kn3_ok h) rfl (by kernel_rfl) ?_) h
    rw [e195]
    refine ⟨hs, fun c hc => ⟨rfl, cIf (fun h1 => ?_) fun h1 => ?_⟩⟩
    · rw [hc.1 h1]
    · have : utfB s.length s = false := by
        cases hb : utfB s.length s with
        | false => rfl
        | true => exact absurd (hc.2 hb) h1
      rw [this]
  · exact h.elim
theorem kn4_ok : ∀ {f : FuncId} {vs : List V} {σ : St} {k : VPost}, kn4 f vs σ k → CallS Tryz.prog f vs k σ := by
  intro f vs σ k h
  unfold kn4 at h
  split at h
  · rename_i hb; obtain rfl := Nat.eq_of_beq_eq_true hb; exact W195_ok h
  · exact kn3_ok h
end
end Go.Proofs.YtbajncpfmemdgaaGreatDoor
namespace Go.Proofs.YtbajncpfmemdgaaGreatDoor
open Go Go.Ev Go.IntWalk
theorem led_cases (c : Int) (hc : 0 ≤ c ∧ c < 256) : (ledw c = 1 ∧ c < 128 ∧ ledb c = c) ∨ (ledw c = 2 ∧ 192 ≤ c ∧ c < 224 ∧ ledb c = c - 192) ∨ (ledw c = 3 ∧ 224 ≤ c ∧ c < 240 ∧ ledb c = c - 224) ∨
    (ledw c = 4 ∧ 240 ≤ c ∧ c < 248 ∧ ledb c = c - 240) ∨ (ledw c = 0 ∧ utw c = 0) := by
  unfold ledw ledb utw
  (repeat' split) <;> omega
theorem among_iff (x y w : Int) {lo hi : Int} (hlo : (if w = 2 then (128 : Int) else if w = 3 then 2048 else if w = 4 then 65536 else 0) = lo) (hhi : (if w = 2 then (2047 : Int) else if w = 3 then 65535 else if w = 4 then 1114111 else 127) = hi) :
    amongB x y w = true ↔ (lo ≤ y ∧ x ≤ hi ∧ x ≤ y ∧ lo ≤ hi) ∧ ((lo < 55296 ∧ x < 55296) ∨ (hi > 57343 ∧ y > 57343)) := by
  unfold amongB
  rw [hlo, hhi, decide_eq_true_iff]
  omega
def Rg (c lw i r q : Int) : Prop :=
  (i = 1 ∧ r = ledb c ∧ ((lw = 1 ∧ q = 1) ∨ (lw = 2 ∧ q = 64) ∨ (lw = 3 ∧ q = 4096) ∨ (lw = 4 ∧ q = 262144))) ∨
  (i = 2 ∧ ((lw = 2 ∧ q = 1) ∨ (lw = 3 ∧ q = 64 ∧ 32 ≤ r ∧ r ≤ 1023 ∧ (r < 864 ∨ 896 ≤ r)) ∨ (lw = 4 ∧ q = 4096 ∧ 16 ≤ r ∧ r ≤ 271))) ∨
  (i = 3 ∧ ((lw = 3 ∧ q = 1) ∨ (lw = 4 ∧ q = 64 ∧ 1024 ≤ r ∧ r ≤ 17407))) ∨ (i = 4 ∧ lw = 4 ∧ q = 1)
theorem step263 {c lw i r q b : Int} (hc : 0 ≤ c ∧ c < 256) (hu : utw c = lw) (hl : ledw c = lw) (h : Rg c lw i r q) (hi : i < lw) (hb : 128 ≤ b ∧ b ≤ 191) :
    ∃ q', q.tdiv 64 = q' ∧ (0 ≤ r ∧ r ≤ 20000) ∧ (1 ≤ q' ∧ q' ≤ 262144) ∧ (0 ≤ (r * 64 + b - 128) * q' ∧ (r * 64 + b - 128) * q' ≤ 1000000000) ∧
      (amongB ((r * 64 + b - 128) * q') ((r * 64 + b - 128) * q' + q' - 1) lw = true ↔ (i = 1 → utlo c ≤ b ∧ b ≤ uthi c)) ∧
      (amongB ((r * 64 + b - 128) * q') ((r * 64 + b - 128) * q' + q' - 1) lw = true → Rg c lw (i + 1) (r * 64 + b - 128) q') := by
  have hcs := led_cases c hc
  have e0 : utlo c = if c < 194 ∨ c > 244 then 0 else if c = 224 then 160 else if c = 240 then 144 else 128 := rfl
  have e1 : uthi c = if c < 194 ∨ c > 244 then 0 else if c = 237 then 159 else if c = 244 then 143 else 191 := rfl
  have e2 : utw c = if c < 128 then 1 else if c < 194 ∨ c > 244 then 0 else if c < 224 then 2 else if c < 240 then 3 else 4 := rfl
  rcases h with ⟨rfl, rfl, h | h | h | h⟩ | ⟨rfl, h | h | h⟩ | ⟨rfl, h | h⟩ | ⟨rfl, h⟩
  · omega
  · obtain ⟨rfl, rfl⟩ := h
    refine ⟨1, rfl, by omega, by omega, by omega, ?_, fun _ => .inr (.inl ⟨rfl, .inl ⟨rfl, rfl⟩⟩)⟩
    rw [among_iff _ _ _ (lo := 128) (hi := 2047) rfl rfl]
    constructor
    · intro _ _; omega
    · intro h; have := h rfl; omega
  · obtain ⟨rfl, rfl⟩ := h
    refine ⟨64, rfl, by omega, by omega, by omega, ?_, fun hh => ?_⟩
    · rw [among_iff _ _ _ (lo := 2048) (hi := 65535) rfl rfl]
      constructor
      · intro h1 _; omega
      · intro h; have := h rfl; omega
    · rw [among_iff _ _ _ (lo := 2048) (hi := 65535) rfl rfl] at hh
      exact .inr (.inl ⟨rfl, .inr (.inl ⟨rfl, rfl, by omega, by omega, by omega⟩)⟩)
  · obtain ⟨rfl, rfl⟩ := h
    refine ⟨4096, rfl, by omega, by omega, by omega, ?_, fun hh => ?_⟩
    · rw [among_iff _ _ _ (lo := 65536) (hi := 1114111) rfl rfl]
      constructor
      · intro h1 _; omega
      · intro h; have := h rfl; omega
    · rw [among_iff _ _ _ (lo := 65536) (hi := 1114111) rfl rfl] at hh
      exact .inr (.inl ⟨rfl, .inr (.inr ⟨rfl, rfl, by omega, by omega⟩)⟩)
  · omega
  · obtain ⟨rfl, rfl, h1, h2, h3⟩ := h
    refine ⟨1, rfl, by omega, by omega, by omega, ?_, fun _ => .inr (.inr (.inl ⟨rfl, .inl ⟨rfl, rfl⟩⟩))⟩
    rw [among_iff _ _ _ (lo := 2048) (hi := 65535) rfl rfl]
    exact ⟨fun _ h => by omega, fun _ => by omega⟩
  · obtain ⟨rfl, rfl, h1, h2⟩ := h
    refine ⟨64, rfl, by omega, by omega, by omega, ?_, fun _ => .inr (.inr (.inl ⟨rfl, .inr ⟨rfl, rfl, by omega, by omega⟩⟩))⟩
    rw [among_iff _ _ _ (lo := 65536) (hi := 1114111) rfl rfl]
    exact ⟨fun _ h => by omega, fun _ => by omega⟩
  · omega
  · obtain ⟨rfl, rfl, h1, h2⟩ := h
    refine ⟨1, rfl, by omega, by omega, by omega, ?_, fun _ => .inr (.inr (.inr ⟨rfl, rfl, rfl⟩))⟩
    rw [among_iff _ _ _ (lo := 65536) (hi := 1114111) rfl rfl]
    exact ⟨fun _ h => by omega, fun _ => by omega⟩
  · omega
/-- The first byte alone. -/
theorem first263 {c q : Int} (hc : 0 ≤ c ∧ c < 256) (h0 : ledw c ≠ 0) (hq : (ledw c = 1 ∧ q = 1) ∨ (ledw c = 2 ∧ q = 64) ∨ (ledw c = 3 ∧ q = 4096) ∨ (ledw c = 4 ∧ q = 262144)) :
    (0 ≤ ledb c * q ∧ ledb c * q ≤ 100000000 ∧ 1 ≤ q ∧ q ≤ 262144) ∧ (amongB (ledb c * q) (ledb c * q + q - 1) (ledw c) = true → utw c = ledw c ∧ Rg c (ledw c) 1 (ledb c) q) ∧ (amongB (ledb c * q) (ledb c * q + q - 1) (ledw c) = false → utw c = 0) := by
  have hcs := led_cases c hc
  have e2 : utw c = if c < 128 then 1 else if c < 194 ∨ c > 244 then 0 else if c < 224 then 2 else if c < 240 then 3 else 4 := rfl
  rcases hq with ⟨h, rfl⟩ | ⟨h, rfl⟩ | ⟨h, rfl⟩ | ⟨h, rfl⟩
  · have key := among_iff (ledb c * 1) (ledb c * 1 + 1 - 1) (ledw c) (lo := 0) (hi := 127) (by rw [h]; rfl) (by rw [h]; rfl)
    refine ⟨by omega, fun _ => ⟨by omega, .inl ⟨rfl, rfl, .inl ⟨h, rfl⟩⟩⟩, fun hf => ?_⟩
    rw [Bool.eq_false_iff, ne_eq, key] at hf; omega
  · have key := among_iff (ledb c * 64) (ledb c * 64 + 64 - 1) (ledw c) (lo := 128) (hi := 2047) (by rw [h]; rfl) (by rw [h]; rfl)
    refine ⟨by omega, fun hh => ⟨?_, .inl ⟨rfl, rfl, .inr (.inl ⟨h, rfl⟩)⟩⟩, fun hf => ?_⟩
    · rw [key] at hh; omega
    · rw [Bool.eq_false_iff, ne_eq, key] at hf; omega
  · have key := among_iff (ledb c * 4096) (ledb c * 4096 + 4096 - 1) (ledw c) (lo := 2048) (hi := 65535) (by rw [h]; rfl) (by rw [h]; rfl)
    refine ⟨by omega, fun hh => ⟨?_, .inl ⟨rfl, rfl, .inr (.inr (.inl ⟨h, rfl⟩))⟩⟩, fun hf => ?_⟩
    · omega
    · rw [Bool.eq_false_iff, ne_eq, key] at hf; omega
  · have key := among_iff (ledb c * 262144) (ledb c * 262144 + 262144 - 1) (ledw c) (lo := 65536) (hi := 1114111) (by rw [h]; rfl) (by rw [h]; rfl)
    refine ⟨by omega, fun hh => ⟨?_, .inl ⟨rfl, rfl, .inr (.inr (.inr ⟨h, rfl⟩))⟩⟩, fun hf => ?_⟩
    · rw [key] at hh; omega
    · rw [Bool.eq_false_iff, ne_eq, key] at hf; omega
section
variable [Env] {vs : List V} {σ : St} {k : VPost}
theorem W274_ok (h : W274 vs σ k) : CallS Tryz.prog 274 vs k σ := by
  unfold W274 at h
  split at h
  · rename_i c
    refine CallS.oneV (v := .tuple [.int .i64 (ledw c), .int .i64 (ledb c)]) (fz_cons (Go.Ev.Clean.int _ _) fz_nil) (.tuple (sc_cons (.int _ _) (sc_cons (.int _ _) sc_nil))) (F274.flat (live := live274) (call := kn4) (n₀ := 0) (σ := Go.Ev.start) (fun h => kn4_ok h) rfl (by kernel_rfl) ?_) h
    have fin : ∀ a b : Int, ledw c = a → ledb c = b → (V.tuple [.int .i64 a, .int .i64 b] = .tuple [.int .i64 (ledw c), .int .i64 (ledb c)]) := fun a b h1 h2 => by rw [h1, h2]
    rw [e274]
    unfold ledw ledb at fin ⊢
    refine ⟨rfl, cIf (fun h1 => ?_) fun h1 => ⟨rfl, cIf (fun h2 => ⟨rfl, cIf (fun h3 => ?_) fun h3 => ⟨rfl, cIf (fun h4 => ⟨rfl, cIf (fun h5 => ?_) fun h5 => ⟨rfl, cIf (fun h6 => ⟨rfl, cIf (fun h7 => ?_) fun h7 => ?_⟩) fun h6 => ?_⟩⟩) fun h4 => ⟨rfl, cIf (fun h6 => ⟨rfl, cIf (fun h7 => ?_) fun h7 => ?_⟩) fun h6 => ?_⟩⟩⟩)
      fun h2 => ⟨rfl, cIf (fun h4 => ⟨rfl, cIf (fun h5 => ?_) fun h5 => ⟨rfl, cIf (fun h6 => ⟨rfl, cIf (fun h7 => ?_) fun h7 => ?_⟩) fun h6 => ?_⟩⟩) fun h4 => ⟨rfl, cIf (fun h6 => ⟨rfl, cIf (fun h7 => ?_) fun h7 => ?_⟩) fun h6 => ?_⟩⟩⟩⟩
    all_goals (first | rw [i64_in _ (by omega)] | skip)
    all_goals (refine fin _ _ ?_ ?_ <;> ((repeat' split) <;> omega))
  · exact h.elim
theorem kn5_ok : ∀ {f : FuncId} {vs : List V} {σ : St} {k : VPost}, kn5 f vs σ k → CallS Tryz.prog f vs k σ := by
  intro f vs σ k h
  unfold kn5 at h
  split at h
  · rename_i hb; obtain rfl := Nat.eq_of_beq_eq_true hb; exact W274_ok h
  · exact kn4_ok h
theorem W275_ok (h : W275 vs σ k) : CallS Tryz.prog 275 vs k σ := by
  unfold W275 at h
  split at h
  · rename_i x y w
    refine CallS.oneV (v := .bool (amongB x y w)) (fz_cons (Go.Ev.Clean.int _ _) (fz_cons (Go.Ev.Clean.int _ _) (fz_cons (Go.Ev.Clean.int _ _) fz_nil))) (.bool _) (F275.flat (live := live275) (call := kn5) (n₀ := 0) (σ := Go.Ev.start) (fun h => kn5_ok h) rfl (by kernel_rfl) ?_) h
    have T : ∀ {lo hi : Int}, (if w = 2 then (128 : Int) else if w = 3 then 2048 else if w = 4 then 65536 else 0) = lo → (if w = 2 then (2047 : Int) else if w = 3 then 65535 else if w = 4 then 1114111 else 127) = hi →
        ((IntKind.i64 = .i64) ∧ CondP (decide ((if lo > x then lo else x) > (if hi < y then hi else y))) (V.bool false = .bool (amongB x y w)) ((IntKind.i64 = .i64) ∧ CondP (decide ((if lo > x then lo else x) < (55296 : Int))) (V.bool true = .bool (amongB x y w)) ((IntKind.i64 = .i64) ∧ CondP (decide ((if hi < y then hi else y) > (57343 : Int))) (V.bool true = .bool (amongB x y w)) (V.bool false = .bool (amongB x y w))))) := by
      intro lo hi h1 h2
      have e : amongB x y w = decide (¬ ((if lo > x then lo else x) > (if hi < y then hi else y)) ∧ ((if lo > x then lo else x) < (55296 : Int) ∨ (if hi < y then hi else y) > (57343 : Int))) := by
        unfold amongB; rw [h1, h2]
      rw [e]
      refine ⟨rfl, cIf (fun h => ?_) fun h => ⟨rfl, cIf (fun h' => ?_) fun h' => ⟨rfl, cIf (fun h'' => ?_) fun h'' => ?_⟩⟩⟩
      · rw [decide_eq_false fun hh => hh.1 h]
      · rw [decide_eq_true ⟨h, .inl h'⟩]
      · rw [decide_eq_true ⟨h, .inr h''⟩]
      · rw [decide_eq_false fun hh => by rcases hh.2 with h1 | h1 <;> contradiction]
    rw [e275]
    refine ⟨rfl, cIf (fun h1 => ⟨rfl, cIf (fun h2 => ?_) fun h2 => ⟨rfl, cIf (fun h3 => ?_) fun h3 => ?_⟩⟩) fun h1 => ⟨rfl, cIf (fun h2 => ⟨rfl, cIf (fun h3 => ?_) fun h3 => ?_⟩) fun h2 => ⟨rfl, cIf (fun h3 => ?_) fun h3 => ?_⟩⟩⟩
    · omega
    · omega
    · exact T (by rw [if_pos h1]) (by rw [if_pos h1])
    · omega
    · exact T (by rw [if_neg h1, if_pos h2]) (by rw [if_neg h1, if_pos h2])
    · exact T (by rw [if_neg h1, if_neg h2, if_pos h3]) (by rw [if_neg h1, if_neg h2, if_pos h3])
    · exact T (by rw [if_neg h1, if_neg h2, if_neg h3]) (by rw [if_neg h1, if_neg h2, if_neg h3])
  · exact h.elim
theorem kn6_ok : ∀ {f : FuncId} {vs : List V} {σ : St} {k : VPost}, kn6 f vs σ k → CallS Tryz.prog f vs k σ := by
  intro f vs σ k h
  unfold kn6 at h
  split at h
  · rename_i hb; obtain rfl := Nat.eq_of_beq_eq_true hb; exact W275_ok h
  · exact kn5_ok h
end
end Go.Proofs.YtbajncpfmemdgaaGreatDoor
namespace Go.Proofs.YtbajncpfmemdgaaGreatDoor
open Go Go.Ev Go.IntWalk
section
variable [Env] {vs : List V} {σ : St} {k : VPost}
def Pw (i q : Int) : Prop := (i = 1 ∧ q = 1) ∨ (i = 2 ∧ q = 64) ∨ (i = 3 ∧ q = 4096) ∨ (i = 4 ∧ q = 262144)
def I263 (s : List UInt8) : Nat → List SV → Prop
  | 0, ss => ∃ (i q : Int), s.length ≠ 0 ∧ ledw (byteN s 0) ≠ 0 ∧ Pw i q ∧ i ≤ ledw (byteN s 0) ∧ ss = [.val (.str s), .val (.int .i64 (ledw (byteN s 0))), .val (.int .i64 (ledb (byteN s 0))), .val (.int .i64 q), .val (.int .i64 i)]
  | 1, ss => ∃ (r q lo hi : Int) (i : Nat), s.length ≠ 0 ∧ utw (byteN s 0) = ledw (byteN s 0) ∧ 1 ≤ i ∧ (i : Int) ≤ ledw (byteN s 0) ∧ Rg (byteN s 0) (ledw (byteN s 0)) i r q ∧ (i = 1 → lo = utlo (byteN s 0) ∧ hi = uthi (byteN s 0)) ∧ (i ≠ 1 → lo = 128 ∧ hi = 191) ∧
      contB s (utlo (byteN s 0)) (uthi (byteN s 0)) ((utw (byteN s 0)).toNat - 1) 1 = contB s lo hi ((utw (byteN s 0)).toNat - i) i ∧ ss = [.val (.str s), .val (.int .i64 (ledw (byteN s 0))), .val (.int .i64 r), .val (.int .i64 q), .val (.int .i64 i)]
  | _, _ => False
omit [Env] in
theorem ledw_range (c : Int) : 0 ≤ ledw c ∧ ledw c ≤ 4 := by unfold ledw; (repeat' split) <;> omega
omit [Env] in
theorem lohi (c : Int) : (128 ≤ utlo c ∧ uthi c ≤ 191) ∨ utw c = 0 ∨ utw c = 1 := by unfold utlo uthi utw; (repeat' split) <;> omega
theorem W263_ok (h : W263 vs σ k) : CallS Tryz.prog 263 vs k σ := by
  unfold W263 at h
  split at h
  · rename_i s
    refine CallS.oneS (A := A260 s) (fz_cons (Go.Ev.Clean.str _) fz_nil) (A260.scal s)
      (F263.floyd (live := live263) (call := kn6) (n₀ := 0) (σ := Go.Ev.start) (fun h => kn6_ok h) rfl 2 (by kernel_rfl) Nat.lt_wfRel.wf (fun k ss => (if k = 0 then 10 else 5) - lastI ss) (I263 s) ?_ ?_ ?_) fun v hv => by
        rcases hv with ⟨h0, r, rfl⟩ | ⟨h0, e, he, rfl⟩
        · exact h.1 h0 r
        · exact h.2 h0 e he
    · intro k ss hI
      match k, hI with
      | 0, hI => obtain ⟨i, q, _, _, _, _, rfl⟩ := hI; exact sv_str (sv_int (sv_int (sv_int (sv_int sv_nil))))
      | 1, hI => obtain ⟨r, q, lo, hi, i, _, _, _, _, _, _, _, _, rfl⟩ := hI; exact sv_str (sv_int (sv_int (sv_int (sv_int sv_nil))))
    · rw [e263]
      have hb := byteN_range s 0
      refine ⟨rfl, cIf (fun h0 => .bad ?_ (by decide)) fun h0 => ?_⟩
      · rw [len_eq] at h0
        unfold nextI; rw [if_pos (by omega)]
      · rw [len_eq] at h0
        have hl : s.length ≠ 0 := by omega
        have e : IntKind.i64.wrap (byteAt s 0) = byteN s 0 := i64_in _ (by show _ ≤ byteN s 0 ∧ byteN s 0 ≤ _; omega)
        rw [e]
        refine ⟨⟨by decide, by rw [len_eq]; omega⟩, rfl, cIf (fun h1 => .bad ?_ (by decide)) fun h1 => ⟨1, 1, hl, h1, .inl ⟨rfl, rfl⟩, ?_, rfl⟩⟩
        · rw [nextI_eq hl]
          rcases led_cases _ hb with h | h | h | h | h
          · omega
          · omega
          · omega
          · omega
          · rw [h.2]; split <;> rfl
        · have := ledw_range (byteN s 0); omega
    · intro k hk ss hI
      have hb := byteN_range s 0
      have hlr := ledw_range (byteN s 0)
      match k, hk, hI with
      | 0, _, hI =>
        obtain ⟨i, q, hl, h0, hp, hi, rfl⟩ := hI
        rw [r263a]
        refine ⟨rfl, cIf (fun h1 => ?_) fun h1 => ?_⟩
        · have hq : 1 ≤ q ∧ q ≤ 262144 ∧ 1 ≤ i ∧ i ≤ 4 := by unfold Pw at hp; omega
          rw [i64_in (q * 64) (by omega), i64_in (i + 1) (by omega)]
          refine ⟨⟨i + 1, q * 64, hl, h0, ?_, by omega, rfl⟩, ?_⟩
          · unfold Pw at hp ⊢; omega
          · show 10 - (i + 1).toNat < 10 - i.toNat
            omega
        · have hi' : i = ledw (byteN s 0) := by omega
          have hq : (ledw (byteN s 0) = 1 ∧ q = 1) ∨ (ledw (byteN s 0) = 2 ∧ q = 64) ∨ (ledw (byteN s 0) = 3 ∧ q = 4096) ∨ (ledw (byteN s 0) = 4 ∧ q = 262144) := by rw [← hi']; exact hp
          obtain ⟨⟨f1, f2, f3, f4⟩, f5, f6⟩ := first263 hb h0 hq
          rw [i64_in (ledb (byteN s 0) * q) (by omega), i64_in (ledb (byteN s 0) * q + q) (by omega), i64_in (ledb (byteN s 0) * q + q - 1) (by omega)]
          refine CondP.mk (fun hf => .bad ?_ (by decide)) fun ht => ?_
          · have hf : amongB (ledb (byteN s 0) * q) (ledb (byteN s 0) * q + q - 1) (ledw (byteN s 0)) = false := by simpa using hf
            rw [nextI_eq hl, f6 hf]; split <;> rfl
          · have ht : amongB (ledb (byteN s 0) * q) (ledb (byteN s 0) * q + q - 1) (ledw (byteN s 0)) = true := by simpa using ht
            obtain ⟨g1, g2⟩ := f5 ht
            refine ⟨⟨_, _, utlo (byteN s 0), uthi (byteN s 0), 1, hl, g1, by omega, by omega, g2, fun _ => ⟨rfl, rfl⟩, fun h => absurd rfl h, rfl, rfl⟩, ?_⟩
            show 5 - 1 < 10 - i.toNat
            omega
      | 1, _, hI =>
        obtain ⟨r, q, lo, hi, i, hl, hu, h1, h2, hg, hlo, hhi, hc, rfl⟩ := hI
        have hw := utw_range (byteN s 0)
        rw [r263b]
        refine ⟨rfl, cIf (fun h3 => ?_) fun h3 => ?_⟩
        · obtain ⟨m, hm⟩ : ∃ m, (utw (byteN s 0)).toNat - i = m + 1 := ⟨(utw (byteN s 0)).toNat - i - 1, by omega⟩
          rw [hm, contB_succ] at hc
          have bad : ¬ (i < s.length ∧ lo ≤ byteN s i ∧ byteN s i ≤ hi) → nextI s = 0 := fun hn => by
            rw [nextI_eq hl, hc, decide_eq_false hn, Bool.false_and, if_neg (by simp)]
          have hin : 128 ≤ lo ∧ hi ≤ 191 := by
            by_cases e : i = 1
            · obtain ⟨rfl, rfl⟩ := hlo e
              rcases lohi (byteN s 0) with h | h | h <;> omega
            · obtain ⟨rfl, rfl⟩ := hhi e
              omega
          refine ⟨rfl, cIf (fun h4 => .bad (bad fun hh => ?_) (by decide)) fun h4 => ?_⟩
          · rw [len_eq] at h4; omega
          · rw [len_eq] at h4
            have hbi := byteN_range s i
            have e : IntKind.i64.wrap (byteAt s i) = byteN s i := i64_in _ (by show _ ≤ byteN s i ∧ byteN s i ≤ _; omega)
            rw [e]
            refine ⟨⟨by omega, by rw [len_eq]; omega⟩, rfl, cIf (fun h5 => .bad (bad fun hh => ?_) (by decide)) fun h5 => ⟨rfl, cIf (fun h6 => .bad (bad fun hh => ?_) (by decide)) fun h6 => ⟨⟨rfl, by decide⟩, ?_⟩⟩⟩
            · omega
            · omega
            · obtain ⟨q', s0, s1, s2, s3, s4, s5⟩ := step263 (b := byteN s i) hb hu rfl hg h3 ⟨by omega, by omega⟩
              rw [s0, i64_in (r * 64) (by omega), i64_in (r * 64 + byteN s i) (by omega), i64_in (r * 64 + byteN s i - 128) (by omega), i64_in q' (by omega), i64_in ((r * 64 + byteN s i - 128) * q') (by omega),
                i64_in ((r * 64 + byteN s i - 128) * q' + q') (by omega), i64_in ((r * 64 + byteN s i - 128) * q' + q' - 1) (by omega), i64_in ((i : Int) + 1) (by omega)]
              refine CondP.mk (fun hf => .bad (bad fun hh => ?_) (by decide)) fun ht => ?_
              · have hf : amongB ((r * 64 + byteN s i - 128) * q') ((r * 64 + byteN s i - 128) * q' + q' - 1) (ledw (byteN s 0)) = false := by simpa using hf
                rw [Bool.eq_false_iff, ne_eq, s4] at hf
                refine hf fun e => ?_
                obtain ⟨rfl, rfl⟩ := hlo (by omega)
                exact hh.2
              · have ht : amongB ((r * 64 + byteN s i - 128) * q') ((r * 64 + byteN s i - 128) * q' + q' - 1) (ledw (byteN s 0)) = true := by simpa using ht
                have hin2 : i < s.length ∧ lo ≤ byteN s i ∧ byteN s i ≤ hi := by
                  refine ⟨by omega, ?_⟩
                  by_cases e : i = 1
                  · obtain ⟨rfl, rfl⟩ := hlo e
                    exact s4.1 ht (by omega)
                  · obtain ⟨rfl, rfl⟩ := hhi e
                    omega
                have hc' : contB s (utlo (byteN s 0)) (uthi (byteN s 0)) ((utw (byteN s 0)).toNat - 1) 1 = contB s 128 191 ((utw (byteN s 0)).toNat - (i + 1)) (i + 1) := by
                  rw [hc, decide_eq_true hin2, Bool.true_and, show (utw (byteN s 0)).toNat - (i + 1) = m by omega]
                refine ⟨⟨_, _, 128, 191, i + 1, hl, hu, by omega, by omega, s5 ht, fun h => by omega, fun _ => ⟨rfl, rfl⟩, hc', rfl⟩, ?_⟩
                show 5 - ((i : Int) + 1).toNat < 5 - (i : Int).toNat
                omega
        · refine .good ?_ (by omega)
          rw [nextI_eq hl, hc, show (utw (byteN s 0)).toNat - i = 0 by omega]
          exact hu
  · exact h.elim
theorem kn7_ok : ∀ {f : FuncId} {vs : List V} {σ : St} {k : VPost}, kn7 f vs σ k → CallS Tryz.prog f vs k σ := by
  intro f vs σ k h
  unfold kn7 at h
  split at h
  · rename_i hb; obtain rfl := Nat.eq_of_beq_eq_true hb; exact W263_ok h
  · exact kn6_ok h
def I238 (s : List UInt8) : Nat → List SV → Prop
  | 0, ss => ∃ (i : Int) (j : Nat), 0 ≤ i ∧ i ≤ j ∧ j ≤ s.length ∧ utfB s.length s = utfB (s.drop j).length (s.drop j) ∧ ss = [.val (.str s), .val (.int .i64 i), .val (.int .i64 j)]
  | _, _ => False
theorem W238_ok (h : W238 vs σ k) : CallS Tryz.prog 238 vs k σ := by
  unfold W238 at h
  split at h
  · rename_i s
    obtain ⟨hs, h⟩ := h
    refine CallS.oneS (A := A235 s) (fz_cons (Go.Ev.Clean.str _) fz_nil) (fun v hv => by obtain ⟨c, _, rfl⟩ := hv; exact .int _ _)
      (F238.floyd (live := live238) (call := kn7) (n₀ := 0) (σ := Go.Ev.start) (fun h => kn7_ok h) rfl 1 (by kernel_rfl) Nat.lt_wfRel.wf (fun _ ss => 65 - lastI ss) (I238 s) ?_ ?_ ?_) fun v hv => by obtain ⟨c, hc, rfl⟩ := hv; exact h c hc
    · intro k ss hI
      cases k with
      | zero => obtain ⟨i, j, _, _, _, _, rfl⟩ := hI; exact sv_str (sv_int (sv_int sv_nil))
      | succ k => exact hI.elim
    · rw [e238]
      exact ⟨0, 0, by omega, by omega, by omega, rfl, rfl⟩
    · intro k hk ss hI
      obtain rfl : k = 0 := by omega
      obtain ⟨i, j, h0, h1, h2, he, rfl⟩ := hI
      have hd : dropOf ((j : Nat) : Int).toNat (takeOf s ((len s : Nat) : Int).toNat) = s.drop j := by
        rw [dropOf_eq, takeOf_eq, len_eq, Int.toNat_natCast, Int.toNat_natCast, List.take_length]
      rw [r238, hd]
      have hn := nextI_le (s.drop j)
      have hdl : (s.drop j).length = s.length - j := List.length_drop
      refine ⟨rfl, cIf (fun h3 => ?_) fun h3 => ?_⟩
      · rw [len_eq] at h3
        refine ⟨⟨by omega, by rw [len_eq]; omega, by omega⟩, fun hne r => ⟨rfl, ?_⟩, fun hz e hne => ⟨rfl, cIf (fun _ => ?_) fun hh => absurd hne hh⟩⟩
        · obtain ⟨w, hw⟩ : ∃ w : Nat, nextI (s.drop j) = w := ⟨(nextI (s.drop j)).toNat, by omega⟩
          rw [hw] at hn hne ⊢
          rw [i64_in (i + 1) (by omega), i64_in ((j : Int) + w) (by omega)]
          refine ⟨⟨i + 1, j + w, by omega, by omega, by omega, ?_, rfl⟩, ?_⟩
          · have := utfB_step (s := s.drop j) (by omega) (by rw [hw]; exact hne)
            rw [he, this, hw, Int.toNat_natCast, List.drop_drop]
          · show 65 - ((j : Int) + w).toNat < 65 - (j : Int).toNat
            omega
        · refine ⟨-1, ⟨fun h => by omega, fun h => ?_⟩, rfl⟩
          rw [he, utfB_none (Nat.le_refl _) (by omega) hz] at h; cases h
      · rw [len_eq] at h3
        have : s.drop j = [] := List.eq_nil_of_length_eq_zero (by omega)
        exact ⟨i, ⟨fun _ => by rw [he, this]; rfl, fun _ => h0⟩, rfl⟩
  · exact h.elim
theorem kn8_ok : ∀ {f : FuncId} {vs : List V} {σ : St} {k : VPost}, kn8 f vs σ k → CallS Tryz.prog f vs k σ := by
  intro f vs σ k h
  unfold kn8 at h
  split at h
  · rename_i hb; obtain rfl := Nat.eq_of_beq_eq_true hb; exact W238_ok h
  · exact kn7_ok h
theorem W203_ok (h : W203 vs σ k) : CallS Tryz.prog 203 vs k σ := by
  unfold W203 at h
  split at h
  · rename_i s
    obtain ⟨hs, h⟩ := h
    refine CallS.oneV (fz_cons (Go.Ev.Clean.str _) fz_nil) (.bool _) (F203.flat (live := live203) (call := kn8) (n₀ := 0) (σ := Go.Ev.start) (fun h => kn8_ok h) rfl (by kernel_rfl) ?_) h
    rw [e203]
    refine ⟨hs, fun c hc => ⟨rfl, cIf (fun h1 => ?_) fun h1 => ?_⟩⟩
    · rw [hc.1 h1]
    · have : utfB s.length s = false := by
        cases hb : utfB s.length s with
        | false => rfl
        | true => exact absurd (hc.2 hb) h1
      rw [this]
  · exact h.elim
theorem kn9_ok : ∀ {f : FuncId} {vs : List V} {σ : St} {k : VPost}, kn9 f vs σ k → CallS Tryz.prog f vs k σ := by
  intro f vs σ k h
  unfold kn9 at h
  split at h
  · rename_i hb; obtain rfl := Nat.eq_of_beq_eq_true hb; exact W203_ok h
  · exact kn8_ok h
end
end Go.Proofs.YtbajncpfmemdgaaGreatDoor
namespace Go.Proofs.YtbajncpfmemdgaaGreatDoor
open Go Go.Ev Go.IntWalk
theorem F194 : FnF Tryz.prog 194 Tryz.f194 := ⟨by kernel_rfl, by kernel_rfl, by kernel_rfl, by kernel_rfl, by kernel_rfl⟩
theorem F261 : FnF Tryz.prog 261 Tryz.f261 := ⟨by kernel_rfl, by kernel_rfl, by kernel_rfl, by kernel_rfl, by kernel_rfl⟩
theorem F262 : FnF Tryz.prog 262 Tryz.f262 := ⟨by kernel_rfl, by kernel_rfl, by kernel_rfl, by kernel_rfl, by kernel_rfl⟩
theorem F237 : FnF Tryz.prog 237 Tryz.f237 := ⟨by kernel_rfl, by kernel_rfl, by kernel_rfl, by kernel_rfl, by kernel_rfl⟩
theorem F202 : FnF Tryz.prog 202 Tryz.f202 := ⟨by kernel_rfl, by kernel_rfl, by kernel_rfl, by kernel_rfl, by kernel_rfl⟩
theorem wrap_u64 (n : Int) : IntKind.u64.wrap n = n % 18446744073709551616 := by
  unfold IntKind.wrap
  show (if (false && _) = true then _ else _) = _
  rfl
theorem maskU (y : Int) (n : Nat) (m : Int) (hm : (m % (2 ^ 64 : Nat)).toNat = 2 ^ n - 1) (hn : n ≤ 63) (hy : 0 ≤ y ∧ y < 18446744073709551616) : IntKind.u64.wrap (BitVec.ofInt IntKind.u64.bits y &&& BitVec.ofInt IntKind.u64.bits m).toNat = y % (2 ^ n : Nat) := by
  have h1 : (BitVec.ofInt IntKind.u64.bits y &&& BitVec.ofInt IntKind.u64.bits m).toNat = y.toNat % 2 ^ n := by
    have e : IntKind.u64.bits = 64 := rfl
    rw [BitVec.toNat_and, BitVec.toNat_ofInt, BitVec.toNat_ofInt]
    show (y % (2 ^ 64 : Nat)).toNat &&& (m % (2 ^ 64 : Nat)).toNat = _
    rw [hm, Nat.and_two_pow_sub_one_eq_mod]
    congr 2
    exact Int.emod_eq_of_lt hy.1 hy.2
  have hlt : y.toNat % 2 ^ n < 2 ^ 63 := Nat.lt_of_lt_of_le (Nat.mod_lt _ (Nat.pow_pos (by decide))) (Nat.pow_le_pow_right (by decide) hn)
  rw [h1, wrap_u64, Int.emod_eq_of_lt (by omega) (by have : (2 : Nat) ^ 63 = 9223372036854775808 := rfl; omega), Int.natCast_emod]
  congr 1
  exact Int.toNat_of_nonneg hy.1
theorem order_self (x : Nat) : (FloatKind.f64.format.order x x != some .eq) = decide (9218868437227405312 < x % 9223372036854775808) := by
  show ((Ieee.double.read x).order (Ieee.double.read x) != some .eq) = _
  have h1 : Ieee.double.signWeight = 9223372036854775808 := by decide
  have h2 : Ieee.double.binade = 4503599627370496 := by decide
  have h3 : Ieee.double.infRung = 9218868437227405312 := by decide
  have num : ∀ (s : Bool) (m : Nat) (i : Int), ((Ieee.Datum.number s m i).order (.number s m i) != some .eq) = false := by
    intro s m i
    show (some (compare _ _) != some .eq) = false
    rw [show ∀ a : Int, compare a a = .eq from fun a => by simp [compare, compareOfLessAndEq]]
    rfl
  unfold Ieee.Format.read
  rw [h1, h2, h3]
  dsimp only
  split
  · rw [num, decide_eq_false (by omega)]
  · split
    · rw [num, decide_eq_false (by omega)]
    · split
      · rw [decide_eq_false (by omega)]
        show (some (compare _ _) != some .eq) = false
        rw [show ∀ a : Nat, compare a a = .eq from fun a => by simp [compare, compareOfLessAndEq]]
        rfl
      · rw [decide_eq_true (by omega)]; rfl
theorem nan_iff (x : Int) (h : 0 ≤ x ∧ x < 18446744073709551616) : nanP x ↔ 9218868437227405312 < x.toNat % 9223372036854775808 := by
  unfold nanP expoI fracI
  omega
section
variable [Env] {vs : List V} {σ : St} {k : VPost}
theorem W194_ok (h : W194 vs σ k) : CallS Tryz.prog 194 vs k σ := by
  unfold W194 at h
  split at h
  · rename_i x
    obtain ⟨hx, h⟩ := h
    refine CallS.oneV (fz_cons (Go.Ev.Clean.int _ _) fz_nil) (.int _ _) (F194.flat (live := live194) (call := kn9) (n₀ := 0) (σ := Go.Ev.start) (fun h => kn9_ok h) rfl (by kernel_rfl) ?_) h
    rw [e194, order_self]
    unfold canonI
    refine cIf (fun h1 => ?_) fun h1 => ?_
    · rw [if_pos ((nan_iff x hx).2 h1)]
    · rw [if_neg fun hh => h1 ((nan_iff x hx).1 hh)]
  · exact h.elim
theorem kn10_ok : ∀ {f : FuncId} {vs : List V} {σ : St} {k : VPost}, kn10 f vs σ k → CallS Tryz.prog f vs k σ := by
  intro f vs σ k h
  unfold kn10 at h
  split at h
  · rename_i hb; obtain rfl := Nat.eq_of_beq_eq_true hb; exact W194_ok h
  · exact kn9_ok h
theorem W261_ok (h : W261 vs σ k) : CallS Tryz.prog 261 vs k σ := by
  unfold W261 at h
  split at h
  · rename_i x
    obtain ⟨hx, h⟩ := h
    refine CallS.oneV (fz_cons (Go.Ev.Clean.int _ _) fz_nil) (.int _ _) (F261.flat (live := live261) (call := kn10) (n₀ := 0) (σ := Go.Ev.start) (fun h => kn10_ok h) rfl (by kernel_rfl) ?_) h
    rw [e261]
    have hd : x.fdiv (2 ^ min (52 : Int).toNat IntKind.u64.bits) = x / 4503599627370496 := by
      rw [Int.fdiv_eq_ediv_of_nonneg x (by decide)]; rfl
    rw [hd, maskU _ 11 2047 (by decide) (by decide) (by omega), i64_in _ (by omega)]
    exact ⟨by decide, rfl⟩
  · exact h.elim
theorem kn11_ok : ∀ {f : FuncId} {vs : List V} {σ : St} {k : VPost}, kn11 f vs σ k → CallS Tryz.prog f vs k σ := by
  intro f vs σ k h
  unfold kn11 at h
  split at h
  · rename_i hb; obtain rfl := Nat.eq_of_beq_eq_true hb; exact W261_ok h
  · exact kn10_ok h
theorem W262_ok (h : W262 vs σ k) : CallS Tryz.prog 262 vs k σ := by
  unfold W262 at h
  split at h
  · rename_i x
    obtain ⟨hx, h⟩ := h
    refine CallS.oneV (fz_cons (Go.Ev.Clean.int _ _) fz_nil) (.int _ _) (F262.flat (live := live262) (call := kn11) (n₀ := 0) (σ := Go.Ev.start) (fun h => kn11_ok h) rfl (by kernel_rfl) ?_) h
    rw [e262, maskU _ 52 4503599627370495 (by decide) (by decide) (by omega)]
    rfl
  · exact h.elim
theorem kn12_ok : ∀ {f : FuncId} {vs : List V} {σ : St} {k : VPost}, kn12 f vs σ k → CallS Tryz.prog f vs k σ := by
  intro f vs σ k h
  unfold kn12 at h
  split at h
  · rename_i hb; obtain rfl := Nat.eq_of_beq_eq_true hb; exact W262_ok h
  · exact kn11_ok h
theorem W237_ok (h : W237 vs σ k) : CallS Tryz.prog 237 vs k σ := by
  unfold W237 at h
  split at h
  · rename_i x
    obtain ⟨hx, h⟩ := h
    refine CallS.oneS (A := fun v => ∃ c : Int, (c = 1 ↔ nanP x) ∧ v = .int .i64 c) (fz_cons (Go.Ev.Clean.int _ _) fz_nil) (fun v hv => by obtain ⟨c, _, rfl⟩ := hv; exact .int _ _)
      (F237.flat (live := live237) (call := kn12) (n₀ := 0) (σ := Go.Ev.start) (fun h => kn12_ok h) rfl (by kernel_rfl) ?_) fun v hv => by obtain ⟨c, hc, rfl⟩ := hv; exact h c hc
    rw [e237]
    have no : ∀ c : Int, c ≠ 1 → ¬ nanP x → ∃ c', (c' = 1 ↔ nanP x) ∧ V.int .i64 c = .int .i64 c' := fun c h1 h2 => ⟨c, ⟨fun h => absurd h h1, fun h => absurd h h2⟩, rfl⟩
    refine ⟨hx, rfl, cIf (fun h1 => ⟨hx, rfl, cIf (fun h2 => ⟨1, ⟨fun _ => ⟨h1, h2⟩, fun _ => rfl⟩, rfl⟩) fun h2 => ?_⟩) fun h1 => ?_⟩
    · have hn : ¬ nanP x := fun hh => h2 hh.2
      exact ⟨hx, rfl, cIf (fun _ => no _ (by decide) hn) fun _ => ⟨hx, rfl, cIf (fun _ => ⟨hx, rfl, cIf (fun _ => no _ (by decide) hn) fun _ => ⟨hx, rfl, cIf (fun _ => no _ (by decide) hn) fun _ => no _ (by decide) hn⟩⟩) fun _ => ⟨hx, rfl, cIf (fun _ => no _ (by decide) hn) fun _ => no _ (by decide) hn⟩⟩⟩
    · have hn : ¬ nanP x := fun hh => h1 hh.1
      exact ⟨hx, rfl, cIf (fun _ => no _ (by decide) hn) fun _ => ⟨hx, rfl, cIf (fun _ => ⟨hx, rfl, cIf (fun _ => no _ (by decide) hn) fun _ => ⟨hx, rfl, cIf (fun _ => no _ (by decide) hn) fun _ => no _ (by decide) hn⟩⟩) fun _ => ⟨hx, rfl, cIf (fun _ => no _ (by decide) hn) fun _ => no _ (by decide) hn⟩⟩⟩
  · exact h.elim
theorem kn13_ok : ∀ {f : FuncId} {vs : List V} {σ : St} {k : VPost}, kn13 f vs σ k → CallS Tryz.prog f vs k σ := by
  intro f vs σ k h
  unfold kn13 at h
  split at h
  · rename_i hb; obtain rfl := Nat.eq_of_beq_eq_true hb; exact W237_ok h
  · exact kn12_ok h
theorem W202_ok (h : W202 vs σ k) : CallS Tryz.prog 202 vs k σ := by
  unfold W202 at h
  split at h
  · rename_i x
    obtain ⟨hx, h⟩ := h
    refine CallS.oneV (fz_cons (Go.Ev.Clean.int _ _) fz_nil) (.int _ _) (F202.flat (live := live202) (call := kn13) (n₀ := 0) (σ := Go.Ev.start) (fun h => kn13_ok h) rfl (by kernel_rfl) ?_) h
    rw [e202]
    unfold canonI
    refine ⟨hx, fun c hc => ⟨rfl, cIf (fun h1 => ?_) fun h1 => ?_⟩⟩
    · rw [if_pos (hc.1 h1)]
    · rw [if_neg fun hh => h1 (hc.2 hh)]
  · exact h.elim
theorem kn14_ok : ∀ {f : FuncId} {vs : List V} {σ : St} {k : VPost}, kn14 f vs σ k → CallS Tryz.prog f vs k σ := by
  intro f vs σ k h
  unfold kn14 at h
  split at h
  · rename_i hb; obtain rfl := Nat.eq_of_beq_eq_true hb; exact W202_ok h
  · exact kn13_ok h
end
end Go.Proofs.YtbajncpfmemdgaaGreatDoor
namespace Go.Proofs.YtbajncpfmemdgaaGreatDoor
open Go Go.Ev Go.IntWalk
theorem F193 : FnF Tryz.prog 193 Tryz.f193 := ⟨by kernel_rfl, by kernel_rfl, by kernel_rfl, by kernel_rfl, by kernel_rfl⟩
theorem F148 : FnF Tryz.prog 148 Tryz.f148 := ⟨by kernel_rfl, by kernel_rfl, by kernel_rfl, by kernel_rfl, by kernel_rfl⟩
theorem F153 : FnF Tryz.prog 153 Tryz.f153 := ⟨by kernel_rfl, by kernel_rfl, by kernel_rfl, by kernel_rfl, by kernel_rfl⟩
theorem canon0 : canonI 0 = 0 := by decide
theorem only_f1 (v : T46) : (onlyV v).f1 = v.f1 ↔ (v.f1 = 0 ∨ v.f0 = 1 ∨ v.f0 = 2) := by
  unfold onlyV; (repeat' split) <;> simp_all <;> omega
theorem only_f2 (v : T46) : (onlyV v).f2 = v.f2 ↔ (v.f2 = 0 ∨ v.f0 = 3) := by
  unfold onlyV; (repeat' split) <;> simp_all <;> omega
theorem only_f3 (v : T46) : (onlyV v).f3 = v.f3 ↔ (v.f3 = [] ∨ v.f0 = 4 ∨ v.f0 = 5) := by
  unfold onlyV
  (repeat' split)
  · exact ⟨fun h => .inl h.symm, fun h => by rcases h with h | h | h <;> first | exact h.symm | omega⟩
  · exact ⟨fun h => .inl h.symm, fun h => by rcases h with h | h | h <;> first | exact h.symm | omega⟩
  · rename_i h; exact ⟨fun _ => .inr h, fun _ => rfl⟩
  · exact ⟨fun h => .inl h.symm, fun h => by rcases h with h | h | h <;> first | exact h.symm | omega⟩
theorem only_f0 (v : T46) : (onlyV v).f0 = v.f0 := by
  unfold onlyV; (repeat' split) <;> rfl
theorem ve5 {v : T46} (h : v.f0 < 0 ∨ v.f0 ≥ 6) : valErr v = 5 := if_pos h
theorem ve4 {v : T46} (h : ¬ (v.f0 < 0 ∨ v.f0 ≥ 6)) (h1 : ¬ onlyOk v) : valErr v = 4 := by unfold valErr; rw [if_neg h, if_pos h1]
theorem ve6 {v : T46} (h : ¬ (v.f0 < 0 ∨ v.f0 ≥ 6)) (h1 : onlyOk v) (h2 : v.f0 = 1 ∧ v.f1 ≠ 0 ∧ v.f1 ≠ 1) : valErr v = 6 := by unfold valErr; rw [if_neg h, if_neg (fun hh => hh h1), if_pos h2]
theorem ve4c {v : T46} (h : ¬ (v.f0 < 0 ∨ v.f0 ≥ 6)) (h1 : onlyOk v) (h2 : ¬ (v.f0 = 1 ∧ v.f1 ≠ 0 ∧ v.f1 ≠ 1)) (h3 : canonI v.f2 ≠ v.f2) : valErr v = 4 := by unfold valErr; rw [if_neg h, if_neg (fun hh => hh h1), if_neg h2, if_pos h3]
theorem ve2 {v : T46} (h : ¬ (v.f0 < 0 ∨ v.f0 ≥ 6)) (h1 : onlyOk v) (h2 : ¬ (v.f0 = 1 ∧ v.f1 ≠ 0 ∧ v.f1 ≠ 1)) (h3 : canonI v.f2 = v.f2) (h4 : v.f3.length > 64) : valErr v = 2 := by
  unfold valErr; rw [if_neg h, if_neg (fun hh => hh h1), if_neg h2, if_neg (fun hh => hh h3), if_pos h4]
theorem ve7 {v : T46} (h : ¬ (v.f0 < 0 ∨ v.f0 ≥ 6)) (h1 : onlyOk v) (h2 : ¬ (v.f0 = 1 ∧ v.f1 ≠ 0 ∧ v.f1 ≠ 1)) (h3 : canonI v.f2 = v.f2) (h4 : ¬ v.f3.length > 64) (h5 : v.f0 = 5) (h6 : utfB v.f3.length v.f3 = false) : valErr v = 7 := by
  unfold valErr; rw [if_neg h, if_neg (fun hh => hh h1), if_neg h2, if_neg (fun hh => hh h3), if_neg h4, if_pos ⟨h5, h6⟩]
theorem ve0 {v : T46} (h : ¬ (v.f0 < 0 ∨ v.f0 ≥ 6)) (h1 : onlyOk v) (h2 : ¬ (v.f0 = 1 ∧ v.f1 ≠ 0 ∧ v.f1 ≠ 1)) (h3 : canonI v.f2 = v.f2) (h4 : ¬ v.f3.length > 64) (h5 : ¬ (v.f0 = 5 ∧ utfB v.f3.length v.f3 = false)) : valErr v = 0 := by
  unfold valErr; rw [if_neg h, if_neg (fun hh => hh h1), if_neg h2, if_neg (fun hh => hh h3), if_neg h4, if_neg h5]
theorem veq {v : T46} {c : Int} (h : valErr v = c) : V.int .i64 c = .int .i64 (valErr v) := by rw [h]
section
variable [Env] {vs : List V} {σ : St} {k : VPost}
theorem W193_ok (h : W193 vs σ k) : CallS Tryz.prog 193 vs k σ := by
  unfold W193 at h
  split at h
  · rename_i a b c s
    have hs : ∀ e : T46, Scal (T46.enc e) := fun e => .agg (sc_cons (.int _ _) (sc_cons (.int _ _) (sc_cons (.int _ _) (sc_cons (.str _) sc_nil))))
    refine CallS.oneV (us := [T46.enc ⟨a, b, c, s⟩]) (fz_cons (T46.enc_clean ⟨a, b, c, s⟩) fz_nil) (hs (onlyV ⟨a, b, c, s⟩)) (F193.flat (live := live193) (call := kn14) (n₀ := 0) (σ := Go.Ev.start) (fun h => kn14_ok h) rfl (by kernel_rfl) ?_) h
    rw [e193]
    unfold onlyV
    refine ⟨rfl, cIf (fun h1 => ?_) fun h1 => ⟨rfl, cIf (fun h2 => ?_) fun h2 => ⟨rfl, cIf (fun h3 => ?_) fun h3 => ⟨rfl, cIf (fun h4 => ?_) fun h4 => ⟨rfl, cIf (fun h5 => ?_) fun h5 => ?_⟩⟩⟩⟩⟩
    · rw [if_pos (.inl h1)]; rfl
    · rw [if_pos (.inr h2)]; rfl
    · rw [if_neg (by simp_all), if_pos h3]; rfl
    · rw [if_neg (by simp_all), if_neg h3, if_pos (.inl h4)]; rfl
    · rw [if_neg (by simp_all), if_neg h3, if_pos (.inr h5)]; rfl
    · rw [if_neg (by simp_all), if_neg h3, if_neg (by simp_all)]; rfl
  · exact h.elim
theorem kn15_ok : ∀ {f : FuncId} {vs : List V} {σ : St} {k : VPost}, kn15 f vs σ k → CallS Tryz.prog f vs k σ := by
  intro f vs σ k h
  unfold kn15 at h
  split at h
  · rename_i hb; obtain rfl := Nat.eq_of_beq_eq_true hb; exact W193_ok h
  · exact kn14_ok h
theorem W148_ok (h : W148 vs σ k) : CallS Tryz.prog 148 vs k σ := by
  unfold W148 at h
  split at h
  · rename_i a b c s
    obtain ⟨hc, h⟩ := h
    refine CallS.oneV (us := [T46.enc ⟨a, b, c, s⟩]) (fz_cons (T46.enc_clean ⟨a, b, c, s⟩) fz_nil) (.int _ _) (F148.flat (live := live148) (call := kn15) (n₀ := 0) (σ := Go.Ev.start) (fun h => kn15_ok h) rfl (by kernel_rfl) ?_) h
    generalize he : (⟨a, b, c, s⟩ : T46) = e
    have hc' : 0 ≤ e.f2 ∧ e.f2 < 18446744073709551616 := by subst he; exact hc
    have hb : ∀ {A : Prop}, A → CondP (V.beq (.agg [.int .i64 e.f0, .int .i64 e.f1, .int .u64 e.f2, .str e.f3]) (.agg [.int .i64 e.f0, .int .i64 e.f1, .int .u64 e.f2, .str e.f3]) && true) A False := fun hA => CondP.mk (fun _ => hA) fun h => by simp [V.beq, V.beqs] at h
    have hb2 : ∀ {A : Prop}, A → CondP (V.beq (.int .u64 e.f2) (.int .u64 e.f2) && true) A False := fun hA => CondP.mk (fun _ => hA) fun h => by simp [V.beq] at h
    rw [e148]
    refine ⟨rfl, cIf (fun h1 => veq (ve5 (.inl h1))) fun h1 => ⟨rfl, cIf (fun h2 => veq (ve5 (.inr h2))) fun h2 => hb ?_⟩⟩
    have h0 : ¬ (e.f0 < 0 ∨ e.f0 ≥ 6) := by omega
    refine ⟨rfl, cIf (fun _ => ⟨rfl, cIf (fun a1 => ⟨rfl, cIf (fun a2 => cIf (fun a3 => ?_) fun a3 => ?_) fun a2 => ?_⟩) fun a1 => ?_⟩) fun a0 => absurd (only_f0 e) a0⟩
    · have ho : onlyOk e := ⟨(only_f1 e).1 a1, (only_f2 e).1 a2, (only_f3 e).1 a3⟩
      refine ⟨rfl, cIf (fun k1 => ⟨rfl, cIf (fun k2 => ⟨rfl, cIf (fun k3 => veq (ve6 h0 ho ⟨k1, k2, k3⟩)) fun k3 => ?_⟩) fun k2 => ?_⟩) fun k1 => ?_⟩
      all_goals have hk : ¬ (e.f0 = 1 ∧ e.f1 ≠ 0 ∧ e.f1 ≠ 1) := by omega
      all_goals refine ⟨hc', hb2 ⟨rfl, cIf (fun c1 => veq (ve4c h0 ho hk c1)) fun c1 => ⟨rfl, cIf (fun c2 => ?_) fun c2 => ⟨rfl, cIf (fun c3 => ⟨?_, CondP.mk (fun c4 => ?_) fun c4 => ?_⟩) fun c3 => ?_⟩⟩⟩⟩
      all_goals have c1 := Decidable.not_not.1 c1
      all_goals (rw [len_eq] at c2)
      all_goals first
        | exact veq (ve2 h0 ho hk c1 (by omega))
        | (show e.f3.length ≤ 64; omega)
        | exact veq (ve7 h0 ho hk c1 (by omega) c3 (by simpa using c4))
        | exact veq (ve0 h0 ho hk c1 (by omega) fun hh => by rw [hh.2] at c4; cases c4)
        | exact veq (ve0 h0 ho hk c1 (by omega) fun hh => c3 hh.1)
    · exact veq (ve4 h0 fun ho => a3 ((only_f3 e).2 ho.2.2))
    · exact veq (ve4 h0 fun ho => a2 ((only_f2 e).2 ho.2.1))
    · exact veq (ve4 h0 fun ho => a1 ((only_f1 e).2 ho.1))
  · exact h.elim
theorem kn16_ok : ∀ {f : FuncId} {vs : List V} {σ : St} {k : VPost}, kn16 f vs σ k → CallS Tryz.prog f vs k σ := by
  intro f vs σ k h
  unfold kn16 at h
  split at h
  · rename_i hb; obtain rfl := Nat.eq_of_beq_eq_true hb; exact W148_ok h
  · exact kn15_ok h
theorem W153_ok (h : W153 vs σ k) : CallS Tryz.prog 153 vs k σ := by
  unfold W153 at h
  split at h
  · rename_i a b c s
    obtain ⟨hc, h⟩ := h
    refine CallS.oneV (us := [T46.enc ⟨a, b, c, s⟩]) (fz_cons (T46.enc_clean ⟨a, b, c, s⟩) fz_nil) (.int _ _) (F153.flat (live := live153) (call := kn16) (n₀ := 0) (σ := Go.Ev.start) (fun h => kn16_ok h) rfl (by kernel_rfl) ?_) h
    generalize he : (⟨a, b, c, s⟩ : T46) = e
    have hc' : 0 ≤ e.f2 ∧ e.f2 < 18446744073709551616 := by subst he; exact hc
    have hb2 : ∀ {A : Prop}, A → CondP (V.beq (.int .u64 e.f2) (.int .u64 e.f2) && true) A False := fun hA => CondP.mk (fun _ => hA) fun h => by simp [V.beq] at h
    have five : e.f0 < 0 ∨ e.f0 ≥ 6 → V.int .i64 5 = .int .i64 (valErr e) := fun h => veq (ve5 h)
    -- what stands behind the first two questions
    have four : ¬ (e.f0 < 0 ∨ e.f0 ≥ 6) → ¬ onlyOk e → V.int .i64 4 = .int .i64 (valErr e) := fun h h1 => veq (ve4 h h1)
    have tail : ¬ (e.f0 < 0 ∨ e.f0 ≥ 6) → onlyOk e → ¬ (e.f0 = 1 ∧ e.f1 ≠ 0 ∧ e.f1 ≠ 1) → canonI e.f2 = e.f2 → (IntKind.i64 = .i64) ∧ CondP (decide (((len e.f3 : Nat) : Int) > (64 : Int))) (V.int .i64 2 = .int .i64 (valErr e))
        ((IntKind.i64 = .i64) ∧ CondP (decide (e.f0 = (5 : Int))) (e.f3.length ≤ 64 ∧ CondP (!(utfB e.f3.length e.f3)) (V.int .i64 7 = .int .i64 (valErr e)) (V.int .i64 0 = .int .i64 (valErr e))) (V.int .i64 0 = .int .i64 (valErr e))) := by
      intro h0 ho hk c1
      refine ⟨rfl, cIf (fun c2 => ?_) fun c2 => ⟨rfl, cIf (fun c3 => ⟨?_, CondP.mk (fun c4 => ?_) fun c4 => ?_⟩) fun c3 => ?_⟩⟩
      all_goals (rw [len_eq] at c2)
      · exact veq (ve2 h0 ho hk c1 (by omega))
      · omega
      · exact veq (ve7 h0 ho hk c1 (by omega) c3 (by simpa using c4))
      · exact veq (ve0 h0 ho hk c1 (by omega) fun hh => by rw [hh.2] at c4; cases c4)
      · exact veq (ve0 h0 ho hk c1 (by omega) fun hh => c3 hh.1)
    have canon : ¬ (e.f0 < 0 ∨ e.f0 ≥ 6) → onlyOk e → ¬ (e.f0 = 1 ∧ e.f1 ≠ 0 ∧ e.f1 ≠ 1) → (IntKind.i64 = .i64) ∧ CondP (decide (e.f0 = (3 : Int))) ((0 ≤ e.f2 ∧ e.f2 < 18446744073709551616) ∧ CondP (V.beq (.int .u64 e.f2) (.int .u64 e.f2) && true) ((IntKind.u64 = .u64) ∧ CondP (decide (canonI e.f2 ≠ e.f2)) (V.int .i64 4 = .int .i64 (valErr e))
        ((IntKind.i64 = .i64) ∧ CondP (decide (((len e.f3 : Nat) : Int) > (64 : Int))) (V.int .i64 2 = .int .i64 (valErr e)) ((IntKind.i64 = .i64) ∧ CondP (decide (e.f0 = (5 : Int))) (e.f3.length ≤ 64 ∧ CondP (!(utfB e.f3.length e.f3)) (V.int .i64 7 = .int .i64 (valErr e)) (V.int .i64 0 = .int .i64 (valErr e))) (V.int .i64 0 = .int .i64 (valErr e)))))  False)
        ((IntKind.i64 = .i64) ∧ CondP (decide (((len e.f3 : Nat) : Int) > (64 : Int))) (V.int .i64 2 = .int .i64 (valErr e)) ((IntKind.i64 = .i64) ∧ CondP (decide (e.f0 = (5 : Int))) (e.f3.length ≤ 64 ∧ CondP (!(utfB e.f3.length e.f3)) (V.int .i64 7 = .int .i64 (valErr e)) (V.int .i64 0 = .int .i64 (valErr e))) (V.int .i64 0 = .int .i64 (valErr e)))) := by
      intro h0 ho hk
      refine ⟨rfl, cIf (fun k3 => ⟨hc', hb2 ⟨rfl, cIf (fun c1 => veq (ve4c h0 ho hk c1)) fun c1 => tail h0 ho hk (Decidable.not_not.1 c1)⟩⟩) fun k3 => tail h0 ho hk ?_⟩
      rcases ho.2.1 with h | h
      · rw [h]; exact canon0
      · exact absurd h k3
    rw [e153]
    repeat' first
      | refine ⟨rfl, cIf (fun _ => five (by omega)) (fun _ => ?_)⟩
      | refine canon (by omega) ⟨by omega, by omega, by first | exact .inl (Decidable.not_not.1 ‹¬ (e.f3 ≠ [])›) | omega⟩ (by omega)
      | refine ⟨rfl, cIf (fun _ => ?_) (fun _ => ?_)⟩
      | refine cIf (fun _ => ?_) (fun _ => ?_)
    all_goals first
      | exact five (by omega)
      | (refine four (by omega) fun ho => ?_; obtain ⟨o1, o2, o3⟩ := ho; first | omega | (rcases o3 with o3 | o3 | o3 <;> first | contradiction | omega))
      | exact veq (ve6 (by omega) ⟨by omega, by omega, by first | exact .inl (Decidable.not_not.1 ‹¬ (e.f3 ≠ [])›) | omega⟩ ⟨by omega, by omega, by omega⟩)
      | (exfalso; omega)
  · exact h.elim
theorem kn17_ok : ∀ {f : FuncId} {vs : List V} {σ : St} {k : VPost}, kn17 f vs σ k → CallS Tryz.prog f vs k σ := by
  intro f vs σ k h
  unfold kn17 at h
  split at h
  · rename_i hb; obtain rfl := Nat.eq_of_beq_eq_true hb; exact W153_ok h
  · exact kn16_ok h
end
end Go.Proofs.YtbajncpfmemdgaaGreatDoor
namespace Go.Proofs.YtbajncpfmemdgaaGreatDoor
open Go Go.Ev Go.IntWalk
theorem F176 : FnF Tryz.prog 176 Tryz.f176 := ⟨by kernel_rfl, by kernel_rfl, by kernel_rfl, by kernel_rfl, by kernel_rfl⟩
theorem F152 : FnF Tryz.prog 152 Tryz.f152 := ⟨by kernel_rfl, by kernel_rfl, by kernel_rfl, by kernel_rfl, by kernel_rfl⟩
theorem F106 : FnF Tryz.prog 106 Tryz.f106 := ⟨by kernel_rfl, by kernel_rfl, by kernel_rfl, by kernel_rfl, by kernel_rfl⟩
theorem F222 : FnF Tryz.prog 222 Tryz.f222 := ⟨by kernel_rfl, by kernel_rfl, by kernel_rfl, by kernel_rfl, by kernel_rfl⟩
theorem F178 : FnF Tryz.prog 178 Tryz.f178 := ⟨by kernel_rfl, by kernel_rfl, by kernel_rfl, by kernel_rfl, by kernel_rfl⟩
theorem F42 : FnF Tryz.prog 42 Tryz.f42 := ⟨by kernel_rfl, by kernel_rfl, by kernel_rfl, by kernel_rfl, by kernel_rfl⟩
theorem F108 : FnF Tryz.prog 108 Tryz.f108 := ⟨by kernel_rfl, by kernel_rfl, by kernel_rfl, by kernel_rfl, by kernel_rfl⟩
def ChOk (b : Int) (i : Nat) : Prop := (97 ≤ b ∧ b ≤ 122) ∨ (i ≠ 0 ∧ ((48 ≤ b ∧ b ≤ 57) ∨ b = 95))
theorem chOk_iff (b : Int) (i : Nat) : (letB b || (decide (i ≠ 0) && digB b)) = true ↔ ChOk b i := by
  unfold ChOk letB digB
  rw [Bool.or_eq_true, Bool.and_eq_true, decide_eq_true_iff, decide_eq_true_iff, decide_eq_true_iff]
theorem nameB_iff (s : List UInt8) : ∀ n, nameB s n = true ↔ ∀ i, i < n → ChOk (byteN s i) i
  | 0 => ⟨fun _ i hi => absurd hi (Nat.not_lt_zero i), fun _ => rfl⟩
  | n + 1 => by
    show (nameB s n && (letB (byteN s n) || (decide (n ≠ 0) && digB (byteN s n)))) = true ↔ _
    rw [Bool.and_eq_true, chOk_iff, nameB_iff s n]
    constructor
    · intro h i hi
      by_cases e : i = n
      · rw [e]; exact h.2
      · exact h.1 i (by omega)
    · exact fun h => ⟨fun i hi => h i (by omega), h n (by omega)⟩
theorem name8 {s : List UInt8} (h : s.length = 0 ∨ s.length > 16) : nameErr s = 8 := if_pos h
theorem name8b {s : List UInt8} {i : Nat} (hi : i < s.length) (h : ¬ ChOk (byteN s i) i) : nameErr s = 8 := by
  by_cases h0 : s.length = 0 ∨ s.length > 16
  · exact name8 h0
  · unfold nameErr
    rw [if_neg h0, if_neg fun hh => h ((nameB_iff s _).1 hh i hi)]
theorem name0 {s : List UInt8} (h0 : ¬ (s.length = 0 ∨ s.length > 16)) (h : ∀ i, i < s.length → ChOk (byteN s i) i) : nameErr s = 0 := by
  unfold nameErr
  rw [if_neg h0, if_pos ((nameB_iff s _).2 h)]
/-! ### Lists of names -/
theorem cntN_ge (s : List UInt8) (q : Nat → List UInt8) : ∀ n, 0 ≤ cntN s q n ∧ cntN s q n ≤ n ∧ (0 < cntN s q n ↔ ∃ i, i < n ∧ q i = s)
  | 0 => ⟨by show (0 : Int) ≤ 0; omega, by show (0 : Int) ≤ 0; omega, ⟨fun h => by have h : (0 : Int) < 0 := h; omega, fun ⟨i, hi, _⟩ => absurd hi (Nat.not_lt_zero i)⟩⟩
  | n + 1 => by
    obtain ⟨h1, h2, h3⟩ := cntN_ge s q n
    have e : cntN s q (n + 1) = cntN s q n + if q n = s then 1 else 0 := rfl
    rw [e]
    by_cases hq : q n = s
    · rw [if_pos hq]
      exact ⟨by omega, by omega, ⟨fun _ => ⟨n, by omega, hq⟩, fun _ => by omega⟩⟩
    · rw [if_neg hq]
      refine ⟨by omega, by omega, ⟨fun h => ?_, fun ⟨i, hi, he⟩ => ?_⟩⟩
      · obtain ⟨i, hi, he⟩ := h3.1 (by omega)
        exact ⟨i, by omega, he⟩
      · have : i ≠ n := fun e => hq (by rw [← e]; exact he)
        have := h3.2 ⟨i, by omega, he⟩
        omega
theorem cntN_two (s : List UInt8) (q : Nat → List UInt8) : ∀ n, 1 < cntN s q n ↔ ∃ i j, i < j ∧ j < n ∧ q i = s ∧ q j = s
  | 0 => ⟨fun h => by have h : (1 : Int) < 0 := h; omega, fun ⟨i, j, _, hj, _⟩ => absurd hj (Nat.not_lt_zero j)⟩
  | n + 1 => by
    obtain ⟨h1, h2, h3⟩ := cntN_ge s q n
    have ih := cntN_two s q n
    have e : cntN s q (n + 1) = cntN s q n + if q n = s then 1 else 0 := rfl
    rw [e]
    by_cases hq : q n = s
    · rw [if_pos hq]
      constructor
      · intro h
        obtain ⟨i, hi, he⟩ := h3.1 (by omega)
        exact ⟨i, n, hi, by omega, he, hq⟩
      · rintro ⟨i, j, hij, hj, e1, e2⟩
        have := h3.2 ⟨i, by omega, e1⟩
        omega
    · rw [if_neg hq, Int.add_zero, ih]
      constructor
      · rintro ⟨i, j, hij, hj, e1, e2⟩; exact ⟨i, j, hij, by omega, e1, e2⟩
      · rintro ⟨i, j, hij, hj, e1, e2⟩
        have : j ≠ n := fun e => hq (by rw [← e]; exact e2)
        exact ⟨i, j, hij, by omega, e1, e2⟩
theorem findN_none (s : List UInt8) (q : Nat → List UInt8) : ∀ n, (∀ i, i < n → q i ≠ s) → findN s q n = -1
  | 0, _ => rfl
  | n + 1, h => by
    show (if findN s q n ≠ -1 then findN s q n else if q n = s then (n : Int) else -1) = -1
    rw [findN_none s q n fun i hi => h i (by omega), if_neg (by decide), if_neg (h n (by omega))]
theorem findN_some (s : List UInt8) (q : Nat → List UInt8) : ∀ n i, i < n → q i = s → (∀ j, j < i → q j ≠ s) → findN s q n = i
  | 0, i, hi, _, _ => absurd hi (Nat.not_lt_zero i)
  | n + 1, i, hi, he, hl => by
    show (if findN s q n ≠ -1 then findN s q n else if q n = s then (n : Int) else -1) = i
    by_cases e : i = n
    · subst e
      rw [findN_none s q i hl, if_neg (by decide), if_pos he]
    · rw [findN_some s q n i (by omega) he hl, if_pos (by omega)]
theorem findN_cases (s : List UInt8) (q : Nat → List UInt8) (n : Nat) : (findN s q n = -1 ∧ ∀ i, i < n → q i ≠ s) ∨ ∃ i : Nat, findN s q n = i ∧ i < n ∧ q i = s ∧ ∀ j, j < i → q j ≠ s := by
  by_cases h : ∃ i, i < n ∧ q i = s
  · right
    obtain ⟨i, hi, he⟩ := h
    induction i using Nat.strongRecOn with
    | _ i ih =>
      by_cases hl : ∃ j, j < i ∧ q j = s
      · obtain ⟨j, hj, hej⟩ := hl
        exact ih j hj (by omega) hej
      · have hl' : ∀ j, j < i → q j ≠ s := fun j hj e => hl ⟨j, hj, e⟩
        exact ⟨i, findN_some s q n i hi he hl', hi, he, hl'⟩
  · left
    have h' : ∀ i, i < n → q i ≠ s := fun i hi e => h ⟨i, hi, e⟩
    exact ⟨findN_none s q n h', h'⟩
theorem uniqB_iff (q : Nat → List UInt8) : ∀ n, uniqB q n = true ↔ ∀ i j, i < j → j < n → q i ≠ q j
  | 0 => ⟨fun _ i j _ hj => absurd hj (Nat.not_lt_zero j), fun _ => rfl⟩
  | n + 1 => by
    show (uniqB q n && decide (findN (q n) q n = -1)) = true ↔ _
    rw [Bool.and_eq_true, uniqB_iff q n, decide_eq_true_iff]
    constructor
    · rintro ⟨h1, h2⟩ i j hij hj
      by_cases e : j = n
      · subst e
        rcases findN_cases (q j) q j with ⟨_, h⟩ | ⟨m, hm, _⟩
        · exact h i hij
        · rw [h2] at hm; omega
      · exact h1 i j hij (by omega)
    · exact fun h => ⟨fun i j hij hj => h i j hij (by omega), findN_none _ _ _ fun i hi => h i n hi (by omega)⟩
section
variable [Env] {vs : List V} {σ : St} {k : VPost}
theorem cl_strs (n : Nat) (h : Nat → List UInt8) : Go.Ev.Clean (V.arr n (fun i => V.str (h i)) 1 false false) :=
  Go.Ev.Clean.arr fun i _ u hu => by
    have hu : u ∈ [V.str (h i)] := hu
    rw [List.mem_singleton] at hu
    subst hu; exact Go.Ev.Clean.str _
omit [Env] in
theorem str_inj {n : Nat} {h q : Nat → List UInt8} (e : (fun i => V.str (h i)) = fun i => V.str (q i)) : h = q := by
  funext i
  have := congrFun e i
  exact V.str.inj this
def I176 (s : List UInt8) : Nat → List SV → Prop
  | 0, ss => ∃ i : Nat, i ≤ s.length ∧ (∀ j, j < i → ChOk (byteN s j) j) ∧ ss = [.row (len s) (byteF s) 1, .val (.int .i64 ((len s : Nat) : Int)), .val (.int .i64 i)]
  | _, _ => False
theorem W176_ok (h : W176 vs σ k) : CallS Tryz.prog 176 vs k σ := by
  unfold W176 at h
  split at h
  · rename_i s
    refine CallS.oneV (fz_cons (Go.Ev.Clean.str _) fz_nil) (.int _ _) ?_ h
    by_cases h0 : s.length = 0 ∨ s.length > 16
    · refine F176.floyd (live := live176) (call := kn17) (n₀ := 0) (σ := Go.Ev.start) (fun h => kn17_ok h) rfl 1 (by kernel_rfl) Nat.lt_wfRel.wf (fun _ _ => 0) (fun _ _ => False) (fun _ _ h => h.elim) ?_ fun _ _ _ h => h.elim
      rw [e176, name8 h0]
      refine cIf (fun _ => rfl) fun h1 => ⟨rfl, cIf (fun _ => rfl) fun h2 => ?_⟩
      rw [len_eq] at h2
      rcases h0 with h0 | h0
      · exact absurd (List.eq_nil_of_length_eq_zero h0) h1
      · omega
    · refine F176.floyd (live := live176) (call := kn17) (n₀ := 0) (σ := Go.Ev.start) (fun h => kn17_ok h) rfl 1 (by kernel_rfl) Nat.lt_wfRel.wf (fun _ ss => 20 - lastI ss) (I176 s) ?_ ?_ ?_
      · intro k ss hI
        cases k with
        | zero =>
          obtain ⟨i, _, _, rfl⟩ := hI
          refine sv_cons (fun j _ u hu => ?_) (sv_int (sv_int sv_nil))
          have hu : u ∈ [byteF s j] := hu
          rw [List.mem_singleton] at hu
          subst hu; exact Go.Ev.Clean.int _ _
        | succ k => exact hI.elim
      · rw [e176]
        refine cIf (fun h1 => absurd (by rw [h1]; rfl : s.length = 0) fun e => h0 (.inl e)) fun h1 => ⟨rfl, cIf (fun h2 => ?_) fun h2 => ⟨?_, ⟨rfl, rfl⟩, 0, by omega, fun j hj => absurd hj (Nat.not_lt_zero j), rfl⟩⟩
        · rw [len_eq] at h2; omega
        · rw [len_eq]; omega
      · intro k hk ss hI
        obtain rfl : k = 0 := by omega
        obtain ⟨i, hi, hj, rfl⟩ := hI
        rw [r176]
        refine ⟨rfl, cIf (fun h1 => ?_) fun h1 => ?_⟩
        · rw [len_eq] at h1
          rw [Int.toNat_natCast]
          refine ⟨⟨by omega, by rw [len_eq]; omega⟩, by rw [len_eq]; omega, ?_⟩
          have bad : ¬ ChOk (byteN s i) i → V.int .i64 8 = .int .i64 (nameErr s) := fun hn => by rw [name8b (by omega) hn]
          have cont : ChOk (byteN s i) i → (len s = len s ∧ 1 = 1) ∧ (I176 s 0 [.row (len s) (byteF s) 1, .val (.int .i64 ((len s : Nat) : Int)), .val (.int .i64 (IntKind.i64.wrap ((i : Int) + 1)))] ∧
              (fun x1 x2 : Nat => x1 < x2) (20 - lastI [.row (len s) (byteF s) 1, .val (.int .i64 ((len s : Nat) : Int)), .val (.int .i64 (IntKind.i64.wrap ((i : Int) + 1)))]) (20 - lastI [.row (len s) (byteF s) 1, .val (.int .i64 ((len s : Nat) : Int)), .val (.int .i64 i)])) := fun hc => by
            rw [i64_in ((i : Int) + 1) (by omega)]
            refine ⟨⟨rfl, rfl⟩, ⟨i + 1, by omega, fun j hj' => ?_, rfl⟩, ?_⟩
            · by_cases e : j = i
              · rw [e]; exact hc
              · exact hj j (by omega)
            · show 20 - ((i : Int) + 1).toNat < 20 - (i : Int).toNat
              omega
          unfold ChOk at bad cont
          repeat' first
            | exact cont (by omega)
            | exact bad (by omega)
            | refine ⟨rfl, cIf (fun _ => ?_) (fun _ => ?_)⟩
        · rw [len_eq] at h1
          rw [name0 h0 fun j hj' => hj j (by omega)]
  · exact h.elim
theorem kn18_ok : ∀ {f : FuncId} {vs : List V} {σ : St} {k : VPost}, kn18 f vs σ k → CallS Tryz.prog f vs k σ := by
  intro f vs σ k h
  unfold kn18 at h
  split at h
  · rename_i hb; obtain rfl := Nat.eq_of_beq_eq_true hb; exact W176_ok h
  · exact kn17_ok h
theorem W152_ok (h : W152 vs σ k) : CallS Tryz.prog 152 vs k σ := by
  unfold W152 at h
  split at h
  · rename_i c
    refine CallS.oneV (fz_cons (Go.Ev.Clean.int _ _) fz_nil) (.bool _) (F152.flat (live := live152) (call := kn18) (n₀ := 0) (σ := Go.Ev.start) (fun h => kn18_ok h) rfl (by kernel_rfl) ?_) h
    rw [e152]
    unfold letB
    refine ⟨rfl, cIf (fun h1 => ⟨rfl, cIf (fun h2 => ?_) fun h2 => ?_⟩) fun h1 => ?_⟩
    · rw [decide_eq_true ⟨h1, h2⟩]
    · rw [decide_eq_false fun hh => h2 hh.2]
    · rw [decide_eq_false fun hh => h1 hh.1]
  · exact h.elim
theorem kn19_ok : ∀ {f : FuncId} {vs : List V} {σ : St} {k : VPost}, kn19 f vs σ k → CallS Tryz.prog f vs k σ := by
  intro f vs σ k h
  unfold kn19 at h
  split at h
  · rename_i hb; obtain rfl := Nat.eq_of_beq_eq_true hb; exact W152_ok h
  · exact kn18_ok h
def I106 (s : List UInt8) : Nat → List SV → Prop
  | 0, ss => ∃ i : Nat, 1 ≤ i ∧ i ≤ s.length ∧ (∀ j, j < i → ChOk (byteN s j) j) ∧ ss = [.val (.str s), .val (.int .i64 i)]
  | _, _ => False
omit [Env] in
theorem letB_iff (c : Int) : letB c = true ↔ 97 ≤ c ∧ c ≤ 122 := by unfold letB; rw [decide_eq_true_iff]
theorem W106_ok (h : W106 vs σ k) : CallS Tryz.prog 106 vs k σ := by
  unfold W106 at h
  split at h
  · rename_i s
    refine CallS.oneV (fz_cons (Go.Ev.Clean.str _) fz_nil) (.int _ _) ?_ h
    refine F106.floyd (live := live106) (call := kn19) (n₀ := 0) (σ := Go.Ev.start) (fun h => kn19_ok h) rfl 1 (by kernel_rfl) Nat.lt_wfRel.wf (fun _ ss => 20 - lastI ss) (fun k ss => ¬ (s.length = 0 ∨ s.length > 16) ∧ I106 s k ss) ?_ ?_ ?_
    · rintro k ss ⟨_, hI⟩
      cases k with
      | zero => obtain ⟨i, _, _, _, rfl⟩ := hI; exact sv_str (sv_int sv_nil)
      | succ k => exact hI.elim
    · rw [e106]
      refine ⟨rfl, cIf (fun h1 => ?_) fun h1 => ⟨rfl, cIf (fun h2 => ?_) fun h2 => ⟨⟨by decide, ?_⟩, CondP.mk (fun h3 => ?_) fun h3 => ?_⟩⟩⟩
      · rw [len_eq] at h1; rw [name8 (.inl (by omega))]
      · rw [len_eq] at h2; rw [name8 (.inr (by omega))]
      · rw [len_eq] at h1 ⊢; omega
      · rw [len_eq] at h1
        have hf' : letB (byteAt s 0) = false := by simpa using h3
        have hf : letB (byteN s 0) = false := hf'
        rw [name8b (i := 0) (by omega) fun hc => ?_]
        rcases hc with hc | hc
        · rw [(letB_iff _).2 hc] at hf; cases hf
        · exact hc.1 rfl
      · rw [len_eq] at h1 h2
        have hf' : letB (byteAt s 0) = true := by simpa using h3
        have hf : letB (byteN s 0) = true := hf'
        refine ⟨by omega, 1, by omega, by omega, fun j hj => ?_, rfl⟩
        obtain rfl : j = 0 := by omega
        exact .inl ((letB_iff _).1 hf)
    · intro k hk ss hI
      obtain rfl : k = 0 := by omega
      obtain ⟨h0, i, h1, hi, hj, rfl⟩ := hI
      rw [r106]
      refine ⟨rfl, cIf (fun h2 => ?_) fun h2 => ?_⟩
      · rw [len_eq] at h2
        have hin : 0 ≤ (i : Int) ∧ (i : Int) < ((len s : Nat) : Int) := ⟨by omega, by rw [len_eq]; omega⟩
        have bad : ¬ ChOk (byteN s i) i → V.int .i64 8 = .int .i64 (nameErr s) := fun hn => by rw [name8b (by omega) hn]
        have cont : ChOk (byteN s i) i → ((¬ (s.length = 0 ∨ s.length > 16) ∧ I106 s 0 [.val (.str s), .val (.int .i64 (IntKind.i64.wrap ((i : Int) + 1)))]) ∧
            (fun x1 x2 : Nat => x1 < x2) (20 - lastI [.val (.str s), .val (.int .i64 (IntKind.i64.wrap ((i : Int) + 1)))]) (20 - lastI [.val (.str s), .val (.int .i64 i)])) := fun hc => by
          rw [i64_in ((i : Int) + 1) (by omega)]
          refine ⟨⟨h0, i + 1, by omega, by omega, fun j hj' => ?_, rfl⟩, ?_⟩
          · by_cases e : j = i
            · rw [e]; exact hc
            · exact hj j (by omega)
          · show 20 - ((i : Int) + 1).toNat < 20 - (i : Int).toNat
            omega
        have eb : byteAt s i = byteN s i := rfl
        rw [eb]
        unfold ChOk at bad cont
        cases hl : letB (byteN s i) with
        | true =>
          have hl := (letB_iff _).1 hl
          have c := cont (by omega)
          exact ⟨hin, c⟩
        | false =>
          have hl : ¬ (97 ≤ byteN s i ∧ byteN s i ≤ 122) := fun hh => by rw [(letB_iff _).2 hh] at hl; cases hl
          refine ⟨hin, hin, rfl, cIf (fun h3 => ⟨hin, rfl, cIf (fun h4 => bad (by omega)) fun h4 => ⟨hin, rfl, cIf (fun h5 => bad (by omega)) fun h5 => cont (by omega)⟩⟩) fun h3 => cont (by omega)⟩
      · rw [len_eq] at h2
        rw [name0 h0 fun j hj' => hj j (by omega)]
  · exact h.elim
theorem kn20_ok : ∀ {f : FuncId} {vs : List V} {σ : St} {k : VPost}, kn20 f vs σ k → CallS Tryz.prog f vs k σ := by
  intro f vs σ k h
  unfold kn20 at h
  split at h
  · rename_i hb; obtain rfl := Nat.eq_of_beq_eq_true hb; exact W106_ok h
  · exact kn19_ok h
end
end Go.Proofs.YtbajncpfmemdgaaGreatDoor
