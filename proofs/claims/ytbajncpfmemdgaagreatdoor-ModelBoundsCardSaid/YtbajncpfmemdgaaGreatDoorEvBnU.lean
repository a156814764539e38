/- The law's call. -/
import Derived.Test.YtbajncpfmemdgaaGreatDoorEvBnR
import Derived.Test.YtbajncpfmemdgaaGreatDoorEvAwk13R
import Derived.Test.YtbajncpfmemdgaaGreatDoorEvTyped
namespace Go.Proofs.YtbajncpfmemdgaaGreatDoor
open Go Go.Ev Go.IntWalk
theorem F69 : FnF Tryz.prog 69 Tryz.f69 := ⟨by kernel_rfl, by kernel_rfl, by kernel_rfl, by kernel_rfl, by kernel_rfl⟩
theorem F86 : FnF Tryz.prog 86 Tryz.f86 := ⟨by kernel_rfl, by kernel_rfl, by kernel_rfl, by kernel_rfl, by kernel_rfl⟩
theorem F68 : FnF Tryz.prog 68 Tryz.f68 := ⟨by kernel_rfl, by kernel_rfl, by kernel_rfl, by kernel_rfl, by kernel_rfl⟩
theorem F52 : FnF Tryz.prog 52 Tryz.f52 := ⟨by kernel_rfl, by kernel_rfl, by kernel_rfl, by kernel_rfl, by kernel_rfl⟩
theorem F28 : FnF Tryz.prog 28 Tryz.f28 := ⟨by kernel_rfl, by kernel_rfl, by kernel_rfl, by kernel_rfl, by kernel_rfl⟩
theorem F44 : FnF Tryz.prog 44 Tryz.f44 := ⟨by kernel_rfl, by kernel_rfl, by kernel_rfl, by kernel_rfl, by kernel_rfl⟩
theorem T53.enc_clean [Env] (e : T53) : Go.Ev.Clean (T53.enc e) := Go.Ev.Clean.agg e.clean
theorem T71.enc_clean [Env] (e : T71) : Go.Ev.Clean (T71.enc e) := Go.Ev.Clean.agg e.clean
section
variable [Env] {vs : List V} {σ : St} {k : VPost}
theorem frz1 {v : V} (h : Go.Ev.Clean v) : FrzL σ [v] [v] := .cons (.clean h) .nil
variable [ErrT]
/-! ### Few -/
def Z (v : V) : Prop := v = .int .i64 0 ∨ v = .int .i64 1
omit [Env] in
theorem Z.scal (v : V) (h : Z v) : V.scal v = true := by rcases h with rfl | rfl <;> rfl
omit [ErrT] in
theorem tot_ok {f : FuncId} {us : List V} {p : Prop} (hf : FrzL σ vs us) (h : CallS Tryz.prog f us (fun v _ => Z v) Go.Ev.start) (ht : tot p σ k) : CallS Tryz.prog f vs k σ :=
  CallS.one_of hf Z.scal h fun v hv => by
    rcases hv with rfl | rfl
    · exact ht.2.1
    · exact ht.2.2
omit [Env] in
theorem z0 : Z (.int .i64 0) := .inl rfl
omit [Env] in
theorem z1 : Z (.int .i64 1) := .inr rfl
theorem W69_ok (h : W69 vs σ k) : CallS Tryz.prog 69 vs k σ := by
  obtain ⟨e, rfl⟩ := h.1
  refine tot_ok (frz1 e.enc_clean) (F69.flat (live := live69) (call := kn49) (n₀ := 0) (fun h => kn49_ok h) rfl (by kernel_rfl) ?_) h
  rw [e69]
  exact ⟨rfl, CondP.mk (fun _ => z0) fun _ => z1⟩
theorem kn50_ok : ∀ {f : FuncId} {vs : List V} {σ : St} {k : VPost}, kn50 f vs σ k → CallS Tryz.prog f vs k σ := by
  intro f vs σ k h
  unfold kn50 at h
  split at h
  · rename_i hb; obtain rfl := Nat.eq_of_beq_eq_true hb; exact W69_ok h
  · exact kn49_ok h
/-- A slice and a place in it, at a loop's head. -/
def Iat {α : Type} [Inhabited α] (enc : α → V) (esz : Nat) (l : List α) : Nat → List SV → Prop
  | 0, ss => ∃ i : Int, 0 ≤ i ∧ i ≤ l.length ∧ ss = [.val (arrOf enc esz l), .val (.int .i64 i)]
  | _, _ => False
omit [ErrT] in
theorem Iat_clean {α : Type} [Inhabited α] {enc : α → V} {esz : Nat} {l : List α} (hc : Go.Ev.Clean (arrOf enc esz l)) : ∀ k ss, Iat enc esz l k ss → ∀ s ∈ ss, s.clean := by
  intro k ss hI s hs
  cases k with
  | zero =>
    obtain ⟨i, _, _, rfl⟩ := hI
    simp only [List.mem_cons, List.not_mem_nil, or_false] at hs
    rcases hs with rfl | rfl
    · exact hc
    · exact Go.Ev.Clean.int _ _
  | succ k => exact hI.elim
omit [Env] in
theorem lastI_two (v : V) (i : Int) : lastI [.val v, .val (.int .i64 i)] = i.toNat := by cases v <;> rfl
theorem W86_ok (h : W86 vs σ k) : CallS Tryz.prog 86 vs k σ := by
  obtain ⟨l, rfl⟩ := h.1
  have hc : Go.Ev.Clean (arrOf T46.enc 4 l) := arrOf_clean fun x _ => x.clean
  refine tot_ok (frz1 hc) ?_ h
  by_cases hl : l.length ≤ 30
  · refine F86.floyd (live := live86) (call := kn50) (n₀ := 0) (fun h => kn50_ok h) rfl 1 (by kernel_rfl) Nat.lt_wfRel.wf (fun _ ss => 30 - lastI ss) (Iat T46.enc 4 l) (Iat_clean hc) ?_ ?_
    · rw [e86]
      exact ⟨rfl, CondP.mk (fun e => absurd (of_decide_eq_true e) (by omega)) fun _ => ⟨0, by omega, by omega, rfl⟩⟩
    · intro k hk ss hI
      obtain rfl : k = 0 := by omega
      obtain ⟨i, h0, h1, rfl⟩ := hI
      rw [r86]
      refine ⟨rfl, CondP.mk (fun e => ?_) fun _ => z1⟩
      have e := of_decide_eq_true e
      refine ⟨⟨h0, e⟩, ⟨_, rfl⟩, ⟨rfl, z0⟩, rfl, ⟨i + 1, by omega, by omega, by rw [i64_in _ (by omega)]⟩, ?_⟩
      rw [i64_in _ (by omega), lastI_two, lastI_two]
      show 30 - (i + 1).toNat < 30 - i.toNat
      omega
  · refine F86.floyd (live := live86) (call := kn50) (n₀ := 0) (fun h => kn50_ok h) rfl 1 (by kernel_rfl) Nat.lt_wfRel.wf (fun _ _ => 0) (fun _ _ => False) (fun _ _ h => h.elim) ?_ fun _ _ _ h => h.elim
    rw [e86]
    exact ⟨rfl, CondP.mk (fun _ => z0) fun e => absurd (of_decide_eq_false e) (by omega)⟩
theorem kn51_ok : ∀ {f : FuncId} {vs : List V} {σ : St} {k : VPost}, kn51 f vs σ k → CallS Tryz.prog f vs k σ := by
  intro f vs σ k h
  unfold kn51 at h
  split at h
  · rename_i hb; obtain rfl := Nat.eq_of_beq_eq_true hb; exact W86_ok h
  · exact kn50_ok h
omit [Env] in
theorem arrL_getD₁ {α : Type} [Inhabited α] (enc : α → V) (l : List α) : arrL l.length (fun i => enc (l.getD i default)) = l.map enc := by
  apply List.ext_getElem?
  intro i
  by_cases h : i < l.length
  · rw [arrL_get h, List.getElem?_map, List.getElem?_eq_getElem h, List.getD_eq_getElem?_getD, List.getElem?_eq_getElem h]; rfl
  · rw [List.getElem?_eq_none (by rw [arrL_length]; omega), List.getElem?_eq_none (by rw [List.length_map]; omega)]
omit [ErrT] in
/-- Texts in a slice of cells. -/
theorem frz_texts {b n cap : Nat} {ex : Bool} (ls : List (List UInt8)) (hn : ls.length = n) (h : σ.cells b 0 (n * 1) = some (ls.map V.str)) : FrzL σ [V.slice b 0 n cap ex 1] [arrOf V.str 1 ls] := by
  have e1 : ∀ l : List (List UInt8), flatCells (l.map V.str) = l.map V.str := by
    intro l
    induction l with
    | nil => rfl
    | cons x l ih => rw [List.map_cons, flatCells_cons, ih]; rfl
  have e2 : ∀ l : List (List UInt8), FrzL σ (l.map V.str) (l.map V.str) := fun l => FrzL.clean fun v hv => by
    obtain ⟨x, _, rfl⟩ := List.mem_map.1 hv
    exact Go.Ev.Clean.str x
  refine .cons (.toArr (.slice h ?_ ?_ ?_)) .nil
  · rw [arrL_getD₁, e1]; exact e2 ls
  · rw [arrL_getD₁]
    intro v hv
    obtain ⟨x, _, rfl⟩ := List.mem_map.1 hv
    rfl
  · rw [arrL_length, hn]
theorem W68_ok (h : W68 vs σ k) : CallS Tryz.prog 68 vs k σ := by
  obtain ⟨l, hf⟩ := h.1
  have hc : Go.Ev.Clean (arrOf V.str 1 l) := arrOf_clean fun _ _ => cl_cons (Go.Ev.Clean.str _) cl_nil
  refine tot_ok hf ?_ h
  by_cases hl : l.length ≤ 60
  · refine F68.floyd (live := live68) (call := kn51) (n₀ := 0) (fun h => kn51_ok h) rfl 1 (by kernel_rfl) Nat.lt_wfRel.wf (fun _ ss => 60 - lastI ss) (Iat V.str 1 l) (Iat_clean hc) ?_ ?_
    · rw [e68]
      exact ⟨rfl, CondP.mk (fun e => absurd (of_decide_eq_true e) (by omega)) fun _ => ⟨0, by omega, by omega, rfl⟩⟩
    · intro k hk ss hI
      obtain rfl : k = 0 := by omega
      obtain ⟨i, h0, h1, rfl⟩ := hI
      rw [r68]
      refine ⟨rfl, CondP.mk (fun e => ?_) fun _ => z1⟩
      have e := of_decide_eq_true e
      refine ⟨⟨h0, e⟩, rfl, CondP.mk (fun _ => z0) fun _ => ⟨⟨i + 1, by omega, by omega, by rw [i64_in _ (by omega)]⟩, ?_⟩⟩
      rw [i64_in _ (by omega), lastI_two, lastI_two]
      show 60 - (i + 1).toNat < 60 - i.toNat
      omega
  · refine F68.floyd (live := live68) (call := kn51) (n₀ := 0) (fun h => kn51_ok h) rfl 1 (by kernel_rfl) Nat.lt_wfRel.wf (fun _ _ => 0) (fun _ _ => False) (fun _ _ h => h.elim) ?_ fun _ _ _ h => h.elim
    rw [e68]
    exact ⟨rfl, CondP.mk (fun _ => z0) fun e => absurd (of_decide_eq_false e) (by omega)⟩
theorem kn52_ok : ∀ {f : FuncId} {vs : List V} {σ : St} {k : VPost}, kn52 f vs σ k → CallS Tryz.prog f vs k σ := by
  intro f vs σ k h
  unfold kn52 at h
  split at h
  · rename_i hb; obtain rfl := Nat.eq_of_beq_eq_true hb; exact W68_ok h
  · exact kn51_ok h
def I52 (e : T51) : Nat → List SV → Prop
  | 0, ss => ∃ i : Int, 0 ≤ i ∧ i ≤ e.f2.length ∧ ss = [.box [.str e.f0, .int .i64 e.f1, arrOf T48.enc 7 e.f2], .val (.int .i64 i)]
  | _, _ => False
theorem W52_ok (h : W52 vs σ k) : CallS Tryz.prog 52 vs k σ := by
  obtain ⟨e, rfl⟩ := h.1
  refine tot_ok (frz1 e.enc_clean) ?_ h
  by_cases hl : e.f2.length ≤ 20
  · refine F52.floyd (live := live52) (call := kn52) (n₀ := 0) (fun h => kn52_ok h) rfl 1 (by kernel_rfl) Nat.lt_wfRel.wf (fun _ ss => 20 - lastI ss) (I52 e) ?_ ?_ ?_
    · intro k ss hI s hs
      cases k with
      | zero =>
        obtain ⟨i, _, _, rfl⟩ := hI
        simp only [List.mem_cons, List.not_mem_nil, or_false] at hs
        rcases hs with rfl | rfl
        · exact e.clean
        · exact Go.Ev.Clean.int _ _
      | succ k => exact hI.elim
    · rw [e52]
      exact ⟨rfl, CondP.mk (fun e => absurd (of_decide_eq_true e) (by omega)) fun _ => ⟨rfl, CondP.mk (fun _ => z0) fun _ => ⟨0, by omega, by omega, rfl⟩⟩⟩
    · intro k hk ss hI
      obtain rfl : k = 0 := by omega
      obtain ⟨i, h0, h1, rfl⟩ := hI
      rw [r52]
      refine ⟨rfl, CondP.mk (fun q => ?_) fun _ => z1⟩
      have q := of_decide_eq_true q
      refine ⟨⟨h0, q⟩, rfl, CondP.mk (fun _ => z0) fun _ => ⟨⟨h0, q⟩, ⟨(e.f2.getD i.toNat default).f3, rfl⟩, ⟨rfl, z0⟩, rfl, ⟨i + 1, by omega, by omega, by rw [i64_in _ (by omega)]⟩, ?_⟩⟩
      rw [i64_in _ (by omega)]
      show 20 - (i + 1).toNat < 20 - i.toNat
      omega
  · refine F52.floyd (live := live52) (call := kn52) (n₀ := 0) (fun h => kn52_ok h) rfl 1 (by kernel_rfl) Nat.lt_wfRel.wf (fun _ _ => 0) (fun _ _ => False) (fun _ _ h => h.elim) ?_ fun _ _ _ h => h.elim
    rw [e52]
    exact ⟨rfl, CondP.mk (fun _ => z0) fun e => absurd (of_decide_eq_false e) (by omega)⟩
theorem kn53_ok : ∀ {f : FuncId} {vs : List V} {σ : St} {k : VPost}, kn53 f vs σ k → CallS Tryz.prog f vs k σ := by
  intro f vs σ k h
  unfold kn53 at h
  split at h
  · rename_i hb; obtain rfl := Nat.eq_of_beq_eq_true hb; exact W52_ok h
  · exact kn52_ok h
theorem W28_ok (h : W28 vs σ k) : CallS Tryz.prog 28 vs k σ := by
  obtain ⟨e, rfl⟩ := h.1
  refine tot_ok (frz1 e.enc_clean) (F28.flat (live := live28) (call := kn53) (n₀ := 0) (fun h => kn53_ok h) rfl (by kernel_rfl) ?_) h
  rw [e28]
  refine ⟨⟨e.f7, frz1 (arrOf_clean fun _ _ => cl_cons (Go.Ev.Clean.str _) cl_nil)⟩, ⟨rfl, z0⟩, rfl, ⟨[e.f1, e.f2, e.f3, e.f4, e.f5, e.f8.f0], frz_texts _ rfl (by kernel_rfl)⟩, ⟨rfl, z0⟩, rfl, ⟨e.f9, rfl⟩, ⟨rfl, z0⟩, rfl, ⟨e.f8.f3, rfl⟩, ⟨rfl, z0⟩, rfl, z1⟩
theorem kn54_ok : ∀ {f : FuncId} {vs : List V} {σ : St} {k : VPost}, kn54 f vs σ k → CallS Tryz.prog f vs k σ := by
  intro f vs σ k h
  unfold kn54 at h
  split at h
  · rename_i hb; obtain rfl := Nat.eq_of_beq_eq_true hb; exact W28_ok h
  · exact kn53_ok h
theorem W44_ok (h : W44 vs σ k) : CallS Tryz.prog 44 vs k σ := by
  obtain ⟨e, rfl⟩ := h.1
  refine tot_ok (frz1 e.enc_clean) (F44.flat (live := live44) (call := kn54) (n₀ := 0) (fun h => kn54_ok h) rfl (by kernel_rfl) ?_) h
  rw [e44]
  exact ⟨rfl, CondP.mk (fun _ => z0) fun _ => ⟨⟨_, rfl⟩, ⟨rfl, z0⟩, rfl, ⟨_, rfl⟩, ⟨rfl, z0⟩, rfl, ⟨_, rfl⟩, ⟨rfl, z0⟩, rfl, ⟨e.f6, rfl⟩, ⟨rfl, z0⟩, rfl, z1⟩⟩
theorem kn55_ok : ∀ {f : FuncId} {vs : List V} {σ : St} {k : VPost}, kn55 f vs σ k → CallS Tryz.prog f vs k σ := by
  intro f vs σ k h
  unfold kn55 at h
  split at h
  · rename_i hb; obtain rfl := Nat.eq_of_beq_eq_true hb; exact W44_ok h
  · exact kn54_ok h
end
end Go.Proofs.YtbajncpfmemdgaaGreatDoor
namespace Go.Proofs.YtbajncpfmemdgaaGreatDoor
open Go Go.Ev Go.IntWalk
theorem F53 : FnF Tryz.prog 53 Tryz.f53 := ⟨by kernel_rfl, by kernel_rfl, by kernel_rfl, by kernel_rfl, by kernel_rfl⟩
theorem F54 : FnF Tryz.prog 54 Tryz.f54 := ⟨by kernel_rfl, by kernel_rfl, by kernel_rfl, by kernel_rfl, by kernel_rfl⟩
theorem F10 : FnF Tryz.prog 10 Tryz.f10 := ⟨by kernel_rfl, by kernel_rfl, by kernel_rfl, by kernel_rfl, by kernel_rfl⟩
section
variable [Env] {vs : List V} {σ : St} {k : VPost}
theorem says {P : Program} [Go.Ev.Mix P] {f : FuncId} {vs : List V} {σ : St} {O : List Ev.Told} (hO : ∀ e ∈ O, e.ok P) (n : Nat) (h : (runO P O n (.call f vs) σ).check saysTrue = true) : CallS P f vs (fun v _ => v = .bool true) σ :=
  ⟨(SemE.of_runO (n := n) hO (Res.holds_of_check h)).mono fun ⟨o, τ⟩ hx => by
    cases o with
    | val v =>
      cases v with
      | bool b => have hx : b = true := hx; rw [hx]; rfl
      | _ => cases hx
    | exit e a => cases hx⟩
theorem S46 : CallS Tryz.prog 46 [] (fun v _ => v = .bool true) Go.Ev.start := says (n := 100000) Awk13.awk13_known Awk13.awk13_run
theorem cl_arr46 (l : List T46) : Go.Ev.Clean (arrOf T46.enc 4 l) := arrOf_clean fun x _ => x.clean
variable [ErrT]
omit [Env] [ErrT] in
theorem keyErr_n {e : T51} {q : Nat → T46} {n : Nat} (h : keyErr e q n = 0) : n ≤ 3 := by
  have hu : keyErr e q n = if tabErr e ≠ 0 then tabErr e else if (n : Int) > e.f1 then 11 else fitsErr e.f2 q n := rfl
  rw [hu] at h
  split at h
  · omega
  · rename_i h1
    have := (tab_ok (Decidable.not_not.1 h1)).1.2.2
    split at h
    · omega
    · omega
omit [Env] [ErrT] in
theorem okO.lo {o : T71} (h : okO o) : ∀ i, i < o.f3.length → ok46 (loQ o i) := fun i hi => h.1 _ (getD_mem hi)
omit [Env] [ErrT] in
theorem okO.hi {o : T71} (h : okO o) : ∀ i, i < o.f4.length → ok46 (hiQ o i) := fun i hi => h.2 _ (getD_mem hi)
omit [Env] [ErrT] in
theorem bnd_lo {e : T51} {o : T71} (h : keyErr e (loQ o) o.f3.length ≠ 0) : V.tuple [.str [], .str [], .int .i64 (keyErr e (loQ o) o.f3.length)] = .tuple [.str (bLo e o), .str (bHi e o), .int .i64 (bErr e o)] := by
  have h1 : bErr e o = keyErr e (loQ o) o.f3.length := if_pos h
  have h2 : bErr e o ≠ 0 := by rw [h1]; exact h
  unfold bLo bHi
  rw [if_neg h2, if_neg h2, h1]
omit [Env] [ErrT] in
theorem bnd_hi {e : T51} {o : T71} (h0 : keyErr e (loQ o) o.f3.length = 0) (h : keyErr e (hiQ o) o.f4.length ≠ 0) : V.tuple [.str [], .str [], .int .i64 (keyErr e (hiQ o) o.f4.length)] = .tuple [.str (bLo e o), .str (bHi e o), .int .i64 (bErr e o)] := by
  have h1 : bErr e o = keyErr e (hiQ o) o.f4.length := if_neg fun hh => hh h0
  have h2 : bErr e o ≠ 0 := by rw [h1]; exact h
  unfold bLo bHi
  rw [if_neg h2, if_neg h2, h1]
omit [Env] [ErrT] in
theorem bnd_ok {e : T51} {o : T71} (h0 : keyErr e (loQ o) o.f3.length = 0) (h : keyErr e (hiQ o) o.f4.length = 0) : V.tuple [.str (rowS (loQ o) o.f3.length), .str (rowS (hiQ o) o.f4.length), .int .i64 0] = .tuple [.str (bLo e o), .str (bHi e o), .int .i64 (bErr e o)] := by
  have h1 : bErr e o = 0 := (if_neg fun hh => hh h0).trans h
  unfold bLo bHi
  rw [if_pos h1, if_pos h1, h1]
def I53 (e : T51) (o : T71) : Nat → List SV → Prop
  | 0, ss => ss = [.box [.str e.f0, .int .i64 e.f1, arrOf T48.enc 7 e.f2], .box [.str [], .str []], .val (.agg [arrOf T46.enc 4 o.f3, arrOf T46.enc 4 o.f4]), .val (.int .i64 (0 : Int))] ∨
      (keyErr e (loQ o) o.f3.length = 0 ∧ ss = [.box [.str e.f0, .int .i64 e.f1, arrOf T48.enc 7 e.f2], .box [.str (rowS (loQ o) o.f3.length), .str []], .val (.agg [arrOf T46.enc 4 o.f3, arrOf T46.enc 4 o.f4]), .val (.int .i64 (1 : Int))]) ∨
      (keyErr e (loQ o) o.f3.length = 0 ∧ keyErr e (hiQ o) o.f4.length = 0 ∧ ss = [.box [.str e.f0, .int .i64 e.f1, arrOf T48.enc 7 e.f2], .box [.str (rowS (loQ o) o.f3.length), .str (rowS (hiQ o) o.f4.length)], .val (.agg [arrOf T46.enc 4 o.f3, arrOf T46.enc 4 o.f4]), .val (.int .i64 (2 : Int))])
  | _, _ => False
omit [ErrT] in
theorem sv_two {a b : List UInt8} {l : List SV} (hl : ∀ u ∈ l, u.clean) : ∀ u ∈ SV.box [.str a, .str b] :: l, u.clean := sv_cons (cl_cons (Go.Ev.Clean.str _) (cl_cons (Go.Ev.Clean.str _) cl_nil)) hl
omit [ErrT] in
theorem sv_pair {a b : List T46} {l : List SV} (hl : ∀ u ∈ l, u.clean) : ∀ u ∈ SV.val (.agg [arrOf T46.enc 4 a, arrOf T46.enc 4 b]) :: l, u.clean := sv_cons (Go.Ev.Clean.agg (cl_cons (cl_arr46 a) (cl_cons (cl_arr46 b) cl_nil))) hl
theorem W53_ok (h : W53 vs σ k) : CallS Tryz.prog 53 vs k σ := by
  unfold W53 at h
  obtain ⟨e, o, rfl, ⟨hok, ho⟩, h⟩ := h
  refine CallS.oneV (fz_cons e.enc_clean (fz_cons o.enc_clean fz_nil)) (.tuple (sc_cons (.str _) (sc_cons (.str _) (sc_cons (.int _ _) sc_nil)))) (F53.floyd (live := live53) (call := kn55) (n₀ := 0) (σ := Go.Ev.start) (fun h => kn55_ok h) rfl 1 (by kernel_rfl) Nat.lt_wfRel.wf (fun _ ss => 3 - lastI ss) (I53 e o) ?_ ?_ ?_) h
  · intro k ss hI
    cases k with
    | zero =>
      rcases hI with rfl | ⟨_, rfl⟩ | ⟨_, _, rfl⟩
      · exact sv_box e (sv_two (sv_pair (sv_int sv_nil)))
      · exact sv_box e (sv_two (sv_pair (sv_int sv_nil)))
      · exact sv_box e (sv_two (sv_pair (sv_int sv_nil)))
    | succ k => exact hI.elim
  · rw [e53]
    exact .inl rfl
  · intro k hk ss hI
    obtain rfl : k = 0 := by omega
    rcases hI with rfl | ⟨h0, rfl⟩ | ⟨h0, h1, rfl⟩
    · rw [r53_0, i64_in ((0 : Int) + 1) (by omega)]
      refine ⟨rfl, e, o.f3.length, loQ o, rfl, ⟨hok, ho.lo⟩, rfl, cIf (fun k1 => bnd_lo k1) fun k1 => ?_⟩
      have k1 := Decidable.not_not.1 k1
      have := keyErr_n k1
      refine ⟨loQ o, rfl, ⟨by omega, ho.lo⟩, .inr (.inl ⟨k1, rfl⟩), ?_⟩
      show 3 - ((0 : Int) + 1).toNat < 3 - (0 : Int).toNat
      decide
    · rw [r53_1, i64_in ((1 : Int) + 1) (by omega)]
      refine ⟨rfl, e, o.f4.length, hiQ o, rfl, ⟨hok, ho.hi⟩, rfl, cIf (fun k1 => bnd_hi h0 k1) fun k1 => ?_⟩
      have k1 := Decidable.not_not.1 k1
      have := keyErr_n k1
      refine ⟨hiQ o, rfl, ⟨by omega, ho.hi⟩, .inr (.inr ⟨h0, k1, rfl⟩), ?_⟩
      show 3 - ((1 : Int) + 1).toNat < 3 - (1 : Int).toNat
      decide
    · rw [r53_2]
      refine ⟨rfl, CondP.mk (fun _ => bnd_ok h0 h1) fun hh => ?_⟩
      simp [V.beq] at hh
theorem kn56_ok : ∀ {f : FuncId} {vs : List V} {σ : St} {k : VPost}, kn56 f vs σ k → CallS Tryz.prog f vs k σ := by
  intro f vs σ k h
  unfold kn56 at h
  split at h
  · rename_i hb; obtain rfl := Nat.eq_of_beq_eq_true hb; exact W53_ok h
  · exact kn55_ok h
theorem W54_ok (h : W54 vs σ k) : CallS Tryz.prog 54 vs k σ := by
  unfold W54 at h
  obtain ⟨e, o, rfl, ⟨hok, ho⟩, h⟩ := h
  refine CallS.oneV (fz_cons e.enc_clean (fz_cons o.enc_clean fz_nil)) (.tuple (sc_cons (.str _) (sc_cons (.str _) (sc_cons (.int _ _) sc_nil)))) (F54.flat (live := live54) (call := kn56) (n₀ := 0) (σ := Go.Ev.start) (fun h => kn56_ok h) rfl (by kernel_rfl) ?_) h
  rw [e54]
  refine ⟨e, o.f3.length, loQ o, rfl, ⟨hok, ho.lo⟩, rfl, cIf (fun k1 => bnd_lo k1) fun k1 => ⟨e, o.f4.length, hiQ o, rfl, ⟨hok, ho.hi⟩, rfl, cIf (fun k2 => bnd_hi (Decidable.not_not.1 k1) k2) fun k2 => ?_⟩⟩
  have k1 := Decidable.not_not.1 k1
  have k2 := Decidable.not_not.1 k2
  have := keyErr_n k1
  have := keyErr_n k2
  exact ⟨loQ o, rfl, ⟨by omega, ho.lo⟩, hiQ o, rfl, ⟨by omega, ho.hi⟩, bnd_ok k1 k2⟩
theorem kn57_ok : ∀ {f : FuncId} {vs : List V} {σ : St} {k : VPost}, kn57 f vs σ k → CallS Tryz.prog f vs k σ := by
  intro f vs σ k h
  unfold kn57 at h
  split at h
  · rename_i hb; obtain rfl := Nat.eq_of_beq_eq_true hb; exact W54_ok h
  · exact kn56_ok h
omit [ErrT] in
theorem W46_ok (h : W46 vs σ k) : CallS Tryz.prog 46 vs k σ := by
  obtain ⟨rfl, h⟩ := h
  exact CallS.one .nil rfl S46 h
theorem kn58_ok : ∀ {f : FuncId} {vs : List V} {σ : St} {k : VPost}, kn58 f vs σ k → CallS Tryz.prog f vs k σ := by
  intro f vs σ k h
  unfold kn58 at h
  split at h
  · rename_i hb; obtain rfl := Nat.eq_of_beq_eq_true hb; exact W46_ok h
  · exact kn57_ok h
theorem S10 (e : T51) (o : T71) (hok : ok51 e) (ho : okO o) : CallS Tryz.prog 10 [T51.enc e, T71.enc o] (fun v _ => v = .bool true) Go.Ev.start := by
  refine F10.flat (live := live10) (call := kn58) (n₀ := 0) (fun h => kn58_ok h) rfl (by kernel_rfl) ?_
  rw [e10]
  refine ⟨⟨e, rfl⟩, ⟨rfl, rfl, rfl⟩, rfl, ⟨o, rfl⟩, ⟨rfl, rfl, rfl⟩, rfl, e, o, rfl, ⟨hok, ho⟩, e, o, rfl, ⟨hok, ho⟩, cIf (fun _ => cIf (fun _ => ⟨rfl, cIf (fun _ => ⟨rfl, rfl⟩) fun hh => absurd rfl hh⟩) fun hh => absurd rfl hh) fun hh => absurd rfl hh⟩
end
end Go.Proofs.YtbajncpfmemdgaaGreatDoor
namespace Go.Proofs.YtbajncpfmemdgaaGreatDoor
open Go Go.Ev
theorem bits64 {n : Int} (h : (Lit.int .u64 n).wf = true) : 0 ≤ n ∧ n < 18446744073709551616 := by
  have h : (decide (IntKind.u64.min ≤ n) && decide (n ≤ IntKind.u64.max)) = true := h
  rw [Bool.and_eq_true, decide_eq_true_iff, decide_eq_true_iff] at h
  have h1 : IntKind.u64.min = 0 := by decide
  have h2 : IntKind.u64.max = 18446744073709551615 := by decide
  omega
section
variable [Env] {P : Program} {d : Nat} {t : TypeId} {us : List V}
omit [Env] in
theorem HasT.intW {k : IntKind} (hu : P.underlying t = some (.int k)) (h : HasT P d t us) : ∃ n, us = [.int k n] ∧ (Lit.int k n).wf = true := by
  cases d with
  | zero => exact h.elim
  | succ d => unfold HasT at h; rw [hu] at h; exact h
theorem HasT.sliceP {e : TypeId} {α : Type} [Inhabited α] {Pr : α → Prop} {enc : α → V} {esz : Nat} (hu : P.underlying t = some (.slice e)) (hcs : P.cellsOf e = esz) (hsz : ∀ a, (enc a).cells.length = esz)
    (H : ∀ {d : Nat} {us : List V}, HasT P d e us → ∃ a, Pr a ∧ Imp us (enc a).cells) (h : HasT P d t us) : ∃ l : List α, (∀ x ∈ l, Pr x) ∧ Imp us [arrOf enc esz l] := by
  cases d with
  | zero => exact h.elim
  | succ d =>
    unfold HasT at h
    rw [hu] at h
    obtain ⟨es, rfl, _, hes⟩ := h
    have key : ∀ es : List (List V), (∀ x ∈ es, HasT P d e x) → ∃ l : List α, l.length = es.length ∧ (∀ x ∈ l, Pr x) ∧ ∀ (ρ : Ren) (ys : List Value), VsRel ρ (flatCells (es.map (valT P e))) ys → VsRel ρ (flatCells (l.map enc)) ys := by
      intro es
      induction es with
      | nil => exact fun _ => ⟨[], rfl, fun x hx => (by cases hx), fun _ _ h => h⟩
      | cons x es ih =>
        intro hx
        obtain ⟨l, h1, hp, h2⟩ := ih fun y hy => hx y (List.mem_cons_of_mem _ hy)
        obtain ⟨a, hpa, ha⟩ := H (hx x List.mem_cons_self)
        refine ⟨a :: l, by simp [h1], fun y hy => ?_, ?_⟩
        · rcases List.mem_cons.1 hy with rfl | hy
          · exact hpa
          · exact hp y hy
        have hc := (hx x List.mem_cons_self).cells
        intro ρ ys hy
        rw [List.map_cons, flatCells_cons] at hy ⊢
        rw [hc] at hy
        exact Imp.append (fun ρ xs h => ha ρ xs h) (fun ρ xs h => h2 ρ xs h) ρ ys hy
    obtain ⟨l, h1, hp, h2⟩ := key es hes
    refine ⟨l, hp, fun ρ xs hx => ?_⟩
    cases hx with
    | cons hx hl =>
      cases hl
      refine .cons (.arr (fun h => by cases h) (lst_frz (ρ' := ρ) (fun _ _ _ h => h) (hcs ▸ hx) (fun ys hy => ?_) ?_ ?_ fun h => by cases h)) .nil
      · rw [arrL_getD']; exact h2 ρ ys hy
      · rw [arrL_getD']
        intro v hv
        obtain ⟨a, _, rfl⟩ := List.mem_map.1 hv
        exact hsz a
      · rw [arrL_length, List.length_map, h1]
end
section
variable [Env]
theorem X9 {d : Nat} {us : List V} (h : HasT Tryz.prog d 9 us) : ∃ a : (List UInt8), True ∧ Imp us [.str (a)] := by
  obtain ⟨n, rfl⟩ := h.str (by kernel_rfl)
  exact ⟨n, trivial, Imp.refl _⟩
theorem X3 {d : Nat} {us : List V} (h : HasT Tryz.prog d 3 us) : ∃ a : Int, True ∧ Imp us [.int .i64 (a)] := by
  obtain ⟨n, rfl⟩ := h.int (k := .i64) (by kernel_rfl)
  exact ⟨n, trivial, Imp.refl _⟩
theorem X4 {d : Nat} {us : List V} (h : HasT Tryz.prog d 4 us) : ∃ a : Bool, True ∧ Imp us [.bool a] := by
  obtain ⟨n, rfl⟩ := h.bool (by kernel_rfl)
  exact ⟨n, trivial, Imp.refl _⟩
theorem X44 {d : Nat} {us : List V} (h : HasT Tryz.prog d 44 us) : ∃ a : Int, (0 ≤ a ∧ a < 18446744073709551616) ∧ Imp us [.int .u64 (a)] := by
  obtain ⟨n, rfl, hn⟩ := HasT.intW (k := .u64) (by kernel_rfl) h
  exact ⟨n, bits64 hn, Imp.refl _⟩
theorem X46 {d : Nat} {us : List V} (h : HasT Tryz.prog d 46 us) : ∃ a : T46, ok46 a ∧ Imp us a.cells := by
  obtain ⟨d', ps, rfl, ha⟩ := h.struct (tys := [3, 3, 44, 9]) (by kernel_rfl)
  obtain ⟨p0, _, rfl, h0, ha⟩ := ha.cons
  obtain ⟨p1, _, rfl, h1, ha⟩ := ha.cons
  obtain ⟨p2, _, rfl, h2, ha⟩ := ha.cons
  obtain ⟨p3, _, rfl, h3, ha⟩ := ha.cons
  obtain rfl := ha.nil
  obtain ⟨a0, r0, i0⟩ := X3 h0
  obtain ⟨a1, r1, i1⟩ := X3 h1
  obtain ⟨a2, r2, i2⟩ := X44 h2
  obtain ⟨a3, r3, i3⟩ := X9 h3
  exact ⟨⟨a0, a1, a2, a3⟩, r2, i0.append (i1.append (i2.append (i3.append (Imp.refl []))))⟩
theorem X48 {d : Nat} {us : List V} (h : HasT Tryz.prog d 48 us) : ∃ a : T48, ok48 a ∧ Imp us a.cells := by
  obtain ⟨d', ps, rfl, ha⟩ := h.struct (tys := [9, 3, 4, 46]) (by kernel_rfl)
  obtain ⟨p0, _, rfl, h0, ha⟩ := ha.cons
  obtain ⟨p1, _, rfl, h1, ha⟩ := ha.cons
  obtain ⟨p2, _, rfl, h2, ha⟩ := ha.cons
  obtain ⟨p3, _, rfl, h3, ha⟩ := ha.cons
  obtain rfl := ha.nil
  obtain ⟨a0, r0, i0⟩ := X9 h0
  obtain ⟨a1, r1, i1⟩ := X3 h1
  obtain ⟨a2, r2, i2⟩ := X4 h2
  obtain ⟨a3, r3, i3⟩ := X46 h3
  exact ⟨⟨a0, a1, a2, a3⟩, r3, i0.append (i1.append (i2.append (i3.append (Imp.refl []))))⟩
theorem X49 {d : Nat} {us : List V} (h : HasT Tryz.prog d 49 us) : ∃ a : (List T48), (∀ x ∈ a, ok48 x) ∧ Imp us [arrOf T48.enc 7 (a)] := by
  obtain ⟨l, h1, h2⟩ := HasT.sliceP (Pr := fun x => ok48 x) (enc := T48.enc) (esz := 7) (by kernel_rfl) (by kernel_rfl) (fun a => T48.size a) (fun h => X48 h) h
  exact ⟨l, h1, h2⟩
theorem X51 {d : Nat} {us : List V} (h : HasT Tryz.prog d 51 us) : ∃ a : T51, ok51 a ∧ Imp us a.cells := by
  obtain ⟨d', ps, rfl, ha⟩ := h.struct (tys := [9, 3, 49]) (by kernel_rfl)
  obtain ⟨p0, _, rfl, h0, ha⟩ := ha.cons
  obtain ⟨p1, _, rfl, h1, ha⟩ := ha.cons
  obtain ⟨p2, _, rfl, h2, ha⟩ := ha.cons
  obtain rfl := ha.nil
  obtain ⟨a0, r0, i0⟩ := X9 h0
  obtain ⟨a1, r1, i1⟩ := X3 h1
  obtain ⟨a2, r2, i2⟩ := X49 h2
  exact ⟨⟨a0, a1, a2⟩, r2, i0.append (i1.append (i2.append (Imp.refl [])))⟩
theorem X69 {d : Nat} {us : List V} (h : HasT Tryz.prog d 69 us) : ∃ a : (List T46), (∀ x ∈ a, ok46 x) ∧ Imp us [arrOf T46.enc 4 (a)] := by
  obtain ⟨l, h1, h2⟩ := HasT.sliceP (Pr := fun x => ok46 x) (enc := T46.enc) (esz := 4) (by kernel_rfl) (by kernel_rfl) (fun a => T46.size a) (fun h => X46 h) h
  exact ⟨l, h1, h2⟩
theorem X43 {d : Nat} {us : List V} (h : HasT Tryz.prog d 43 us) : ∃ a : (List (List UInt8)), True ∧ Imp us [arrOf V.str 1 (a)] := by
  obtain ⟨l, h1, h2⟩ := HasT.sliceP (Pr := fun _ => True) (enc := V.str) (esz := 1) (by kernel_rfl) (by kernel_rfl) (fun a => rfl) (fun h => X9 h) h
  exact ⟨l, trivial, h2⟩
theorem X53 {d : Nat} {us : List V} (h : HasT Tryz.prog d 53 us) : ∃ a : T53, True ∧ Imp us a.cells := by
  obtain ⟨d', ps, rfl, ha⟩ := h.struct (tys := [3, 9, 9, 9, 9, 9, 3, 43, 48, 51]) (by kernel_rfl)
  obtain ⟨p0, _, rfl, h0, ha⟩ := ha.cons
  obtain ⟨p1, _, rfl, h1, ha⟩ := ha.cons
  obtain ⟨p2, _, rfl, h2, ha⟩ := ha.cons
  obtain ⟨p3, _, rfl, h3, ha⟩ := ha.cons
  obtain ⟨p4, _, rfl, h4, ha⟩ := ha.cons
  obtain ⟨p5, _, rfl, h5, ha⟩ := ha.cons
  obtain ⟨p6, _, rfl, h6, ha⟩ := ha.cons
  obtain ⟨p7, _, rfl, h7, ha⟩ := ha.cons
  obtain ⟨p8, _, rfl, h8, ha⟩ := ha.cons
  obtain ⟨p9, _, rfl, h9, ha⟩ := ha.cons
  obtain rfl := ha.nil
  obtain ⟨a0, r0, i0⟩ := X3 h0
  obtain ⟨a1, r1, i1⟩ := X9 h1
  obtain ⟨a2, r2, i2⟩ := X9 h2
  obtain ⟨a3, r3, i3⟩ := X9 h3
  obtain ⟨a4, r4, i4⟩ := X9 h4
  obtain ⟨a5, r5, i5⟩ := X9 h5
  obtain ⟨a6, r6, i6⟩ := X3 h6
  obtain ⟨a7, r7, i7⟩ := X43 h7
  obtain ⟨a8, r8, i8⟩ := X48 h8
  obtain ⟨a9, r9, i9⟩ := X51 h9
  exact ⟨⟨a0, a1, a2, a3, a4, a5, a6, a7, a8, a9⟩, trivial, i0.append (i1.append (i2.append (i3.append (i4.append (i5.append (i6.append (i7.append (i8.append (i9.append (Imp.refl []))))))))))⟩
theorem X71 {d : Nat} {us : List V} (h : HasT Tryz.prog d 71 us) : ∃ a : T71, okO a ∧ Imp us a.cells := by
  obtain ⟨d', ps, rfl, ha⟩ := h.struct (tys := [3, 9, 69, 69, 69, 3, 53]) (by kernel_rfl)
  obtain ⟨p0, _, rfl, h0, ha⟩ := ha.cons
  obtain ⟨p1, _, rfl, h1, ha⟩ := ha.cons
  obtain ⟨p2, _, rfl, h2, ha⟩ := ha.cons
  obtain ⟨p3, _, rfl, h3, ha⟩ := ha.cons
  obtain ⟨p4, _, rfl, h4, ha⟩ := ha.cons
  obtain ⟨p5, _, rfl, h5, ha⟩ := ha.cons
  obtain ⟨p6, _, rfl, h6, ha⟩ := ha.cons
  obtain rfl := ha.nil
  obtain ⟨a0, r0, i0⟩ := X3 h0
  obtain ⟨a1, r1, i1⟩ := X9 h1
  obtain ⟨a2, r2, i2⟩ := X69 h2
  obtain ⟨a3, r3, i3⟩ := X69 h3
  obtain ⟨a4, r4, i4⟩ := X69 h4
  obtain ⟨a5, r5, i5⟩ := X3 h5
  obtain ⟨a6, r6, i6⟩ := X53 h6
  exact ⟨⟨a0, a1, a2, a3, a4, a5, a6⟩, ⟨r3, r4⟩, i0.append (i1.append (i2.append (i3.append (i4.append (i5.append (i6.append (Imp.refl [])))))))⟩
end
end Go.Proofs.YtbajncpfmemdgaaGreatDoor
namespace Go.Proofs.YtbajncpfmemdgaaGreatDoor
open Go Go.Ev
/-- What stands in errors.errorType. -/
def errCell : Nat × Nat × Value := (0, 0, .iface 292 (.agg #[.pointer (some ⟨3, 179, none⟩)]))
/-- A law's call, out of what is known of it at the arguments' values. -/
theorem calls_typedL [Env] {P : Program} {f : FuncId} {vs : List V} {xs : List Value} {w : World} (hl : ∀ q ∈ Env.laid, w.cell? ⟨q.1, q.2.1, none⟩ = some q.2.2) (hv : VsRel (allImm w) vs xs) (h : CallS P f vs (fun u _ => u = .bool true) Go.Ev.start) : Calls P f ⟨xs⟩ w fun e w' => e = .returned (.bool true) ∧ RowKit.Below w.heap.size w w' := by
  obtain ⟨_, hc⟩ := SemE.at h.h (allImm w) w xs (allImm_rel w hl) hv
  refine callsIn_wide.1 (hc.mono fun e w' hp => ?_)
  obtain ⟨v', σ', ρ', x', h1, rfl, h2, h3⟩ := hp
  have h1 : v' = .bool true := h1
  subst h1
  cases h2
  refine ⟨rfl, h3.os, h3.tape, h3.output, h3.size, fun k hk => h3.keep k hk ?_⟩
  rintro ⟨b, k, l, hb, _⟩
  rw [start_get] at hb
  cases hb
theorem plain51 : plainT Tryz.prog 12 51 = true := by kernel_rfl
theorem plain71 : plainT Tryz.prog 12 71 = true := by kernel_rfl
/-- An argument that is a struct: its cells. -/
theorem typed_agg [Env] {P : Program} {t : TypeId} {k : Nat} {A : List V → Prop} (hp : plainT P k t = true) (hX : ∀ {us : List V}, HasT P k t us → ∃ vs, A vs ∧ Imp us vs)
    {H : Type} {enc : TypeId × Value → H} {W : World} {cs : List Value} {d : DataW H} {p : List MemPlace} (h : DataW.Trod enc P W 0 (fun _ => true) true t (.agg ⟨cs⟩) d p) : ∃ vs, A vs ∧ VRel (allImm W) (.agg vs) (.agg ⟨cs⟩) := by
  obtain ⟨fuel, h⟩ := h
  obtain ⟨us, h1, h2⟩ := tree_of k hp h
  obtain ⟨vs, h3, h4⟩ := hX h2
  exact ⟨vs, h3, .agg (h4 _ _ h1)⟩
theorem ex51 [Env] {k : Nat} {us : List V} (h : HasT Tryz.prog k 51 us) : ∃ vs, (∃ e : T51, ok51 e ∧ vs = e.cells) ∧ Imp us vs := by
  obtain ⟨a, h1, h2⟩ := X51 h
  exact ⟨_, ⟨a, h1, rfl⟩, h2⟩
theorem ex71 [Env] {k : Nat} {us : List V} (h : HasT Tryz.prog k 71 us) : ∃ vs, (∃ o : T71, okO o ∧ vs = o.cells) ∧ Imp us vs := by
  obtain ⟨a, h1, h2⟩ := X71 h
  exact ⟨_, ⟨a, h1, rfl⟩, h2⟩
theorem modelBounds_calls {H : Type} {enc : TypeId × Value → H} {W : World} {c0 c1 : List Value} {d0 d1 : DataW H} {p0 p1 : List MemPlace} (hL : W.cell? ⟨0, 0, none⟩ = some (.iface 292 (.agg #[.pointer (some ⟨3, 179, none⟩)])))
    (h0 : DataW.Trod enc Tryz.prog W 0 (fun _ => true) true 51 (.agg ⟨c0⟩) d0 p0) (h1 : DataW.Trod enc Tryz.prog W 0 (fun _ => true) true 71 (.agg ⟨c1⟩) d1 p1) :
    Calls Tryz.prog 10 #[.agg ⟨c0⟩, .agg ⟨c1⟩] W fun e W' => e = .returned (.bool true) ∧ RowKit.Below W.heap.size W W' := by
  letI : Env := envOf [] (fun x hx => by cases hx) (l := [errCell])
  letI : ErrT := ⟨List.mem_singleton.2 rfl⟩
  obtain ⟨v0, ⟨e, hok, rfl⟩, r0⟩ := typed_agg (k := 12) (A := fun vs => ∃ e : T51, ok51 e ∧ vs = e.cells) plain51 (ex51 (k := 12)) h0
  obtain ⟨v1, ⟨o, ho, rfl⟩, r1⟩ := typed_agg (k := 12) (A := fun vs => ∃ o : T71, okO o ∧ vs = o.cells) plain71 (ex71 (k := 12)) h1
  refine calls_typedL (fun q hq => ?_) (.cons r0 (.cons r1 .nil)) (S10 e o hok ho)
  have hq : q ∈ [errCell] := hq
  obtain rfl := List.mem_singleton.1 hq
  exact hL
end Go.Proofs.YtbajncpfmemdgaaGreatDoor
