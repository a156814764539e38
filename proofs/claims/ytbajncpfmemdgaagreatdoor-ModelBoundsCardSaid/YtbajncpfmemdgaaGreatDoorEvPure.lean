/- Calls that look at no memory of their own: from nothing on; rows out of plain lists. -/
import Derived.Test.YtbajncpfmemdgaaGreatDoorEvFloyd
import Derived.Test.YtbajncpfmemdgaaGreatDoorEvTree
namespace Go.Ev
open Go

/-- A slice of a list's elements. -/
def arrOf {α : Type} [Inhabited α] (enc : α → V) (esz : Nat) (l : List α) : V := .arr l.length (fun i => enc (l.getD i default)) esz false false
/-- The same, not nil. -/
def arrNn {α : Type} [Inhabited α] (enc : α → V) (esz : Nat) (l : List α) : V := .arr l.length (fun i => enc (l.getD i default)) esz false true
/-- The row in block b. -/
def rowIn (σ : St) (b : Nat) (k : Nat → (Nat → V) → Prop) : Prop :=
  match σ.heap.get b with
  | some (.row n f _ _) => k n f
  | _ => False
/-- The k-th loop's body. -/
def lp (c : Code) (k : Nat) : Code := ((loopsOf c)[k]?).getD .skip

section
variable [Env] {P : Program} {σ : St}
theorem arrOf_clean {α : Type} [Inhabited α] {enc : α → V} {esz : Nat} {l : List α} (h : ∀ x ∈ l, ∀ u ∈ (enc x).cells, Clean u) : Clean (arrOf enc esz l) :=
  Clean.arr fun i hi => by
    have : l.getD i default = l[i] := by rw [List.getD_eq_getElem?_getD, List.getElem?_eq_getElem hi]; rfl
    rw [this]; exact h _ (List.getElem_mem hi)
/-- From nothing on, and the answer knows no row. -/
theorem CallS.lend0 {f : FuncId} {vs us : List V} {Q : V → Prop} (hf : FrzL σ vs us) (hq : ∀ v, Q v → ∀ (ρ ρ' : Ren) x, VRel ρ v x → VRel ρ' v x) (h : CallS P f us (fun v _ => Q v) start) : CallS P f vs (fun v σ' => Q v ∧ σ' = σ) σ := by
  have h := h.h
  refine ⟨⟨?_, ?_⟩⟩
  · obtain ⟨⟨o, τ⟩, hx⟩ := h.1
    cases o with
    | val v => exact ⟨(.val v, σ), hx, rfl⟩
    | exit e a => exact hx.elim
  · intro ρ w vs' hr hv
    have hv₀ : VsRel (allImm w) us vs' := frzL_rel hr (fun c o x hx => (hr.imm c o x hx).1) (fun b k l _ _ o x hx => hx) hf hv
    obtain ⟨g1, g2⟩ := SemE.at h (allImm w) w vs' (allImm_rel w fun q hq => (hr.imm _ _ _ (hr.laid q hq)).1) hv₀
    refine ⟨g1, g2.mono fun e w' hx => ?_⟩
    obtain ⟨v, τ', ρ₁, v', hq', rfl, hvr, hst⟩ := hx
    have nowr : ∀ {c}, ¬ Wr (allImm w) start c := by rintro c ⟨b, k, l, hb, _⟩; rw [start_get] at hb; cases hb
    have hold : ∀ c, c < w.heap.size → w'.heap[c]? = w.heap[c]? := fun c hc => hst.keep c hc nowr
    refine ⟨v, σ, ρ, v', ⟨hq', rfl⟩, rfl, hq v hq' ρ₁ ρ v' hvr, ⟨⟨fun b k hb => ?_, hr.inj, hr.fresh, fun b l hb => Nat.lt_of_lt_of_le (hr.valid b l hb) hst.size, fun c o x hx => ?_, hr.laid⟩, Ren.le.refl ρ, Nat.le_refl _, fun b l hb => .inl hb, hst.size, hst.os, hst.tape, hst.output,
      fun c hc _ => hold c hc, fun c _ h => h, fun b k hb => .inl ⟨k, hb⟩, fun c o x hx => .inl hx⟩⟩
    · obtain ⟨l, hl, hk⟩ := hr.blk b k hb
      exact ⟨l, hl, hk.same (Ren.le.refl ρ) (hold l.c (hr.valid b l hl))⟩
    · obtain ⟨a1, a2⟩ := hr.imm c o x hx
      exact ⟨by rw [cell?_of_block (hold c (lt_of_cell a1))]; exact a1, a2⟩
/-- From nothing on: the answer is told without blocks. -/
theorem CallS.froz0 {f : FuncId} {vs : List V} {Q : V → Prop} (hc : ∀ v ∈ vs, Clean v) (h : CallS P f vs (fun v τ => ∃ u, Frz τ v u ∧ Q u) start) : CallS P f vs (fun v σ' => Q v ∧ σ' = σ) σ := by
  have h := h.h
  refine ⟨⟨?_, ?_⟩⟩
  · obtain ⟨⟨o, τ⟩, hx⟩ := h.1
    cases o with
    | val v => obtain ⟨u, _, hu⟩ := hx; exact ⟨(.val u, σ), hu, rfl⟩
    | exit e a => exact hx.elim
  · intro ρ w vs' hr hv
    let ρ₀ : Ren := ⟨fun _ => none, ρ.imm⟩
    have nowr : ∀ {c}, ¬ Wr ρ₀ start c := by rintro c ⟨b, k, l, hb, _⟩; rw [start_get] at hb; cases hb
    have hr₀ : R ρ₀ start w := ⟨fun b k h => (by rw [start_get] at h; cases h), fun b b' k k' l l' h => (by rw [start_get] at h; cases h), fun _ _ => rfl, fun b l h => (by cases h), fun c o x h => ⟨(hr.imm c o x h).1, nowr⟩, hr.laid⟩
    have hv₀ : VsRel ρ₀ vs vs' := VsRel.clean (ρ := ρ) (ρ' := ρ₀) (fun _ _ _ h => h) hc hv
    obtain ⟨g1, g2⟩ := SemE.at h ρ₀ w vs' hr₀ hv₀
    refine ⟨g1, g2.mono fun e w' hx => ?_⟩
    obtain ⟨v, τ', ρ₁, v', ⟨u, hf, hq⟩, rfl, hvr, hst⟩ := hx
    let ρ₂ : Ren := ⟨ρ.at', fun c o => if c < w.heap.size then ρ.imm c o else w'.cell? ⟨c, o, none⟩⟩
    have hold : ∀ c, c < w.heap.size → w'.heap[c]? = w.heap[c]? := fun c hc => hst.keep c hc nowr
    have hle : ρ.le ρ₂ := ⟨fun b l hb => hb, fun c o x hx => by
      show (if c < w.heap.size then ρ.imm c o else _) = some x
      rw [if_pos (lt_of_cell (hr.imm c o x hx).1)]; exact hx⟩
    have himm : ∀ c o x, ρ₁.imm c o = some x → ρ₂.imm c o = some x := by
      intro c o x hx
      show (if c < w.heap.size then ρ.imm c o else _) = some x
      by_cases hc : c < w.heap.size
      · rw [if_pos hc]
        rcases hst.idom c o x hx with h1 | h1 | h1
        · exact h1
        · omega
        · exact absurd h1 nowr
      · rw [if_neg hc]; exact (hst.r.imm c o x hx).1
    have hnew : ∀ b k l, τ'.heap.get b = some k → ρ₁ b = some l → ∀ o x, w'.cell? ⟨l.c, o, none⟩ = some x → ρ₂.imm l.c o = some x := by
      intro b k l hb hl o x hx
      show (if l.c < w.heap.size then ρ.imm l.c o else _) = some x
      rw [if_neg fun hc => nowr (hst.wr l.c hc ⟨b, k, l, hb, rfl, hl, rfl⟩)]
      exact hx
    refine ⟨u, σ, ρ₂, v', ⟨hq, rfl⟩, rfl, frz_rel hst.r himm hnew hf hvr, ⟨⟨fun b k hb => ?_, hr.inj, hr.fresh, fun b l hb => Nat.lt_of_lt_of_le (hr.valid b l hb) hst.size, fun c o x hx => ?_, hr.laid_le hle⟩, hle, Nat.le_refl _, fun b l hb => .inl hb, hst.size, hst.os, hst.tape, hst.output,
      fun c hc _ => hold c hc, fun c _ h => h, fun b k hb => .inl ⟨k, hb⟩, fun c o x hx => ?_⟩⟩
    · obtain ⟨l, hl, hk⟩ := hr.blk b k hb
      exact ⟨l, hl, hk.same hle (hold l.c (hr.valid b l hl))⟩
    · replace hx : (if c < w.heap.size then ρ.imm c o else w'.cell? ⟨c, o, none⟩) = some x := hx
      by_cases hc : c < w.heap.size
      · rw [if_pos hc] at hx
        obtain ⟨a1, a2⟩ := hr.imm c o x hx
        exact ⟨by rw [cell?_of_block (hold c hc)]; exact a1, a2⟩
      · rw [if_neg hc] at hx
        refine ⟨hx, ?_⟩
        rintro ⟨b, k, l, _, _, h3, h4⟩
        exact hc (by rw [← h4]; exact hr.valid b l h3)
    · replace hx : (if c < w.heap.size then ρ.imm c o else w'.cell? ⟨c, o, none⟩) = some x := hx
      by_cases hc : c < w.heap.size
      · rw [if_pos hc] at hx; exact .inl hx
      · exact .inr (.inl (Nat.le_of_not_lt hc))
theorem arr_nil {ρ : Ren} {n : Nat} {f : Nat → V} {esz : Nat} {ex : Bool} {x : Value} (h : VRel ρ (.arr n f esz ex false) x) : (n = 0 ∧ VRel ρ .nilslice x) ∨ VRel ρ (.arr n f esz ex true) x := by
  cases h with
  | arr _ h =>
    have h0 := h
    generalize he : arrL n f = es at h
    cases h with
    | lst => exact .inr (.arr (fun _ => ⟨_, _, _, rfl⟩) h0)
    | lstnil =>
      have := arrL_length n f
      rw [he] at this
      exact .inl ⟨this.symm, .nilslice⟩
    | lstzero => exact .inr (.arr (fun _ => ⟨_, _, _, rfl⟩) h0)
/-- A slice is nil, or not. -/
theorem CallS.nil_or {f : FuncId} {n : Nat} {g : Nat → V} {esz : Nat} {ex : Bool} {vs : List V} {Q : VPost} (h1 : n = 0 → CallS P f (.nilslice :: vs) Q σ) (h2 : CallS P f (.arr n g esz ex true :: vs) Q σ) : CallS P f (.arr n g esz ex false :: vs) Q σ := by
  refine ⟨⟨h2.h.1, ?_⟩⟩
  intro ρ w vs' hr hv
  cases hv with
  | cons hx hl =>
    rcases arr_nil hx with ⟨hn, hx⟩ | hx
    · exact SemE.at (h1 hn).h ρ w _ hr (.cons hx hl)
    · exact SemE.at h2.h ρ w _ hr (.cons hx hl)
/-! ### A function's facts -/
def notLoop : Code → Bool
  | .loop _ => false
  | _ => true
structure FnF (P : Program) (f : FuncId) (g : Func) : Prop where
  hf : P.funcs[f]? = some g
  hb : g.body = some (g.body.getD .skip)
  hn : (g.name == "runtime.NumGoroutine") = false
  hp : flatC (g.body.getD .skip) = true
  hl : notLoop (g.body.getD .skip) = true
variable [Mix P] {f : FuncId} {g : Func} {call : FuncId → List V → St → VPost → Prop} {vs : List V} {Q : VPost} {n₀ : Nat} {live : Nat → List Nat}
theorem FnF.floyd (F : FnF P f g) (hcall : ∀ {f vs σ k}, call f vs σ k → CallS P f vs k σ) (hn₀ : σ.next = n₀) (N : Nat) (hN : nloops (g.body.getD .skip) = N)
    {α : Type} {r : α → α → Prop} (wf : WellFounded r) (μ : Nat → List SV → α) (I : Nat → List SV → Prop) (hc : ∀ k ss, I k ss → ∀ s ∈ ss, s.clean)
    (hentry : ws P (KF P call n₀ g.ntmps live I) f none 0 (g.body.getD .skip) (retS P g Q) (actOf g.ntmps vs) σ)
    (hstep : ∀ k, k < N → ∀ ss, I k ss → ws P (KF P call n₀ g.ntmps live fun k' ss' => I k' ss' ∧ r (μ k' ss') (μ k ss)) f none (Nat.add k 1) (lp (g.body.getD .skip) k)
      (seqQ (fun a σ => canonP n₀ g.ntmps (live k) a σ fun ss' => I k ss' ∧ r (μ k ss') (μ k ss)) (behind P (KF P call n₀ g.ntmps live fun k' ss' => I k' ss' ∧ r (μ k' ss') (μ k ss)) f (g.body.getD .skip) 0 k (retS P g Q))) (mkA g.ntmps (live k) ss) (mkS ss)) :
    CallS P f vs Q σ := by
  refine CallS.floyd (fun h => hcall h) F.hf F.hb F.hn F.hp hn₀ wf μ I hc hentry (fun k x hx ss hI => ?_) fun x e => ?_
  · have hk : k < N := by
      rw [← hN, ← nloops_eq]
      exact (List.getElem?_eq_some_iff.1 hx).1
    have e : x = lp (g.body.getD .skip) k := by unfold lp; rw [hx]; rfl
    subst e
    exact hstep k hk ss hI
  · have := F.hl
    rw [e] at this; cases this
/-- Without loops. -/
theorem FnF.flat (F : FnF P f g) (hcall : ∀ {f vs σ k}, call f vs σ k → CallS P f vs k σ) (hn₀ : σ.next = n₀) (hN : nloops (g.body.getD .skip) = 0)
    (h : ws P (KF P call n₀ g.ntmps live fun _ _ => False) f none 0 (g.body.getD .skip) (retS P g Q) (actOf g.ntmps vs) σ) : CallS P f vs Q σ :=
  F.floyd (fun h => hcall h) hn₀ 0 hN Nat.lt_wfRel.wf (fun _ _ => 0) (fun _ _ => False) (fun _ _ h => h.elim) h fun k hk => absurd hk (Nat.not_lt_zero k)
/-- A value of one cell that looks at nothing. -/
def V.scal : V → Bool
  | .int _ _ | .bool _ | .str _ => true
  | .tuple [] => true
  | _ => false
omit [Mix P] in
theorem V.scal_rel {v : V} (h : V.scal v = true) (ρ ρ' : Ren) (x : Value) (hx : VRel ρ v x) : VRel ρ' v x := by
  unfold V.scal at h
  split at h
  · cases hx; exact .int _ _
  · cases hx; exact .bool _
  · cases hx; exact .str _
  · cases hx with | tuple h => cases h; exact .tuple .nil
  · cases h
omit [Mix P] in
/-- From nothing on, to one of the answers of P. -/
theorem CallS.one_of {us : List V} {k : VPost} {A : V → Prop} (hf : FrzL σ vs us) (hA : ∀ v, A v → V.scal v = true) (h : CallS P f us (fun v _ => A v) start) (hk : ∀ v, A v → k v σ) : CallS P f vs k σ :=
  (CallS.lend0 (Q := A) hf (fun v hv ρ ρ' x hx => V.scal_rel (hA v hv) ρ ρ' x hx) h).mono fun v τ ⟨h1, h2⟩ => by subst h2; exact hk v h1
omit [Mix P] in
theorem CallS.one {us : List V} {k : VPost} {v : V} (hf : FrzL σ vs us) (hv : V.scal v = true) (h : CallS P f us (fun u _ => u = v) start) (hk : k v σ) : CallS P f vs k σ :=
  CallS.one_of hf (fun u e => by rw [e]; exact hv) h fun u e => by rw [e]; exact hk
theorem cl_nil : ∀ v ∈ ([] : List V), Clean v := fun _ h => by cases h
theorem cl_cons {v : V} {l : List V} (h : Clean v) (hl : ∀ u ∈ l, Clean u) : ∀ u ∈ v :: l, Clean u := fun u hu => by
  rcases List.mem_cons.1 hu with rfl | hu
  · exact h
  · exact hl u hu
omit [Mix P] in
/-- An answer, and memory, under new numbers. -/
theorem CallS.told {Q' : VPost} (h : CallS P f vs Q' start) (hq : ∀ v τ, Q' v τ → ∃ m v' σ', VRen m v' v ∧ Fgt 0 m ⟨[], 0, []⟩ σ' ⟨[], 0, []⟩ τ ∧ Q v' σ') : CallS P f vs Q start := by
  have h := h.h
  refine ⟨⟨?_, ?_⟩⟩
  · obtain ⟨⟨o, τ⟩, hx⟩ := h.1
    cases o with
    | val v => obtain ⟨_, v', σ', _, _, h3⟩ := hq v τ hx; exact ⟨(.val v', σ'), h3⟩
    | exit e a => exact hx.elim
  · intro ρ w vs' hr hv
    obtain ⟨g1, g2⟩ := SemE.at h ρ w vs' hr hv
    refine ⟨g1, g2.mono fun e w' hx => ?_⟩
    obtain ⟨v, τ, ρ₁, x, hx, rfl, hvr, hst⟩ := hx
    obtain ⟨m, v', σ', hv', hf, h3⟩ := hq v τ hx
    exact ⟨v', σ', ρ₁.pull m, x, h3, rfl, hv'.rel hvr, ((StpN.of (n₀ := 0) (Nat.zero_le _) hst).fgt hf).to hr⟩
omit [Mix P] in
theorem CallS.of_run [Mix P] {p : V → St → Bool} (n : Nat) (h : (run P n (.call f vs) σ).check (checkV p) = true) (hq : ∀ v τ, p v τ = true → Q v τ) : CallS P f vs Q σ :=
  ⟨SemE.of_run (n := n) ((Res.holds_of_check h).mono fun ⟨o, τ⟩ hx => by cases o with
    | val v => exact hq v τ hx
    | exit e a => cases hx)⟩
end
end Go.Ev
