/- Calls that get rows of their own and hand rows back: the rest of memory is as it was. -/
import Derived.Test.YtbajncpfmemdgaaGreatDoorEvPure
namespace Go.Ev
open Go

section
variable [Env] {P : Program} {σ : St}
/-- A call, of which the numbers of what it was handed do not count behind it. -/
structure CallN (P : Program) (f : FuncId) (vs : List V) (Q : VPost) (σ : St) : Prop where
  ex : ∃ v τ, Q v τ
  h : ∀ (ρ : Ren) (w : World) (vs' : List Value), R ρ σ w → VsRel ρ vs vs' → (callFunc f ⟨vs'⟩).run P w = .ok (.enter f ⟨vs'⟩) w ∧
    CallsIn Fence.wide 0 P f ⟨vs'⟩ w fun e w' => ∃ v τ ρ' v', Q v τ ∧ e = .returned v' ∧ VRel ρ' v v' ∧ StpN 0 ρ σ w ρ' τ w'
theorem CallS.n {f : FuncId} {vs : List V} {Q : VPost} (h : CallS P f vs Q σ) : CallN P f vs Q σ := by
  have h := h.h
  refine ⟨?_, fun ρ w vs' hr hv => ?_⟩
  · obtain ⟨⟨o, τ⟩, hx⟩ := h.1
    cases o with
    | val v => exact ⟨v, τ, hx⟩
    | exit e a => exact hx.elim
  · obtain ⟨g1, g2⟩ := SemE.at h ρ w vs' hr hv
    refine ⟨g1, g2.mono fun e w' hx => ?_⟩
    obtain ⟨v, τ, ρ', v', h1, h2, h3, h4⟩ := hx
    exact ⟨v, τ, ρ', v', h1, h2, h3, StpN.of (Nat.zero_le _) h4⟩
theorem CallN.code [Mix P] {f : FuncId} {g : Func} {c : Code} {vs : List V} {Q : VPost} (hf : P.funcs[f]? = some g) (hb : g.body = some c) (hn : (g.name == "runtime.NumGoroutine") = false)
    (h : CodeN P 0 c (retS P g Q) (actOf g.ntmps vs) σ) : CallN P f vs Q σ := by
  have hend : ∀ {a : Act} {τ : St}, (match a.defers with
      | [] => resP Q τ (resultsV P a τ g.results.toList)
      | _ => TaskS P (.leave g a) (valP Q) τ) → SemE P (.leave g a) τ (valP Q) := fun h => leaveS_holds h
  refine ⟨?_, fun ρ w vs' hr hv => ⟨callFunc_run hf hb hn _, callsIn_of_wp_marks hf hb trivial (wpIn_mono (h.h (Nat.zero_le _) ρ w _ hr (actOf_rel hv g.ntmps)) fun e a₁ w₁ hpost => ?_)⟩⟩
  · obtain ⟨e, a, τ, hx⟩ := h.ex
    have key : SemE P (.leave g a) τ (valP Q) → ∃ v τ, Q v τ := fun h => by
      obtain ⟨⟨o, τ⟩, hx⟩ := h.1
      cases o with
      | val v => exact ⟨v, τ, hx⟩
      | exit e a => exact hx.elim
    cases e with
    | normal => exact key (hend hx)
    | ret => exact key (hend hx)
    | exit i => exact hx.elim
    | goto i => exact hx.elim
  · obtain ⟨e, b, σ', ρ', h1, rfl, h3, h4⟩ := hpost
    have fin : SemE P (.leave g b) σ' (valP Q) → LeavesInM Fence.wide 0 P g a₁.tmps (fun e w' => ∃ v τ ρ' v', Q v τ ∧ e = .returned v' ∧ VRel ρ' v v' ∧ StpN 0 ρ σ w ρ' τ w') a₁.defers .returning w₁ := fun h =>
      LeavesInM.mono (SemE.at h ρ' w₁ a₁ h4.r h3) fun e w' hx => by
        obtain ⟨v, τ, ρ'', v', k1, k2, k3, k4⟩ := hx
        exact ⟨v, τ, ρ'', v', k1, k2, k3, h4.trans (StpN.of (Nat.zero_le _) k4)⟩
    cases e with
    | normal => exact fin (hend h1)
    | ret => exact fin (hend h1)
    | exit i => exact h1.elim
    | goto l => exact h1.elim
/-- As 'FnF.floyd', from a memory of its own. -/
theorem FnF.floydN [Mix P] {f : FuncId} {g : Func} {call : FuncId → List V → St → VPost → Prop} {vs : List V} {Q : VPost} {live : Nat → List Nat} (F : FnF P f g) (hcall : ∀ {f vs σ k}, call f vs σ k → CallS P f vs k σ) (N : Nat) (hN : nloops (g.body.getD .skip) = N)
    {α : Type} {r : α → α → Prop} (wf : WellFounded r) (μ : Nat → List SV → α) (I : Nat → List SV → Prop) (hc : ∀ k ss, I k ss → ∀ s ∈ ss, s.clean)
    (hentry : ws P (KF P call 0 g.ntmps live I) f none 0 (g.body.getD .skip) (retS P g Q) (actOf g.ntmps vs) σ)
    (hstep : ∀ k, k < N → ∀ ss, I k ss → ws P (KF P call 0 g.ntmps live fun k' ss' => I k' ss' ∧ r (μ k' ss') (μ k ss)) f none (Nat.add k 1) (lp (g.body.getD .skip) k)
      (seqQ (fun a σ => canonP 0 g.ntmps (live k) a σ fun ss' => I k ss' ∧ r (μ k ss') (μ k ss)) (behind P (KF P call 0 g.ntmps live fun k' ss' => I k' ss' ∧ r (μ k' ss') (μ k ss)) f (g.body.getD .skip) 0 k (retS P g Q))) (mkA g.ntmps (live k) ss) (mkS ss)) :
    CallN P f vs Q σ := by
  have hL := LoopN.floyd (fn := f) (call := call) (n₀ := 0) (size := g.ntmps) (live := live) (Q := retS P g Q) (fun h => hcall h) F.hp wf μ I hc fun k x hx ss hI => by
    have hk : k < N := by
      rw [← hN, ← nloops_eq]
      exact (List.getElem?_eq_some_iff.1 hx).1
    have e : x = lp (g.body.getD .skip) k := by unfold lp; rw [hx]; rfl
    subst e
    exact hstep k hk ss hI
  have hK : (KF P call 0 g.ntmps live I).OkN 0 := ⟨⟨fun h => hcall h, fun h => h⟩, fun h => CodeN.of h⟩
  exact CallN.code F.hf F.hb F.hn (CodeN.of_ws hK (g.body.getD .skip) (i := 0) (fun _ _ _ h => h) (fun j z hz a τ Q₁ hA => by
    rw [Nat.zero_add] at hA
    obtain ⟨ss', g1, g3⟩ := canonP_fgt (show canonP 0 g.ntmps (live j) a τ _ from hA)
    obtain ⟨m, hf⟩ := g3 (hc j ss' g1)
    exact (hL j z hz ss' g1).fgt hf) hentry)
theorem FnF.flatN [Mix P] {f : FuncId} {g : Func} {call : FuncId → List V → St → VPost → Prop} {vs : List V} {Q : VPost} {live : Nat → List Nat} (F : FnF P f g) (hcall : ∀ {f vs σ k}, call f vs σ k → CallS P f vs k σ) (hN : nloops (g.body.getD .skip) = 0)
    (h : ws P (KF P call 0 g.ntmps live fun _ _ => False) f none 0 (g.body.getD .skip) (retS P g Q) (actOf g.ntmps vs) σ) : CallN P f vs Q σ :=
  F.floydN hcall 0 hN Nat.lt_wfRel.wf (fun _ _ => 0) (fun _ _ => False) (fun _ _ h => h.elim) h fun k hk => absurd hk (Nat.not_lt_zero k)
/-- From a small memory, which is part of a great one: the answer is told in the great one. m: where the small one's blocks lie in it. -/
theorem CallS.frame {f : FuncId} {vs us : List V} {σ₀ : St} {Q Q₀ : VPost} {m : Nat → Option Nat} (hm : ∀ i j c, m i = some c → m j = some c → i = j) (hmr : ∀ i, σ₀.next ≤ i → m i = none)
    (hb : ∀ i k, σ₀.heap.get i = some k → ∃ c k', m i = some c ∧ σ.heap.get c = some k' ∧ BlkRen m k k') (hv : VRenL m us vs)
    (h : CallN P f us Q₀ σ₀) (hq : ∀ v τ, Q₀ v τ → ∃ (m' : Nat → Option Nat) (v' : V) (σ' : St), VRen m' v' v ∧ σ.next ≤ σ'.next ∧ (∀ i j c, m' i = some c → m' j = some c → i = j) ∧ (∀ i, σ'.next ≤ i → m' i = none) ∧ (∀ i, i < σ.next → m' i = none) ∧
      (∀ i k, σ'.heap.get i = some k → (σ.heap.get i = some k ∧ ∀ j k', σ₀.heap.get j = some k' → m j ≠ some i) ∨ ∃ c k', m' i = some c ∧ τ.heap.get c = some k' ∧ BlkRen m' k k') ∧ Q v' σ') : CallS P f vs Q σ := by
  refine ⟨⟨?_, ?_⟩⟩
  · obtain ⟨v, τ, hx⟩ := h.ex
    obtain ⟨_, v', σ', _, _, _, _, _, _, h3⟩ := hq v τ hx
    exact ⟨(.val v', σ'), h3⟩
  · intro ρ w vs' hr hvs
    have wr₀ : ∀ {c}, Wr (ρ.pull m) σ₀ c → Wr ρ σ c := by
      rintro c ⟨i, k, l, h1, _, h3, h4⟩
      obtain ⟨j, k', e1, e2, _⟩ := hb i k h1
      exact ⟨j, k', l, e2, rfl, (Ren.pull_at e1).symm.trans h3, h4⟩
    have hr₀ : R (ρ.pull m) σ₀ w := by
      refine ⟨fun i k hk => ?_, fun i j k k' l l' h1 h2 g1 g2 e => ?_, fun i hi => ?_, fun i l hl => ?_, fun c o x hx => ⟨(hr.imm c o x hx).1, fun hw => (hr.imm c o x hx).2 (wr₀ hw)⟩, hr.laid⟩
      · obtain ⟨c, k', e1, e2, e3⟩ := hb i k hk
        obtain ⟨l, hl, hok⟩ := hr.blk c k' e2
        exact ⟨l, (Ren.pull_at e1).trans hl, e3.ok hok⟩
      · obtain ⟨c, q, e1, e2, _⟩ := hb i k h1
        obtain ⟨d, q', e1', e2', _⟩ := hb j k' h2
        have := hr.inj c d q q' l l' e2 e2' ((Ren.pull_at e1).symm.trans g1) ((Ren.pull_at e1').symm.trans g2) e
        subst this
        exact hm i j c e1 e1'
      · show (m i).bind ρ.at' = none
        rw [hmr i hi]; rfl
      · obtain ⟨c, _, hc⟩ := Ren.pull_some hl
        exact hr.valid c l hc
    obtain ⟨g1, g2⟩ := h.h (ρ.pull m) w vs' hr₀ (hv.rel hvs)
    refine ⟨g1, g2.mono fun e w' hx => ?_⟩
    obtain ⟨v, τ, ρ₁, x, hx, rfl, hvr, hst⟩ := hx
    obtain ⟨m', v', σ', hv', hn, hinj, hrange, hlow, hheap, h3⟩ := hq v τ hx
    let ρ₂ : Ren := ⟨fun i => if i < σ.next then ρ i else (m' i).bind ρ₁.at', ρ₁.imm⟩
    have himm : ∀ c o x, ρ.imm c o = some x → ρ₁.imm c o = some x := hst.imm
    have hold : ∀ c, c < w.heap.size → ¬ Wr (ρ.pull m) σ₀ c → w'.heap[c]? = w.heap[c]? := hst.keep
    have hlt : ∀ {b l}, ρ b = some l → b < σ.next := fun {b l} hb => by
      refine Nat.lt_of_not_le fun hle => ?_
      rw [hr.fresh b hle] at hb; cases hb
    have hle : ρ.le ρ₂ := ⟨fun b l hb => by
      show (if b < σ.next then ρ b else _) = some l
      rw [if_pos (hlt hb)]; exact hb, himm⟩
    have hpull : (ρ₁.pull m').le ρ₂ := ⟨fun b l hb => by
      show (if b < σ.next then ρ b else (m' b).bind ρ₁.at') = some l
      by_cases hbn : b < σ.next
      · obtain ⟨c, hc, _⟩ := Ren.pull_some hb
        rw [hlow b hbn] at hc; cases hc
      · rw [if_neg hbn]; exact hb, fun c o x h => h⟩
    -- a block that stays lies where the call writes nothing
    have hstay : ∀ {i k l}, σ.heap.get i = some k → (∀ j k', σ₀.heap.get j = some k' → m j ≠ some i) → ρ i = some l → ¬ Wr (ρ.pull m) σ₀ l.c := by
      rintro i k l hk hno hl ⟨j, k', l', h1, _, h3, h4⟩
      obtain ⟨c, q, e1, e2, _⟩ := hb j k' h1
      have hc : ρ c = some l' := (Ren.pull_at e1).symm.trans h3
      have := hr.inj c i q k l' l e2 hk hc hl h4
      subst this
      exact hno j k' h1 e1
    have hnew : ∀ {i c l}, m' i = some c → ρ₂ i = some l → ρ₁ c = some l ∧ σ.next ≤ i := by
      intro i c l hi hl
      have hni : ¬ i < σ.next := fun hlt => by rw [hlow i hlt] at hi; cases hi
      replace hl : (if i < σ.next then ρ i else (m' i).bind ρ₁.at') = some l := hl
      rw [if_neg hni, hi] at hl
      exact ⟨hl, by omega⟩
    have hsome : ∀ {i c l}, m' i = some c → ρ₁ c = some l → ρ₂ i = some l := by
      intro i c l hi hl
      exact hpull i l ((Ren.pull_at hi).trans hl)
    have hold₂ : ∀ {i l}, i < σ.next → ρ₂ i = some l → ρ i = some l := by
      intro i l hi hl
      replace hl : (if i < σ.next then ρ i else (m' i).bind ρ₁.at') = some l := hl
      rw [if_pos hi] at hl; exact hl
    -- new blocks lie where the call might write, or where nothing was
    have hfar : ∀ {i c k' l}, m' i = some c → τ.heap.get c = some k' → ρ₂ i = some l → l.c < w.heap.size → Wr (ρ.pull m) σ₀ l.c := by
      intro i c k' l hi hk hl hlt
      exact hst.wr l.c hlt ⟨c, k', l, hk, rfl, (hnew hi hl).1, rfl⟩
    have stayLt : ∀ {i k}, σ.heap.get i = some k → ∃ l, ρ i = some l ∧ i < σ.next ∧ l.c < w.heap.size := by
      intro i k hk
      obtain ⟨l, hl, _⟩ := hr.blk i k hk
      exact ⟨l, hl, hlt hl, hr.valid i l hl⟩
    have hr₂ : R ρ₂ σ' w' := by
      refine ⟨fun i k hk => ?_, fun i j k k' l l' h1 h2 g1 g2 e => ?_, fun i hi => ?_, fun i l hl => ?_, fun c o x hx => ⟨(hst.r.imm c o x hx).1, ?_⟩, hst.r.laid⟩
      · rcases hheap i k hk with ⟨h1, hno⟩ | ⟨c, k', h1, h2, h4⟩
        · obtain ⟨l, hl, hok⟩ := hr.blk i k h1
          exact ⟨l, hle i l hl, hok.same hle (hold l.c (hr.valid i l hl) (hstay h1 hno hl))⟩
        · obtain ⟨l, hl, hok⟩ := hst.r.blk c k' h2
          exact ⟨l, hsome h1 hl, BlkOk.same (h4.ok hok) hpull rfl⟩
      · rcases hheap i k h1 with ⟨a1, no1⟩ | ⟨c, q, a1, a2, _⟩ <;> rcases hheap j k' h2 with ⟨b1, no2⟩ | ⟨d, q', b1, b2, _⟩
        · obtain ⟨_, _, li, _⟩ := stayLt a1
          obtain ⟨_, _, lj, _⟩ := stayLt b1
          exact hr.inj i j k k' l l' a1 b1 (hold₂ li g1) (hold₂ lj g2) e
        · obtain ⟨_, e1, li, lc⟩ := stayLt a1
          have gi := hold₂ li g1
          rw [gi] at e1; cases e1
          exact absurd (by rw [e]; exact hfar b1 b2 g2 (by rw [← e]; exact lc)) (hstay a1 no1 gi)
        · obtain ⟨_, e1, lj, lc⟩ := stayLt b1
          have gj := hold₂ lj g2
          rw [gj] at e1; cases e1
          exact absurd (by rw [← e]; exact hfar a1 a2 g1 (by rw [e]; exact lc)) (hstay b1 no2 gj)
        · have := hst.r.inj c d q q' l l' a2 b2 (hnew a1 g1).1 (hnew b1 g2).1 e
          subst this
          exact hinj i j c a1 b1
      · show (if i < σ.next then ρ i else (m' i).bind ρ₁.at') = none
        rw [if_neg (by omega), hrange i hi]; rfl
      · by_cases hi : i < σ.next
        · exact Nat.lt_of_lt_of_le (hr.valid i l (hold₂ hi hl)) hst.size
        · replace hl : (if i < σ.next then ρ i else (m' i).bind ρ₁.at') = some l := hl
          rw [if_neg hi] at hl
          obtain ⟨c, _, hc⟩ := Ren.pull_some (ρ := ρ₁) (m := m') hl
          exact hst.r.valid c l hc
      · rintro ⟨i, k, l, h1, _, hl, rfl⟩
        rcases hheap i k h1 with ⟨a1, no1⟩ | ⟨c, q, a1, a2, _⟩
        · obtain ⟨_, e1, li, lc⟩ := stayLt a1
          have gi := hold₂ li hl
          rw [gi] at e1; cases e1
          rcases hst.idom l.c o x hx with h5 | h5 | h5
          · exact (hr.imm l.c o x h5).2 ⟨i, k, l, a1, rfl, gi, rfl⟩
          · omega
          · exact hstay a1 no1 gi h5
        · exact (hst.r.imm l.c o x hx).2 ⟨c, q, l, a2, rfl, (hnew a1 hl).1, rfl⟩
    refine ⟨v', σ', ρ₂, x, h3, rfl, VRel.mono hpull (hv'.rel hvr), ⟨hr₂, hle, hn, fun b l hb => ?_, hst.size, hst.os, hst.tape, hst.output, fun c hc hnw => hold c hc fun hw => hnw (wr₀ hw), fun c hc hw => ?_, fun b k hb => ?_, fun c o x hx => ?_⟩⟩
    · by_cases hbn : b < σ.next
      · exact .inl (hold₂ hbn hb)
      · exact .inr (.inl (by omega))
    · obtain ⟨i, k, l, h1, _, hl, rfl⟩ := hw
      rcases hheap i k h1 with ⟨a1, no1⟩ | ⟨c', q, a1, a2, _⟩
      · obtain ⟨_, _, li, _⟩ := stayLt a1
        exact ⟨i, k, l, a1, rfl, hold₂ li hl, rfl⟩
      · exact wr₀ (hfar a1 a2 hl hc)
    · rcases hheap b k hb with ⟨a1, _⟩ | ⟨c', q, a1, a2, _⟩
      · exact .inl ⟨k, a1⟩
      · refine .inr (.inl (Nat.le_of_not_lt fun hlt => ?_))
        rw [hlow b hlt] at a1; cases a1
    · rcases hst.idom c o x hx with h5 | h5 | h5
      · exact .inl h5
      · exact .inr (.inl h5)
      · exact .inr (.inr (wr₀ h5))
omit [Env] in
theorem new_next' (σ : St) (id : Nat) (k : Blk) : (σ.new id k).next = max σ.next (id + 1) := upTo_eq _ _
/-- Buffers: a call that gets a row of its own (or none), and hands a longer one back. -/
noncomputable def bufS (n : Nat) (g : Nat → V) (esz : Nat) (p : Bool) : St := ⟨Trie.put .leaf 0 (some (.row n g esz p)), 1⟩
omit [Env] in
theorem bufS_get {n : Nat} {g : Nat → V} {esz : Nat} {p : Bool} {i : Nat} {k : Blk} (h : (bufS n g esz p).heap.get i = some k) : i = 0 ∧ k = .row n g esz p := by
  have h' : (Trie.put .leaf 0 (some (Blk.row n g esz p))).get i = some k := h
  rw [Trie.get_put] at h'
  by_cases e : i = 0
  · rw [if_pos e] at h'; cases h'; exact ⟨e, rfl⟩
  · rw [if_neg e, Trie.get_leaf] at h'; cases h'
/-- A value that may be told as the whole of a row of its own. -/
def IsBuf (esz : Nat) (v : V) (τ : St) (n : Nat) (g : Nat → V) : Prop :=
  ∃ b k, τ.heap.get b = some k ∧ ∀ (m : Nat → Option Nat) (i : Nat), m i = some b → VRen m (.own i n esz) v ∧ BlkRen m (.row n g esz false) k
theorem IsBuf.own {esz b n : Nat} {g : Nat → V} {p : Bool} {τ : St} (hb : τ.heap.get b = some (.row n g esz p)) (hc : ∀ i, i < n → ∀ u ∈ (g i).cells, Clean u) : IsBuf esz (.own b n esz) τ n g :=
  ⟨b, _, hb, fun _ _ hm => ⟨.own hm, .row (fun h => by cases h) fun i hi => VRenL.clean (hc i hi)⟩⟩
theorem IsBuf.slice {esz b n : Nat} {g : Nat → V} {z : List V} {t : Trie V} {p : Bool} {τ : St} (hb : τ.heap.get b = some (.cells (n * esz) z t p false)) (hn : n ≠ 0) (hu : ∀ i, i < n → (g i).cells.length = esz)
    (hc : ∀ i, i < n → ∀ k v, (g i).cells[k]? = some v → cellOf (n * esz) z t (i * esz + k) = some v ∧ Clean v) : IsBuf esz (.slice b 0 n n false esz) τ n g :=
  ⟨b, _, hb, fun _ _ hm => ⟨.ownOf hm hn, .toRow (fun h => by cases h) hu fun i hi k v hv => ⟨v, (hc i hi k v hv).1, .clean (hc i hi k v hv).2⟩⟩⟩
/-- Behind such a call. -/
def BufQ (esz : Nat) (A : Nat → (Nat → V) → Prop) (v : V) (τ : St) : Prop := ∃ n g, IsBuf esz v τ n g ∧ A n g
theorem buf_hq {esz : Nat} {A : Nat → (Nat → V) → Prop} {κ : St} {σ₀ : St} {m : Nat → Option Nat} {k : VPost} (hκ : ∀ i k, κ.heap.get i = some k → σ.heap.get i = some k ∧ ∀ j k', σ₀.heap.get j = some k' → m j ≠ some i) (hn : κ.next = σ.next)
    (hk : ∀ n g, A n g → k (.own σ.next n esz) (κ.new σ.next (.row n g esz false))) : ∀ v τ, BufQ esz A v τ → ∃ (m' : Nat → Option Nat) (v' : V) (σ' : St), VRen m' v' v ∧ σ.next ≤ σ'.next ∧ (∀ i j c, m' i = some c → m' j = some c → i = j) ∧ (∀ i, σ'.next ≤ i → m' i = none) ∧ (∀ i, i < σ.next → m' i = none) ∧
      (∀ i k, σ'.heap.get i = some k → (σ.heap.get i = some k ∧ ∀ j k', σ₀.heap.get j = some k' → m j ≠ some i) ∨ ∃ c k', m' i = some c ∧ τ.heap.get c = some k' ∧ BlkRen m' k k') ∧ k v' σ' := by
  rintro v τ ⟨n, g, ⟨b, q, hb, hr⟩, hA⟩
  have hr := hr (fun i => if i = σ.next then some b else none) σ.next (if_pos rfl)
  refine ⟨fun i => if i = σ.next then some b else none, .own σ.next n esz, κ.new σ.next (.row n g esz false), hr.1, ?_, fun i j c h1 h2 => ?_, fun i hi => ?_, fun i hi => if_neg (by omega), fun i k hi => ?_, hk n g hA⟩
  · rw [new_next']; omega
  · by_cases e1 : i = σ.next
    · by_cases e2 : j = σ.next
      · rw [e1, e2]
      · simp only [if_neg e2] at h2; cases h2
    · simp only [if_neg e1] at h1; cases h1
  · rw [new_next'] at hi
    exact if_neg (by omega)
  · rw [new_get] at hi
    by_cases e : i = σ.next
    · rw [if_pos e] at hi; cases hi
      exact .inr ⟨b, _, if_pos e, hb, hr.2⟩
    · rw [if_neg e] at hi
      exact .inl (hκ i k hi)
theorem CallS.bufV {f : FuncId} {cs : List V} {v : V} {b n esz : Nat} {g : Nat → V} {q : Blk} {A : Nat → (Nat → V) → Prop} {k : VPost} (hb : σ.heap.get b = some q)
    (hv : ∀ (m : Nat → Option Nat) (i : Nat), m i = some b → VRen m (.own i n esz) v ∧ BlkRen m (.row n g esz false) q)
    (hcs : ∀ v ∈ cs, Clean v) (h : CallN P f (.own 0 n esz :: cs) (BufQ esz A) (bufS n g esz false)) (hk : ∀ n g, A n g → k (.own σ.next n esz) ((σ.kill b).new σ.next (.row n g esz false))) : CallS P f (v :: cs) k σ :=
  CallS.frame (m := fun i => if i = 0 then some b else none) (σ₀ := bufS n g esz false) (fun i j c h1 h2 => by
      by_cases e1 : i = 0
      · by_cases e2 : j = 0
        · rw [e1, e2]
        · simp only [if_neg e2] at h2; cases h2
      · simp only [if_neg e1] at h1; cases h1)
    (fun i hi => if_neg (by have : 1 ≤ i := hi; omega))
    (fun i k hi => by
      obtain ⟨rfl, rfl⟩ := bufS_get hi
      exact ⟨b, _, if_pos rfl, hb, (hv _ 0 (if_pos rfl)).2⟩)
    (.cons (hv _ 0 (if_pos rfl)).1 (VRenL.clean hcs)) h
    (buf_hq (κ := σ.kill b) (fun i k hi => by
      rw [kill_get] at hi
      by_cases e : i = b
      · rw [if_pos e] at hi; cases hi
      · rw [if_neg e] at hi
        refine ⟨hi, fun j k' _ hj => ?_⟩
        by_cases ej : j = 0
        · simp only [if_pos ej] at hj; cases hj; exact e rfl
        · simp only [if_neg ej] at hj; cases hj) rfl hk)
theorem CallS.buf {f : FuncId} {cs : List V} {b n esz : Nat} {g : Nat → V} {p : Bool} {A : Nat → (Nat → V) → Prop} {k : VPost} (hb : σ.heap.get b = some (.row n g esz p)) (hg : ∀ i, i < n → ∀ u ∈ (g i).cells, Clean u)
    (hcs : ∀ v ∈ cs, Clean v) (h : CallN P f (.own 0 n esz :: cs) (BufQ esz A) (bufS n g esz false)) (hk : ∀ n g, A n g → k (.own σ.next n esz) ((σ.kill b).new σ.next (.row n g esz false))) : CallS P f (.own b n esz :: cs) k σ :=
  CallS.bufV hb (fun _ _ hm => ⟨.own hm, .row (fun h => by cases h) fun i hi => VRenL.clean (hg i hi)⟩) hcs h hk
/-- From none. -/
theorem CallS.bufNil {f : FuncId} {cs : List V} {esz : Nat} {A : Nat → (Nat → V) → Prop} {k : VPost} (hcs : ∀ v ∈ cs, Clean v) (h : CallN P f cs (BufQ esz A) start) (hk : ∀ n g, A n g → k (.own σ.next n esz) (σ.new σ.next (.row n g esz false))) : CallS P f cs k σ :=
  CallS.frame (m := fun _ => none) (σ₀ := start) (fun i j c h1 => by cases h1) (fun i hi => rfl) (fun i k hi => by rw [start_get] at hi; cases hi) (VRenL.clean hcs) h
    (buf_hq (κ := σ) (fun i k hi => ⟨hi, fun j k' _ hj => by cases hj⟩) rfl hk)
/-! ### Loops over memory that is kept as it is -/
noncomputable def slotsP (t : Slots V) (live : List Nat) : (List V → Prop) → Prop :=
  List.rec (motive := fun _ => (List V → Prop) → Prop) (fun k => k []) (fun i _ ih k => match t.get i with
    | some v => ih fun vs => k (v :: vs)
    | none => False) live
noncomputable def headP (size : Nat) (live : List Nat) (a : Act) (k : List V → Prop) : Prop :=
  match a.defers, Nat.beq a.size size with
  | [], true => slotsP a.tmps live k
  | _, _ => False
noncomputable def mkV (size : Nat) (live : List Nat) (vs : List V) : Act := ⟨putL live vs, size, []⟩
omit [Env] in
theorem slotsP_cons (t : Slots V) (i : Nat) (live : List Nat) (k : List V → Prop) : slotsP t (i :: live) k = match t.get i with
    | some v => slotsP t live fun vs => k (v :: vs)
    | none => False := rfl
omit [Env] in
theorem slotsP_get {t : Slots V} : ∀ {live : List Nat} {k : List V → Prop}, slotsP t live k → ∃ vs, k vs ∧ ∀ i v, (putL live vs).get i = some v → t.get i = some v
  | [], k, h => ⟨[], h, fun i v hv => by
    have hv : Slots.get ([] : Slots V) i = some v := hv
    rw [Slots.get_nil] at hv; cases hv⟩
  | i :: live, k, h => by
    rw [slotsP_cons] at h
    split at h
    · rename_i v hv
      obtain ⟨vs, h1, h2⟩ := slotsP_get h
      refine ⟨v :: vs, h1, fun j u hu => ?_⟩
      have hu : ((putL live vs).put i v).get j = some u := hu
      rw [Slots.get_put] at hu
      by_cases e : j = i
      · rw [if_pos e] at hu; cases hu; rw [e]; exact hv
      · rw [if_neg e] at hu; exact h2 j u hu
    · exact h.elim
omit [Env] in
theorem headP_get {size : Nat} {live : List Nat} {a : Act} {k : List V → Prop} (h : headP size live a k) : ∃ vs, k vs ∧ (∀ i v, (mkV size live vs).tmps.get i = some v → a.tmps.get i = some v) ∧ (mkV size live vs).size = a.size ∧ (mkV size live vs).defers = a.defers := by
  unfold headP at h
  split at h
  · rename_i hd hs
    obtain ⟨vs, h1, h2⟩ := slotsP_get h
    exact ⟨vs, h1, h2, (Nat.eq_of_beq_eq_true hs).symm, hd.symm⟩
  · exact h.elim
theorem LoopN.sub {n₀ : Nat} {x : Code} {Q : Post} {a b : Act} {σ : St} (hs : ∀ i v, a.tmps.get i = some v → b.tmps.get i = some v) (hz : a.size = b.size) (hd : a.defers = b.defers) (h : LoopN P n₀ x Q a σ) : LoopN P n₀ x Q b σ :=
  ⟨h.ex, fun hn ρ w a' hr ha => h.h hn ρ w a' hr ⟨fun i v hv => ha.tmps i v (hs i v hv), hz.trans ha.size, by rw [hd]; exact ha.defers⟩⟩
noncomputable def KH (P : Program) (call : FuncId → List V → St → VPost → Prop) (yld : Nat → List V → St → VPost → Prop) (size : Nat) (live : Nat → List Nat) (A : Nat → List V → St → Prop) : Know P :=
  { call := call, loop := fun _ _ i _ _ a σ => headP size (live i) a fun vs => A i vs σ, yield := yld }
theorem LoopN.floydS [Mix P] {fn : FuncId} {call : FuncId → List V → St → VPost → Prop} {yld : Nat → List V → St → VPost → Prop} (hcall : ∀ {f vs σ k}, call f vs σ k → CallS P f vs k σ) (hyld : ∀ {l vs σ k}, yld l vs σ k → TaskS P (.round l vs) (valP k) σ) {n₀ size : Nat} {live : Nat → List Nat} {c : Code} (hp : flatC c = true) {Q : Post}
    {α : Type} {r : α → α → Prop} (wf : WellFounded r) (μ : Nat → List V → St → α) (I : Nat → List V → St → Prop)
    (hstep : ∀ k x, (loopsOf c)[k]? = some x → ∀ vs σ, I k vs σ → ws P (KH P call yld size live fun k' vs' σ' => I k' vs' σ' ∧ r (μ k' vs' σ') (μ k vs σ)) fn none (Nat.add k 1) x
      (seqQ (fun a σ' => headP size (live k) a fun vs' => I k vs' σ' ∧ r (μ k vs' σ') (μ k vs σ)) (behind P (KH P call yld size live fun k' vs' σ' => I k' vs' σ' ∧ r (μ k' vs' σ') (μ k vs σ)) fn c 0 k Q)) (mkV size (live k) vs) σ) :
    ∀ k x, (loopsOf c)[k]? = some x → ∀ vs σ, I k vs σ → LoopN P n₀ x (behindC P n₀ c k Q) (mkV size (live k) vs) σ := by
  have key : ∀ (q : α), ∀ k x, (loopsOf c)[k]? = some x → ∀ vs σ, I k vs σ → μ k vs σ = q → LoopN P n₀ x (behindC P n₀ c k Q) (mkV size (live k) vs) σ := by
    intro q
    induction q using wf.induction with
    | _ q ih =>
      intro k x hx vs σ hI hq
      have hK : (KH P call yld size live fun k' vs' σ' => I k' vs' σ' ∧ r (μ k' vs' σ') (μ k vs σ)).OkN n₀ := ⟨⟨fun h => hcall h, fun h => hyld h⟩, fun h => CodeN.of h⟩
      have H : ∀ j z, (loopsOf c)[j]? = some z → ∀ a σ₁ (Q₁ : Post), (KH P call yld size live fun k' vs' σ' => I k' vs' σ' ∧ r (μ k' vs' σ') (μ k vs σ)).loop fn none j z Q₁ a σ₁ → LoopN P n₀ z (behindC P n₀ c j Q) a σ₁ := by
        intro j z hz a σ₁ Q₁ hA
        obtain ⟨vs', ⟨g1, g2⟩, hs, hz', hd⟩ := headP_get (show headP size (live j) a _ from hA)
        exact (ih (μ j vs' σ₁) (by rw [← hq]; exact g2) j z hz vs' σ₁ g1 rfl).sub hs hz' hd
      have := hstep k x hx vs σ hI
      refine LoopN.round (CodeN.of_ws hK x (i := k + 1) (fun e a σ h => ?_) (fun j z hz a σ Q₁ hA => ?_) this)
      · cases e with
        | normal => exact H k x hx a σ (fun _ _ _ => True) h
        | exit i => exact behind_sound hK c (i := 0) (Q := Q) (Q' := Q) (fun _ _ _ h => h) (fun j z hz a σ Q₁ hA => H j z hz a σ Q₁ (by rw [Nat.zero_add] at hA; exact hA)) h
        | goto i => exact behind_sound hK c (i := 0) (Q := Q) (Q' := Q) (fun _ _ _ h => h) (fun j z hz a σ Q₁ hA => H j z hz a σ Q₁ (by rw [Nat.zero_add] at hA; exact hA)) h
        | ret => exact behind_sound hK c (i := 0) (Q := Q) (Q' := Q) (fun _ _ _ h => h) (fun j z hz a σ Q₁ hA => H j z hz a σ Q₁ (by rw [Nat.zero_add] at hA; exact hA)) h
      · rw [← behindC_in c hp hx hz]
        exact H (k + 1 + j) z (loopsOf_in c hx hz) a σ Q₁ hA
  exact fun k x hx vs σ hI => key _ k x hx vs σ hI rfl
theorem FnF.floydS [Mix P] {f : FuncId} {g : Func} {call : FuncId → List V → St → VPost → Prop} {yld : Nat → List V → St → VPost → Prop} {vs : List V} {Q : VPost} {live : Nat → List Nat} (F : FnF P f g) (hcall : ∀ {f vs σ k}, call f vs σ k → CallS P f vs k σ)
    (hyld : ∀ {l vs σ k}, yld l vs σ k → TaskS P (.round l vs) (valP k) σ) (N : Nat) (hN : nloops (g.body.getD .skip) = N)
    {α : Type} {r : α → α → Prop} (wf : WellFounded r) (μ : Nat → List V → St → α) (I : Nat → List V → St → Prop)
    (hentry : ws P (KH P call yld g.ntmps live I) f none 0 (g.body.getD .skip) (retS P g Q) (actOf g.ntmps vs) σ)
    (hstep : ∀ k, k < N → ∀ vs τ, I k vs τ → ws P (KH P call yld g.ntmps live fun k' vs' σ' => I k' vs' σ' ∧ r (μ k' vs' σ') (μ k vs τ)) f none (Nat.add k 1) (lp (g.body.getD .skip) k)
      (seqQ (fun a σ' => headP g.ntmps (live k) a fun vs' => I k vs' σ' ∧ r (μ k vs' σ') (μ k vs τ)) (behind P (KH P call yld g.ntmps live fun k' vs' σ' => I k' vs' σ' ∧ r (μ k' vs' σ') (μ k vs τ)) f (g.body.getD .skip) 0 k (retS P g Q))) (mkV g.ntmps (live k) vs) τ) :
    CallS P f vs Q σ := by
  have hL := LoopN.floydS (fn := f) (call := call) (yld := yld) (n₀ := σ.next) (size := g.ntmps) (live := live) (Q := retS P g Q) (fun h => hcall h) (fun h => hyld h) F.hp wf μ I fun k x hx vs τ hI => by
    have hk : k < N := by
      rw [← hN, ← nloops_eq]
      exact (List.getElem?_eq_some_iff.1 hx).1
    have e : x = lp (g.body.getD .skip) k := by unfold lp; rw [hx]; rfl
    subst e
    exact hstep k hk vs τ hI
  have hK : (KH P call yld g.ntmps live I).OkN σ.next := ⟨⟨fun h => hcall h, fun h => hyld h⟩, fun h => CodeN.of h⟩
  have hN' : CodeN P σ.next (g.body.getD .skip) (retS P g Q) (actOf g.ntmps vs) σ := CodeN.of_ws hK (g.body.getD .skip) (i := 0) (fun _ _ _ h => h) (fun j z hz a τ Q₁ hA => by
    rw [Nat.zero_add] at hA
    obtain ⟨vs', g1, hs, hz', hd⟩ := headP_get (show headP g.ntmps (live j) a _ from hA)
    exact (hL j z hz vs' τ g1).sub hs hz' hd) hentry
  refine CallS.codeE F.hf F.hb F.hn (CodeN.sem (fn := f) (fun x e => ?_) hN')
  have := F.hl
  rw [e] at this; cases this
/-! ### A loop over a function -/
/-- Behind it. -/
def rangeQ (Q : Act → St → Prop) (a : Act) (l : Nat) (σ : St) : Prop :=
  match σ.heap.get l with
  | some (.loop .ready none fn t s ps as bo d) => Q a ((σ.set l (.loop .exhausted none fn t s ps as bo d)).kill l)
  | _ => False
theorem CodeS.range {fn : FuncId} {f : Operand} {ps : Array Tmp} {as bo : Code} {Q : Post} {t : Slots V} {z : Nat} {ds : List (Option (Fn × List V) × Nat × List V)} {g : FuncId} {x y : List V} (hf : Act.eval ⟨t, z, ds⟩ f = some (.func (.func g) x y))
    (h : CallS P g (app x (app [.func (.yield (σ.new σ.next .deferred).next) [] []] y)) (fun _ τ => rangeQ (Q .normal) ⟨t, z, (none, σ.next, []) :: ds⟩ (σ.new σ.next .deferred).next τ)
      ((σ.new σ.next .deferred).new (σ.new σ.next .deferred).next (.loop .ready none fn t z ps.toList as bo σ.next))) : CodeS P fn none (.rangeFunc f ps as bo) Q ⟨t, z, ds⟩ σ := by
  constructor
  show (rangeFuncK (semR P) none fn ⟨t, z, ds⟩ σ ps.toList as bo (Act.eval ⟨t, z, ds⟩ f)).Holds (exP Q)
  rw [hf]
  show ((semR P (.call g (app x (app [.func (.yield (σ.new σ.next .deferred).next) [] []] y))) ((σ.new σ.next .deferred).new (σ.new σ.next .deferred).next (.loop .ready none fn t z ps.toList as bo σ.next))).bind (rangeK (semR P) none fn ⟨t, z, (none, σ.next, []) :: ds⟩ (σ.new σ.next .deferred).next)).Holds _
  refine Res.Holds.bind_intro (SemE.mono (fun ⟨o, τ⟩ hx => ?_) h.h)
  cases o with
  | exit e a => exact hx.elim
  | val v =>
    have hx : rangeQ (Q .normal) ⟨t, z, (none, σ.next, []) :: ds⟩ (σ.new σ.next .deferred).next τ := hx
    show (rangeEnd (semR P) none fn ⟨t, z, (none, σ.next, []) :: ds⟩ (σ.new σ.next .deferred).next τ (τ.heap.get (σ.new σ.next .deferred).next)).Holds (exP Q)
    revert hx
    unfold rangeQ
    split
    · rename_i hg
      rw [hg]
      exact fun hx => hx
    · exact fun h => h.elim
/-- A round: the parameters, the body. -/
theorem TaskS.round [Mix P] {l : Nat} {vs : List V} {st : LoopState} {p : Option Code} {fn : FuncId} {t t' : Slots V} {z : Nat} {ps : List Tmp} {as bo : Code} {d : Nat} {k : VPost} (hl : σ.heap.get l = some (.loop st p fn t z ps as bo d)) (ht : setParams t z ps vs = some t')
    (h : CodeS P fn (some l) as (fun e a τ => e = .normal ∧ a.defers = [] ∧ ∃ p' t'' z', τ.heap.get l = some (.loop .ready p' fn t'' z' ps as bo d) ∧ CodeS P fn (some l) bo (fun e _ τ => e = .normal ∧ ∃ st₂ p₂ t₂ z₂, τ.heap.get l = some (.loop st₂ p₂ fn t₂ z₂ ps as bo d) ∧ k (.bool true) (τ.set l (.loop .ready none fn t₂ z₂ ps as bo d))) a (τ.set l (.loop .busy p' fn t'' z' ps as bo d))) ⟨t', z, []⟩ σ) : TaskS P (.round l vs) (valP k) σ := by
  refine ⟨.of_step ?_⟩
  show (stepRound (semR P) l vs σ (σ.heap.get l)).Holds _
  rw [hl]
  show (roundTmps (semR P) l fn z as bo σ (setParams t z ps vs)).Holds _
  rw [ht]
  show ((semR P (.code (some l) fn as { tmps := t', size := z, defers := [] }) σ).bind (roundAssign (semR P) l fn bo)).Holds _
  refine Res.Holds.bind_intro (SemE.mono (fun ⟨o, τ⟩ hx => ?_) h.sem)
  cases o with
  | val v => exact hx.elim
  | exit e a =>
    obtain ⟨rfl, hd, p', t'', z', hg, hb⟩ := (show _ ∧ _ from hx)
    show (roundBody (semR P) l fn bo a τ (τ.heap.get l)).Holds _
    rw [hg]
    show (match a.defers with
      | [] => (semR P (.code (some l) fn bo a) (τ.set l (.loop .busy p' fn t'' z' ps as bo d))).bind (roundK l)
      | _ => .fail "round: defers" : Run).Holds _
    rw [hd]
    show ((semR P (.code (some l) fn bo a) (τ.set l (.loop .busy p' fn t'' z' ps as bo d))).bind (roundK l)).Holds _
    refine Res.Holds.bind_intro (SemE.mono (fun ⟨o, υ⟩ hx => ?_) hb.sem)
    cases o with
    | val v => exact hx.elim
    | exit e b =>
      obtain ⟨rfl, st₂, p₂, t₂, z₂, hg₂, hk⟩ := (show _ ∧ _ from hx)
      show (roundEnd l .normal υ (υ.heap.get l)).Holds _
      rw [hg₂]
      exact hk
/-- A function that goes, with the mark of a loop over a function. -/
theorem TaskS.leaveMark [Mix P] {fn : Func} {t : Slots V} {z d : Nat} {Q : VPost} {us : List V} (hd : σ.heap.get d = some .deferred) (h : resP Q (σ.kill d) (resultsV P ⟨t, z, []⟩ (σ.kill d) fn.results.toList)) : TaskS P (.leave fn ⟨t, z, [(none, d, us)]⟩) (valP Q) σ := by
  refine ⟨.of_step ?_⟩
  show (Go.Ev.leaveMark (semR P) fn ⟨t, z, []⟩ d σ (σ.heap.get d)).Holds _
  rw [hd]
  exact leaveS_holds (a := ⟨t, z, []⟩) h
/-- Behind a piece of code its own blocks get other numbers. -/
structure Tell (n₀ : Nat) (m : Nat → Option Nat) (a : Act) (σ : St) (b : Act) (τ : St) : Prop where
  fgt : Fgt n₀ m ⟨[], 0, []⟩ σ ⟨[], 0, []⟩ τ
  size : a.size = b.size
  slots : ∀ i v, a.tmps.get i = some v → ∃ u, b.tmps.get i = some u ∧ VRen m v u
  defers : (a.defers = [] ∧ b.defers = []) ∨ ∃ d d' us, a.defers = [(none, d, us)] ∧ b.defers = [(none, d', us)] ∧ m d = some d'
theorem Tell.act {n₀ : Nat} {m : Nat → Option Nat} {a b : Act} {τ : St} {ρ : Ren} (h : Tell n₀ m a σ b τ) {a' : Go.Act} (ha : ActRel ρ b a') : ActRel (ρ.pull m) a a' := by
  refine ⟨fun i v hv => ?_, h.size.trans ha.size, ?_⟩
  · obtain ⟨u, hu, hr⟩ := h.slots i v hv
    obtain ⟨x, hx, hux⟩ := ha.tmps i u hu
    exact ⟨x, hx, hr.rel hux⟩
  · have hd := ha.defers
    rcases h.defers with ⟨e1, e2⟩ | ⟨d, d', us, e1, e2, hm⟩
    · rw [e2] at hd
      rw [e1]
      generalize a'.defers = d at hd ⊢
      cases hd
      exact .nil
    · rw [e2] at hd
      rw [e1]
      generalize a'.defers = d at hd ⊢
      cases hd with
      | cons h1 h2 =>
        cases h2
        cases h1 with
        | mark hld => exact .cons (.mark ((Ren.pull_at hm).trans hld)) .nil
theorem CodeN.tell {n₀ : Nat} {c : Code} {Q Q' : Post} {a : Act} (h : CodeN P n₀ c Q' a σ) (hq : ∀ e b τ, Q' e b τ → ∃ m a₂ σ₂, Tell n₀ m a₂ σ₂ b τ ∧ Q e a₂ σ₂) : CodeN P n₀ c Q a σ := by
  refine ⟨let ⟨e, b, τ, hx⟩ := h.ex; let ⟨_, a₂, σ₂, _, hx⟩ := hq e b τ hx; ⟨e, a₂, σ₂, hx⟩, fun hn ρ w a' hr ha => wpIn_mono (h.h hn ρ w a' hr ha) fun e a₁ w₁ hx => ?_⟩
  obtain ⟨y, b, τ, ρ₂, h1, h2, h3, h4⟩ := hx
  obtain ⟨m, a₂, σ₂, ht, hx⟩ := hq y b τ h1
  exact ⟨y, a₂, σ₂, ρ₂.pull m, hx, h2, ht.act h3, h4.fgt ht.fgt⟩
theorem CodeN.sub {n₀ : Nat} {x : Code} {Q : Post} {a b : Act} {σ : St} (hs : ∀ i v, a.tmps.get i = some v → b.tmps.get i = some v) (hz : a.size = b.size) (hd : a.defers = b.defers) (h : CodeN P n₀ x Q a σ) : CodeN P n₀ x Q b σ :=
  ⟨h.ex, fun hn ρ w a' hr ha => h.h hn ρ w a' hr ⟨fun i v hv => ha.tmps i v (hs i v hv), hz.trans ha.size, by rw [hd]; exact ha.defers⟩⟩
theorem CodeN.fgt {n₀ : Nat} {m : Nat → Option Nat} {a b : Act} {τ : St} {c : Code} {Q : Post} (hf : Fgt n₀ m a σ b τ) (h : CodeN P n₀ c Q a σ) : CodeN P n₀ c Q b τ := by
  have hq : ∀ (ρ : Ren) (w : World) e a' w', CodePostN n₀ Q (ρ.pull m) σ w e a' w' → CodePostN n₀ Q ρ τ w e a' w' := by
    rintro ρ w e a' w' ⟨y, a₂, σ₂, ρ₂, h1, h2, h3, h4⟩
    exact ⟨y, a₂, σ₂, ρ₂, h1, h2, h3, hf.stp h4⟩
  exact ⟨h.ex, fun hn ρ w a' hr ha => wpIn_mono (h.h hf.le (ρ.pull m) w a' (hf.r hr) (hf.act ha)) fun e a₁ w₁ hx => hq ρ w e a₁ w₁ hx⟩
noncomputable def KR (P : Program) (call : FuncId → List V → St → VPost → Prop) (size : Nat) (live : Nat → List Nat) (A : Nat → List SV → Prop) (rng : FuncId → Option Nat → Code → Post → Act → St → Prop) : Know P :=
  { call := call, loop := fun _ _ i _ _ a σ => canonP 0 size (live i) a σ (A i), range := rng }
/-- A function without loops but those over functions. -/
theorem CallN.flatR [Mix P] {f : FuncId} {g : Func} {c : Code} {call : FuncId → List V → St → VPost → Prop} {rng : FuncId → Option Nat → Code → Post → Act → St → Prop} {vs : List V} {Q : VPost} {live : Nat → List Nat} {A : Nat → List SV → Prop} (hf : P.funcs[f]? = some g) (hb : g.body = some c) (hn : (g.name == "runtime.NumGoroutine") = false)
    (hcall : ∀ {f vs σ k}, call f vs σ k → CallS P f vs k σ) (hrng : ∀ {f c Q a σ}, rng f none c Q a σ → CodeN P 0 c Q a σ) (hl : loopsOf c = [])
    (h : ws P (KR P call g.ntmps live A rng) f none 0 c (retS P g Q) (actOf g.ntmps vs) σ) : CallN P f vs Q σ := by
  have hK : (KR P call g.ntmps live A rng).OkN 0 := ⟨⟨fun h => hcall h, fun h => h⟩, fun h => hrng h⟩
  exact CallN.code hf hb hn (CodeN.of_ws hK c (i := 0) (fun _ _ _ h => h) (fun j z hz _ _ _ _ => by rw [hl] at hz; simp at hz) h)
end
end Go.Ev
