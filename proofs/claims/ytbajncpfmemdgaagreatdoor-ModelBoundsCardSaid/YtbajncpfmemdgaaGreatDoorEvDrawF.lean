/- Regions that draw their order: an effect; the end; the whole. -/
import Derived.Test.YtbajncpfmemdgaaGreatDoorEvDraw
namespace Go.Ev
open Go
section
variable {P : Program} {Rn : Task → St → Run} {ro : Option Nat} {p : Out × St → Prop} {W : List Nat} {base : Nat} {listed : Array Bool} {a' : Go.Act} {w : World} {o : Oper}
variable {F : Fence} {ρ₀ : Ren} {σ₀ : St} {w₀ : World}

/-- An effect is taken: the canonical run comes up to it. -/
theorem take_eff [Env] (hg : Good P Rn) {ops : Array Oper} (hp : Plan ops.toList W) (hI : Inv P Rn ro F p ops.toList W base ρ₀ σ₀ w₀ listed a' w) {i : Nat} (ho : ops.toList[i]? = some o) (heff : effectOp o.op = true) (hl : ¬ Lst listed i)
    (hW : ∀ j, (W.getD i 0).testBit j = true → j < ops.toList.length ∧ Lst listed j) {K : Go.Act → World → Prop} {Q : Exit → Go.Act → World → Prop}
    (hK : ∀ a₂' w₂, Inv P Rn ro F p ops.toList W base ρ₀ σ₀ w₀ (listed.setIfInBounds i true) a₂' w₂ → K a₂' w₂) : wpOpIn F 0 P ops Q i K a' w := by
  obtain ⟨D, done, effs, snaps, a, σ, b, τ₀, ρ, hB, hA, hro, hst, hsz⟩ := hI
  have hlt := idx_lt ho
  have hdone : done.testBit i = false := by
    cases hd : done.testBit i with
    | false => rfl
    | true => exact absurd (hA.listedD i hd).2 hl
  obtain ⟨D1, it, D2, rfl, rfl⟩ := planCheck_find hA.plan i hlt hdone
  -- all ahead of it have been taken
  have hall : ∀ x ∈ D1, Lst listed x.i := by
    obtain ⟨dn', ep, h1, h2, h3, _, _⟩ := plan_app hA.plan
    obtain ⟨o', ho', _, _, h5, _⟩ := planCheck_cons h1
    rw [ho] at ho'; cases ho'
    exact fun x hx => (hW _ ((h5 heff).1 _ (h3 x hx))).2
  obtain ⟨dn, a₂, σ₂, hA2, hmono, _⟩ := adv_to hp hB hA hall
  obtain ⟨o', ho', hdn, hcov, heff', _⟩ := planCheck_cons hA2.plan
  rw [ho] at ho'; cases ho'
  obtain ⟨hall', hplan⟩ := heff' heff
  obtain ⟨o', ho', hstep⟩ := CH_cons hA2.holds
  rw [ho] at ho'; cases ho'
  have hag := walk_agree hp hB (hA2.walk (ρ := ρ)) ho hW
  have hstep' := stepC_follow (b := b) hag hA2.sz.symm hA2.df hstep
  have hid : ρ (base + it.i) = none := hB.dom _ hlt hl
  have hi : ops[it.i]? = some o := by rw [← Array.getElem?_toList]; exact ho
  have hnx := hA2.nxt
  have hrm := hA2.room
  have hr2 : R ρ σ₂ w := hB.rel.sub hA2.sub hA2.nxt
  refine stepC_sound hg hr2 hid hB.act hro hi hstep' ?_
  rintro b₃ σ₃ ρ₃ a₃' w₃ ⟨a₃, ⟨_, hch⟩, hf⟩ hact hst₃
  rw [heff] at hch
  -- the rows that the machine has laid ahead
  obtain ⟨τ₃, hτn, hτ⟩ := overlay (((List.range ops.toList.length).filter fun j => listed.getD j true && !dn.testBit j).map fun j => base + j) (fun c => τ₀.heap.get c) σ₃
  have hmem : ∀ c, (c ∈ ((List.range ops.toList.length).filter fun j => listed.getD j true && !dn.testBit j).map fun j => base + j) ↔ ∃ j, j < ops.toList.length ∧ Lst listed j ∧ dn.testBit j = false ∧ c = base + j := by
    intro c
    simp only [List.mem_map, List.mem_filter, List.mem_range, Bool.and_eq_true, Bool.not_eq_true']
    constructor
    · rintro ⟨j, ⟨h1, h2, h3⟩, h4⟩; exact ⟨j, h1, h2, h3, h4.symm⟩
    · rintro ⟨j, h1, h2, h3, h4⟩; exact ⟨j, ⟨h1, h2, h3⟩, h4.symm⟩
  have hσ3 : ∀ j, j < ops.toList.length → j ≠ it.i → dn.testBit j = false → σ₃.heap.get (base + j) = none := by
    intro j hj hne hd
    cases hg3 : σ₃.heap.get (base + j) with
    | none => rfl
    | some k =>
      rcases hst₃.hdom _ _ hg3 with ⟨k', h⟩ | h | h
      · rw [hA2.fresh j hj hd] at h; cases h
      · omega
      · exact absurd (by omega) hne
  have hin : ∀ j, j < ops.toList.length → Lst listed j → dn.testBit j = false → τ₃.heap.get (base + j) = τ₀.heap.get (base + j) := fun j h1 h2 h3 => by
    rw [hτ, if_pos ((hmem _).2 ⟨j, h1, h2, h3, rfl⟩)]
  have hapart : ∀ c k l, (∃ j, j < ops.toList.length ∧ Lst listed j ∧ dn.testBit j = false ∧ c = base + j) → τ₀.heap.get c = some k → ρ c = some l → ¬ Wr ρ σ₂ l.c := by
    rintro c k l ⟨j, h1, h2, h3, rfl⟩ hk hl' ⟨c', k', l', h4, _, h5, h6⟩
    have := hB.rel.inj c' _ _ _ _ _ (hA2.sub _ _ h4) hk h5 hl' h6
    rw [this, hA2.fresh j h1 h3] at h4
    cases h4
  have hsub3 : ∀ c k, σ₃.heap.get c = some k → τ₃.heap.get c = some k := by
    intro c k hc
    rw [hτ]
    by_cases hm : c ∈ ((List.range ops.toList.length).filter fun j => listed.getD j true && !dn.testBit j).map fun j => base + j
    · obtain ⟨j, h1, h2, h3, rfl⟩ := (hmem c).1 hm
      rw [hσ3 j h1 (fun e => hl (e ▸ h2)) h3] at hc; cases hc
    · rw [if_neg hm]; exact hc
  have hR3 : R ρ₃ τ₃ w₃ := by
    refine ⟨fun c k hc => ?_, fun c c' k k' l l' h1 h2 g1 g2 e => ?_, fun c hc => hst₃.r.fresh c (by rw [← hτn]; exact hc), hst₃.r.valid, fun q o x hx => ⟨(hst₃.r.imm q o x hx).1, ?_⟩, hst₃.r.laid⟩
    · rw [hτ] at hc
      by_cases hm : c ∈ ((List.range ops.toList.length).filter fun j => listed.getD j true && !dn.testBit j).map fun j => base + j
      · rw [if_pos hm] at hc
        obtain ⟨l, hl', hok⟩ := hB.rel.blk c k hc
        exact ⟨l, hst₃.le _ _ hl', hok.same hst₃.le (hst₃.keep _ (hB.rel.valid _ _ hl') (hapart c k l ((hmem c).1 hm) hc hl'))⟩
      · rw [if_neg hm] at hc; exact hst₃.r.blk c k hc
    · have cross : ∀ {c c' : Nat} {k k' : Blk} {l l' : Loc}, (∃ j, j < ops.toList.length ∧ Lst listed j ∧ dn.testBit j = false ∧ c = base + j) → τ₀.heap.get c = some k → σ₃.heap.get c' = some k' → ρ₃ c = some l → ρ₃ c' = some l' → l.c = l'.c → False := by
        intro c c' k k' l l' hm h1 h2 g1 g2 e
        obtain ⟨l₁, hl₁, _⟩ := hB.rel.blk c k h1
        have : l = l₁ := by rw [hst₃.le _ _ hl₁] at g1; exact (Option.some.inj g1).symm
        subst this
        have hv := hB.rel.valid _ _ hl₁
        exact hapart c k l hm h1 hl₁ (e ▸ hst₃.wr l'.c (e ▸ hv) ⟨c', k', l', h2, rfl, g2, rfl⟩)
      rw [hτ] at h1 h2
      by_cases m1 : c ∈ ((List.range ops.toList.length).filter fun j => listed.getD j true && !dn.testBit j).map fun j => base + j
      · rw [if_pos m1] at h1
        by_cases m2 : c' ∈ ((List.range ops.toList.length).filter fun j => listed.getD j true && !dn.testBit j).map fun j => base + j
        · rw [if_pos m2] at h2
          obtain ⟨l₁, hl₁, _⟩ := hB.rel.blk c k h1
          obtain ⟨l₂, hl₂, _⟩ := hB.rel.blk c' k' h2
          have e1 : l = l₁ := by rw [hst₃.le _ _ hl₁] at g1; exact (Option.some.inj g1).symm
          have e2 : l' = l₂ := by rw [hst₃.le _ _ hl₂] at g2; exact (Option.some.inj g2).symm
          subst e1 e2
          exact hB.rel.inj _ _ _ _ _ _ h1 h2 hl₁ hl₂ e
        · rw [if_neg m2] at h2
          exact (cross ((hmem c).1 m1) h1 h2 g1 g2 e).elim
      · rw [if_neg m1] at h1
        by_cases m2 : c' ∈ ((List.range ops.toList.length).filter fun j => listed.getD j true && !dn.testBit j).map fun j => base + j
        · rw [if_pos m2] at h2
          exact (cross ((hmem c').1 m2) h2 h1 g2 g1 e.symm).elim
        · rw [if_neg m2] at h2
          exact hst₃.r.inj _ _ _ _ _ _ h1 h2 g1 g2 e
    · rintro ⟨c', k, l, h1, h2, h3, h4⟩
      rw [hτ] at h1
      by_cases m1 : c' ∈ ((List.range ops.toList.length).filter fun j => listed.getD j true && !dn.testBit j).map fun j => base + j
      · rw [if_pos m1] at h1
        obtain ⟨l₁, hl₁, _⟩ := hB.rel.blk c' k h1
        have e1 : l = l₁ := by rw [hst₃.le _ _ hl₁] at h3; exact (Option.some.inj h3).symm
        subst e1
        subst h4
        rcases hst₃.idom l.c o x hx with g | g | g
        · exact (hB.rel.imm _ _ _ g).2 ⟨c', k, l, h1, rfl, hl₁, rfl⟩
        · have := hB.rel.valid _ _ hl₁; omega
        · exact hapart c' k l ((hmem c').1 m1) h1 hl₁ g
      · rw [if_neg m1] at h1
        exact (hst₃.r.imm q o x hx).2 ⟨c', k, l, h1, h2, h3, h4⟩
  have hwr2 : ∀ c, Wr ρ σ₂ c → Wr ρ τ₀ c := fun c ⟨c', k, l, h1, h2, h3, h4⟩ => ⟨c', k, l, hA2.sub _ _ h1, h2, h3, h4⟩
  have hst3' : Stp (fun c => c = base + it.i) ρ τ₀ w ρ₃ τ₃ w₃ := by
    refine ⟨hR3, hst₃.le, by rw [hτn, ← hnx]; exact hst₃.next, fun c l hc => by rw [← hnx]; exact hst₃.dom c l hc, hst₃.size, hst₃.os, hst₃.tape, hst₃.output, fun c hc hn => hst₃.keep c hc fun h => hn (hwr2 c h), ?_, fun c k hc => ?_, fun c o x hx => (hst₃.idom c o x hx).imp id (Or.imp id (hwr2 c))⟩
    · rintro c hc ⟨c', k, l, h1, h2, h3, h4⟩
      rw [hτ] at h1
      by_cases m1 : c' ∈ ((List.range ops.toList.length).filter fun j => listed.getD j true && !dn.testBit j).map fun j => base + j
      · rw [if_pos m1] at h1
        obtain ⟨l₁, hl₁, _⟩ := hB.rel.blk c' k h1
        have e1 : l = l₁ := by rw [hst₃.le _ _ hl₁] at h3; exact (Option.some.inj h3).symm
        subst e1
        exact ⟨c', k, l, h1, rfl, hl₁, h4⟩
      · rw [if_neg m1] at h1
        exact hwr2 c (hst₃.wr c hc ⟨c', k, l, h1, h2, h3, h4⟩)
    · rw [hτ] at hc
      by_cases m1 : c ∈ ((List.range ops.toList.length).filter fun j => listed.getD j true && !dn.testBit j).map fun j => base + j
      · rw [if_pos m1] at hc; exact .inl ⟨k, hc⟩
      · rw [if_neg m1] at hc
        rcases hst₃.hdom c k hc with ⟨k', h⟩ | h | h
        · exact .inl ⟨k', hA2.sub _ _ h⟩
        · exact .inr (.inl (by rw [← hnx]; exact h))
        · exact .inr (.inr h)
  have hLs : ∀ {j}, Lst (listed.setIfInBounds it.i true) j ↔ Lst listed j ∨ j = it.i := Lst.set (by omega)
  have hsplit : ∀ {j}, (Nat.lor dn (2 ^ it.i)).testBit j = false → dn.testBit j = false ∧ it.i ≠ j := by
    intro j hj
    rw [lor_bit] at hj
    simpa using hj
  have holdd : ∀ {j}, dn.testBit j = false → done.testBit j = false := by
    intro j hj
    cases hd : done.testBit j with
    | false => rfl
    | true => rw [hA2.mono.1 j hd] at hj; cases hj
  refine hK a₃' w₃ ⟨D2, Nat.lor dn (2 ^ it.i), it.i :: effs, σ₃ :: snaps, a₃, σ₃, b₃, τ₃, ρ₃, ⟨?_, ?_, hR3, hact, ⟨_, rfl⟩, by simp [hB.len], hsub3, ?_, ?_, ?_⟩, ⟨hplan, hch, ⟨fun _ h => h, (mono_lor hA2.mono hcov).2⟩, ?_, by rw [hf.sa, hf.sb]; exact hA2.sz, hf.d, hτn.symm, Nat.le_trans hA2.room hst₃.next, hsub3, ?_, ?_⟩, hro.mono hst₃.le,
    hst.trans (hst3'.weaken fun c hc => by rw [hc]; exact Nat.le_add_right _ _), by simpa using hsz⟩
  · intro j hj hlj k hk
    rcases hLs.1 hlj with hlj | rfl
    · exact ⟨(hB.closed j hj hlj k hk).1, hLs.2 (.inl (hB.closed j hj hlj k hk).2)⟩
    · exact ⟨(hW k hk).1, hLs.2 (.inl (hW k hk).2)⟩
  · intro j oj hj hlj hdj
    obtain ⟨h1, h2⟩ := hsplit hdj
    exact hB.ne j oj hj ((hLs.1 hlj).resolve_right fun e => h2 e.symm) (holdd h1)
  · intro j hj hdj
    obtain ⟨h1, h2⟩ := hsplit hdj
    exact hσ3 j hj (fun e => h2 e.symm) h1
  · intro j hj hlj
    cases hr : ρ₃ (base + j) with
    | none => rfl
    | some l =>
      rcases hst₃.dom _ _ hr with h | h | h
      · rw [hB.dom j hj fun h => hlj (hLs.2 (.inl h))] at h; cases h
      · omega
      · exact absurd (hLs.2 (.inr (by omega))) hlj
  · intro j oj hj hlj hdj
    obtain ⟨h1, h2⟩ := hsplit hdj
    have hlj := (hLs.1 hlj).resolve_right fun e => h2 e.symm
    have hjl := idx_lt hj
    have hnej := hB.ne j oj hj hlj (holdd h1)
    have hnW : (W.getD j 0).testBit it.i = false := by
      cases hw : (W.getD j 0).testBit it.i with
      | false => rfl
      | true => exact absurd (hB.closed j hjl hlj _ hw).2 hl
    obtain ⟨u, hu, hrec⟩ := hB.recs j oj hj hlj (holdd h1)
    have hlk : ∀ t ∈ looks ops.toList oj, b₃.tmps.get t = b.tmps.get t := by
      intro t ht
      refine hf.keepB t fun hd => ?_
      rcases (hp.data _ _ _ _ _ hj ho hd ht).2 with h | ⟨_, h⟩
      · rw [hnW] at h; cases h
      · rw [hcov j h] at h1; cases h1
    refine ⟨u, fun t ht => ?_, ?_⟩
    · rw [hf.keepB t fun hd => h2 (hp.dist _ _ _ _ _ ho hj hd ht)]
      exact hu t ht
    · rw [hin j hjl hlj h1]
      rcases hrec with h | h | ⟨r1, r2, q, τ, r3, r4, r5, r6⟩
      · -- taken in this stretch: it hangs on no memory, or the effect may come ahead of it
        obtain ⟨E1, itj, E2, hE, hij⟩ := planCheck_find hplan j hjl hdj
        rw [hE] at hplan
        obtain ⟨dn'', ep, q1, _, _, _, q5⟩ := plan_app hplan
        obtain ⟨oj', hoj', _, _, _, q6⟩ := planCheck_cons q1
        rw [hij, hj] at hoj'; cases hoj'
        obtain ⟨q7, q8, _⟩ := q6 hnej
        have hb0 : itj.back ≠ 0 := by
          intro e0
          unfold backOk at q7
          rw [e0, List.drop_zero, hij] at q7
          cases ep with
          | nil =>
            have q7' : (W.getD j 0).testBit it.i = true := q7
            rw [hnW] at q7'; cases q7'
          | cons f ep =>
            have q7' : (W.getD j 0).testBit f = true := q7
            obtain ⟨r1, of, r2, r3⟩ := q5 f List.mem_cons_self
            obtain ⟨r4, r5⟩ := hsplit r1
            have := hB.ne f of r2 (hB.closed j hjl hlj f q7').2 (holdd r4)
            rw [r3] at this; cases this
        have hk0 : (τ₀.kill (base + j)).heap.get (base + j) = none := by rw [kill_get, if_pos rfl]
        by_cases hr : rdOp P oj.op = true
        · have e1 := gOf_rd hr h
          have hnone : τ₀.heap.get (base + j) = none := ext_inj hk0 e1
          obtain ⟨r, hr'⟩ := hB.head
          refine .inr (.inr ⟨hr, hnone, 1, σ, by rw [hr']; rfl, Nat.le_refl _, fun f hff => ?_, fun u' τ' hh => ?_⟩)
          · have : f = it.i := by simpa using hff
            rw [this]; exact hnW
          · rw [gOf_keep hlk] at hh
            have e2 := gOf_rd hr hh
            rw [e2] at hh
            have hfr := hB.fresh j hjl (holdd h1)
            have := look_at (κ := none) hnej hB.act hfr hh (sub_kill hB.sub hfr)
            rw [h] at this
            exact ((Prod.mk.inj (Res.ok.inj this)).1).symm
        · have hlk' : lookOp P oj.op = false := by
            rcases q8 with h | h | h
            · exact absurd h hb0
            · exact absurd h hr
            · exact h
          obtain ⟨v', κ', he, hall⟩ := gOf_free (P := P) (id := base + j) (ops := ops.toList) (a := b) hnej hlk' (not_read hr) (τ₀.kill (base + j)) (fun r => r = (u, (τ₀.kill (base + j)).ext (base + j) (τ₀.heap.get (base + j)))) (by rw [h]; exact rfl)
          have e1 : v' = u := (Prod.mk.inj he).1
          have e2 : κ' = τ₀.heap.get (base + j) := ext_inj hk0 (Prod.mk.inj he).2
          subst e1
          exact .inr (.inl fun σ' => by rw [gOf_keep hlk, hall, e2])
      · exact .inr (.inl fun σ' => by rw [gOf_keep hlk]; exact h σ')
      · refine .inr (.inr ⟨r1, r2, q + 1, τ, r3, by omega, fun f hff => ?_, fun u' τ' hh => r6 u' τ' (by rw [← gOf_keep hlk]; exact hh)⟩)
        rw [List.take_succ_cons] at hff
        rcases List.mem_cons.1 hff with rfl | hff
        · exact hnW
        · exact r5 f hff
  · intro j hj
    rw [lor_bit] at hj
    simp only [Bool.or_eq_true, decide_eq_true_eq] at hj
    rcases hj with hj | rfl
    · exact ⟨(hA2.listedD j hj).1, hLs.2 (.inl (hA2.listedD j hj).2)⟩
    · exact ⟨hlt, hLs.2 (.inr rfl)⟩
  · intro j hj hdj
    obtain ⟨h1, h2⟩ := hsplit hdj
    exact hσ3 j hj (fun e => h2 e.symm) h1
  · intro t ht
    by_cases hd : o.dst = some t
    · exact hf.at_ t hd
    · rw [hf.keepA t hd, hf.keepB t hd]
      refine hA2.agree t fun j oj hj hlj hdj => ?_
      by_cases e : it.i = j
      · subst e; exact absurd hlj hl
      · exact ht j oj hj (hLs.2 (.inl hlj)) (by rw [lor_bit, hdj]; simp [e])

/-- All have been taken. -/
theorem all_taken [Env] {L : List Oper} (hp : Plan L W) (hb : base = σ₀.next) (hI : Inv P Rn ro F p L W base ρ₀ σ₀ w₀ listed a' w) (hall : ∀ i, i < L.length → Lst listed i) : CodePost p ρ₀ σ₀ w₀ .normal a' w := by
  obtain ⟨D, done, effs, snaps, a, σ, b, τ₀, ρ, hB, hA, hro, hst, hsz⟩ := hI
  have hlD : ∀ x ∈ D, Lst listed x.i := by
    intro x hx
    obtain ⟨D1, D2, rfl⟩ := List.append_of_mem hx
    obtain ⟨_, _, h1, _⟩ := plan_app hA.plan
    obtain ⟨o, ho, _⟩ := planCheck_cons h1
    exact hall _ (idx_lt ho)
  have hA' : Adv P Rn ro p L W base listed done effs snaps b τ₀ (D ++ []) done a σ := by rw [List.append_nil]; exact hA
  obtain ⟨dn, a₂, σ₂, hA2, _, _⟩ := adv_to hp hB hA' hlD
  have hend : p (.exit .normal a₂, σ₂) := hA2.holds
  have hdn : ∀ j, j < L.length → dn.testBit j = true := by
    have h' : (List.range L.length).all dn.testBit = true := hA2.plan
    exact fun j hj => List.all_eq_true.1 h' j (List.mem_range.2 hj)
  have hget : ∀ t, a₂.tmps.get t = b.tmps.get t := fun t => hA2.agree t fun j oj hj _ hd => by rw [hdn j (idx_lt hj)] at hd; cases hd
  have hst2 := hst.sub hA2.sub hA2.nxt
  refine ⟨.normal, a₂, σ₂, ρ, hend, rfl, ⟨fun t v hv => hB.act.tmps t v (by rw [← hget]; exact hv), by rw [hA2.sz]; exact hB.act.size, by rw [hA2.df]; exact hB.act.defers⟩, ?_⟩
  refine ⟨hst2.r, hst2.le, hst2.next, fun c l hc => ?_, hst2.size, hst2.os, hst2.tape, hst2.output, hst2.keep, hst2.wr, fun c k hc => ?_, hst2.idom⟩
  · rcases hst2.dom c l hc with h | h | h
    · exact .inl h
    · exact .inr (.inl h)
    · exact .inr (.inl (by rw [← hb]; exact h))
  · rcases hst2.hdom c k hc with h | h | h
    · exact .inl h
    · exact .inr (.inl h)
    · exact .inr (.inl (by rw [← hb]; exact h))

/-- There is always one that can be taken. -/
theorem some_ready [Env] {L : List Oper} : ∀ {D : List Item} {dn : Nat} {ef : List Nat}, planCheck P L W dn ef D = true → (∀ j, dn.testBit j = true → j < L.length ∧ Lst listed j) →
    (∀ i, i < L.length → Lst listed i) ∨ ∃ i o, L[i]? = some o ∧ ¬ Lst listed i ∧ ∀ j, (W.getD i 0).testBit j = true → j < L.length ∧ Lst listed j := by
  intro D
  induction D with
  | nil =>
    intro dn ef h hdn
    have h' : (List.range L.length).all dn.testBit = true := h
    exact .inl fun i hi => (hdn i (List.all_eq_true.1 h' i (List.mem_range.2 hi))).2
  | cons it D ih =>
    intro dn ef h hdn
    obtain ⟨o, ho, _, hcov, h1, h2⟩ := planCheck_cons h
    by_cases hl : Lst listed it.i
    · have hdn' : ∀ j, (Nat.lor dn (2 ^ it.i)).testBit j = true → j < L.length ∧ Lst listed j := by
        intro j hj
        rw [lor_bit] at hj
        simp only [Bool.or_eq_true, decide_eq_true_eq] at hj
        rcases hj with hj | rfl
        · exact hdn j hj
        · exact ⟨idx_lt ho, hl⟩
      cases he : effectOp o.op with
      | true => exact ih (h1 he).2 hdn'
      | false => exact ih (h2 he).2.2 hdn'
    · exact .inr ⟨it.i, o, ho, hl, fun j hj => hdn j (hcov j hj)⟩

def unl (n : Nat) (listed : Array Bool) : Nat := (List.range n).countP fun i => !listed.getD i true

theorem unl_set [Env] {n i : Nat} (hi : i < n) (hs : listed.size = n) (hl : ¬ Lst listed i) : unl n (listed.setIfInBounds i true) < unl n listed := by
  unfold unl
  have hle : ∀ (l : List Nat), l.countP (fun j => !(listed.setIfInBounds i true).getD j true) + (if i ∈ l then 1 else 0) ≤ l.countP fun j => !listed.getD j true := by
    intro l
    induction l with
    | nil => simp
    | cons x l ih =>
      rw [List.countP_cons, List.countP_cons]
      have hx : Lst (listed.setIfInBounds i true) x ↔ Lst listed x ∨ x = i := Lst.set (by omega)
      by_cases e : x = i
      · subst e
        have h1 : (listed.setIfInBounds x true).getD x true = true := hx.2 (.inr rfl)
        have h2 : listed.getD x true = false := by
          cases hq : listed.getD x true with
          | false => rfl
          | true => exact absurd hq hl
        rw [h1, h2]
        simp only [List.mem_cons, true_or, if_true, Bool.not_true, Bool.false_eq_true, if_false, Bool.not_false]
        have : (if x ∈ l then 1 else 0) ≤ 1 := by split <;> omega
        omega
      · have h1 : (listed.setIfInBounds i true).getD x true = listed.getD x true := by
          cases hq : listed.getD x true with
          | true => exact hx.2 (.inl hq)
          | false =>
            cases hq' : (listed.setIfInBounds i true).getD x true with
            | false => rfl
            | true =>
              rcases hx.1 hq' with h | h
              · have h' : listed.getD x true = true := h
                rw [hq] at h'; cases h'
              · exact absurd h e
        have hne : ¬ i = x := fun h => e h.symm
        rw [h1]
        simp only [List.mem_cons, hne, false_or]
        omega
  have := hle (List.range n)
  rw [if_pos (List.mem_range.2 hi)] at this
  omega

theorem any_sound [Env] (hg : Good P Rn) {ops : Array Oper} (hp : Plan ops.toList W) (hb : base = σ₀.next) : ∀ (fuel : Nat) {listed : Array Bool} {a' : Go.Act} {w : World}, Inv P Rn ro F p ops.toList W base ρ₀ σ₀ w₀ listed a' w → unl ops.toList.length listed ≤ fuel →
    wpAnyIn F 0 P .any ops (CodePost p ρ₀ σ₀ w₀) fuel listed a' w := by
  have hmemr : ∀ {listed : Array Bool} {i : Nat}, i ∈ Region.ready .any ops listed ↔ listed.getD i true = false ∧ ∃ o, ops[i]? = some o ∧ ∀ e ∈ o.after, Region.binds .any e = true → listed.getD e.on false = true := mem_ready
  have hgetD : ∀ {listed : Array Bool} {j : Nat}, listed.size = ops.toList.length → (listed.getD j false = true ↔ j < ops.toList.length ∧ Lst listed j) := by
    intro listed j hs
    unfold Lst
    rw [Array.getD_eq_getD_getElem?, Array.getD_eq_getD_getElem?]
    by_cases hj : j < listed.size
    · have h1 : j < ops.toList.length := by rw [← hs]; exact hj
      rw [Array.getElem?_eq_getElem hj]
      exact ⟨fun h => ⟨h1, h⟩, fun h => h.2⟩
    · rw [Array.getElem?_eq_none (by omega)]
      exact ⟨fun h => (by cases h), fun h => absurd h.1 (by rw [← hs]; exact hj)⟩
  have hready : ∀ {listed : Array Bool} {a' : Go.Act} {w : World}, Inv P Rn ro F p ops.toList W base ρ₀ σ₀ w₀ listed a' w → Region.ready .any ops listed = [] → ∀ i, i < ops.toList.length → Lst listed i := by
    intro listed a' w hI hnil
    obtain ⟨D, done, effs, snaps, a, σ, b, τ₀, ρ, hB, hA, hro, hst, hsz⟩ := hI
    rcases some_ready hA.plan hA.listedD with h | ⟨i, o, ho, hl, hW⟩
    · exact h
    · have : i ∈ Region.ready .any ops listed := by
        refine hmemr.2 ⟨?_, o, by rw [← Array.getElem?_toList]; exact ho, fun e he hbd => ?_⟩
        · cases hq : listed.getD i true with
          | false => rfl
          | true => exact absurd hq hl
        · refine (hgetD hsz).2 (hW _ ?_)
          rw [hp.wait i o ho]
          exact waitOf_bit.2 ⟨e, he, hbd, .inl rfl⟩
      rw [hnil] at this; cases this
  intro fuel
  induction fuel with
  | zero =>
    intro listed a' w hI hf
    have hall : ∀ i, i < ops.toList.length → Lst listed i := by
      intro i hi
      cases hq : listed.getD i true with
      | true => exact hq
      | false =>
        have : 0 < unl ops.toList.length listed := by
          unfold unl
          exact List.countP_pos_iff.2 ⟨i, List.mem_range.2 hi, by rw [hq]; rfl⟩
        omega
    refine ⟨?_, all_taken hp hb hI hall⟩
    rw [List.eq_nil_iff_forall_not_mem]
    intro i hi
    obtain ⟨h1, o, ho, _⟩ := hmemr.1 hi
    have : Lst listed i := hall i (idx_lt (by rw [Array.getElem?_toList]; exact ho))
    unfold Lst at this
    rw [h1] at this; cases this
  | succ fuel ih =>
    intro listed a' w hI hf
    refine ⟨fun hnil => all_taken hp hb hI (hready hI hnil), fun i hi => ?_⟩
    obtain ⟨h1, o, ho, hed⟩ := hmemr.1 hi
    have hoL : ops.toList[i]? = some o := by rw [Array.getElem?_toList]; exact ho
    have hl : ¬ Lst listed i := by unfold Lst; rw [h1]; simp
    obtain ⟨D, done, effs, snaps, a, σ, b, τ₀, ρ, hB, hA, hro, hst, hsz⟩ := id hI
    have hW : ∀ j, (W.getD i 0).testBit j = true → j < ops.toList.length ∧ Lst listed j := by
      intro j hj
      rw [hp.wait i o hoL] at hj
      obtain ⟨e, he, hbd, hje⟩ := waitOf_bit.1 hj
      have := (hgetD hsz).1 (hed e he hbd)
      rcases hje with rfl | hje
      · exact this
      · exact hB.closed _ this.1 this.2 j hje
    have hK : ∀ a₂' w₂, Inv P Rn ro F p ops.toList W base ρ₀ σ₀ w₀ (listed.setIfInBounds i true) a₂' w₂ → wpAnyIn F 0 P .any ops (CodePost p ρ₀ σ₀ w₀) fuel (listed.setIfInBounds i true) a₂' w₂ := by
      intro a₂' w₂ hI'
      have := unl_set (idx_lt hoL) hsz hl
      exact ih hI' (by omega)
    cases he : effectOp o.op with
    | true => exact take_eff hg hp hI hoL he hl hW hK
    | false => exact take_ne hg hp hI hoL he hl hW hK

theorem drawn_sound [Env] (hg : Good P Rn) (hmix : P.follows .mixedOrders = true) {ρ : Ren} {σ : St} (hr : R ρ σ w) {a : Act} {a' : Go.Act} (ha : ActRel ρ a a') (hroF : RoOk ρ ro F) {id : Nat} {ops : Array Oper} {p : Out × St → Prop}
    (h : ((regionC P ops.toList true).f Rn ro a σ).Holds p) : (Code.region id ops true).wpIn F 0 P (CodePost p ρ σ w) a' w := by
  refine wpIn_region_any hmix ?_
  unfold regionC at h
  dsimp only at h
  split at h
  · rename_i l hl
    obtain ⟨W, hp, hplan⟩ := planOf_spec hl
    have hn : (ahead (len ops.toList) σ).next = σ.next + ops.toList.length := by obtain ⟨hh, m⟩ := σ; rw [len_eq]; rfl
    have hh : ∀ c, (ahead (len ops.toList) σ).heap.get c = σ.heap.get c := by intro c; obtain ⟨hh, m⟩ := σ; rfl
    have hlst : ∀ i, i < ops.toList.length → ¬ Lst (Array.replicate ops.size false) i := by
      intro i hi hl
      unfold Lst at hl
      rw [Array.getD_eq_getD_getElem?] at hl
      simp at hi
      simp [hi] at hl
    have hno : ∀ i, i < ops.toList.length → ρ (σ.next + i) = none := fun i _ => hr.fresh _ (Nat.le_add_right _ _)
    have hr' : R ρ (ahead (len ops.toList) σ) { w with drawn := w.drawn + 1 } :=
      ⟨fun c k hc => by rw [hh] at hc; exact (hr.congr (w' := { w with drawn := w.drawn + 1 }) rfl).blk c k hc, fun c c' k k' l l' h1 h2 => by rw [hh] at h1 h2; exact hr.inj c c' k k' l l' h1 h2, fun c hc => hr.fresh c (by rw [hn] at hc; omega), hr.valid,
       fun c o x hx => ⟨(hr.imm c o x hx).1, fun ⟨c', k, l, h1, h2, h3, h4⟩ => (hr.imm c o x hx).2 ⟨c', k, l, by rw [← hh]; exact h1, h2, h3, h4⟩⟩, hr.laid⟩
    refine any_sound (base := σ.next) hg hp rfl ops.size ⟨l, 0, [], [_], a, _, a, _, ρ, ⟨?_, ?_, hr', ha, ⟨[], rfl⟩, rfl, fun _ _ h => h, ?_, ?_, ?_⟩, ⟨hplan, h, ⟨fun _ h => h, fun j k hj _ => by simp at hj⟩, fun i hi => by simp at hi, rfl, rfl, rfl, by rw [hn]; exact Nat.le_refl _, fun _ _ h => h, ?_, fun _ _ => rfl⟩, hroF, ?_, by simp⟩ ?_
    · intro i hi hl; exact absurd hl (hlst i hi)
    · intro i o ho hl; exact absurd hl (hlst i (idx_lt ho))
    · intro i hi _; rw [hh]; exact hr.none_of_fresh (hno i hi)
    · intro i hi _; exact hno i hi
    · intro i o ho hl; exact absurd hl (hlst i (idx_lt ho))
    · intro i hi _; rw [hh]; exact hr.none_of_fresh (hno i hi)
    · exact ⟨hr', Ren.le.refl ρ, by rw [hn]; omega, fun _ _ h => .inl h, Nat.le_refl _, rfl, rfl, rfl, fun _ _ _ => rfl, fun c _ ⟨c', k, l, h1, h2, h3, h4⟩ => ⟨c', k, l, by rw [← hh]; exact h1, h2, h3, h4⟩, fun c k hc => .inl ⟨k, by rw [← hh]; exact hc⟩, fun _ _ _ h => .inl h⟩
    · have := List.countP_le_length (p := fun i => !(Array.replicate ops.size false).getD i true) (l := List.range ops.toList.length)
      simpa [unl] using this
  · exact h.elim

end
end Go.Ev
