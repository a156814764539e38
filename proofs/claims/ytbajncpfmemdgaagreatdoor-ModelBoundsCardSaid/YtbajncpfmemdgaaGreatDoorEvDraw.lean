/- Regions that draw their order. -/
import Derived.Test.YtbajncpfmemdgaaGreatDoorEvDrawE
namespace Go.Ev
open Go

/-- One state laid over another, at some numbers. -/
theorem overlay : ∀ (l : List Nat) (f : Nat → Option Blk) (σ : St), ∃ σ' : St, σ'.next = σ.next ∧ ∀ c, σ'.heap.get c = if c ∈ l then f c else σ.heap.get c := by
  intro l
  induction l with
  | nil => intro f σ; exact ⟨σ, rfl, fun c => by simp⟩
  | cons x l ih =>
    intro f σ
    obtain ⟨σ', hn, hg⟩ := ih f σ
    obtain ⟨h, m⟩ := σ'
    refine ⟨⟨h.put x (f x), m⟩, hn, fun c => ?_⟩
    show (h.put x (f x)).get c = _
    rw [Trie.get_put]
    by_cases e : c = x
    · subst e; simp
    · rw [if_neg e]
      have := hg c
      rw [show h.get c = _ from this]
      simp [e]

section
variable {P : Program} {Rn : Task → St → Run} {ro : Option Nat} {p : Out × St → Prop} {L : List Oper} {W : List Nat} {base : Nat} {listed : Array Bool} {done : Nat} {effs : List Nat} {snaps : List St} {σ : St} {b : Act} {τ₀ : St} {ρ : Ren} {a' : Go.Act} {w : World}
variable {D : List Item} {dn : Nat} {ef : List Nat} {S : List St} {a₁ : Act} {σ₁ : St} {it : Item} {o : Oper}

theorem R.sub [Env] {σ' : St} (h : R ρ σ w) (hs : ∀ c k, σ'.heap.get c = some k → σ.heap.get c = some k) (hn : σ'.next = σ.next) : R ρ σ' w :=
  ⟨fun c k hc => h.blk c k (hs c k hc), fun c c' k k' l l' h1 h2 => h.inj c c' k k' l l' (hs _ _ h1) (hs _ _ h2), fun c hc => h.fresh c (by rw [← hn]; exact hc), h.valid,
   fun c o x hx => ⟨(h.imm c o x hx).1, fun ⟨c', k, l, h1, h2, h3, h4⟩ => (h.imm c o x hx).2 ⟨c', k, l, hs _ _ h1, h2, h3, h4⟩⟩, h.laid⟩

theorem Stp.sub [Env] {ids : Nat → Prop} {ρ₀ : Ren} {σ₀ σ' : St} {w₀ : World} (h : Stp ids ρ₀ σ₀ w₀ ρ σ w) (hs : ∀ c k, σ'.heap.get c = some k → σ.heap.get c = some k) (hn : σ'.next = σ.next) : Stp ids ρ₀ σ₀ w₀ ρ σ' w :=
  ⟨h.r.sub hs hn, h.le, by rw [hn]; exact h.next, h.dom, h.size, h.os, h.tape, h.output, h.keep, fun c hc ⟨c', k, l, h1, h2, h3, h4⟩ => h.wr c hc ⟨c', k, l, hs _ _ h1, h2, h3, h4⟩, fun c k hc => h.hdom c k (hs _ _ hc), h.idom⟩

theorem Lst.set {i j : Nat} (hi : i < listed.size) : Lst (listed.setIfInBounds i true) j ↔ Lst listed j ∨ j = i := by
  unfold Lst
  rw [Array.getD_eq_getD_getElem?, Array.getD_eq_getD_getElem?]
  by_cases e : j = i
  · subst e; simp [hi]
  · rw [Array.getElem?_setIfInBounds_ne (by omega)]; simp [e]

/-- Where an item stands in its plan. -/
theorem plan_app [Env] : ∀ {D1 : List Item} {dn : Nat} {ef : List Nat}, planCheck P L W dn ef (D1 ++ D) = true →
    ∃ dn' ep, planCheck P L W dn' (ep ++ ef) D = true ∧ (∀ j, dn.testBit j = true → dn'.testBit j = true) ∧ (∀ x ∈ D1, dn'.testBit x.i = true) ∧ (∀ j, dn'.testBit j = true → dn.testBit j = true ∨ ∃ x ∈ D1, x.i = j) ∧
      ∀ f ∈ ep, dn.testBit f = false ∧ ∃ o, L[f]? = some o ∧ effectOp o.op = true := by
  intro D1
  induction D1 with
  | nil => intro dn ef h; exact ⟨dn, [], h, fun _ h => h, (fun x hx => by cases hx), fun _ h => .inl h, fun f hf => by cases hf⟩
  | cons x D1 ih =>
    intro dn ef h
    obtain ⟨o, ho, hdn, _, h1, h2⟩ := planCheck_cons h
    have fin : ∀ {ef'}, planCheck P L W (Nat.lor dn (2 ^ x.i)) ef' (D1 ++ D) = true → (∃ ep, ef' = ep ++ ef ∧ ∀ f ∈ ep, dn.testBit f = false ∧ ∃ o, L[f]? = some o ∧ effectOp o.op = true) →
        ∃ dn' ep, planCheck P L W dn' (ep ++ ef) D = true ∧ (∀ j, dn.testBit j = true → dn'.testBit j = true) ∧ (∀ y ∈ x :: D1, dn'.testBit y.i = true) ∧ (∀ j, dn'.testBit j = true → dn.testBit j = true ∨ ∃ y ∈ x :: D1, y.i = j) ∧
          ∀ f ∈ ep, dn.testBit f = false ∧ ∃ o, L[f]? = some o ∧ effectOp o.op = true := by
      rintro ef' h ⟨ep, rfl, hep⟩
      obtain ⟨dn', ep', h3, h4, h5, h6, h7⟩ := ih h
      refine ⟨dn', ep' ++ ep, by rw [List.append_assoc]; exact h3, fun j hj => h4 j (by rw [lor_bit, hj]; rfl), fun y hy => ?_, fun j hj => ?_, fun f hf => ?_⟩
      · rcases List.mem_cons.1 hy with rfl | hy
        · exact h4 _ (by rw [lor_bit]; simp)
        · exact h5 y hy
      · rcases h6 j hj with h | ⟨y, hy, h⟩
        · rw [lor_bit] at h
          simp only [Bool.or_eq_true, decide_eq_true_eq] at h
          rcases h with h | h
          · exact .inl h
          · exact .inr ⟨x, List.mem_cons_self, h⟩
        · exact .inr ⟨y, List.mem_cons_of_mem _ hy, h⟩
      · rcases List.mem_append.1 hf with hf | hf
        · obtain ⟨h8, h9⟩ := h7 f hf
          rw [lor_bit] at h8
          simp only [Bool.or_eq_false_iff] at h8
          exact ⟨h8.1, h9⟩
        · exact hep f hf
    cases he : effectOp o.op with
    | true => exact fin (h1 he).2 ⟨[x.i], rfl, fun f hf => by
        have : f = x.i := by simpa using hf
        subst this; exact ⟨hdn, o, ho, he⟩⟩
    | false => exact fin (h2 he).2.2 ⟨[], rfl, fun f hf => by cases hf⟩

/-- A record goes on, where the frame keeps what the operation looks at. -/
theorem gOf_keep [Env] {b₂ : Act} {id : Nat} (h : ∀ t ∈ looks L o, b₂.tmps.get t = b.tmps.get t) (σ' : St) : gOf P L o b₂ id σ' = gOf P L o b id σ' :=
  gOf_congr (P := P) h σ'

theorem look_at [Env] {id : Nat} (hne : effectOp o.op = false) (hact : ActRel ρ b a') {τ τ' : St} {v : V} {κ : Option Blk} (h0 : τ.heap.get id = none) (h : gOf P L o b id τ = .ok (v, τ.ext id κ)) (hs : SubOn (Known ρ) τ τ') :
    gOf P L o b id τ' = .ok (v, τ'.ext id κ) := by
  have hkn : ∀ x ∈ o.op.operands, ∀ v, b.eval x = some v → ∃ x', VRel ρ v x' := fun x _ v h => ⟨_, hact.eval x h⟩
  obtain ⟨v2, κ2, he, _, hm⟩ := gOf_look (P := P) (id := id) (ops := L) hne hkn τ (fun r => r = (v, τ.ext id κ)) (by rw [h]; exact rfl)
  have h1 : v2 = v := (Prod.mk.inj he).1
  have h2 : κ2 = κ := ext_inj h0 (Prod.mk.inj he).2
  subst h1 h2
  exact hm τ' hs

variable {F : Fence} {ρ₀ : Ren} {σ₀ : St} {w₀ : World}

def Inv [Env] (P : Program) (Rn : Task → St → Run) (ro : Option Nat) (F : Fence) (p : Out × St → Prop) (L : List Oper) (W : List Nat) (base : Nat) (ρ₀ : Ren) (σ₀ : St) (w₀ : World) (listed : Array Bool) (a' : Go.Act) (w : World) : Prop :=
  ∃ D done effs snaps a σ b τ₀ ρ, Base P L W base listed done effs snaps σ b τ₀ ρ a' w ∧ Adv P Rn ro p L W base listed done effs snaps b τ₀ D done a σ ∧ RoOk ρ ro F ∧ Stp (fun c => base ≤ c) ρ₀ σ₀ w₀ ρ τ₀ w ∧ listed.size = L.length

/-- An operation that writes nothing is taken. -/
theorem take_ne [Env] (hg : Good P Rn) {ops : Array Oper} (hp : Plan ops.toList W) (hI : Inv P Rn ro F p ops.toList W base ρ₀ σ₀ w₀ listed a' w) {i : Nat} (ho : ops.toList[i]? = some o) (hne : effectOp o.op = false) (hl : ¬ Lst listed i)
    (hW : ∀ j, (W.getD i 0).testBit j = true → j < ops.toList.length ∧ Lst listed j) {K : Go.Act → World → Prop} {Q : Exit → Go.Act → World → Prop}
    (hK : ∀ a₂' w₂, Inv P Rn ro F p ops.toList W base ρ₀ σ₀ w₀ (listed.setIfInBounds i true) a₂' w₂ → K a₂' w₂) : wpOpIn F 0 P ops Q i K a' w := by
  obtain ⟨D, done, effs, snaps, a, σ, b, τ₀, ρ, hB, hA, hro, hst, hsz⟩ := hI
  have hlt := idx_lt ho
  have hdone : done.testBit i = false := by
    cases hd : done.testBit i with
    | false => rfl
    | true => exact absurd (hA.listedD i hd).2 hl
  obtain ⟨D1, it, D2, rfl, rfl⟩ := planCheck_find hA.plan i hlt hdone
  obtain ⟨dn', ef', S', a₂, σ₂, hw⟩ := walk_to hp hB hA.walk
  obtain ⟨v, κ, b₂, hg0, hput⟩ := target hp hB hw ho hne hdone hW
  have hid : ρ (base + it.i) = none := hB.dom _ hlt hl
  have hnone : τ₀.heap.get (base + it.i) = none := hB.rel.none_of_fresh hid
  have hi : ops[it.i]? = some o := by rw [← Array.getElem?_toList]; exact ho
  have hstep : ((stepC P ops.toList o).f Rn ro b τ₀ (base + it.i)).Holds fun r => r = (b₂, τ₀.ext (base + it.i) κ) := by
    rw [stepC_ne hne, hg0]
    show (putK (τ₀.ext (base + it.i) κ) (b.put o.dst v)).Holds _
    rw [hput]
    exact rfl
  obtain ⟨hs1, hs2, hget⟩ := put_spec hput
  have hroom : base + it.i < τ₀.next := by have := hA.room; have := hA.nxt; omega
  refine stepC_sound hg hB.rel hid hB.act hro hi hstep ?_
  intro b₃ σ₃ ρ₂ a₂' w₂ he hact hst₂
  cases he
  refine hK a₂' w₂ ⟨D1 ++ it :: D2, done, effs, snaps, a, σ, b₂, _, ρ₂, ⟨?_, ?_, hst₂.r, hact, hB.head, hB.len, ?_, hB.fresh, ?_, ?_⟩, ⟨hA.plan, hA.holds, hA.mono, ?_, by rw [hs1]; exact hA.sz, by rw [hs2]; exact hA.df, ?_, hA.room, ?_, hA.fresh, ?_⟩, hro.mono hst₂.le, ?_, by simpa using hsz⟩
  · intro j hj hlj k hk
    rw [Lst.set (by omega)] at hlj ⊢
    rcases hlj with hlj | rfl
    · exact ⟨(hB.closed j hj hlj k hk).1, .inl (hB.closed j hj hlj k hk).2⟩
    · exact ⟨(hW k hk).1, .inl (hW k hk).2⟩
  · intro j oj hj hlj hdj
    rw [Lst.set (by omega)] at hlj
    rcases hlj with hlj | rfl
    · exact hB.ne j oj hj hlj hdj
    · rw [ho] at hj; cases hj; exact hne
  · intro c k hc
    have hc' := hB.sub c k hc
    rw [ext_get _ _ _ _ hnone]
    by_cases e : c = base + it.i
    · rw [e, hnone] at hc'; cases hc'
    · rw [if_neg e]; exact hc'
  · intro j hj hlj
    rw [Lst.set (by omega)] at hlj
    cases hr : ρ₂ (base + j) with
    | none => rfl
    | some l =>
      rcases hst₂.dom _ _ hr with h | h | h
      · rw [hB.dom j hj fun h => hlj (.inl h)] at h; cases h
      · have := hA.room; have := hA.nxt; omega
      · exact absurd (.inr (by omega)) hlj
  · intro j oj hj hlj hdj
    rw [Lst.set (by omega)] at hlj
    by_cases e : j = it.i
    · subst e
      rw [ho] at hj; cases hj
      have hlk : ∀ t ∈ looks ops.toList o, b₂.tmps.get t = b.tmps.get t := by
        intro t ht
        rw [hget]
        by_cases hd : o.dst = some t
        · exact absurd rfl (hp.data _ _ _ _ _ ho ho hd ht).1
        · rw [if_neg hd]
      refine ⟨v, fun t ht => by rw [hget, if_pos ht], .inl ?_⟩
      rw [gOf_keep hlk, ext_get _ _ _ _ hnone, if_pos rfl]
      refine look_at hne hB.act hnone hg0 ?_
      intro c k hc _
      rw [kill_get, ext_get _ _ _ _ hnone]
      by_cases e : c = base + it.i
      · rw [e, hnone] at hc; cases hc
      · rw [if_neg e, if_neg e]; exact hc
    · have hlj := hlj.resolve_right e
      have hnej := hB.ne j oj hj hlj hdj
      obtain ⟨u, hu, hrec⟩ := hB.recs j oj hj hlj hdj
      have hlk : ∀ t ∈ looks ops.toList oj, b₂.tmps.get t = b.tmps.get t := by
        intro t ht
        rw [hget]
        by_cases hd : o.dst = some t
        · rcases (hp.data _ _ _ _ _ hj ho hd ht).2 with h | ⟨h, _⟩
          · exact absurd (hB.closed j (idx_lt hj) hlj _ h).2 hl
          · rw [hne] at h; cases h
        · rw [if_neg hd]
      have hat : (τ₀.ext (base + it.i) κ).heap.get (base + j) = τ₀.heap.get (base + j) := by
        rw [ext_get _ _ _ _ hnone, if_neg (by omega)]
      refine ⟨u, fun t ht => ?_, ?_⟩
      · rw [hget]
        by_cases hd : o.dst = some t
        · exact absurd (hp.dist _ _ _ _ _ hj ho ht hd) e
        · rw [if_neg hd]; exact hu t ht
      · rw [hat]
        rcases hrec with h | h | ⟨h1, h2, q, τ, h3, h4, h5, h6⟩
        · refine .inl ?_
          rw [gOf_keep hlk]
          refine look_at hnej hB.act (by rw [kill_get, if_pos rfl]) h ?_
          intro c k hc _
          rw [kill_get] at hc ⊢
          by_cases e2 : c = base + j
          · rw [if_pos e2] at hc; cases hc
          · rw [if_neg e2] at hc ⊢
            rw [ext_get _ _ _ _ hnone]
            by_cases e3 : c = base + it.i
            · rw [e3, hnone] at hc; cases hc
            · rw [if_neg e3]; exact hc
        · exact .inr (.inl fun σ' => by rw [gOf_keep hlk]; exact h σ')
        · exact .inr (.inr ⟨h1, h2, q, τ, h3, h4, h5, fun u' τ' hh => h6 u' τ' (by rw [← gOf_keep hlk]; exact hh)⟩)
  · intro j hj
    rw [Lst.set (by omega)]
    exact ⟨(hA.listedD j hj).1, .inl (hA.listedD j hj).2⟩
  · rw [ext_next hroom]; exact hA.nxt
  · intro c k hc
    have hc' := hA.sub c k hc
    rw [ext_get _ _ _ _ hnone]
    by_cases e : c = base + it.i
    · rw [e, hnone] at hc'; cases hc'
    · rw [if_neg e]; exact hc'
  · intro t ht
    have h1 : o.dst ≠ some t := ht it.i o ho ((Lst.set (by omega)).2 (.inr rfl)) hdone
    rw [hget, if_neg h1]
    exact hA.agree t fun j oj hj hlj hdj => ht j oj hj ((Lst.set (by omega)).2 (.inl hlj)) hdj
  · exact hst.trans (hst₂.weaken fun c hc => by rw [hc]; exact Nat.le_add_right _ _)

end
end Go.Ev
