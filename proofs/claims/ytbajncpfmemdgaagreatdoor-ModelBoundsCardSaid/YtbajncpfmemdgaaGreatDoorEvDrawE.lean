/- The canonical run, walked up to an operation. -/
import Derived.Test.YtbajncpfmemdgaaGreatDoorEvDrawD
namespace Go.Ev
open Go
section
variable {P : Program} {Rn : Task → St → Run} {ro : Option Nat} {p : Out × St → Prop} {L : List Oper} {W : List Nat} {base : Nat} {listed : Array Bool} {done : Nat} {effs : List Nat} {snaps : List St} {σ : St} {b : Act} {τ₀ : St} {ρ : Ren} {a' : Go.Act} {w : World}
variable {D : List Item} {dn : Nat} {ef : List Nat} {S : List St} {a₁ : Act} {σ₁ : St} {it : Item} {o : Oper}

theorem ext_none_of [Env] {id : Nat} {κ : Option Blk} {j : Nat} (hne : j ≠ id) (h : σ₁.heap.get j = none) : (σ₁.ext id κ).heap.get j = none := by
  cases κ with
  | none => exact h
  | some k =>
    show (σ₁.new id k).heap.get j = none
    rw [new_get, if_neg hne]; exact h
theorem ext_some_of [Env] {id : Nat} {κ : Option Blk} {c : Nat} {k : Blk} (h : (σ₁.ext id κ).heap.get c = some k) : σ₁.heap.get c = some k ∨ (c = id ∧ κ = some k) := by
  cases κ with
  | none => exact .inl h
  | some k' =>
    have h' : (σ₁.new id k').heap.get c = some k := h
    rw [new_get] at h'
    by_cases e : c = id
    · rw [if_pos e] at h'; exact .inr ⟨e, h'⟩
    · rw [if_neg e] at h'; exact .inl h'

/-- An operation that can be taken now, and writes nothing: it goes through. -/
theorem target [Env] (hp : Plan L W) (hB : Base P L W base listed done effs snaps σ b τ₀ ρ a' w) (hw : Walk P Rn ro p L W base listed done effs snaps b τ₀ ρ (it :: D) dn ef S a₁ σ₁)
    (ho : L[it.i]? = some o) (hne : effectOp o.op = false) (_hdone : done.testBit it.i = false) (hW : ∀ j, (W.getD it.i 0).testBit j = true → j < L.length ∧ Lst listed j) :
    ∃ v κ b₂, gOf P L o b (base + it.i) τ₀ = .ok (v, τ₀.ext (base + it.i) κ) ∧ b.put o.dst v = some b₂ := by
  obtain ⟨o', ho', hdn, hcov, _, hnon⟩ := planCheck_cons hw.plan
  rw [ho] at ho'; cases ho'
  obtain ⟨hbk, hcls, _⟩ := hnon hne
  obtain ⟨u, κ, a₂, hput, hch, hg, hmono, hfree, hread⟩ := yield_at hp hB hw ho hne hW
  obtain ⟨b₂, hb₂⟩ := put_size (u := u) hput (b := b) hw.sz.symm
  obtain ⟨ep, sp, hef, hS, hlen, hep, hempty⟩ := hw.pre
  by_cases he : ep = []
  · exact ⟨u, κ, b₂, hmono _ (hempty he).1, hb₂⟩
  · have hpos : 0 < ep.length := List.length_pos_iff.2 he
    have hge := back_ge (it := it) (W := W) (listed := listed) (L := L) (effs := effs) (ep := ep) (k := 0) (by rw [← hef]; exact hbk) hep hW (by omega) (by simp)
    by_cases hr : rdOp P o.op = true
    · obtain ⟨hext, hall⟩ := hread hr
      obtain ⟨τ, hτ, hg'⟩ := hall (by omega) ep.length (by omega) (by omega)
      obtain ⟨r, hr'⟩ := hB.head
      have : τ = σ := snap_at (snaps := snaps) (k := 0) (by rw [hr']; rfl) (by rw [← hS, ← hlen]; exact hτ)
      subst this
      exact ⟨u, none, b₂, hg' _ (fun c k hc _ => hB.sub c k hc), hb₂⟩
    · have hlk : lookOp P o.op = false := by
        rcases hcls with h | h | h
        · omega
        · exact absurd h hr
        · exact h
      exact ⟨u, κ, b₂, hfree hlk (not_read hr) _, hb₂⟩

theorem mono_lor [Env] {dn i : Nat} (h : (∀ i, done.testBit i = true → dn.testBit i = true) ∧ ∀ j k, dn.testBit j = true → (W.getD j 0).testBit k = true → dn.testBit k = true) (hc : ∀ j, (W.getD i 0).testBit j = true → dn.testBit j = true) :
    (∀ j, done.testBit j = true → (Nat.lor dn (2 ^ i)).testBit j = true) ∧ ∀ j k, (Nat.lor dn (2 ^ i)).testBit j = true → (W.getD j 0).testBit k = true → (Nat.lor dn (2 ^ i)).testBit k = true := by
  refine ⟨fun j hj => by rw [lor_bit, h.1 j hj]; rfl, fun j k hj hk => ?_⟩
  rw [lor_bit] at hj ⊢
  simp only [Bool.or_eq_true, decide_eq_true_eq] at hj ⊢
  rcases hj with hj | rfl
  · exact .inl (h.2 j k hj hk)
  · exact .inl (hc k hk)

/-- One step of the walk. -/
theorem walk_next [Env] (hp : Plan L W) (hB : Base P L W base listed done effs snaps σ b τ₀ ρ a' w) (hw : Walk P Rn ro p L W base listed done effs snaps b τ₀ ρ (it :: D) dn ef S a₁ σ₁) :
    ∃ ef' S' a₂ σ₂, Walk P Rn ro p L W base listed done effs snaps b τ₀ ρ D (Nat.lor dn (2 ^ it.i)) ef' S' a₂ σ₂ := by
  obtain ⟨o, ho, hdn, hcov, heff, hnon⟩ := planCheck_cons hw.plan
  have hlt := idx_lt ho
  obtain ⟨ep, sp, hef, hS, hlen, hep, hempty⟩ := hw.pre
  have fresh' : ∀ κ, ep = [] → ∀ j, j < L.length → (Nat.lor dn (2 ^ it.i)).testBit j = false → (σ₁.ext (base + it.i) κ).heap.get (base + j) = none := by
    intro κ he j hj hd
    rw [lor_bit] at hd
    simp only [Bool.or_eq_false_iff, decide_eq_false_iff_not] at hd
    exact ext_none_of (by omega) ((hempty he).2 j hj hd.1)
  by_cases hl : Lst listed it.i
  · obtain ⟨o', v, a₂, ho', hne, hput, hv, hch⟩ := pass hp hB hw hl
    rw [ho] at ho'; cases ho'
    obtain ⟨_, _, hplan⟩ := hnon hne
    obtain ⟨hs1, _, hget⟩ := put_spec hput
    refine ⟨ef, S, a₂, _, hplan, hch, mono_lor hw.mono hcov, ⟨ep, sp, hef, hS, hlen, hep, fun he => ⟨?_, fresh' _ he⟩⟩, by rw [hs1]; exact hw.sz, fun t h1 h2 => ?_⟩
    · intro c k hc hkn
      rcases ext_some_of hc with h | ⟨rfl, h⟩
      · exact (hempty he).1 c k h hkn
      · exact h
    · rw [hget]
      by_cases hd : o.dst = some t
      · rw [if_pos hd, hv t hd]
      · rw [if_neg hd]
        refine hw.agree t (fun j oj hj hlj hdj => h1 j oj hj hlj (by rw [lor_bit, hdj]; rfl)) fun j oj hj hlj hdj => ?_
        by_cases e : j = it.i
        · subst e; rw [ho] at hj; cases hj; exact hd
        · exact h2 j oj hj hlj (by rw [lor_bit, hdj]; simp; omega)
  · have hagree : ∀ {a₂ : Act}, (∀ t, o.dst ≠ some t → a₂.tmps.get t = a₁.tmps.get t) → ∀ t, (∀ (j : Nat) (o : Oper), L[j]? = some o → ¬ Lst listed j → (Nat.lor dn (2 ^ it.i)).testBit j = true → o.dst ≠ some t) →
        (∀ (j : Nat) (o : Oper), L[j]? = some o → Lst listed j → (Nat.lor dn (2 ^ it.i)).testBit j = false → o.dst ≠ some t) → a₂.tmps.get t = b.tmps.get t := by
      intro a₂ hk t h1 h2
      rw [hk t (h1 _ _ ho hl (by rw [lor_bit]; simp))]
      refine hw.agree t (fun j oj hj hlj hdj => h1 j oj hj hlj (by rw [lor_bit, hdj]; rfl)) fun j oj hj hlj hdj => h2 j oj hj hlj ?_
      rw [lor_bit, hdj]
      have : it.i ≠ j := fun e => hl (e ▸ hlj)
      simp [this]
    obtain ⟨o', ho', hst⟩ := CH_cons hw.holds
    rw [ho] at ho'; cases ho'
    cases hne : effectOp o.op with
    | true =>
      obtain ⟨hcov', hplan⟩ := heff hne
      obtain ⟨⟨b₂, σ₂⟩, a₂, ⟨_, hch⟩, hf⟩ := (stepC_follow (fun _ _ => rfl) rfl rfl hst).exists
      rw [hne] at hch
      refine ⟨it.i :: ef, σ₂ :: S, a₂, σ₂, hplan, hch, mono_lor hw.mono hcov, ⟨it.i :: ep, σ₂ :: sp, by rw [hef]; rfl, by rw [hS]; rfl, by simp [hlen], ?_, fun h => by cases h⟩, by rw [hf.sa]; exact hw.sz, hagree hf.keepA⟩
      intro f hf
      rcases List.mem_cons.1 hf with rfl | hf
      · exact ⟨hlt, hl⟩
      · exact hep f hf
    | false =>
      obtain ⟨_, _, hplan⟩ := hnon hne
      rw [stepC_ne hne] at hst
      obtain ⟨v, κ, hq⟩ := gOf_shape (P := P) hne hst.bind
      obtain ⟨a₂, hput, _, hch⟩ := dst_put hq
      rw [hne] at hch
      obtain ⟨hs1, _, hget⟩ := put_spec hput
      refine ⟨ef, S, a₂, _, hplan, hch, mono_lor hw.mono hcov, ⟨ep, sp, hef, hS, hlen, hep, fun he => ⟨?_, fresh' _ he⟩⟩, by rw [hs1]; exact hw.sz, hagree fun t ht => by rw [hget, if_neg ht]⟩
      intro c k hc hkn
      rcases ext_some_of hc with h | ⟨rfl, h⟩
      · exact (hempty he).1 c k h hkn
      · exact absurd (hB.dom _ hlt hl) hkn

theorem walk_to [Env] (hp : Plan L W) (hB : Base P L W base listed done effs snaps σ b τ₀ ρ a' w) : ∀ {D1 : List Item} {dn : Nat} {ef : List Nat} {S : List St} {a₁ : Act} {σ₁ : St}, Walk P Rn ro p L W base listed done effs snaps b τ₀ ρ (D1 ++ it :: D) dn ef S a₁ σ₁ →
    ∃ dn' ef' S' a₂ σ₂, Walk P Rn ro p L W base listed done effs snaps b τ₀ ρ (it :: D) dn' ef' S' a₂ σ₂ := by
  intro D1
  induction D1 with
  | nil => intro dn ef S a₁ σ₁ hw; exact ⟨_, _, _, _, _, hw⟩
  | cons x D1 ih =>
    intro dn ef S a₁ σ₁ hw
    obtain ⟨_, _, _, _, h⟩ := walk_next hp hB hw
    exact ih h

/-- The canonical run right behind an effect, and what the machine has taken since. -/
structure Adv (P : Program) (Rn : Task → St → Run) (ro : Option Nat) (p : Out × St → Prop) (L : List Oper) (W : List Nat) (base : Nat) (listed : Array Bool) (done : Nat) (effs : List Nat) (snaps : List St) (b : Act) (τ₀ : St)
    (D : List Item) (dn : Nat) (a₁ : Act) (σ₁ : St) : Prop where
  plan : planCheck P L W dn effs D = true
  holds : CH P Rn ro L base p D snaps a₁ σ₁
  mono : (∀ i, done.testBit i = true → dn.testBit i = true) ∧ ∀ j k, dn.testBit j = true → (W.getD j 0).testBit k = true → dn.testBit k = true
  listedD : ∀ i, dn.testBit i = true → i < L.length ∧ Lst listed i
  sz : a₁.size = b.size
  df : a₁.defers = b.defers
  nxt : σ₁.next = τ₀.next
  room : base + L.length ≤ σ₁.next
  sub : ∀ c k, σ₁.heap.get c = some k → τ₀.heap.get c = some k
  fresh : ∀ i, i < L.length → dn.testBit i = false → σ₁.heap.get (base + i) = none
  agree : ∀ t, (∀ (j : Nat) (o : Oper), L[j]? = some o → Lst listed j → dn.testBit j = false → o.dst ≠ some t) → a₁.tmps.get t = b.tmps.get t

theorem Adv.walk (h : Adv P Rn ro p L W base listed done effs snaps b τ₀ D dn a₁ σ₁) : Walk P Rn ro p L W base listed done effs snaps b τ₀ ρ D dn effs snaps a₁ σ₁ :=
  ⟨h.plan, h.holds, h.mono, ⟨[], [], rfl, rfl, rfl, (fun f hf => by cases hf), fun _ => ⟨fun c k hc _ => h.sub c k hc, h.fresh⟩⟩, h.sz, fun t _ h2 => h.agree t h2⟩

theorem ext_next [Env] {id : Nat} {κ : Option Blk} (h : id < σ₁.next) : (σ₁.ext id κ).next = σ₁.next := by
  cases κ with
  | none => rfl
  | some k =>
    show (σ₁.new id k).next = σ₁.next
    rw [new_next]; omega

theorem adv_next [Env] (hp : Plan L W) (hB : Base P L W base listed done effs snaps σ b τ₀ ρ a' w) (h : Adv P Rn ro p L W base listed done effs snaps b τ₀ (it :: D) dn a₁ σ₁) (hl : Lst listed it.i) :
    ∃ a₂ σ₂, Adv P Rn ro p L W base listed done effs snaps b τ₀ D (Nat.lor dn (2 ^ it.i)) a₂ σ₂ := by
  obtain ⟨o, v, a₂, ho, hne, hput, hv, hch⟩ := pass (ρ := ρ) hp hB h.walk hl
  obtain ⟨o', ho', hdn, hcov, _, hnon⟩ := planCheck_cons h.plan
  rw [ho] at ho'; cases ho'
  obtain ⟨_, _, hplan⟩ := hnon hne
  obtain ⟨hs1, hs2, hget⟩ := put_spec hput
  have hlt := idx_lt ho
  have hnx : (σ₁.ext (base + it.i) (τ₀.heap.get (base + it.i))).next = σ₁.next := ext_next (by have := h.room; omega)
  refine ⟨a₂, _, hplan, hch, mono_lor h.mono hcov, fun j hj => ?_, by rw [hs1]; exact h.sz, by rw [hs2]; exact h.df, by rw [hnx]; exact h.nxt, by rw [hnx]; exact h.room, fun c k hc => ?_, fun j hj hd => ?_, fun t h2 => ?_⟩
  · rw [lor_bit] at hj
    simp only [Bool.or_eq_true, decide_eq_true_eq] at hj
    rcases hj with hj | rfl
    · exact h.listedD j hj
    · exact ⟨hlt, hl⟩
  · rcases ext_some_of hc with h1 | ⟨rfl, h1⟩
    · exact h.sub c k h1
    · exact h1
  · rw [lor_bit] at hd
    simp only [Bool.or_eq_false_iff, decide_eq_false_iff_not] at hd
    exact ext_none_of (by omega) (h.fresh j hj hd.1)
  · rw [hget]
    by_cases hd : o.dst = some t
    · rw [if_pos hd, hv t hd]
    · rw [if_neg hd]
      refine h.agree t fun j oj hj hlj hdj => ?_
      by_cases e : j = it.i
      · subst e; rw [ho] at hj; cases hj; exact hd
      · exact h2 j oj hj hlj (by rw [lor_bit, hdj]; simp; omega)

theorem adv_to [Env] (hp : Plan L W) (hB : Base P L W base listed done effs snaps σ b τ₀ ρ a' w) : ∀ {D1 : List Item} {dn : Nat} {a₁ : Act} {σ₁ : St}, Adv P Rn ro p L W base listed done effs snaps b τ₀ (D1 ++ D) dn a₁ σ₁ → (∀ x ∈ D1, Lst listed x.i) →
    ∃ dn' a₂ σ₂, Adv P Rn ro p L W base listed done effs snaps b τ₀ D dn' a₂ σ₂ ∧ (∀ i, dn.testBit i = true → dn'.testBit i = true) ∧ (∀ x ∈ D1, dn'.testBit x.i = true) := by
  intro D1
  induction D1 with
  | nil => intro dn a₁ σ₁ h _; exact ⟨dn, _, _, h, fun _ h => h, fun x hx => by cases hx⟩
  | cons x D1 ih =>
    intro dn a₁ σ₁ h hl
    obtain ⟨a₂, σ₂, h2⟩ := adv_next hp hB h (hl x List.mem_cons_self)
    obtain ⟨dn', a₃, σ₃, h3, hm, hx⟩ := ih h2 fun y hy => hl y (List.mem_cons_of_mem _ hy)
    refine ⟨dn', a₃, σ₃, h3, fun i hi => hm i (by rw [lor_bit, hi]; rfl), fun y hy => ?_⟩
    rcases List.mem_cons.1 hy with rfl | hy
    · exact hm _ (by rw [lor_bit]; simp)
    · exact hx y hy

end
end Go.Ev
