/- The canonical run, walked ahead of the machine. -/
import Derived.Test.YtbajncpfmemdgaaGreatDoorEvDrawC
namespace Go.Ev
open Go

def Lst (l : Array Bool) (i : Nat) : Prop := l.getD i true = true

/-- What is known of an operation that the machine has taken ahead of the canonical run. -/
def Rec (P : Program) (L : List Oper) (W : List Nat) (base : Nat) (effs : List Nat) (snaps : List St) (b : Act) (τ₀ : St) (i : Nat) (o : Oper) : Prop :=
  ∃ v, (∀ t, o.dst = some t → b.tmps.get t = some v) ∧
    (gOf P L o b (base + i) (τ₀.kill (base + i)) = .ok (v, (τ₀.kill (base + i)).ext (base + i) (τ₀.heap.get (base + i))) ∨
     (∀ σ', gOf P L o b (base + i) σ' = .ok (v, σ'.ext (base + i) (τ₀.heap.get (base + i)))) ∨
     (rdOp P o.op = true ∧ τ₀.heap.get (base + i) = none ∧ ∃ j τ, snaps[j]? = some τ ∧ 1 ≤ j ∧ (∀ f ∈ effs.take j, (W.getD i 0).testBit f = false) ∧ ∀ u τ', gOf P L o b (base + i) τ = .ok (u, τ') → u = v))

/-- The machine's side. -/
structure Base [Env] (P : Program) (L : List Oper) (W : List Nat) (base : Nat) (listed : Array Bool) (done : Nat) (effs : List Nat) (snaps : List St) (σ : St) (b : Act) (τ₀ : St) (ρ : Ren) (a' : Go.Act) (w : World) : Prop where
  closed : ∀ i, i < L.length → Lst listed i → ∀ j, (W.getD i 0).testBit j = true → j < L.length ∧ Lst listed j
  ne : ∀ (i : Nat) (o : Oper), L[i]? = some o → Lst listed i → done.testBit i = false → effectOp o.op = false
  rel : R ρ τ₀ w
  act : ActRel ρ b a'
  head : ∃ r, snaps = σ :: r
  len : snaps.length = effs.length + 1
  sub : ∀ c k, σ.heap.get c = some k → τ₀.heap.get c = some k
  fresh : ∀ i, i < L.length → done.testBit i = false → σ.heap.get (base + i) = none
  dom : ∀ i, i < L.length → ¬ Lst listed i → ρ (base + i) = none
  recs : ∀ (i : Nat) (o : Oper), L[i]? = some o → Lst listed i → done.testBit i = false → Rec P L W base effs snaps b τ₀ i o

structure Walk (P : Program) (Rn : Task → St → Run) (ro : Option Nat) (p : Out × St → Prop) (L : List Oper) (W : List Nat) (base : Nat) (listed : Array Bool) (done : Nat) (effs : List Nat) (snaps : List St) (b : Act) (τ₀ : St) (ρ : Ren)
    (D : List Item) (dn : Nat) (ef : List Nat) (S : List St) (a₁ : Act) (σ₁ : St) : Prop where
  plan : planCheck P L W dn ef D = true
  holds : CH P Rn ro L base p D S a₁ σ₁
  mono : (∀ i, done.testBit i = true → dn.testBit i = true) ∧ ∀ j k, dn.testBit j = true → (W.getD j 0).testBit k = true → dn.testBit k = true
  pre : ∃ ep sp, ef = ep ++ effs ∧ S = sp ++ snaps ∧ ep.length = sp.length ∧ (∀ f ∈ ep, f < L.length ∧ ¬ Lst listed f) ∧
    (ep = [] → SubOn (Known ρ) σ₁ τ₀ ∧ ∀ j, j < L.length → dn.testBit j = false → σ₁.heap.get (base + j) = none)
  sz : a₁.size = b.size
  agree : ∀ t, (∀ (j : Nat) (o : Oper), L[j]? = some o → ¬ Lst listed j → dn.testBit j = true → o.dst ≠ some t) → (∀ (j : Nat) (o : Oper), L[j]? = some o → Lst listed j → dn.testBit j = false → o.dst ≠ some t) → a₁.tmps.get t = b.tmps.get t

theorem kill_get [Env] (σ : St) (c b : Nat) : (σ.kill c).heap.get b = if b = c then none else σ.heap.get b := by
  rw [kill_heap, Trie.get_put]
theorem new_get [Env] (σ : St) (c : Nat) (k : Blk) (b : Nat) : (σ.new c k).heap.get b = if b = c then some k else σ.heap.get b := by
  rw [new_heap, Trie.get_put]
theorem ext_get [Env] (σ : St) (c : Nat) (κ : Option Blk) (b : Nat) (h : σ.heap.get c = none) : (σ.ext c κ).heap.get b = if b = c then κ else σ.heap.get b := by
  cases κ with
  | none =>
    show σ.heap.get b = _
    by_cases e : b = c
    · rw [if_pos e, e, h]
    · rw [if_neg e]
  | some k => exact new_get σ c k b
theorem ext_inj [Env] {σ : St} {c : Nat} {κ κ' : Option Blk} (h : σ.heap.get c = none) (e : σ.ext c κ = σ.ext c κ') : κ = κ' := by
  have h1 := ext_get σ c κ c h
  have h2 := ext_get σ c κ' c h
  rw [if_pos rfl] at h1 h2
  rw [← h1, ← h2, e]

section
variable {P : Program} {Rn : Task → St → Run} {ro : Option Nat} {p : Out × St → Prop} {L : List Oper} {W : List Nat} {base : Nat} {listed : Array Bool} {done : Nat} {effs : List Nat} {snaps : List St} {σ : St} {b : Act} {τ₀ : St} {ρ : Ren} {a' : Go.Act} {w : World}
variable {D : List Item} {dn : Nat} {ef : List Nat} {S : List St} {a₁ : Act} {σ₁ : St} {it : Item} {o : Oper}

theorem idx_lt {i : Nat} {o : Oper} (h : L[i]? = some o) : i < L.length := (List.getElem?_eq_some_iff.1 h).1

theorem walk_agree [Env] (hp : Plan L W) (hB : Base P L W base listed done effs snaps σ b τ₀ ρ a' w) (hw : Walk P Rn ro p L W base listed done effs snaps b τ₀ ρ (it :: D) dn ef S a₁ σ₁) (ho : L[it.i]? = some o)
    (hW : ∀ j, (W.getD it.i 0).testBit j = true → j < L.length ∧ Lst listed j) : Agree (looks L o) a₁ b := by
  intro t ht
  obtain ⟨_, _, hnd, hcov, _⟩ := planCheck_cons hw.plan
  refine hw.agree t (fun j oj hj hl hdj hd => ?_) (fun j oj hj hlj hdn hd => ?_)
  · rcases (hp.data _ _ _ _ _ ho hj hd ht).2 with h | ⟨_, h⟩
    · exact hl (hW j h).2
    · rw [hw.mono.2 j _ hdj h] at hnd; cases hnd
  · rcases (hp.data _ _ _ _ _ ho hj hd ht).2 with h | ⟨h, _⟩
    · have := hcov j h
      rw [hdn] at this; cases this
    · have hdone : done.testBit j = false := by
        cases hd2 : done.testBit j with
        | false => rfl
        | true => rw [hw.mono.1 j hd2] at hdn; cases hdn
      rw [hB.ne j oj hj hlj hdone] at h; cases h

theorem back_ge {ep : List Nat} {k : Nat} (hb : backOk (W.getD it.i 0) it.back (ep ++ effs) = true) (hep : ∀ f ∈ ep, f < L.length ∧ ¬ Lst listed f)
    (hW : ∀ j, (W.getD it.i 0).testBit j = true → j < L.length ∧ Lst listed j) (hk : k ≤ effs.length) (hf : ∀ f ∈ effs.take k, (W.getD it.i 0).testBit f = false) : ep.length + k ≤ it.back := by
  rcases Nat.lt_or_ge it.back (ep.length + k) with hlt | hge
  · exfalso
    have hl : it.back < (ep ++ effs).length := by rw [List.length_append]; omega
    unfold backOk at hb
    rw [List.drop_eq_getElem_cons hl] at hb
    dsimp only at hb
    by_cases h1 : it.back < ep.length
    · rw [List.getElem_append_left h1] at hb
      exact (hep _ (List.getElem_mem h1)).2 (hW _ hb).2
    · rw [List.getElem_append_right (by omega)] at hb
      have hi : it.back - ep.length < effs.length := by rw [List.length_append] at hl; omega
      have hm : effs[it.back - ep.length] ∈ effs.take k := by
        rw [List.mem_take_iff_getElem]
        exact ⟨it.back - ep.length, by omega, rfl⟩
      rw [hf _ hm] at hb; cases hb
  · exact hge

theorem not_read {P : Program} {o : Op} (h : ¬ rdOp P o = true) : readOp o = false := by
  cases o <;> first
    | rfl
    | exact absurd rfl h
/-- One operation of the canonical run that writes nothing: what it makes. -/
theorem yield_at [Env] (hp : Plan L W) (hB : Base P L W base listed done effs snaps σ b τ₀ ρ a' w) (hw : Walk P Rn ro p L W base listed done effs snaps b τ₀ ρ (it :: D) dn ef S a₁ σ₁)
    (ho : L[it.i]? = some o) (hne : effectOp o.op = false) (hW : ∀ j, (W.getD it.i 0).testBit j = true → j < L.length ∧ Lst listed j) :
    ∃ u κ a₂, a₁.put o.dst u = some a₂ ∧ CH P Rn ro L base p D S a₂ (σ₁.ext (base + it.i) κ) ∧ gOf P L o b (base + it.i) σ₁ = .ok (u, σ₁.ext (base + it.i) κ) ∧
      (∀ σ', SubOn (Known ρ) σ₁ σ' → gOf P L o b (base + it.i) σ' = .ok (u, σ'.ext (base + it.i) κ)) ∧
      (lookOp P o.op = false → readOp o.op = false → ∀ σ', gOf P L o b (base + it.i) σ' = .ok (u, σ'.ext (base + it.i) κ)) ∧
      (rdOp P o.op = true → σ₁.ext (base + it.i) κ = σ₁ ∧ (it.back ≠ 0 → ∀ j, 1 ≤ j → j ≤ it.back → ∃ τ, S[j]? = some τ ∧ ∀ σ', SubOn (Known ρ) τ σ' → gOf P L o b (base + it.i) σ' = .ok (u, σ'))) := by
  obtain ⟨o', ho', hst⟩ := CH_cons hw.holds
  rw [ho] at ho'; cases ho'
  have hag := walk_agree hp hB hw ho hW
  rw [stepC_ne hne] at hst
  have hst := hst.bind
  have hkn : ∀ x ∈ o.op.operands, ∀ v, b.eval x = some v → ∃ x', VRel ρ v x' := fun x _ v h => ⟨_, hB.act.eval x h⟩
  rw [gOf_congr (P := P) hag] at hst
  have key : ∃ u κ, (dstK o.dst (u, a₁, σ₁.ext (base + it.i) κ)).Holds (fun r => (it.back = 0 ∨ loadsSame P (offG L o a₁) it.back S a₁ (slotOf r.1 o.dst) o.op = true) ∧ CH P Rn ro L base p D (snapsOf (effectOp o.op) r.2 S) r.1 r.2) ∧
      gOf P L o b (base + it.i) σ₁ = .ok (u, σ₁.ext (base + it.i) κ) ∧ (∀ σ', SubOn (Known ρ) σ₁ σ' → gOf P L o b (base + it.i) σ' = .ok (u, σ'.ext (base + it.i) κ)) ∧
      (lookOp P o.op = false → readOp o.op = false → ∀ σ', gOf P L o b (base + it.i) σ' = .ok (u, σ'.ext (base + it.i) κ)) := by
    by_cases hfr : lookOp P o.op = false ∧ readOp o.op = false
    · obtain ⟨u, κ, hq, hall⟩ := gOf_free (P := P) (id := base + it.i) (ops := L) (a := b) hne hfr.1 hfr.2 σ₁ _ hst
      exact ⟨u, κ, hq, hall σ₁, fun σ' _ => hall σ', fun _ _ => hall⟩
    · obtain ⟨u, κ, hq, hg, hmono⟩ := gOf_look (P := P) (id := base + it.i) (ops := L) hne hkn σ₁ _ hst
      exact ⟨u, κ, hq, hg, hmono, fun h1 h2 => absurd ⟨h1, h2⟩ hfr⟩
  obtain ⟨u, κ, hq, hg, hmono, hfree⟩ := key
  obtain ⟨a₂, hput, hback, hch⟩ := dst_put hq
  rw [hne] at hch
  refine ⟨u, κ, a₂, hput, hch, hg, hmono, hfree, fun h1 => ?_⟩
  by_cases hcv : ∃ s d x, o.op = .convert s d x
  · obtain ⟨s, d, x, hop⟩ := hcv
    have hc : convT P s d = true := by rw [hop] at h1; exact h1
    refine ⟨gOf_rd (by rw [hop]; exact hc) hg, fun hb0 j hj1 hj2 => ?_⟩
    have hls := hback.resolve_left hb0
    rw [hop] at hls
    obtain ⟨hex, hoff⟩ := loadsSame_conv hc hls
    obtain ⟨τ, hτ⟩ := hex j hj2
    refine ⟨τ, hτ, fun σ' _ => ?_⟩
    rcases hoff with hoff | ⟨es, esz, ex, hx⟩
    · have e1 : ∀ σ, gOf P L o b (base + it.i) σ = .ok (undefV, σ) := fun σ => (gOf_congr (P := P) hag σ).symm.trans (congrFun (gOf_off hoff) σ)
      rw [e1] at hg
      rw [e1, (Prod.mk.inj (Res.ok.inj hg)).1]
    · rw [hag.eval x (by rw [hop]; simp [Op.operands])] at hx
      exact gOf_conv hop hc hx hg σ'
  obtain ⟨t, x, hop⟩ : ∃ t x, o.op = .load t x := by
    cases hop : o.op <;> rw [hop] at h1 hcv <;> first
      | exact ⟨_, _, rfl⟩
      | (cases h1; done)
      | exact absurd ⟨_, _, _, rfl⟩ hcv
  obtain ⟨he, hl⟩ := gOf_load hop hg
  refine ⟨he, fun hb0 j hj1 hj2 => ?_⟩
  have hls := hback.resolve_left hb0
  rw [hop] at hls
  cases hoff : offG L o a₁ with
  | true =>
    rw [hoff] at hls
    obtain ⟨τ, hτ⟩ := loadsSame_off hls j hj2
    refine ⟨τ, hτ, fun σ' _ => ?_⟩
    have e1 : ∀ σ, gOf P L o b (base + it.i) σ = .ok (undefV, σ) := fun σ => (gOf_congr (P := P) hag σ).symm.trans (congrFun (gOf_off hoff) σ)
    rw [e1] at hg
    rw [e1, (Prod.mk.inj (Res.ok.inj hg)).1]
  | false =>
  rw [hoff] at hls
  obtain ⟨pv, u2, hpv, hu2, hall⟩ := loadsSame_spec hls
  rcases hall with ⟨⟨cs, off, rfl⟩, hex⟩ | hall
  · obtain ⟨τ, hτ⟩ := hex j hj2
    refine ⟨τ, hτ, fun σ' _ => ?_⟩
    rw [hag.eval x (by rw [hop]; simp [Op.operands])] at hpv
    exact gOf_eptr hop hpv hg σ'
  obtain ⟨τ, hτ, hlv⟩ := hall j hj1 hj2
  have hu : u2 = u := by
    cases hd : o.dst with
    | none => rw [hd] at hu2; cases hu2
    | some d =>
      rw [hd] at hu2
      have := (put_spec hput).2.2 d
      rw [if_pos hd] at this
      have hu2' : a₂.tmps.get d = some u2 := hu2
      rw [this] at hu2'
      exact (Option.some.inj hu2').symm
  subst hu
  refine ⟨τ, hτ, fun σ' hs => hl σ' fun pv' hpv' => ?_⟩
  rw [← hag.eval x (by rw [hop]; simp [Op.operands]), hpv] at hpv'
  cases hpv'
  have hrel := hB.act.eval x (v := pv) (by rw [← hag.eval x (by rw [hop]; simp [Op.operands])]; exact hpv)
  exact hs.loadV hrel hlv

/-- The snapshot at which the machine stands. -/
theorem snap_at {snaps sp : List St} {k : Nat} {τ τ' : St} (h1 : snaps[k]? = some τ) (h2 : (sp ++ snaps)[sp.length + k]? = some τ') : τ' = τ := by
  rw [List.getElem?_append_right (by omega)] at h2
  rw [show sp.length + k - sp.length = k by omega, h1] at h2
  exact (Option.some.inj h2).symm

theorem sub_kill [Env] {τ : St} {c : Nat} (h : ∀ x k, τ.heap.get x = some k → τ₀.heap.get x = some k) (hf : τ.heap.get c = none) : SubOn (Known ρ) τ (τ₀.kill c) := by
  intro x k hx _
  rw [kill_get]
  by_cases e : x = c
  · rw [e, hf] at hx; cases hx
  · rw [if_neg e]; exact h x k hx

/-- The canonical run comes to an operation that the machine has taken: it makes what the machine has. -/
theorem pass [Env] (hp : Plan L W) (hB : Base P L W base listed done effs snaps σ b τ₀ ρ a' w) (hw : Walk P Rn ro p L W base listed done effs snaps b τ₀ ρ (it :: D) dn ef S a₁ σ₁) (hl : Lst listed it.i) :
    ∃ o v a₂, L[it.i]? = some o ∧ effectOp o.op = false ∧ a₁.put o.dst v = some a₂ ∧ (∀ t, o.dst = some t → b.tmps.get t = some v) ∧ CH P Rn ro L base p D S a₂ (σ₁.ext (base + it.i) (τ₀.heap.get (base + it.i))) := by
  obtain ⟨o, ho, hdn, hcov, _, hnon⟩ := planCheck_cons hw.plan
  have hlt := idx_lt ho
  have hdone : done.testBit it.i = false := by
    cases hd : done.testBit it.i with
    | false => rfl
    | true => rw [hw.mono.1 _ hd] at hdn; cases hdn
  have hne := hB.ne _ o ho hl hdone
  obtain ⟨hbk, hcls, hplan'⟩ := hnon hne
  have hW := hB.closed _ hlt hl
  obtain ⟨u, κ, a₂, hput, hch, hg, hmono, hfree, hread⟩ := yield_at hp hB hw ho hne hW
  obtain ⟨v, hv, hrec⟩ := hB.recs _ o ho hl hdone
  obtain ⟨ep, sp, hef, hS, hlen, hep, hempty⟩ := hw.pre
  have hk0 : (τ₀.kill (base + it.i)).heap.get (base + it.i) = none := by rw [kill_get, if_pos rfl]
  have main : u = v ∧ (κ = τ₀.heap.get (base + it.i) ∨ σ₁.ext (base + it.i) κ = σ₁.ext (base + it.i) (τ₀.heap.get (base + it.i))) := by
    rcases hrec with hnow | hany | ⟨hrd, hnone, j, τ, hτ, hj1, hjf, hval⟩
    · -- at its own step
      have fin : (∃ κ', gOf P L o b (base + it.i) (τ₀.kill (base + it.i)) = .ok (u, (τ₀.kill (base + it.i)).ext (base + it.i) κ') ∧ (κ = κ' ∨ σ₁.ext (base + it.i) κ = σ₁.ext (base + it.i) κ')) →
          u = v ∧ (κ = τ₀.heap.get (base + it.i) ∨ σ₁.ext (base + it.i) κ = σ₁.ext (base + it.i) (τ₀.heap.get (base + it.i))) := by
        rintro ⟨κ', h1, h2⟩
        rw [hnow] at h1
        have h1' := Res.ok.inj h1
        have hκ := ext_inj hk0 (Prod.mk.inj h1').2
        rw [hκ]
        exact ⟨(Prod.mk.inj h1').1.symm, h2⟩
      by_cases he : ep = []
      · obtain ⟨hs, hf⟩ := hempty he
        refine fin ⟨κ, hmono _ ?_, .inl rfl⟩
        intro c k hc hkn
        rw [kill_get]
        by_cases e : c = base + it.i
        · rw [e, hf _ hlt hdn] at hc; cases hc
        · rw [if_neg e]; exact hs c k hc hkn
      · have hge := back_ge (it := it) (W := W) (listed := listed) (L := L) (effs := effs) (ep := ep) (k := 0) (by rw [← hef]; exact hbk) hep hW (by omega) (by simp)
        have hb0 : it.back ≠ 0 := by
          have : 0 < ep.length := List.length_pos_iff.2 he
          omega
        by_cases hr : rdOp P o.op = true
        · obtain ⟨hext, hall⟩ := hread hr
          have hpos : 0 < ep.length := List.length_pos_iff.2 he
          obtain ⟨τ, hτ, hg'⟩ := hall hb0 ep.length (by omega) (by omega)
          obtain ⟨r, hr'⟩ := hB.head
          have : τ = σ := snap_at (snaps := snaps) (k := 0) (by rw [hr']; rfl) (by rw [← hS, ← hlen]; exact hτ)
          subst this
          refine fin ⟨none, hg' _ (sub_kill hB.sub (hB.fresh _ hlt hdone)), .inr hext⟩
        · have hlk : lookOp P o.op = false := by
            rcases hcls with h | h | h
            · exact absurd h hb0
            · exact absurd h hr
            · exact h
          exact fin ⟨κ, hfree hlk (not_read hr) _, .inl rfl⟩
    · have h1 := hany σ₁
      rw [hg] at h1
      have h1' := Res.ok.inj h1
      exact ⟨(Prod.mk.inj h1').1, .inr (Prod.mk.inj h1').2⟩
    · obtain ⟨hext, hall⟩ := hread hrd
      have hjl : j < snaps.length := (List.getElem?_eq_some_iff.1 hτ).1
      have hge := back_ge (it := it) (W := W) (listed := listed) (L := L) (effs := effs) (ep := ep) (k := j) (by rw [← hef]; exact hbk) hep hW (by have := hB.len; omega) hjf
      obtain ⟨τ', hτ', hg'⟩ := hall (by omega) (ep.length + j) (by omega) hge
      have : τ' = τ := snap_at (snaps := snaps) hτ (by rw [← hS, ← hlen]; exact hτ')
      subst this
      refine ⟨hval u _ (hg' _ (fun _ _ h _ => h)), .inr ?_⟩
      rw [hnone]; exact hext
  obtain ⟨rfl, hκ⟩ := main
  refine ⟨o, u, a₂, ho, hne, hput, hv, ?_⟩
  rcases hκ with hκ | hκ
  · rw [← hκ]; exact hch
  · rw [← hκ]; exact hch

end
end Go.Ev
