/- An operation with its guard: what it looks at. -/
import Derived.Test.YtbajncpfmemdgaaGreatDoorEvDrawA
namespace Go.Ev
open Go
section
variable {P : Program} {ρ : Ren} {id : Nat} {Rn : Task → St → Run} {ro : Option Nat}

/-- What an operation that writes nothing makes, its guard and all. -/
noncomputable def gOf (P : Program) (ops : List Oper) (o : Oper) (a : Act) (id : Nat) (σ : St) : VS :=
  match o.guard with
  | none => (opC P o.op).f a σ id
  | some (j, want) => match guardSlot ops j with
    | none => .ok (undefV, σ)
    | some d => match gateV want (a.tmps.get d) with
      | some true => (opC P o.op).f a σ id
      | some false => .ok (undefV, σ)
      | none => .fail "guard"

theorem bind_act (r : VS) (a : Act) (dst : Option Tmp) : (r.bind (withAct a)).bind (dstK dst) = r.bind fun r => dstK dst (r.1, a, r.2) := by
  induction r with
  | ok x => rfl
  | fail w => rfl
  | pick n k ih =>
    show Res.pick n _ = Res.pick n _
    congr 1
    funext i
    exact ih i
  | tr C hm he =>
    show Res.tr _ _ _ = Res.tr _ _ _
    congr 1

theorem operC_ne {o : Op} (h : effectOp o = false) (a : Act) (σ : St) : (operC P o).f Rn ro a σ id = ((opC P o).f a σ id).bind (withAct a) := by
  cases o with
  | call c =>
    obtain ⟨callee, cargs, ctys⟩ := c
    cases callee with
    | builtin b => rfl
    | value f => simp [effectOp] at h
    | invoke x name => simp [effectOp] at h
  | defer c => cases h
  | _ => rfl

theorem stepC_ne [Env] {ops : List Oper} {o : Oper} (h : effectOp o.op = false) (a : Act) (σ : St) : (stepC P ops o).f Rn ro a σ id = (gOf P ops o a id σ).bind fun r => dstK o.dst (r.1, a, r.2) := by
  unfold stepC gOf
  cases hg : o.guard with
  | none =>
    dsimp only
    rw [operC_ne h, bind_act]
  | some q =>
    obtain ⟨j, want⟩ := q
    dsimp only
    cases hd : guardSlot ops j with
    | none => rfl
    | some d =>
      unfold guardC
      dsimp only
      cases hb : gateV want (a.tmps.get d) with
      | none => rfl
      | some b => cases b with
        | true => unfold guardK; dsimp only; rw [operC_ne h, bind_act]
        | false => rfl

def Agree (L : List Tmp) (a b : Act) : Prop := ∀ t ∈ L, a.tmps.get t = b.tmps.get t
theorem Agree.eval {ops : List Oper} {o : Oper} {a b : Act} (h : Agree (looks ops o) a b) : ∀ x ∈ o.op.operands, a.eval x = b.eval x := by
  intro x hx
  cases x with
  | tmp t =>
    refine h t (List.mem_append_left _ ?_)
    unfold opTmps
    rw [List.mem_filterMap]
    exact ⟨.tmp t, by simpa using hx, rfl⟩
  | _ => rfl
theorem guardSlot_looks {ops : List Oper} {o : Oper} {j : Nat} {want : Bool} (hg : o.guard = some (j, want)) {d : Tmp} (hd : guardSlot ops j = some d) : d ∈ looks ops o := by
  refine List.mem_append_right _ ?_
  rw [hg]
  unfold guardSlot at hd
  rw [nth_eq] at hd
  show d ∈ ((ops[j]?).bind (·.dst)).toList
  rw [hd]; simp

theorem gOf_congr [Env] {ops : List Oper} {o : Oper} {a b : Act} (h : Agree (looks ops o) a b) (σ : St) : gOf P ops o a id σ = gOf P ops o b id σ := by
  unfold gOf
  split
  · exact opC_congr o.op h.eval σ
  · rename_i j want hg
    split
    · rfl
    · rename_i d hd
      rw [h d (guardSlot_looks hg hd), opC_congr (P := P) (id := id) o.op h.eval σ]

theorem gOf_cases (ops : List Oper) (o : Oper) (a : Act) (id : Nat) : (gOf P ops o a id = fun σ => (opC P o.op).f a σ id) ∨ (gOf P ops o a id = fun σ => .ok (undefV, σ)) ∨ (gOf P ops o a id = fun _ => .fail "guard") := by
  unfold gOf
  cases o.guard with
  | none => exact .inl rfl
  | some q =>
    obtain ⟨j, want⟩ := q
    dsimp only
    cases guardSlot ops j with
    | none => exact .inr (.inl rfl)
    | some d =>
      dsimp only
      cases gateV want (a.tmps.get d) with
      | none => exact .inr (.inr rfl)
      | some b => cases b with
        | true => exact .inl rfl
        | false => exact .inr (.inl rfl)

theorem gOf_look [Env] {ops : List Oper} {o : Oper} {a : Act} (h1 : effectOp o.op = false) (hD : ∀ x ∈ o.op.operands, ∀ v, a.eval x = some v → ∃ x', VRel ρ v x') : LookF id (Known ρ) (gOf P ops o a id) := by
  rcases gOf_cases (P := P) ops o a id with h | h | h <;> rw [h]
  · exact look_sound o.op h1 hD
  · exact (FreeF.ok _).look _
  · exact (FreeF.fail _).look _
theorem gOf_free [Env] {ops : List Oper} {o : Oper} {a : Act} (h1 : effectOp o.op = false) (h2 : lookOp P o.op = false) (h3 : readOp o.op = false) : FreeF id (gOf P ops o a id) := by
  rcases gOf_cases (P := P) ops o a id with h | h | h <;> rw [h]
  · exact free_sound o.op h1 h2 h3
  · exact FreeF.ok _
  · exact FreeF.fail _
theorem gOf_load [Env] {ops : List Oper} {o : Oper} {a : Act} {t : TypeId} {x : Operand} (ho : o.op = .load t x) {σ : St} {v : V} {τ : St} (h : gOf P ops o a id σ = .ok (v, τ)) :
    τ = σ ∧ ∀ σ', (∀ pv, a.eval x = some pv → loadV P σ' t pv = some v) → gOf P ops o a id σ' = .ok (v, σ') := by
  rcases gOf_cases (P := P) ops o a id with hc | hc | hc <;> rw [hc] at h ⊢
  · rw [ho] at h ⊢
    have key : ∀ σ, (opC P (.load t x)).f a σ id = at1 "load operand" (a.eval x) (opLoad P σ t) := fun _ => rfl
    dsimp only at h ⊢
    rw [key] at h
    cases hx : a.eval x with
    | none => rw [hx] at h; cases h
    | some pv =>
      rw [hx] at h
      have h' : keep σ "load" (loadV P σ t pv) = .ok (v, τ) := h
      cases hl : loadV P σ t pv with
      | none => rw [hl] at h'; cases h'
      | some u =>
        rw [hl] at h'
        cases h'
        refine ⟨rfl, fun σ' hs => ?_⟩
        rw [key, hx]
        show keep σ' "load" (loadV P σ' t pv) = _
        rw [hs pv rfl]; rfl
  · cases h; exact ⟨rfl, fun _ _ => rfl⟩
  · cases h

/-! ### What a put does -/
theorem put_spec {a a₂ : Act} {dst : Option Tmp} {v : V} (h : a.put dst v = some a₂) : a₂.size = a.size ∧ a₂.defers = a.defers ∧ ∀ t, a₂.tmps.get t = if dst = some t then some v else a.tmps.get t := by
  cases dst with
  | none =>
    simp only [Act.put, Option.some.injEq] at h
    subst h
    exact ⟨rfl, rfl, fun t => by simp⟩
  | some d =>
    obtain ⟨t, s, ds⟩ := a
    simp only [Act.put] at h
    cases hb : Nat.blt d s with
    | false => simp [hb] at h
    | true =>
      simp only [hb, Option.some.injEq] at h
      subst h
      refine ⟨rfl, rfl, fun u => ?_⟩
      show (t.put d v).get u = _
      rw [Slots.get_put]
      by_cases hu : u = d
      · rw [if_pos hu, if_pos (by rw [hu])]
      · rw [if_neg hu, if_neg (by intro e; cases e; exact hu rfl)]
theorem put_size {a a₂ b : Act} {dst : Option Tmp} {v u : V} (h : a.put dst v = some a₂) (hs : b.size = a.size) : ∃ b₂, b.put dst u = some b₂ := by
  cases dst with
  | none => exact ⟨b, rfl⟩
  | some d =>
    obtain ⟨t, s, ds⟩ := a
    obtain ⟨t', s', ds'⟩ := b
    have hs' : s' = s := hs
    subst hs'
    simp only [Act.put] at h ⊢
    cases hb : Nat.blt d s' with
    | false => simp [hb] at h
    | true => exact ⟨_, rfl⟩

/-! ### Frames that agree where an operation looks -/
structure Follow (a b a₁ b₁ : Act) : Prop where
  ta : a₁.tmps = a.tmps
  sa : a₁.size = a.size
  tb : b₁.tmps = b.tmps
  sb : b₁.size = b.size
  d : a₁.defers = b₁.defers

theorem operC_follow [Env] {o : Oper} {a b : Act} (hag : ∀ x ∈ o.op.operands, a.eval x = b.eval x) (hd : a.defers = b.defers) {σ : St} {q : V × Act × St → Prop} (h : ((operC P o.op).f Rn ro a σ id).Holds q) :
    ((operC P o.op).f Rn ro b σ id).Holds fun r => ∃ a₁, q (r.1, a₁, r.2.2) ∧ Follow a b a₁ r.2.1 := by
  have plain : ∀ {r : VS}, (r.bind (withAct a)).Holds q → (r.bind (withAct b)).Holds fun r => ∃ a₁, q (r.1, a₁, r.2.2) ∧ Follow a b a₁ r.2.1 := by
    intro r h
    exact Res.Holds.bind_intro (h.bind.mono fun x hx => ⟨a, hx, rfl, rfl, rfl, rfl, hd⟩)
  have vals : ∀ {r : Run}, (r.bind (valOf a)).Holds q → (r.bind (valOf b)).Holds fun r => ∃ a₁, q (r.1, a₁, r.2.2) ∧ Follow a b a₁ r.2.1 := by
    intro r h
    refine Res.Holds.bind_intro (h.bind.mono fun x hx => ?_)
    obtain ⟨v, σ', rfl, hq⟩ := valOf_holds hx
    exact ⟨a, hq, rfl, rfl, rfl, rfl, hd⟩
  by_cases hcall : ∃ c, o.op = .call c
  · obtain ⟨c, hop⟩ := hcall
    rw [hop] at h hag ⊢
    show ((callC P c).f Rn ro b σ id).Holds _
    have h' : ((callC P c).f Rn ro a σ id).Holds q := h
    have hargs : a.evals c.args.toList = b.evals c.args.toList := evals_congr _ fun x hx => hag x (by simp only [Op.operands, Call.operands]; split <;> simp_all)
    unfold callC at h' ⊢
    split at h'
    · rename_i f hc
      cases he : extOf P f with
      | some e =>
        simp only [he] at h' ⊢
        rw [hargs] at h'
        exact plain h'
      | none =>
        simp only [he] at h' ⊢
        have hf : a.eval f = b.eval f := hag f (by simp [Op.operands, Call.operands, hc])
        rw [hf, hargs] at h'
        unfold callValue at h' ⊢
        split at h'
        · exact vals h'
        · exact h'.elim
    · rename_i x name hc
      dsimp only at h' ⊢
      have hf : a.eval x = b.eval x := hag x (by simp [Op.operands, Call.operands, hc])
      rw [hf, hargs] at h'
      unfold callInvoke at h' ⊢
      split at h'
      · unfold callMethodV at h' ⊢
        split at h'
        · exact vals h'
        · exact h'.elim
      · exact h'.elim
    · dsimp only at h' ⊢
      rw [hargs] at h'
      exact plain h'
  by_cases hdef : ∃ c, o.op = .defer c
  · obtain ⟨c, hop⟩ := hdef
    rw [hop] at h hag ⊢
    show ((deferC c).f Rn ro b σ id).Holds _
    have h' : ((deferC c).f Rn ro a σ id).Holds q := h
    have hargs : a.evals c.args.toList = b.evals c.args.toList := evals_congr _ fun x hx => hag x (by simp only [Op.operands, Call.operands]; split <;> simp_all)
    unfold deferC at h' ⊢
    split at h'
    · rename_i f hc
      dsimp only at h' ⊢
      have hf : a.eval f = b.eval f := hag f (by simp [Op.operands, Call.operands, hc])
      rw [hf, hargs] at h'
      unfold deferV at h' ⊢
      split at h'
      · split at h'
        · obtain ⟨t, s, ds⟩ := a
          obtain ⟨t', s', ds'⟩ := b
          have hd' : ds = ds' := hd
          subst hd'
          exact ⟨_, h', rfl, rfl, rfl, rfl, rfl⟩
        · exact h'.elim
      · exact h'.elim
    · exact h'.elim
  have hc : ∀ c, o.op ≠ .call c := fun c e => hcall ⟨c, e⟩
  have hdd : ∀ c, o.op ≠ .defer c := fun c e => hdef ⟨c, e⟩
  rw [opC_plain hc hdd] at h ⊢
  have h2 : (((opC P o.op).f a σ id).bind (withAct a)).Holds q := h
  rw [opC_congr o.op hag σ] at h2
  exact plain h2

/-- From frames that agree to frames that agree. -/
structure Follows (dst : Option Tmp) (a b a₂ b₂ : Act) : Prop where
  sa : a₂.size = a.size
  sb : b₂.size = b.size
  d : a₂.defers = b₂.defers
  keepA : ∀ t, dst ≠ some t → a₂.tmps.get t = a.tmps.get t
  keepB : ∀ t, dst ≠ some t → b₂.tmps.get t = b.tmps.get t
  at_ : ∀ t, dst = some t → a₂.tmps.get t = b₂.tmps.get t

theorem stepC_follow [Env] {ops : List Oper} {o : Oper} {a b : Act} (hag : Agree (looks ops o) a b) (hs : b.size = a.size) (hd : a.defers = b.defers) {σ : St} {q : Act × St → Prop} (h : ((stepC P ops o).f Rn ro a σ id).Holds q) :
    ((stepC P ops o).f Rn ro b σ id).Holds fun r => ∃ a₂, q (a₂, r.2) ∧ Follows o.dst a b a₂ r.1 := by
  have put2 : ∀ {v : V} {a₁ b₁ : Act} {σ₁ : St}, Follow a b a₁ b₁ → (dstK o.dst (v, a₁, σ₁)).Holds q → (dstK o.dst (v, b₁, σ₁)).Holds fun r => ∃ a₂, q (a₂, r.2) ∧ Follows o.dst a b a₂ r.1 := by
    intro v a₁ b₁ σ₁ hf h
    obtain ⟨a₂, hp, hq⟩ := dst_put h
    obtain ⟨b₂, hp'⟩ := put_size (u := v) hp (b := b₁) (by rw [hf.sb, hf.sa, hs])
    show (putK σ₁ (b₁.put o.dst v)).Holds _
    rw [hp']
    obtain ⟨x1, x2, x3⟩ := put_spec hp
    obtain ⟨y1, y2, y3⟩ := put_spec hp'
    refine ⟨a₂, hq, by rw [x1, hf.sa], by rw [y1, hf.sb], by rw [x2, y2, hf.d], fun t ht => ?_, fun t ht => ?_, fun t ht => ?_⟩
    · rw [x3, if_neg ht, hf.ta]
    · rw [y3, if_neg ht, hf.tb]
    · rw [x3, y3, if_pos ht, if_pos ht]
  have run : ((operC P o.op).f Rn ro a σ id).Holds (fun x => (dstK o.dst x).Holds q) → (((operC P o.op).f Rn ro b σ id).bind (dstK o.dst)).Holds fun r => ∃ a₂, q (a₂, r.2) ∧ Follows o.dst a b a₂ r.1 := by
    intro h
    refine Res.Holds.bind_intro ((operC_follow hag.eval hd h).mono ?_)
    rintro ⟨v, b₁, σ₁⟩ ⟨a₁, hq, hf⟩
    exact put2 hf hq
  unfold stepC at h ⊢
  split at h
  · exact run h.bind
  · rename_i j want hg
    unfold guardC at h ⊢
    split at h
    · rename_i d hdd
      dsimp only at h ⊢
      rw [hag d (guardSlot_looks hg hdd)] at h
      unfold guardK at h ⊢
      split at h
      · exact run h.bind
      · exact put2 (v := undefV) ⟨rfl, rfl, rfl, rfl, hd⟩ h
      · exact h.elim
    · exact put2 (v := undefV) ⟨rfl, rfl, rfl, rfl, hd⟩ h

end
end Go.Ev
