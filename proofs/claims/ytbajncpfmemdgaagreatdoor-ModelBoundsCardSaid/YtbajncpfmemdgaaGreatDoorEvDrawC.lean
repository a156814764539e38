/- A plan's facts; the canonical run, walked ahead of the machine. -/
import Derived.Test.YtbajncpfmemdgaaGreatDoorEvDrawB
namespace Go.Ev
open Go

/-! ### Bits -/
theorem lor_bit (a i j : Nat) : (Nat.lor a (2 ^ i)).testBit j = (a.testBit j || decide (i = j)) := by
  show (a ||| 2 ^ i).testBit j = _
  rw [Nat.testBit_or, Nat.testBit_two_pow]
theorem covers_bit {a b : Nat} (h : covers a b = true) {j : Nat} (hj : a.testBit j = true) : b.testBit j = true := by
  have e : (a ||| b) = b := Nat.eq_of_beq_eq_true h
  rw [← e, Nat.testBit_or, hj]; rfl

theorem waitOf_bit {w : List Nat} {o : Oper} {j : Nat} : (waitOf w o).testBit j = true ↔ ∃ e ∈ o.after, Region.binds .any e = true ∧ (j = e.on ∨ (w.getD e.on 0).testBit j = true) := by
  have key : ∀ (l : List Edge) (s : Nat), (l.foldl (fun s e => match Region.binds .any e with
      | true => Nat.lor s (Nat.lor (2 ^ e.on) (w.getD e.on 0))
      | false => s) s).testBit j = true ↔ s.testBit j = true ∨ ∃ e ∈ l, Region.binds .any e = true ∧ (j = e.on ∨ (w.getD e.on 0).testBit j = true) := by
    intro l
    induction l with
    | nil => intro s; simp
    | cons e l ih =>
      intro s
      rw [List.foldl_cons, ih]
      cases hb : Region.binds .any e with
      | false => simp [hb]
      | true =>
        have : (Nat.lor s (Nat.lor (2 ^ e.on) (w.getD e.on 0))).testBit j = (s.testBit j || (decide (e.on = j) || (w.getD e.on 0).testBit j)) := by
          show (s ||| (2 ^ e.on ||| w.getD e.on 0)).testBit j = _
          rw [Nat.testBit_or, Nat.testBit_or, Nat.testBit_two_pow]
        rw [this]
        simp only [Bool.or_eq_true, decide_eq_true_eq, List.mem_cons, exists_eq_or_imp, hb, true_and]
        constructor
        · rintro ((h | h | h) | h)
          · exact .inl h
          · exact .inr (.inl (.inl h.symm))
          · exact .inr (.inl (.inr h))
          · exact .inr (.inr h)
        · rintro (h | (h | h) | h)
          · exact .inl (.inl h)
          · exact .inl (.inr (.inl h.symm))
          · exact .inl (.inr (.inr h))
          · exact .inr h
  exact (key o.after.toList 0).trans (by simp)

/-! ### Plans -/
structure Plan (L : List Oper) (W : List Nat) : Prop where
  wait : ∀ (i : Nat) (o : Oper), L[i]? = some o → W.getD i 0 = waitOf W o
  dist : ∀ (i j : Nat) (oi oj : Oper) (t : Tmp), L[i]? = some oi → L[j]? = some oj → oi.dst = some t → oj.dst = some t → i = j
  data : ∀ (i j : Nat) (oi oj : Oper) (t : Tmp), L[i]? = some oi → L[j]? = some oj → oj.dst = some t → t ∈ looks L oi → i ≠ j ∧ ((W.getD i 0).testBit j = true ∨ (effectOp oj.op = true ∧ (W.getD j 0).testBit i = true))

theorem distinctD_spec : ∀ {l : List (Option Tmp)}, distinctD l = true → ∀ (i j : Nat) (t : Tmp), l[i]? = some (some t) → l[j]? = some (some t) → i = j := by
  intro l
  induction l with
  | nil => intro _ i j t h; simp at h
  | cons x l ih =>
    intro h i j t hi hj
    have mem : ∀ k, l[k]? = some (some t) → some t ∈ l := fun k hk => List.mem_of_getElem? hk
    cases x with
    | none =>
      have h' : distinctD l = true := h
      cases i with
      | zero => simp at hi
      | succ i => cases j with
        | zero => simp at hj
        | succ j => rw [ih h' i j t (by simpa using hi) (by simpa using hj)]
    | some u =>
      have h' : (!l.contains (some u) && distinctD l) = true := h
      rw [Bool.and_eq_true] at h'
      have hu : some u ∉ l := by simpa using h'.1
      cases i with
      | zero => cases j with
        | zero => rfl
        | succ j =>
          simp at hi; subst hi
          exact absurd (mem j (by simpa using hj)) hu
      | succ i => cases j with
        | zero =>
          simp at hj; subst hj
          exact absurd (mem i (by simpa using hi)) hu
        | succ j => rw [ih h'.2 i j t (by simpa using hi) (by simpa using hj)]

theorem planOf_spec [Env] {P : Program} {L : List Oper} {l : List Item} (h : planOf P L = some l) : ∃ W, Plan L W ∧ planCheck P L W 0 [] l = true := by
  unfold planOf at h
  dsimp only at h
  split at h
  · rename_i hb
    cases h
    simp only [Bool.and_eq_true] at hb
    obtain ⟨⟨⟨_, hw⟩, hd⟩, hp⟩ := hb
    have hlt : ∀ {i : Nat} {o : Oper}, L[i]? = some o → i ∈ List.range L.length := fun h => List.mem_range.2 (List.getElem?_eq_some_iff.1 h).1
    refine ⟨_, ⟨fun i o hi => ?_, fun i j oi oj t hi hj h1 h2 => ?_, fun i j oi oj t hi hj h1 h2 => ?_⟩, hp⟩
    · unfold waitCheck at hw
      have := List.all_eq_true.1 hw i (hlt hi)
      rw [hi] at this
      exact Nat.eq_of_beq_eq_true this
    · unfold dataCheck at hd
      rw [Bool.and_eq_true] at hd
      exact distinctD_spec hd.1 i j t (by simp [hi, h1]) (by simp [hj, h2])
    · unfold dataCheck at hd
      rw [Bool.and_eq_true] at hd
      have := List.all_eq_true.1 hd.2 i (hlt hi)
      rw [hi] at this
      have := List.all_eq_true.1 this j (hlt hj)
      rw [hj] at this
      dsimp only at this
      unfold pairCheck at this
      rw [h1] at this
      simp only [Bool.or_eq_true, Bool.and_eq_true, Bool.not_eq_true'] at this
      rcases this with ⟨a, b⟩ | a
      · exact ⟨fun e => by rw [e] at a; simp at a, b⟩
      · exact absurd h2 (by simpa using a)
  · cases h

theorem planCheck_cons [Env] {P : Program} {L : List Oper} {W : List Nat} {dn : Nat} {ef : List Nat} {it : Item} {R : List Item} (h : planCheck P L W dn ef (it :: R) = true) :
    ∃ o, L[it.i]? = some o ∧ dn.testBit it.i = false ∧ (∀ j, (W.getD it.i 0).testBit j = true → dn.testBit j = true) ∧
      (effectOp o.op = true → (∀ j, dn.testBit j = true → (W.getD it.i 0).testBit j = true) ∧ planCheck P L W (Nat.lor dn (2 ^ it.i)) (it.i :: ef) R = true) ∧
      (effectOp o.op = false → backOk (W.getD it.i 0) it.back ef = true ∧ (it.back = 0 ∨ rdOp P o.op = true ∨ lookOp P o.op = false) ∧ planCheck P L W (Nat.lor dn (2 ^ it.i)) ef R = true) := by
  unfold planCheck at h
  split at h
  · cases h
  · rename_i o ho
    simp only [Bool.and_eq_true, Bool.not_eq_true'] at h
    obtain ⟨⟨h1, h2⟩, h3⟩ := h
    refine ⟨o, ho, h1, fun j hj => covers_bit h2 hj, fun he => ?_, fun he => ?_⟩
    · rw [he] at h3
      simp only [Bool.and_eq_true] at h3
      exact ⟨fun j hj => covers_bit h3.1 hj, h3.2⟩
    · rw [he] at h3
      simp only [Bool.and_eq_true, Bool.or_eq_true, Bool.not_eq_true'] at h3
      refine ⟨h3.1.1, ?_, h3.2⟩
      rcases h3.1.2 with (a | a) | a
      · exact .inl (Nat.eq_of_beq_eq_true a)
      · exact .inr (.inl a)
      · exact .inr (.inr a)

theorem planCheck_find [Env] {P : Program} {L : List Oper} {W : List Nat} : ∀ {D : List Item} {dn : Nat} {ef : List Nat}, planCheck P L W dn ef D = true → ∀ i, i < L.length → dn.testBit i = false → ∃ D1 it D2, D = D1 ++ it :: D2 ∧ it.i = i := by
  intro D
  induction D with
  | nil =>
    intro dn ef h i hi hd
    have h' : (List.range L.length).all dn.testBit = true := h
    have := List.all_eq_true.1 h' i (List.mem_range.2 hi)
    rw [hd] at this; cases this
  | cons it D ih =>
    intro dn ef h i hi hd
    obtain ⟨o, _, _, _, h1, h2⟩ := planCheck_cons h
    by_cases e : it.i = i
    · exact ⟨[], it, D, rfl, e⟩
    · have hd' : (Nat.lor dn (2 ^ it.i)).testBit i = false := by rw [lor_bit, hd]; simp [e]
      have : ∃ ef', planCheck P L W (Nat.lor dn (2 ^ it.i)) ef' D = true := by
        cases he : effectOp o.op with
        | true => exact ⟨_, (h1 he).2⟩
        | false => exact ⟨_, (h2 he).2.2⟩
      obtain ⟨ef', hp⟩ := this
      obtain ⟨D1, it', D2, rfl, hi'⟩ := ih hp i hi hd'
      exact ⟨it :: D1, it', D2, rfl, hi'⟩

section
variable {P : Program} {ρ : Ren} {Rn : Task → St → Run} {ro : Option Nat}

/-! ### The canonical run -/
def CH (P : Program) (Rn : Task → St → Run) (ro : Option Nat) (L : List Oper) (base : Nat) (p : Out × St → Prop) (D : List Item) (S : List St) (a : Act) (σ : St) : Prop :=
  ((drawnC P L D).f Rn ro base S a σ).Holds p

theorem CH_cons [Env] {L : List Oper} {base : Nat} {p : Out × St → Prop} {it : Item} {D : List Item} {S : List St} {a : Act} {σ : St} (h : CH P Rn ro L base p (it :: D) S a σ) :
    ∃ o, L[it.i]? = some o ∧ ((stepC P L o).f Rn ro a σ (base + it.i)).Holds fun r =>
      (it.back = 0 ∨ loadsSame P (offG L o a) it.back S a (slotOf r.1 o.dst) o.op = true) ∧ CH P Rn ro L base p D (snapsOf (effectOp o.op) r.2 S) r.1 r.2 := by
  have h' : ((drawnItem P L it (drawnC P L D) (nth L it.i)).f Rn ro base S a σ).Holds p := h
  rw [nth_eq] at h'
  cases ho : L[it.i]? with
  | none => rw [ho] at h'; exact h'.elim
  | some o =>
    rw [ho] at h'
    refine ⟨o, rfl, ?_⟩
    have h'' : (((stepC P L o).f Rn ro a σ (Nat.add base it.i)).bind (drawnK P L o it.back a S ((drawnC P L D).f Rn ro base))).Holds p := h'
    refine h''.bind.mono ?_
    rintro ⟨a₂, σ₂⟩ hx
    have hx' : (match Nat.beq it.back 0 || loadsSame P (offG L o a) it.back S a (slotOf a₂ o.dst) o.op with
      | true => (drawnC P L D).f Rn ro base (snapsOf (effectOp o.op) σ₂ S) a₂ σ₂
      | false => .fail "a load and a write, in either order" : Run).Holds p := hx
    split at hx'
    · rename_i hb
      rw [Bool.or_eq_true] at hb
      exact ⟨hb.imp Nat.eq_of_beq_eq_true id, hx'⟩
    · exact hx'.elim

theorem sameIn_spec [Env] {t : TypeId} {x v : V} : ∀ {k : Nat} {l : List St}, sameIn P t x v k l = true → ∀ j, j < k → ∃ τ, l[j]? = some τ ∧ loadV P τ t x = some v := by
  intro k
  induction k with
  | zero => intro l _ j hj; omega
  | succ k ih =>
    intro l h j hj
    cases l with
    | nil => cases h
    | cons τ l =>
      have h' : ((match loadV P τ t x with | some u => V.beq u v | none => false) && sameIn P t x v k l) = true := h
      rw [Bool.and_eq_true] at h'
      cases j with
      | zero =>
        refine ⟨τ, rfl, ?_⟩
        cases hl : loadV P τ t x with
        | none => rw [hl] at h'; cases h'.1
        | some u => rw [hl] at h'; rw [V.beq_eq h'.1]
      | succ j => exact ih h'.2 j (by omega)

theorem loadsSame_spec [Env] {back : Nat} {S : List St} {a : Act} {v : Option V} {t : TypeId} {x : Operand} (h : loadsSame P false back S a v (.load t x) = true) :
    ∃ pv u, a.eval x = some pv ∧ v = some u ∧ (((∃ cs o, pv = .eptr cs o) ∧ ∀ j, j ≤ back → ∃ τ, S[j]? = some τ) ∨ ∀ j, 1 ≤ j → j ≤ back → ∃ τ, S[j]? = some τ ∧ loadV P τ t pv = some u) := by
  unfold loadsSame at h
  dsimp only at h
  split at h
  · rename_i cs o u hx
    refine ⟨_, u, hx, rfl, .inl ⟨⟨cs, o, rfl⟩, fun j hj => ?_⟩⟩
    have h' : back + 1 ≤ len S := Nat.le_of_ble_eq_true h
    rw [len_eq] at h'
    exact ⟨_, List.getElem?_eq_getElem (by omega)⟩
  · rename_i pv u _ hx
    refine ⟨pv, u, hx, rfl, .inr fun j h1 h2 => ?_⟩
    rw [dropOf_eq] at h
    obtain ⟨τ, hτ, hl⟩ := sameIn_spec h (j - 1) (by omega)
    refine ⟨τ, ?_, hl⟩
    rw [List.getElem?_drop] at hτ
    rw [show j = 1 + (j - 1) by omega]; exact hτ
  · cases h
theorem loadsSame_off [Env] {back : Nat} {S : List St} {a : Act} {v : Option V} {t : TypeId} {x : Operand} (h : loadsSame P true back S a v (.load t x) = true) (j : Nat) (hj : j ≤ back) : ∃ τ, S[j]? = some τ := by
  have h' : back + 1 ≤ len S := Nat.le_of_ble_eq_true h
  rw [len_eq] at h'
  exact ⟨_, List.getElem?_eq_getElem (by omega)⟩
theorem gOf_off [Env] {ops : List Oper} {o : Oper} {a : Act} {id : Nat} (h : offG ops o a = true) : gOf P ops o a id = fun σ => .ok (undefV, σ) := by
  unfold offG at h
  unfold gOf
  split at h
  · cases h
  · rename_i j want hg
    rw [hg]
    dsimp only
    split at h
    · rename_i hs; rw [hs]
    · rename_i d hs
      rw [hs]
      dsimp only
      split at h
      · rename_i hv; rw [hv]
      · cases h

theorem loadsSame_conv [Env] {off : Bool} {back : Nat} {S : List St} {a : Act} {v : Option V} {s d : TypeId} {x : Operand} (hc : convT P s d = true) (h : loadsSame P off back S a v (.convert s d x) = true) :
    (∀ j, j ≤ back → ∃ τ, S[j]? = some τ) ∧ (off = true ∨ ∃ es esz ex, a.eval x = some (.lst es esz ex)) := by
  unfold loadsSame at h
  dsimp only at h
  rw [hc] at h
  dsimp only at h
  split at h
  · cases h
  · rename_i hb
    have hb' : back + 1 ≤ len S := Nat.le_of_ble_eq_true hb
    rw [len_eq] at hb'
    refine ⟨fun j hj => ⟨_, List.getElem?_eq_getElem (by omega)⟩, ?_⟩
    split at h
    · exact .inl rfl
    · split at h
      · rename_i es esz ex hx; exact .inr ⟨_, _, _, hx⟩
      · cases h
/-- A text out of bytes that never turn, whatever else stands in memory. -/
theorem conv_lst [Env] {s d : TypeId} (hc : convT P s d = true) {σ τ : St} {id : Nat} {es : List V} {esz : Nat} {ex : Bool} {v : V} (h : opConv P σ id s d (.lst es esz ex) = .ok (v, τ)) : ∀ σ', opConv P σ' id s d (.lst es esz ex) = .ok (v, σ') := by
  intro σ'
  unfold convT at hc
  split at hc
  · rename_i e h1 h2
    unfold opConv evalConv at h ⊢
    rw [h1, h2] at h ⊢
    dsimp only at h ⊢
    cases he : P.underlying e with
    | none => rw [he] at h; cases h
    | some de =>
      rw [he] at h
      cases de with
      | int k => cases k <;> first
        | (cases h; done)
        | (dsimp only at h ⊢
           cases hb : Nat.beq esz 1 with
           | false => rw [hb] at h; cases h
           | true =>
             rw [hb] at h
             dsimp only at h ⊢
             cases hby : bytesOfV (flatCells es) with
             | none => rw [hby] at h; cases h
             | some l => rw [hby] at h; cases h; rfl)
      | _ => cases h
  · cases hc
theorem conv_same [Env] {s d : TypeId} (hc : convT P s d = true) {σ τ : St} {id : Nat} {x v : V} (h : opConv P σ id s d x = .ok (v, τ)) : τ = σ := by
  unfold convT at hc
  split at hc
  · rename_i e h1 h2
    unfold opConv evalConv at h
    rw [h1, h2] at h
    cases x <;> dsimp only at h <;> first
      | (cases h; done)
      | (repeat' split at h
         all_goals first
           | (cases h; done)
           | (cases h; rfl)
           | (rename_i s' hs'
              revert h
              cases bytesOfV _ <;> intro h <;> cases h <;> rfl))
  · cases hc
/-- What reads memory alone leaves it as it was. -/
theorem gOf_rd [Env] {ops : List Oper} {o : Oper} {a : Act} {id : Nat} (hr : rdOp P o.op = true) {σ : St} {v : V} {τ : St} (h : gOf P ops o a id σ = .ok (v, τ)) : τ = σ := by
  cases hop : o.op <;> rw [hop] at hr <;> first
    | (cases hr; done)
    | exact (gOf_load hop h).1
    | (rename_i s d x
       have hc : convT P s d = true := hr
       rcases gOf_cases (P := P) ops o a id with e | e | e <;> rw [e] at h
       · rw [hop] at h
         have h' : at1 "convert operand" (a.eval x) (opConv P σ id s d) = .ok (v, τ) := h
         cases hx : a.eval x with
         | none => rw [hx] at h'; cases h'
         | some xv => rw [hx] at h'; exact conv_same hc h'
       · cases h; rfl
       · cases h)
theorem gOf_conv [Env] {ops : List Oper} {o : Oper} {a : Act} {id : Nat} {s d : TypeId} {x : Operand} (hop : o.op = .convert s d x) (hc : convT P s d = true) {es : List V} {esz : Nat} {ex : Bool} (hx : a.eval x = some (.lst es esz ex)) {σ : St} {v : V} {τ : St}
    (h : gOf P ops o a id σ = .ok (v, τ)) : ∀ σ', gOf P ops o a id σ' = .ok (v, σ') := by
  rcases gOf_cases (P := P) ops o a id with e | e | e <;> rw [e] at h ⊢
  · intro σ'
    rw [hop] at h ⊢
    have h' : at1 "convert operand" (a.eval x) (opConv P σ id s d) = .ok (v, τ) := h
    show at1 "convert operand" (a.eval x) (opConv P σ' id s d) = .ok (v, σ')
    rw [hx] at h' ⊢
    exact conv_lst hc h' σ'
  · cases h; intro σ'; rfl
  · cases h

theorem gOf_eptr [Env] {ops : List Oper} {o : Oper} {a : Act} {id : Nat} {t : TypeId} {x : Operand} (hop : o.op = .load t x) {cs : List V} {off : Nat} (hx : a.eval x = some (.eptr cs off)) {σ : St} {v : V} {τ : St}
    (h : gOf P ops o a id σ = .ok (v, τ)) : ∀ σ', gOf P ops o a id σ' = .ok (v, σ') := by
  rcases gOf_cases (P := P) ops o a id with e | e | e <;> rw [e] at h ⊢
  · intro σ'
    rw [hop] at h ⊢
    have h' : at1 "load operand" (a.eval x) (opLoad P σ t) = .ok (v, τ) := h
    show at1 "load operand" (a.eval x) (opLoad P σ' t) = .ok (v, σ')
    rw [hx] at h' ⊢
    have h2 : keep σ "load" (loadV P σ t (.eptr cs off)) = .ok (v, τ) := h'
    show keep σ' "load" (loadV P σ' t (.eptr cs off)) = .ok (v, σ')
    have e : loadV P σ' t (.eptr cs off) = loadV P σ t (.eptr cs off) := by
      unfold loadV
      cases aggT P t with
      | none => rfl
      | some g => cases g <;> cases sizeT P t <;> rfl
    rw [e]
    cases hl : loadV P σ t (.eptr cs off) with
    | none => rw [hl] at h2; cases h2
    | some u => rw [hl] at h2; cases h2; rfl
  · cases h; intro σ'; rfl
  · cases h

/-- What it makes is a value, and a block at most. -/
theorem gOf_shape [Env] {ops : List Oper} {o : Oper} {a : Act} {id : Nat} (h1 : effectOp o.op = false) {σ : St} {q : V × St → Prop} (h : (gOf P ops o a id σ).Holds q) : ∃ v κ, q (v, σ.ext id κ) := by
  have keepS : ∀ {why : String} {x : Option V}, (keep σ why x).Holds q → ∃ v κ, q (v, σ.ext id κ) := fun h => let ⟨v, _, hq⟩ := keep_holds h; ⟨v, none, hq⟩
  rcases gOf_cases (P := P) ops o a id with hc | hc | hc <;> rw [hc] at h
  · by_cases hr : readOp o.op = true
    · cases hop : o.op <;> rw [hop] at hr h <;> try (cases hr; done)
      obtain ⟨xv, _, h⟩ := at1_holds h
      exact keepS h
    · by_cases hl : lookOp P o.op = true
      · cases hop : o.op <;> rw [hop] at hl h h1 <;> try (cases hl; done)
        case binOp op t x y yt =>
          obtain ⟨xv, yv, _, _, h⟩ := at2_holds h
          exact keepS h
        case slice t x lo hi mx =>
          obtain ⟨xv, _, h⟩ := at1_holds h
          unfold opSlice at h
          split at h
          · split at h
            · exact keepS h
            · exact keepS h
          · exact h.elim
        case convert s d x =>
          obtain ⟨xv, _, h⟩ := at1_holds h
          obtain ⟨⟨v, σ₁⟩, hev, hq⟩ := Res.Holds.of h
          unfold evalConv at hev
          split at hev
          · cases hev; exact ⟨_, none, hq⟩
          · cases hev; exact ⟨_, none, hq⟩
          · split at hev
            · split at hev
              · cases hev; exact ⟨_, none, hq⟩
              · cases hev
            · cases hev
          · cases hev; exact ⟨_, none, hq⟩
          · split at hev
            · split at hev
              · cases hev; exact ⟨_, some _, hq⟩
              · cases hev
            · cases hev
          · split at hev
            · cases hev; exact ⟨_, none, hq⟩
            · cases hev
          · split at hev
            · split at hev
              · rw [Option.map_eq_some_iff] at hev
                obtain ⟨s, _, he⟩ := hev
                cases he
                exact ⟨_, none, hq⟩
              · cases hev
            · cases hev
          · split at hev
            · split at hev
              · rw [Option.map_eq_some_iff] at hev
                obtain ⟨s, _, he⟩ := hev
                cases he
                exact ⟨_, none, hq⟩
              · cases hev
            · cases hev
          · split at hev
            · split at hev
              · split at hev
                · rw [Option.map_eq_some_iff] at hev
                  obtain ⟨s, _, he⟩ := hev
                  cases he
                  exact ⟨_, none, hq⟩
                · cases hev
              · cases hev
            · cases hev
          · cases hev
        case lookup t x k ok =>
          obtain ⟨xv, yv, _, _, h⟩ := at2_holds h
          unfold opLookup at h
          split at h
          · split at h
            · split at h
              · exact ⟨_, none, h⟩
              · split at h
                · exact ⟨_, none, h⟩
                · exact h.elim
              · exact h.elim
            · exact h.elim
          · exact h.elim
        case call c =>
          obtain ⟨callee, cargs, ctys⟩ := c
          cases callee with
          | builtin b =>
            cases b <;> try (simp [lookOp] at hl; done)
            have h' : (opBuiltin P σ id .len ctys.toList (a.evals cargs.toList)).Holds q := h
            cases hv : a.evals cargs.toList with
            | none => rw [hv] at h'; exact h'.elim
            | some vs =>
              rw [hv] at h'
              obtain ⟨⟨v, σ₁⟩, hev, hq⟩ := Res.Holds.of h'
              rcases hct : ctys.toList with _ | ⟨t, l⟩
              · rw [hct] at hev; rcases vs with _ | ⟨x, _ | ⟨y, _⟩⟩ <;> cases hev
              · rw [hct] at hev
                rcases vs with _ | ⟨x, _ | ⟨y, r⟩⟩
                · cases hev
                · have hev' : (evalLen P σ t x).map (·, σ) = some (v, σ₁) := hev
                  rw [Option.map_eq_some_iff] at hev'
                  obtain ⟨u, hu, he⟩ := hev'
                  cases he
                  exact ⟨_, none, hq⟩
                · cases hev
          | value f => simp [lookOp] at hl
          | invoke x name => simp [lookOp] at hl
      · obtain ⟨v, κ, hq, _⟩ := free_sound (P := P) (id := id) (a := a) o.op h1 (by simpa using hl) (by simpa using hr) σ q h
        exact ⟨v, κ, hq⟩
  · exact ⟨_, none, h⟩
  · exact h.elim

end
end Go.Ev
