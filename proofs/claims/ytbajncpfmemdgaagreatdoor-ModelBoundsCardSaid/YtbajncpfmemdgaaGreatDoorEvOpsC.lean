/- Each operation of the evaluator, third part: slices, append, copy. -/
import Derived.Test.YtbajncpfmemdgaaGreatDoorEvOpsB
namespace Go.Ev
open Go
section
variable {P : Program} {ρ : Ren} {σ : St} {w : World} {id : Nat} {p : V × St → Prop}

inductive OV [Env] (ρ : Ren) : Option V → Option Value → Prop
  | none : OV ρ none none
  | some {v : V} {x : Value} (h : VRel ρ v x) : OV ρ (some v) (some x)

theorem ActRel.optV [Env] {a : Act} {a' : Go.Act} (h : ActRel ρ a a') {x : Option Operand} {v : Option V} (hv : optV a x = some v) : OV ρ v (x.map a'.eval) := by
  cases x with
  | none => cases hv; exact .none
  | some x =>
    have hv' : (a.eval x).map some = some v := hv
    rw [Option.map_eq_some_iff] at hv'
    obtain ⟨u, hu, rfl⟩ := hv'
    exact .some (h.eval x hu)

theorem sliceBound_run [Env] {hi y : Nat} {v : V} {n : Nat} (h : asNat 0 hi v = some n) {x : Value} (hx : VRel ρ v x) (hy : hi ≤ y) (code : BoundsCode) (w : World) :
    (Instr.sliceBound x y code).run P w = .ok n w ∧ n ≤ hi := by
  unfold asNat at h
  split at h
  · split at h
    · rename_i k i hc
      cases h; cases hx
      have h0 : 0 ≤ i ∧ i ≤ (y : Int) := ⟨by simpa using hc.1, by omega⟩
      refine ⟨?_, by omega⟩
      simp only [Instr.sliceBound, asIntOf, Sem.run_bind, Sem.run_pure, Result.andThen_ok]
      rw [if_pos h0]; rfl
    · cases h
  · cases h

/-- The bounds of a slice expression; the machine's capacity may be greater. -/
theorem bounds_run [Env] {n cap cap' : Nat} (hc : cap ≤ cap') {lo hi mx : Option V} {l hh m : Nat} (h : bounds n cap lo hi mx = some (l, hh, m)) {lo' hi' mx' : Option Value} (h1 : OV ρ lo lo') (h2 : OV ρ hi hi') (h3 : OV ρ mx mx')
    (isS : Bool) (w : World) : (Instr.sliceBounds isS n cap' lo' hi' mx').run P w = .ok (l, hh, if mx.isSome then m else cap') w ∧ l ≤ hh ∧ m ≤ cap ∧ (mx.isSome = false → m = cap) ∧ (hi.isSome = true → hh ≤ m) ∧ (mx.isSome = true → hh ≤ m) ∧ (hi.isSome = false → hh = n) := by
  unfold bounds at h
  cases h3 with
  | none =>
    dsimp only at h
    cases h2 with
    | none =>
      dsimp only at h
      cases h1 with
      | none => cases h; refine ⟨by simp [Instr.sliceBounds], by omega, by omega, by simp, by simp, by simp, by simp⟩
      | some h1 =>
        dsimp only at h
        split at h
        · cases h
        · rename_i l' hl
          cases h
          obtain ⟨r1, b1⟩ := sliceBound_run (P := P) hl h1 (Nat.le_refl _) .sliceB w
          exact ⟨by simp [Instr.sliceBounds, r1], b1, by omega, by simp, by simp, by simp, by simp⟩
    | some h2 =>
      dsimp only at h
      split at h
      · cases h
      · rename_i h' hh'
        have r2 := fun code => (sliceBound_run (P := P) hh' h2 hc code w).1
        have b2' := (sliceBound_run (P := P) hh' h2 hc .sliceAlen w).2
        cases h1 with
        | none =>
          cases h
          refine ⟨?_, by omega, by omega, by simp, by simpa using b2', by simp, by simp⟩
          simp [Instr.sliceBounds, r2]
        | some h1 =>
          dsimp only at h
          split at h
          · cases h
          · rename_i l' hl
            cases h
            obtain ⟨r1, b1⟩ := sliceBound_run (P := P) hl h1 (Nat.le_refl _) .sliceB w
            refine ⟨?_, b1, by omega, by simp, by simpa using b2', by simp, by simp⟩
            simp [Instr.sliceBounds, r2, r1]
  | some h3 =>
    dsimp only at h
    split at h
    · cases h
    · rename_i m' hm
      have r3 := fun code => (sliceBound_run (P := P) hm h3 hc code w).1
      have b3 := (sliceBound_run (P := P) hm h3 hc .sliceAlen w).2
      cases h2 with
      | none => dsimp only at h; cases h
      | some h2 =>
        dsimp only at h
        split at h
        · cases h
        · rename_i h' hh'
          have r2 := fun code => (sliceBound_run (P := P) hh' h2 (Nat.le_refl _) code w).1
          have b2 := (sliceBound_run (P := P) hh' h2 (Nat.le_refl _) .sliceAlen w).2
          cases h1 with
          | none =>
            cases h
            refine ⟨?_, by omega, b3, by simp, by simpa using b2, by simpa using b2, by simp⟩
            simp [Instr.sliceBounds, r3, r2]
          | some h1 =>
            dsimp only at h
            split at h
            · cases h
            · rename_i l' hl
              cases h
              have r1 := fun code => (sliceBound_run (P := P) hl h1 (Nat.le_refl _) code w).1
              have b1 := (sliceBound_run (P := P) hl h1 (Nat.le_refl _) .sliceAlen w).2
              refine ⟨?_, b1, b3, by simp, by simpa using b2, by simpa using b2, by simp⟩
              simp [Instr.sliceBounds, r3, r2, r1]

theorem flatCells_take {es : List V} {esz : Nat} (h : ∀ v ∈ es, v.cells.length = esz) (n : Nat) : flatCells (es.take n) = (flatCells es).take (n * esz) := by
  induction es generalizing n with
  | nil => simp [flatCells]
  | cons v es ih => cases n with
    | zero => simp [flatCells]
    | succ n =>
      have hv := h v List.mem_cons_self
      rw [List.take_succ_cons, flatCells_cons, flatCells_cons, ih (fun u hu => h u (List.mem_cons_of_mem _ hu)), Nat.add_mul, Nat.one_mul, Nat.add_comm (n * esz), ← hv, List.take_length_add_append]
theorem flatCells_drop {es : List V} {esz : Nat} (h : ∀ v ∈ es, v.cells.length = esz) (n : Nat) : flatCells (es.drop n) = (flatCells es).drop (n * esz) := by
  induction es generalizing n with
  | nil => simp [flatCells]
  | cons v es ih => cases n with
    | zero => simp
    | succ n =>
      have hv := h v List.mem_cons_self
      rw [List.drop_succ_cons, flatCells_cons, ih (fun u hu => h u (List.mem_cons_of_mem _ hu)), Nat.add_mul, Nat.one_mul, Nat.add_comm (n * esz), ← hv, List.drop_length_add_append]

/-- A part of a slice that never turns. -/
theorem VRel.part [Env] {es : List V} {esz c off l n M : Nat} {ex : Bool} {xs : List Value} (hu : ∀ v ∈ es, v.cells.length = esz) (hx : VsRel ρ (flatCells es) xs) (hi : ∀ k x, xs[k]? = some x → ρ.imm c (off + k) = some x)
    (hl : l + n ≤ es.length) (hM : n ≤ M) (he : ex = true → M = n) {o2 : Nat} (ho : n = 0 ∨ o2 = off + l * esz) : VRel ρ (.lst (takeOf (dropOf l es) n) esz ex) (.slice (some ⟨c, o2, none⟩) n M) := by
  rw [takeOf_eq, dropOf_eq]
  have hlen : ((es.drop l).take n).length = n := by simp; omega
  have hu' : ∀ v ∈ es.drop l, v.cells.length = esz := fun v hv => hu v (List.mem_of_mem_drop hv)
  have key : VRel ρ (.lst ((es.drop l).take n) esz ex) (.slice (some ⟨c, o2, none⟩) ((es.drop l).take n).length M) := by
    refine .lst (xs := (xs.drop (l * esz)).take (n * esz)) (fun v hv => hu' v (List.mem_of_mem_take hv)) ?_ (fun k x hk => ?_) (by omega) (fun h => by rw [hlen]; exact he h)
    · rw [flatCells_take hu', flatCells_drop hu]
      exact (hx.drop _).take _
    · rw [List.getElem?_take] at hk
      split at hk
      · rename_i hk'
        rw [List.getElem?_drop] at hk
        rcases ho with h0 | h0
        · subst h0; omega
        · rw [h0, Nat.add_assoc]; exact hi _ x hk
      · cases hk
  rw [hlen] at key
  exact key

theorem evalSlice_lst [Env] {t e : TypeId} {es : List V} {esz : Nat} {ex : Bool} {v : V} {lo hi mx : Option V} (hu : P.underlying t = some (.slice e)) {sz l hh m : Nat} (hsz : sizeT P e = some sz) (hb : bounds (len es) (len es) lo hi mx = some (l, hh, m)) (hne : sz = esz)
    (hv : v = .lst (takeOf (dropOf l es) (hh - l)) esz ((mx.isSome || (ex && Nat.beq hh (len es))) && Nat.beq hh m)) {x' : Value} {lo' hi' mx' : Option Value} (hx : VRel ρ (.lst es esz ex) x') (h1 : OV ρ lo lo') (h2 : OV ρ hi hi') (h3 : OV ρ mx mx')
    (w : World) : ∃ v', (Instr.sliceAt t x' lo' hi' mx').run P w = .ok v' w ∧ VRel ρ v v' := by
  subst hne hv
  rw [len_eq] at hb ⊢
  cases hx with
  | lst hu' hx hi' hc he =>
    rename_i c off cap' xs
    obtain ⟨hr, hl1, hm1, hm2, hh1, hh2, hh3⟩ := bounds_run (P := P) hc hb h1 h2 h3 true w
    obtain ⟨M, hM⟩ : ∃ M, M = (if mx.isSome then m else cap') := ⟨_, rfl⟩
    have hhm : hh ≤ m := by
      cases hhi : hi.isSome with
      | true => exact hh1 hhi
      | false =>
        cases hmi : mx.isSome with
        | true => exact hh2 hmi
        | false => rw [hh3 hhi, hm2 hmi]; exact Nat.le_refl _
    have hmM : m ≤ M := by rw [hM]; split <;> omega
    have hml : m ≤ es.length := hm1
    obtain ⟨k, rfl⟩ : ∃ k, M = l + k := ⟨M - l, by omega⟩
    have e1 : l + k - l = k := by omega
    refine ⟨.slice (some (if l + k = l then ⟨c, off, none⟩ else ⟨c, off + l * sz, none⟩)) (hh - l) (l + k - l), ?_, ?_⟩
    · simp only [Instr.sliceAt, Sem.run_bind, run_underlying hu, Result.andThen_ok, Instr.slice, hr, sizeT_run hsz, ← hM, Sem.run_pure]
      split <;> simp [addr_add]
    · rw [e1]
      have hex : ((mx.isSome || (ex && Nat.beq hh es.length)) && Nat.beq hh m) = true → k = hh - l := by
        intro h
        rw [Bool.and_eq_true] at h
        have g1 := Nat.eq_of_beq_eq_true h.2
        cases hmi : mx.isSome with
        | true => rw [hmi, if_pos rfl] at hM; omega
        | false =>
          rw [hmi] at h hM
          simp only [Bool.false_or, Bool.and_eq_true, Bool.false_eq_true, if_false] at h hM
          have g2 := Nat.eq_of_beq_eq_true h.1.2
          have g3 := he h.1.1
          omega
      by_cases hkl : l + k = l
      · rw [if_pos hkl]
        exact VRel.part hu' hx hi' (by omega) (by omega) hex (.inl (by omega))
      · rw [if_neg hkl]
        exact VRel.part hu' hx hi' (by omega) (by omega) hex (.inr rfl)
  | lstnil =>
    obtain ⟨hr, hl, hm, _, hh1, hh2, hh3⟩ := bounds_run (P := P) (Nat.le_refl _) hb h1 h2 h3 true w
    have hh0 : hh = 0 := by
      cases hi with
      | none => exact hh3 rfl
      | some _ => have := hh1 rfl; simp at hm; omega
    have hm0 : (if mx.isSome then m else 0) = 0 := by split <;> simp at hm <;> omega
    have hl0 : l = 0 := by omega
    refine ⟨.slice none 0 0, ?_, ?_⟩
    · subst hl0 hh0
      simp only [List.length_nil] at hr
      simp only [Instr.sliceAt, Sem.run_bind, run_underlying hu, Result.andThen_ok, Instr.slice, hr, hm0, sizeT_run hsz]
      simp
    · rw [takeOf_eq, dropOf_eq]
      simp only [List.drop_nil, List.take_nil]
      exact .lstnil
  | lstzero he =>
    rename_i cap' a
    obtain ⟨hr, hl, hm, _, hh1, hh2, hh3⟩ := bounds_run (P := P) (Nat.zero_le cap') hb h1 h2 h3 true w
    have hh0 : hh = 0 := by
      cases hi with
      | none => exact hh3 rfl
      | some _ => have := hh1 rfl; simp at hm; omega
    have hl0 : l = 0 := by omega
    obtain ⟨M, hM⟩ : ∃ M, M = (if mx.isSome then m else cap') := ⟨_, rfl⟩
    refine ⟨.slice (some a) 0 M, ?_, ?_⟩
    · subst hl0 hh0
      simp only [List.length_nil] at hr
      simp only [Instr.sliceAt, Sem.run_bind, run_underlying hu, Result.andThen_ok, Instr.slice, hr, sizeT_run hsz, ← hM, Sem.run_pure]
      split <;> simp [Addr.add]
    · rw [takeOf_eq, dropOf_eq]
      simp only [List.drop_nil, List.take_nil]
      refine .lstzero fun h => ?_
      rw [Bool.and_eq_true] at h
      have hm0 : m = 0 := by simp at hm; omega
      cases hmi : mx.isSome with
      | true => rw [hmi, if_pos rfl] at hM; omega
      | false =>
        rw [hmi] at h hM
        simp only [Bool.false_or, Bool.and_eq_true, Bool.false_eq_true, if_false] at h hM
        rw [hM]; exact he h.1.1

theorem evalSlice_run [Env] {t : TypeId} {x v : V} {lo hi mx : Option V} (h : evalSlice P t x lo hi mx = some v) {x' : Value} {lo' hi' mx' : Option Value} (hx : VRel ρ x x') (h1 : OV ρ lo lo') (h2 : OV ρ hi hi') (h3 : OV ρ mx mx')
    (w : World) : ∃ v', (Instr.sliceAt t x' lo' hi' mx').run P w = .ok v' w ∧ VRel ρ v v' := by
  unfold evalSlice at h
  split at h
  · rename_i s hu
    split at h
    · cases h
    · rename_i hmx
      have : mx = none := by cases mx <;> simp_all
      subst this
      cases h3
      split at h
      · rename_i l hh m hb
        cases h; cases hx
        rw [len_eq] at hb
        obtain ⟨hr, hl, hm, _, _⟩ := bounds_run (P := P) (Nat.le_refl _) hb h1 h2 .none false w
        refine ⟨.string ⟨⟨dropOf l (takeOf s hh)⟩⟩, ?_, .str _⟩
        simp only [Instr.sliceAt, Sem.run_bind, run_underlying hu, Result.andThen_ok, Instr.slice]
        rw [show (⟨⟨s⟩⟩ : ByteArray).size = s.length from rfl]
        simp only [Option.isSome_none, Bool.false_eq_true, if_false, hr, Sem.run_bind, Result.andThen_ok, Sem.run_pure]
        rw [Lib.extract_eq, dropOf_eq, takeOf_eq, List.drop_take]
      · cases h
  · rename_i e hu
    split at h
    · rename_i sz r hsz hb
      cases h; cases hx
      obtain ⟨l, hh, m⟩ := r
      obtain ⟨hr, hl, hm, _, hh1, hh2, hh3⟩ := bounds_run (P := P) (Nat.le_refl _) hb h1 h2 h3 true w
      have hh0 : hh = 0 := by
        cases hi with
        | none => exact hh3 rfl
        | some _ => have := hh1 rfl; omega
      have hm0 : (if mx.isSome then m else 0) = 0 := by split <;> omega
      have hl0 : l = 0 := by omega
      refine ⟨.slice none 0 0, ?_, .nilslice⟩
      subst hl0 hh0
      simp only [Instr.sliceAt, Sem.run_bind, run_underlying hu, Result.andThen_ok, Instr.slice, hr, hm0, sizeT_run hsz]
      simp
    · cases h
  · rename_i e b off n cap ex esz hu
    split at h
    · rename_i sz l hh m hsz hb
      split at h
      · cases h
      · rename_i hne
        have hne : sz = esz := by simpa using hne
        subst hne
        split at h
        · rename_i hcond
          cases h
          cases hx with
          | slice hl hex hin hN hn =>
            rename_i l₀ off' cap'
            have hcap : cap ≤ cap' := by
              cases ex with
              | true => exact Nat.le_of_eq (hex rfl).1.symm
              | false => exact (hin rfl).1
            obtain ⟨hr, hl1, hm1, hm2, hh1, hh2, hh3⟩ := bounds_run (P := P) hcap hb h1 h2 h3 true w
            obtain ⟨M, hM⟩ : ∃ M, M = (if mx.isSome then m else cap') := ⟨_, rfl⟩
            have hMle : M ≤ cap' := by rw [hM]; split <;> omega
            have hhm : hh ≤ m := by
              cases hhi : hi.isSome with
              | true => exact hh1 hhi
              | false =>
                cases hmi : mx.isSome with
                | true => exact hh2 hmi
                | false => rw [hh3 hhi, hm2 hmi]; assumption
            have hmM : m ≤ M := by rw [hM]; split <;> omega
            obtain ⟨k, rfl⟩ : ∃ k, M = l + k := ⟨M - l, by omega⟩
            have hoff : (ex || mx.isSome) = true → off' = l₀.o + off := by
              intro he
              cases ex with
              | true => exact (hex rfl).2
              | false =>
                rcases (hin rfl).2 with h' | ⟨_, h'⟩
                · exact h'
                · simp only [Bool.false_or] at he
                  cases mx with
                  | none => cases he
                  | some _ => simp [h'] at hcond
            refine ⟨.slice (some (if l + k = l then ⟨l₀.c, off', none⟩ else ⟨l₀.c, off' + l * sz, none⟩)) (hh - l) (l + k - l), ?_, ?_⟩
            · simp only [Instr.sliceAt, Sem.run_bind, run_underlying hu, Result.andThen_ok, Instr.slice, hr, sizeT_run hsz, ← hM, Sem.run_pure]
              split <;> simp [addr_add]
            · have e1 : l + k - l = k := by omega
              have hk : off' + (l + k) * sz ≤ l₀.N := Nat.le_trans (Nat.add_le_add_left (Nat.mul_le_mul_right sz hMle) off') hN
              rw [Nat.add_mul] at hk
              have goal : ∀ (o2 off2 : Nat), (o2 = if l + k = l then off' else off' + l * sz) → (off2 = if ((ex || mx.isSome) && m == l) = true then off else off + l * sz) →
                  VRel ρ (.slice b off2 (hh - l) (m - l) (ex || mx.isSome) sz) (.slice (some ⟨l₀.c, o2, none⟩) (hh - l) k) := by
                intro o2 off2 ho2 hoff2
                refine .slice hl (fun he => ?_) (fun he => ?_) ?_ (by omega)
                · have hoe := hoff he
                  have hmk : m = l + k := by
                    rw [hM]
                    cases hmi : mx.isSome with
                    | true => simp
                    | false =>
                      rw [hmi, Bool.or_false] at he
                      have := (hex he).1
                      simp [hm2 hmi, this]
                  refine ⟨by omega, ?_⟩
                  subst hmk
                  rw [ho2, hoff2, he]
                  by_cases hkl : l + k = l
                  · rw [if_pos hkl, if_pos (by simpa using hkl)]; exact hoe
                  · rw [if_neg hkl, if_neg (by simpa using hkl)]; omega
                · rw [Bool.or_eq_false_iff] at he
                  have hmc := hm2 he.2
                  rw [he.2] at hM
                  simp only [Bool.false_eq_true, if_false] at hM
                  obtain ⟨_, hw⟩ := hin he.1
                  refine ⟨by omega, ?_⟩
                  rw [hoff2, he.1, he.2]
                  simp only [Bool.or_self, Bool.false_and, Bool.false_eq_true, if_false]
                  by_cases hkl : l + k = l
                  · exact .inr ⟨by omega, by omega⟩
                  · rcases hw with hw | hw
                    · rw [if_neg hkl] at ho2
                      exact .inl (by omega)
                    · exact .inr ⟨by omega, by omega⟩
                · rw [ho2]; split <;> omega
              rw [e1]
              have hgoal := goal _ _ rfl rfl
              by_cases hkl : l + k = l
              · rw [if_pos hkl]; rw [if_pos hkl] at hgoal; exact hgoal
              · rw [if_neg hkl]; rw [if_neg hkl] at hgoal; exact hgoal
        · cases h
    · cases h
  · rename_i e es esz ex hu
    split at h
    · rename_i sz l hh m hsz hb
      split at h
      · cases h
      · rename_i hne
        exact evalSlice_lst hu hsz hb (by simpa using hne) (Option.some.inj h).symm hx h1 h2 h3 w
    · cases h
  · rename_i e n f esz ex nn hu
    split at h
    · rename_i sz l hh m hsz hb
      split at h
      · cases h
      · rename_i hne
        cases hx with
        | arr _ hx =>
          have hb' : bounds (len (arrL n f)) (len (arrL n f)) lo hi mx = some (l, hh, m) := by rw [len_eq, arrL_length]; exact hb
          obtain ⟨v', hrun, hrel⟩ := evalSlice_lst hu hsz hb' (by simpa using hne) rfl hx h1 h2 h3 w
          refine ⟨v', hrun, ?_⟩
          have := (Option.some.inj h).symm
          subst this
          refine .arr (fun h => by cases h) ?_
          rw [len_eq, arrL_length] at hrel
          have hh3 : hh ≤ n := by
            obtain ⟨_, _, hm1, _⟩ := bounds_run (P := P) (Nat.le_refl n) hb h1 h2 h3 true w
            obtain ⟨_, hl1, _, hm2, hh1, hh2, hh3⟩ := bounds_run (P := P) (Nat.le_refl n) hb h1 h2 h3 true w
            cases hhi : hi.isSome with
            | true => have := hh1 hhi; omega
            | false =>
              cases hmi : mx.isSome with
              | true => have := hh2 hmi; omega
              | false => rw [hh3 hhi]; exact Nat.le_refl _
          have e : takeOf (dropOf l (arrL n f)) (hh - l) = arrL (hh - l) fun i => f (Nat.add l i) := by
            rw [takeOf_eq, dropOf_eq]
            apply List.ext_getElem?
            intro i
            rw [List.getElem?_take]
            split
            · rename_i hi'
              rw [List.getElem?_drop, arrL_get (by omega), arrL_get hi']; rfl
            · rename_i hi'
              rw [List.getElem?_eq_none (by rw [arrL_length]; omega)]
          rw [e] at hrel
          exact hrel
    · cases h
  · cases h

/-- A part of an array that lies in memory. -/
theorem evalSliceA_run [Env] (hr : R ρ σ w) {t e : TypeId} {n : Nat} {x v : V} {lo hi mx : Option V} (hu : P.underlying t = some (.array n e)) (h : evalSliceA P σ n e lo hi mx x = some v) {x' : Value} {lo' hi' mx' : Option Value} (hx : VRel ρ x x')
    (h1 : OV ρ lo lo') (h2 : OV ρ hi hi') (h3 : OV ρ mx mx') : ∃ v', (Instr.sliceAt t x' lo' hi' mx').run P w = .ok v' w ∧ VRel ρ v v' := by
  unfold evalSliceA at h
  split at h
  · rename_i b off
    cases hx with
    | ptr hl =>
      rename_i l₀
      split at h
      · rename_i sz l hh m N z t' p ro hsz hb hk
        split at h
        · rename_i hN
          cases h
          obtain ⟨hrun, hl1, hm1, hm2, hh1, hh2, hh3⟩ := bounds_run (P := P) (Nat.le_refl _) hb h1 h2 h3 false w
          have hM : (if mx.isSome then m else n) = m := by
            cases hmi : mx.isSome with
            | true => simp
            | false => simp [hm2 hmi]
          rw [hM] at hrun
          have hN' : off + n * sz ≤ N := Nat.le_of_ble_eq_true hN
          have hhm : hh ≤ m := by
            cases hhi : hi.isSome with
            | true => exact hh1 hhi
            | false =>
              cases hmi : mx.isSome with
              | true => exact hh2 hmi
              | false => rw [hh3 hhi, hm2 hmi]; exact Nat.le_refl _
          have hcells := (hr.cells hk hl).2.1
          have hmn : m * sz ≤ n * sz := Nat.mul_le_mul_right sz hm1
          refine ⟨.slice (some (if m = l then ⟨l₀.c, l₀.o + off, none⟩ else ⟨l₀.c, l₀.o + off + l * sz, none⟩)) (hh - l) (m - l), ?_, ?_⟩
          · simp only [Instr.sliceAt, Sem.run_bind, run_underlying hu, Result.andThen_ok, Instr.sureAddr, Sem.run_pure, hrun, sizeT_run hsz]
            split <;> simp [addr_add]
          · have key : ∀ o2 off2, o2 = l₀.o + off2 → off2 + (m - l) * sz ≤ N → VRel ρ (.slice b off2 (hh - l) (m - l) true sz) (.slice (some ⟨l₀.c, o2, none⟩) (hh - l) (m - l)) := fun o2 off2 ho hle =>
              .slice hl (fun _ => ⟨rfl, ho⟩) (fun h => by cases h) (by omega) (by omega)
            by_cases hml : m = l
            · rw [if_pos hml]
              have e1 : Nat.beq m l = true := by rw [hml]; exact Nat.beq_refl l
              simp only [e1]
              exact key _ _ rfl (by rw [hml, Nat.sub_self, Nat.zero_mul]; omega)
            · rw [if_neg hml]
              have e1 : Nat.beq m l = false := by
                cases hbe : Nat.beq m l with
                | true => exact absurd (Nat.eq_of_beq_eq_true hbe) hml
                | false => rfl
              simp only [e1]
              refine key _ _ (Nat.add_assoc _ _ _) ?_
              show off + l * sz + (m - l) * sz ≤ N
              have : l * sz + (m - l) * sz ≤ m * sz := by
                rw [← Nat.add_mul]
                exact Nat.mul_le_mul_right sz (by omega)
              omega
        · cases h
      · cases h
  · cases h


/-! ### Append -/
theorem VsRel.bytes [Env] : ∀ (l : List UInt8), VsRel ρ (l.map fun c => V.int .u8 c.toNat) (l.map fun c => Value.int .u8 c.toNat)
  | [] => .nil
  | _ :: l => .cons (.int _ _) (VsRel.bytes l)

theorem newCells_run [Env] (hr : R ρ σ w) {sz n : Nat} {x : V} {new : List V} (h : newCells σ sz x = some (n, new)) {x' : Value} (hx : VRel ρ x x') :
    ∃ new' : List Value, (Builtin.lenOf x').run P w = .ok n w ∧ (∀ w₁ : World, w₁.heap = w.heap → (Builtin.firstCells sz n x').run P w₁ = .ok ⟨new'⟩ w₁) ∧ VsRel ρ new new' ∧ new.length = n * sz := by
  unfold newCells at h
  split at h
  · cases h; cases hx
    exact ⟨[], by simp [Builtin.lenOf], fun _ _ => by simp [Builtin.firstCells], .nil, by simp⟩
  · rw [Option.map_eq_some_iff] at h
    obtain ⟨vs, hvs, he⟩ := h
    cases he
    cases hx with
    | slice hl hex hin hN hn =>
      rename_i b off cap ex esz l₀ off' cap'
      by_cases hz : off' = l₀.o + off
      · subst hz
        obtain ⟨xs, hrun, hrel, hlen⟩ := hr.loadCells (P := P) hvs hl
        exact ⟨xs, by simp [Builtin.lenOf], fun w₁ hw => by simpa [Builtin.firstCells] using hrun w₁ hw, hrel, by rw [hrel.length, hlen]⟩
      · have hzero : n = 0 := by
          cases ex with
          | true => exact absurd (hex rfl).2 hz
          | false => rcases (hin rfl).2 with h' | h'
                     · exact absurd h' hz
                     · exact h'.1
        subst hzero
        rw [Nat.zero_mul] at hvs
        unfold St.cells at hvs
        split at hvs
        · have h' : some ([] : List V) = some _ := hvs
          cases h'
          exact ⟨[], by simp [Builtin.lenOf], fun _ _ => by simp [Builtin.firstCells, loadCells, loadCellsFrom], .nil, by simp⟩
        · cases hvs
  · split at h
    · rename_i hs
      cases h; cases hx
      subst hs
      rw [mapOf_eq, len_eq]
      refine ⟨_, by simp [Builtin.lenOf]; rfl, fun _ _ => ?_, VsRel.bytes _, by simp⟩
      rename_i l _ _
      have : ((⟨⟨l⟩⟩ : ByteArray).extract 0 l.length) = ⟨⟨l⟩⟩ := by rw [Lib.extract_eq]; simp
      simp only [Builtin.firstCells, this, Sem.run_pure]
      simp
    · cases h
  · split at h
    · rename_i hs
      cases h
      subst hs
      rw [len_eq]
      cases hx with
      | lst hu hx hi hc he =>
        rename_i c off cap xs
        have hl : (flatCells _).length = _ := flatCells_length hu
        have hxl := hx.length
        refine ⟨xs, by simp [Builtin.lenOf], fun w₁ hw => ?_, hx, hl⟩
        have := hr.loadImm (P := P) hi w₁ hw
        rw [← hxl, hl] at this
        simpa [Builtin.firstCells] using this
      | lstnil => exact ⟨[], by simp [Builtin.lenOf], fun _ _ => by simp [Builtin.firstCells], .nil, by simp [flatCells]⟩
      | lstzero he => exact ⟨[], by simp [Builtin.lenOf], fun _ _ => by simp [Builtin.firstCells, loadCells, loadCellsFrom], .nil, by simp [flatCells]⟩
    · cases h
  · cases h

theorem nextslicecap_le {need cap : Nat} (h : cap < need) : Builtin.nextslicecap need cap ≤ 2 * need + 192 := by
  have g : ∀ (k c : Nat), c ≤ 2 * need + 192 → Builtin.growBy need k c ≤ 2 * need + 192 := by
    intro k
    induction k with
    | zero => intro c hc; exact hc
    | succ k ih =>
      intro c hc
      unfold Builtin.growBy
      split
      · exact hc
      · exact ih _ (by omega)
  unfold Builtin.nextslicecap
  split
  · omega
  · split
    · omega
    · exact g 4 cap (by omega)

theorem i64_max : IntKind.i64.max = 9223372036854775807 := by decide

/-- The row that an append makes, in new memory. -/
theorem grown_run [Env] (hr : R ρ σ w) (hid : ρ id = none) {e : TypeId} {sz need : Nat} {old new : List V} {old' new' : List Value} (hold : VsRel ρ old old') (hnew : VsRel ρ new new')
    (hlen : old.length + new.length = need * sz) {zc : Array Value} (hz : zc.size = sz) (newCap : Nat) (hnc : need ≤ newCap) (pl : Bool) :
    let w' : World := { w with drawn := w.drawn + 1 }
    let w'' : World := { w' with heap := w'.heap.push (.cells ((⟨old'⟩ : Array Value) ++ (⟨new'⟩ : Array Value) ++ Builtin.zeroCells zc (newCap - need)) e (0, 0)) }
    ∃ l, Stp (fun b => b = id) ρ σ w (upd ρ id l) (grown σ id sz need (app old new) pl).2 w'' ∧ VRel (upd ρ id l) (grown σ id sz need (app old new) pl).1 (.slice (some ⟨w.heap.size, 0, none⟩) need newCap) := by
  intro w' w''
  have hzl : (Builtin.zeroCells zc (newCap - need)).size = (newCap - need) * sz := by simp [Builtin.zeroCells, hz]
  have hol := hold.length
  have hnl := hnew.length
  have hN : ((⟨old'⟩ : Array Value) ++ (⟨new'⟩ : Array Value) ++ Builtin.zeroCells zc (newCap - need)).size = newCap * sz := by
    simp only [Array.size_append, hzl, List.size_toArray]
    rw [← hol, ← hnl, hlen, ← Nat.add_mul]
    congr 1; omega
  have hat : w''.heap[w.heap.size]? = some (.cells ((⟨old'⟩ : Array Value) ++ (⟨new'⟩ : Array Value) ++ Builtin.zeroCells zc (newCap - need)) e (0, 0)) := by
    show (w.heap.push _)[w.heap.size]? = _
    simp
  refine ⟨⟨w.heap.size, 0, newCap * sz⟩, ?_, ?_⟩
  · refine Stp.alloc hr hid (w' := w'') rfl rfl rfl rfl (.cells ⟨e, ?_⟩ ?_ (fun i v hi => ?_) (fun _ i _ => ?_) (fun _ i => ?_))
    · unfold World.shape?
      rw [hat]
      simp only [hN]
    · simpa using Nat.mul_le_mul_right sz hnc
    · rw [app_eq] at hi
      rcases cellOf_putAll hi with ⟨_, h2, h3⟩ | ⟨_, h2⟩
      · obtain ⟨x, hx', hrel⟩ := (hold.append hnew).get _ h3
        refine ⟨x, ?_, hrel.mono (upd_le ρ _ hid)⟩
        have hlt : i < (old' ++ new').length := by rw [List.length_append, ← hol, ← hnl]; simpa using h2
        have hx'' : (old' ++ new')[i]? = some x := by simpa using hx'
        simp only [World.cell?, hat, Nat.zero_add]
        simp only [Option.isSome_none, Bool.false_eq_true, if_false]
        rw [Array.getElem?_append_left (by simpa using hlt)]
        simpa using hx''
      · unfold cellOf at h2
        split at h2
        · rw [Trie.get_leaf] at h2; simp [nth_eq] at h2
        · cases h2
    · simp [World.frozen?, hat]
    · simp [World.frozen?, hat]
  · exact .slice (l := ⟨w.heap.size, 0, newCap * sz⟩) (upd_self _ _ _) (by simp) (fun _ => ⟨hnc, .inl rfl⟩) (by simp) (Nat.le_refl _)


theorem firstCells_old [Env] (hr : R ρ σ w) {b off n cap k sz : Nat} {ex : Bool} {old : List V} (h : σ.cells b off (n * sz) = some old) {l₀ : Loc} {off' cap' : Nat} (hl : ρ b = some l₀)
    (hex : ex = true → cap' = cap ∧ off' = l₀.o + off) (hin : ex = false → cap ≤ cap' ∧ (off' = l₀.o + off ∨ (n = 0 ∧ cap = 0))) :
    ∃ old' : List Value, (∀ w₁ : World, w₁.heap = w.heap → (Builtin.firstCells sz n (.slice (some ⟨l₀.c, off', none⟩) n k)).run P w₁ = .ok ⟨old'⟩ w₁) ∧ VsRel ρ old old' ∧ old.length = n * sz := by
  by_cases hz : off' = l₀.o + off
  · subst hz
    obtain ⟨xs, hrun, hrel, hlen⟩ := hr.loadCells (P := P) h hl
    exact ⟨xs, fun w₁ hw => by simpa [Builtin.firstCells] using hrun w₁ hw, hrel, by rw [hrel.length, hlen]⟩
  · have hzero : n = 0 := by
      cases ex with
      | true => exact absurd (hex rfl).2 hz
      | false =>
        rcases (hin rfl).2 with h' | h'
        · exact absurd h' hz
        · exact h'.1
    subst hzero
    rw [Nat.zero_mul] at h
    unfold St.cells at h
    split at h
    · have h' : some ([] : List V) = some _ := h
      cases h'
      exact ⟨[], fun _ _ => by simp [Builtin.firstCells, loadCells, loadCellsFrom], .nil, by simp⟩
    · cases h

/-- An append that makes a new row: what the machine comes to. -/
theorem append_grows [Env] {tys : Array TypeId} {ty t t' e : TypeId} {i : TypeInfo} {d : TypeDesc} {s x : Value} {base : Option Addr} {sLen sCap n sz : Nat} {old new : List Value} {zv : Value}
    (ht : tys[0]? = some t) (ht' : tys[1]? = some t') (hu : P.underlying t = some (.slice e)) (hd : P.underlying t' = some d) (hni : ∀ k, d ≠ .int k) (hsz : sizeT P e = some sz) (hi : P.info? e = some i)
    (hs : s = .slice base sLen sCap) (hlen : (Builtin.lenOf x).run P w = .ok n w) (hz : ∀ w, (zeroValue e).run P w = .ok zv w) (hno : ¬ sLen + n ≤ sCap) (hby : i.bytes ≠ 0) (hroom : (sLen + n) * i.bytes ≤ 1099511627776)
    (hold : ∀ w₁ : World, w₁.heap = w.heap → (Builtin.firstCells sz sLen s).run P w₁ = .ok ⟨old⟩ w₁) (hnew : ∀ w₁ : World, w₁.heap = w.heap → (Builtin.firstCells sz n x).run P w₁ = .ok ⟨new⟩ w₁) :
    ∃ newCap, sLen + n ≤ newCap ∧ (Builtin.append_ tys ty #[s, x]).run P w =
      .ok (.slice (some ⟨w.heap.size, 0, none⟩) (sLen + n) newCap) { w with drawn := w.drawn + 1, heap := w.heap.push (.cells ((⟨old⟩ : Array Value) ++ (⟨new⟩ : Array Value) ++ Builtin.zeroCells zv.cells (newCap - (sLen + n))) e (0, 0)) } := by
  have hpos : 1 ≤ i.bytes := by omega
  have hneed : sLen + n ≤ 1099511627776 := Nat.le_trans (Nat.le_mul_of_pos_right _ hpos) hroom
  have hcapn : Builtin.nextslicecap (sLen + n) sCap * i.bytes ≤ 2 ^ 48 := by
    have h1 := nextslicecap_le (need := sLen + n) (cap := sCap) (by omega)
    have h2 : Builtin.nextslicecap (sLen + n) sCap * i.bytes ≤ (2 * (sLen + n) + 192) * i.bytes := Nat.mul_le_mul_right _ h1
    have h3 : (2 * (sLen + n) + 192) * i.bytes = 2 * ((sLen + n) * i.bytes) + 192 * i.bytes := by rw [Nat.add_mul, Nat.mul_assoc]
    have h4 : i.bytes ≤ 1099511627776 := Nat.le_trans (Nat.le_mul_of_pos_left _ (by omega)) hroom
    omega
  have hcut : sLen + n ≤ (Question.appendCap (sLen + n) sCap e).cut (w.tape w.drawn (.appendCap (sLen + n) sCap e)) := by simp [Question.cut]
  refine ⟨(Question.appendCap (sLen + n) sCap e).cut (w.tape w.drawn (.appendCap (sLen + n) sCap e)), hcut, ?_⟩
  have hm : (match d with | .int _ => true | _ => false) = false := by cases d <;> first | rfl | exact absurd rfl (hni _)
  subst hs
  have ho := hold { w with drawn := w.drawn + 1 } rfl
  have hn := hnew { w with drawn := w.drawn + 1 } rfl
  have hg0 : (#[Value.slice base sLen sCap, x] : Array Value)[0]? = some (Value.slice base sLen sCap) := rfl
  have hg1 : (#[Value.slice base sLen sCap, x] : Array Value)[1]? = some x := rfl
  simp only [Builtin.append_, ht, ht', hg0, hg1, Sem.run_bind, run_underlying hu, run_underlying hd, Result.andThen_ok, sizeT_run hsz, Sem.run_pure, Bool.false_eq_true, if_false, hlen]
  have hnmax' : ¬ (((sLen + n : Nat) : Int) > IntKind.i64.max ∧ (False ∨ i.bytes = 0)) := by simp [hby]
  have hcapn' : ¬ (Builtin.nextslicecap (sLen + n) sCap * i.bytes > 2 ^ 48) := by omega
  have hforced : (Question.appendCap (sLen + n) sCap e).forced = false := rfl
  rw [if_neg hno]
  simp only [Sem.run_bind, run_typeInfo hi, Result.andThen_ok, if_neg hnmax', if_neg hcapn', run_choose, hforced, Bool.false_eq_true, if_false, run_askRoom, ho, hn, Bool.not_false, if_true, hz, Sem.run_pure]
  rfl


/-- An append that has room: what the machine comes to. -/
theorem append_fits [Env] {tys : Array TypeId} {ty t t' e : TypeId} {d : TypeDesc} {x : Value} {base : Option Addr} {sLen sCap n sz : Nat} {new : List Value} {w' : World}
    (ht : tys[0]? = some t) (ht' : tys[1]? = some t') (hu : P.underlying t = some (.slice e)) (hd : P.underlying t' = some d) (hni : ∀ k, d ≠ .int k) (hsz : sizeT P e = some sz)
    (hlen : (Builtin.lenOf x).run P w = .ok n w) (hfit : sLen + n ≤ sCap) (hnew : (Builtin.firstCells sz n x).run P w = .ok ⟨new⟩ w)
    (hst : match base with | some a => (storeCells (a.add (sLen * sz)) new).run P w = .ok () w' | none => w' = w) :
    (Builtin.append_ tys ty #[.slice base sLen sCap, x]).run P w = .ok (.slice base (sLen + n) sCap) w' := by
  have hm : (match d with | .int _ => true | _ => false) = false := by cases d <;> first | rfl | exact absurd rfl (hni _)
  have hg0 : (#[Value.slice base sLen sCap, x] : Array Value)[0]? = some (Value.slice base sLen sCap) := rfl
  have hg1 : (#[Value.slice base sLen sCap, x] : Array Value)[1]? = some x := rfl
  simp only [Builtin.append_, ht, ht', hg0, hg1, Sem.run_bind, run_underlying hu, run_underlying hd, Result.andThen_ok, sizeT_run hsz, Sem.run_pure, Bool.false_eq_true, if_false, hlen]
  rw [if_pos hfit]
  cases base with
  | none =>
    subst hst
    simp only [Sem.run_bind, Bool.not_false, if_true, hnew, Result.andThen_ok, Sem.run_pure]
  | some a =>
    dsimp only at hst
    simp only [Sem.run_bind, Bool.not_false, if_true, hnew, Result.andThen_ok, Sem.run_pure, hst]

theorem intType_run {t : TypeId} (h : intType P t = false) : ∃ d, P.underlying t = some d ∧ ∀ k, d ≠ .int k := by
  unfold intType at h
  split at h
  · cases h
  · rename_i d hn hu
    exact ⟨d, hu, fun k e => hn k e⟩
  · cases h

theorem newCells_of_heap [Env] (hr : R ρ σ w) {w₁ : World} (hw : w₁.heap = w.heap) : R ρ σ w₁ := hr.congr hw

/-- An append that goes on in the row's own block: the machine had room that is not known here. -/
theorem inplace_run [Env] (hr : R ρ σ w) (hid : ρ id = none) {b off m cap' n sz : Nat} {old new : List V} {new' : List Value} {pl : Bool} {l₀ : Loc} {off' : Nat} (hold : σ.cells b off (m * sz) = some old) (hl : ρ b = some l₀)
    (hz : off' = l₀.o + off ∨ m = 0) (hpl : plainRow σ b = some pl) (hN : off' + cap' * sz ≤ l₀.N) (hfit : m + n ≤ cap') (hnrel : VsRel ρ new new') (hsc : new.all V.scalar = true) (hnlen : new.length = n * sz) :
    ∃ w', (storeCells ((⟨l₀.c, off', none⟩ : Addr).add (m * sz)) new').run P w = .ok () w' ∧
      Stp (fun b => b = id) ρ σ w (upd ρ id ⟨l₀.c, off', l₀.N⟩) (grown (σ.kill b) id sz (m + n) (app old new) pl).2 w' := by
  unfold plainRow at hpl
  split at hpl
  · rename_i nb zb tb pb hb
    cases hpl
    obtain ⟨⟨ty, hs⟩, hnb, hv, hf, hp⟩ := hr.cells hb hl
    have hmn : (m + n) * sz ≤ cap' * sz := Nat.mul_le_mul_right sz hfit
    have hsum : (m + n) * sz = m * sz + n * sz := Nat.add_mul ..
    have hlen := hnrel.length
    have hcell : ∀ j, j < new'.length → (w.cell? ⟨l₀.c, off' + m * sz + j, none⟩).isSome = true := fun j hj => cell_lt_of_shape hs (by omega)
    have holdlen : old.length = m * sz ∧ ∀ i v, old[i]? = some v → ∃ x, w.cell? ⟨l₀.c, off' + i, none⟩ = some x ∧ VRel ρ v x := by
      unfold St.cells at hold
      rw [hb] at hold
      obtain ⟨h1, h2⟩ := cellsOf_get _ _ hold
      refine ⟨h1, fun i v hi => ?_⟩
      obtain ⟨x, hx, hrel⟩ := hv _ _ (h2 i v hi)
      refine ⟨x, ?_, hrel⟩
      rcases hz with hz | hz
      · rw [hz, Nat.add_assoc]; exact hx
      · subst hz
        rw [Nat.zero_mul] at h1
        have : old = [] := List.eq_nil_of_length_eq_zero h1
        subst this
        simp at hi
    obtain ⟨hol, hoc⟩ := holdlen
    refine ⟨w.setCells l₀.c (off' + m * sz) new', ?_, ?_⟩
    · rw [addr_add]
      have := run_storeCells_cells (P := P) l₀.c (off' + m * sz) new' 0 w (by simpa using hcell) (fun j hj => by simpa using hf rfl (off' + m * sz + j) (by omega)) (hnrel.oneCell hsc)
      simpa using this
    · obtain ⟨r1, r2, r3⟩ := setCells_rest l₀.c new' (off' + m * sz) w
      refine Stp.moved (l := ⟨l₀.c, off', l₀.N⟩) hr hid hb rfl hl rfl (setCells_size _ _ _ _) (fun c hc => setCells_heap_other _ _ _ _ _ hc) r1 r2 r3 ?_
      refine .cells ⟨ty, by rw [setCells_shape]; exact hs⟩ (by dsimp only; omega) (fun i v hi => ?_) (fun hro i hi => by rw [World.frozen?_setCells]; exact hf rfl i hi) (fun hpt i => by rw [World.frozen?_setCells]; exact hp hpt i)
      rw [app_eq] at hi
      rcases cellOf_putAll hi with ⟨_, h2, h3⟩ | ⟨_, h2⟩
      · rw [Nat.sub_zero] at h3
        by_cases hio : i < old.length
        · rw [List.getElem?_append_left hio] at h3
          obtain ⟨x, hx, hrel⟩ := hoc i v h3
          refine ⟨x, ?_, hrel.mono (upd_le ρ _ hid)⟩
          rw [World.cell?_setCells_out l₀.c new' (off' + m * sz) w _ (fun _ _ => by dsimp only; omega)]
          exact hx
        · rw [List.getElem?_append_right (by omega)] at h3
          obtain ⟨x, hx, hrel⟩ := hnrel.get _ h3
          refine ⟨x, ?_, hrel.mono (upd_le ρ _ hid)⟩
          have hj : i - old.length < new'.length := by
            rw [← hlen]
            exact (List.getElem?_eq_some_iff.1 h3).1
          have := World.cell?_setCells_in l₀.c new' (off' + m * sz) w hcell (i - old.length) hj
          rw [show off' + m * sz + (i - old.length) = off' + i by omega] at this
          rw [this]
          rw [List.getElem?_eq_getElem hj] at hx
          exact hx
      · unfold cellOf at h2
        split at h2
        · rw [Trie.get_leaf] at h2; simp [nth_eq] at h2
        · cases h2
  · cases hpl

/-- Append. -/
theorem append_run [Env] (hr : R ρ σ w) (hid : ρ id = none) {tys : Array TypeId} {ty t t' : TypeId} (ht : tys[0]? = some t) (ht' : tys[1]? = some t') (hnt : intType P t' = false) {s x v : V} {σ' : St}
    (h : evalAppend P σ id t s x = some (v, σ')) {s' x' : Value} (hs : VRel ρ s s') (hx : VRel ρ x x') :
    ∃ ρ' v' w', (Builtin.append_ tys ty #[s', x']).run P w = .ok v' w' ∧ VRel ρ' v v' ∧ Stp (fun b => b = id) ρ σ w ρ' σ' w' := by
  obtain ⟨d, hd, hni⟩ := intType_run hnt
  unfold evalAppend at h
  split at h
  · rename_i e hu
    split at h
    · rename_i sz by_ z hsz hby hz
      split at h
      · cases h
      · rename_i hcond
        rw [not_or, not_or] at hcond
        obtain ⟨c1, c2, c3⟩ := hcond
        rw [len_eq, ne_eq, Decidable.not_not] at c3
        obtain ⟨i, hi, rfl⟩ := bytesT_run hby
        obtain ⟨zv, hzr, hzv⟩ := zeroT_run (P := P) hz ρ
        have hzs : zv.cells.size = sz := by rw [← c3, hzv.cells.length]; simp
        split at h
        · cases h
        · rename_i n new hnew
          obtain ⟨new', hlen, hfirst, hnrel, hnlen⟩ := newCells_run (P := P) hr hnew hx
          unfold appendTo at h
          split at h
          · split at h
            · rename_i hn0
              cases h; cases hs
              subst hn0
              exact ⟨ρ, _, w, append_fits ht ht' hu hd hni hsz hlen (by omega) (hfirst w rfl) (base := none) rfl, .nilslice, Stp.refl hr⟩
            · rename_i hn0
              split at h
              · rename_i hroom
                cases hs
                obtain ⟨newCap, hnc, hrun⟩ := append_grows (tys := tys) (ty := ty) (w := w) (n := n) (x := x') (old := []) (new := new') ht ht' hu hd hni hsz hi (s := .slice none 0 0) rfl hlen hzr (by omega) c2 (by simpa using hroom)
                  (fun w₁ _ => by simp [Builtin.firstCells]) hfirst
                rw [Nat.zero_add] at hnc hrun
                obtain ⟨l, hstp, hv⟩ := grown_run (e := e) hr hid (old := []) (old' := []) .nil hnrel (by simpa using hnlen) hzs newCap hnc true
                have hh : some (grown σ id sz n new true) = some (v, σ') := h
                cases hh
                exact ⟨_, _, _, hrun, hv, hstp⟩
              · cases h
          · rename_i b off m cap ex esz
            cases hs with
            | slice hl hex hin hN hn =>
              rename_i l₀ off' cap'
              have hcap : cap ≤ cap' := by
                cases ex with
                | true => exact Nat.le_of_eq (hex rfl).1.symm
                | false => exact (hin rfl).1
              split at h
              · cases h
              · rename_i hne
                have hne : sz = esz := by simpa using hne
                subst hne
                split at h
                · rename_i hn0
                  subst hn0
                  cases h
                  have hnil : new' = [] := by
                    have := hnrel.length
                    rw [hnlen, Nat.zero_mul] at this
                    exact List.eq_nil_of_length_eq_zero this.symm
                  subst hnil
                  exact ⟨ρ, _, w, append_fits ht ht' hu hd hni hsz hlen (by omega) (hfirst w rfl) (base := some _) rfl, .slice hl hex hin hN (by omega), Stp.refl hr⟩
                split at h
                · rename_i hfit
                  rw [Option.map_eq_some_iff] at h
                  obtain ⟨σ₁, hst, he⟩ := h
                  cases he
                  obtain ⟨w', hrun, hstp⟩ := hr.store (P := P) (ids := fun b => b = id) hst hl hnrel
                  by_cases hz : off' = l₀.o + off
                  · subst hz
                    refine ⟨ρ, _, w', append_fits ht ht' hu hd hni hsz hlen (by omega) (hfirst w rfl) (base := some _) ?_, .slice hl hex (fun he => ?_) hN (by omega), hstp⟩
                    · dsimp only
                      rw [addr_add, Nat.add_assoc]
                      exact hrun
                    · exact ⟨hcap, .inl rfl⟩
                  · have hzero : m = 0 ∧ cap = 0 := by
                      cases ex with
                      | true => exact absurd (hex rfl).2 hz
                      | false =>
                        rcases (hin rfl).2 with h' | h'
                        · exact absurd h' hz
                        · exact h'
                    have hn0 : n = 0 := by omega
                    subst hn0
                    have hnil : new' = [] := by
                      have := hnrel.length
                      rw [hnlen, Nat.zero_mul] at this
                      exact List.eq_nil_of_length_eq_zero this.symm
                    subst hnil
                    have hw : w' = w := by
                      have h1 : (storeCells (⟨l₀.c, l₀.o + (off + m * sz), none⟩ : Addr) []).run P w = .ok () w := rfl
                      rw [h1] at hrun
                      injection hrun with _ h2
                      exact h2.symm
                    subst hw
                    exact ⟨ρ, _, w', append_fits ht ht' hu hd hni hsz hlen (by omega) (hfirst w' rfl) (base := some _) rfl, .slice hl hex (fun he => ⟨hcap, .inr ⟨by omega, hzero.2⟩⟩) hN (by omega), hstp⟩
                · rename_i hfit
                  split at h
                  · rename_i hroom
                    rw [Option.bind_eq_some_iff] at h
                    obtain ⟨old, hold, h⟩ := h
                    obtain ⟨old', hfo, horel, holen⟩ := firstCells_old (P := P) (k := cap') hr hold hl hex hin
                    have hsum : old.length + new.length = (m + n) * sz := by rw [holen, hnlen, Nat.add_mul]
                    unfold appendGrow at h
                    split at h
                    · have hce := (hex rfl).1
                      obtain ⟨newCap, hnc, hrun⟩ := append_grows (tys := tys) (ty := ty) (w := w) (n := n) (x := x') (old := old') (new := new') ht ht' hu hd hni hsz hi rfl hlen hzr (by omega) c2 hroom hfo hfirst
                      obtain ⟨l, hstp, hv⟩ := grown_run (e := e) hr hid horel hnrel hsum hzs newCap hnc true
                      have hh : some (grown σ id sz (m + n) (app old new) true) = some (v, σ') := h
                      cases hh
                      exact ⟨_, _, _, hrun, hv, hstp⟩
                    · split at h
                      · rename_i pl hpl hsc
                        rw [allOf_eq] at hsc
                        have hh : some (grown (σ.kill b) id sz (m + n) (app old new) pl) = some (v, σ') := h
                        cases hh
                        by_cases hin' : m + n ≤ cap'
                        · have hz : off' = l₀.o + off ∨ m = 0 := (hin rfl).2.imp (fun h => h) And.left
                          obtain ⟨w', hst, hstp⟩ := inplace_run (P := P) hr hid hold hl hz hpl hN hin' hnrel hsc hnlen
                          exact ⟨_, _, w', append_fits ht ht' hu hd hni hsz hlen hin' (hfirst w rfl) (base := some _) hst,
                            .slice (l := ⟨l₀.c, off', l₀.N⟩) (upd_self _ _ _) (by simp) (fun _ => ⟨hin', .inl rfl⟩) (by simpa using hN) (Nat.le_refl _), hstp⟩
                        · obtain ⟨newCap, hnc, hrun⟩ := append_grows (tys := tys) (ty := ty) (w := w) (n := n) (x := x') (old := old') (new := new') ht ht' hu hd hni hsz hi rfl hlen hzr hin' c2 hroom hfo hfirst
                          have hk := Stp.kill (ids := fun b => b = id) hr b
                          obtain ⟨l, hstp, hv⟩ := grown_run (e := e) hk.r hid horel hnrel hsum hzs newCap hnc pl
                          exact ⟨_, _, _, hrun, hv, hk.trans hstp⟩
                      · cases h
                  · cases h
          · rename_i es esz
            split at h
            · cases h
            · rename_i hne
              have hne : sz = esz := by simpa using hne
              subst hne
              split at h
              · rename_i hn0
                subst hn0
                cases h
                have hnil : new' = [] := by
                  have := hnrel.length
                  rw [hnlen, Nat.zero_mul] at this
                  exact List.eq_nil_of_length_eq_zero this.symm
                subst hnil
                cases hs with
                | lst hu' hx' hi' hc' he' => exact ⟨ρ, _, w, append_fits ht ht' hu hd hni hsz hlen (by omega) (hfirst w rfl) (base := some _) rfl, .lst hu' hx' hi' (by omega) he', Stp.refl hr⟩
                | lstnil => exact ⟨ρ, _, w, append_fits ht ht' hu hd hni hsz hlen (by omega) (hfirst w rfl) (base := none) rfl, .lstnil, Stp.refl hr⟩
                | lstzero he' => exact ⟨ρ, _, w, append_fits ht ht' hu hd hni hsz hlen (by omega) (hfirst w rfl) (base := some _) rfl, .lstzero he', Stp.refl hr⟩
              · rename_i hn0
                split at h
                · rename_i hroom
                  rw [len_eq] at h hroom
                  have hh : some (grown σ id sz (es.length + n) (app (flatCells es) new) true) = some (v, σ') := h
                  cases hh
                  cases hs with
                  | lst hu' hx' hi' hc' he' =>
                    rename_i c off cap xs
                    have hce := he' rfl
                    have hl := flatCells_length hu'
                    have hxl := hx'.length
                    obtain ⟨newCap, hnc, hrun⟩ := append_grows (tys := tys) (ty := ty) (w := w) (n := n) (x := x') (old := xs) (new := new') (s := .slice (some ⟨c, off, none⟩) es.length cap) ht ht' hu hd hni hsz hi rfl hlen hzr (by omega) c2 hroom
                      (fun w₁ hw => by
                        have := hr.loadImm (P := P) hi' w₁ hw
                        rw [← hxl, hl] at this
                        simpa [Builtin.firstCells] using this) hfirst
                    obtain ⟨l, hstp, hv⟩ := grown_run (e := e) hr hid hx' hnrel (need := es.length + n) (by rw [hl, hnlen, Nat.add_mul]) hzs newCap hnc true
                    exact ⟨_, _, _, hrun, hv, hstp⟩
                  | lstnil =>
                    obtain ⟨newCap, hnc, hrun⟩ := append_grows (tys := tys) (ty := ty) (w := w) (n := n) (x := x') (old := []) (new := new') (s := .slice none 0 0) ht ht' hu hd hni hsz hi rfl hlen hzr (by omega) c2 hroom
                      (fun w₁ hw => by simp [Builtin.firstCells]) hfirst
                    obtain ⟨l, hstp, hv⟩ := grown_run (e := e) hr hid (old := flatCells []) (old' := []) .nil hnrel (need := 0 + n) (by simpa [flatCells] using hnlen) hzs newCap hnc true
                    exact ⟨_, _, _, hrun, hv, hstp⟩
                  | lstzero he' =>
                    rename_i cap a
                    have h0 := he' rfl
                    subst h0
                    obtain ⟨newCap, hnc, hrun⟩ := append_grows (tys := tys) (ty := ty) (w := w) (n := n) (x := x') (old := []) (new := new') (s := .slice (some a) 0 0) ht ht' hu hd hni hsz hi rfl hlen hzr (by omega) c2 hroom
                      (fun w₁ hw => by simp [Builtin.firstCells, loadCells, loadCellsFrom]) hfirst
                    obtain ⟨l, hstp, hv⟩ := grown_run (e := e) hr hid (old := flatCells []) (old' := []) .nil hnrel (need := 0 + n) (by simpa [flatCells] using hnlen) hzs newCap hnc true
                    exact ⟨_, _, _, hrun, hv, hstp⟩
                · cases h
          · cases h
    · cases h
  · cases h

theorem flatCells_get {es : List V} {esz : Nat} (h : ∀ v ∈ es, v.cells.length = esz) {i : Nat} {u : V} (hi : es[i]? = some u) {k : Nat} (hk : k < esz) : (flatCells es)[i * esz + k]? = u.cells[k]? := by
  induction es generalizing i with
  | nil => simp at hi
  | cons v es ih =>
    have hv := h v List.mem_cons_self
    rw [flatCells_cons]
    cases i with
    | zero =>
      simp at hi; subst hi
      rw [Nat.zero_mul, Nat.zero_add, List.getElem?_append_left (by omega)]
    | succ i =>
      rw [List.getElem?_append_right (by rw [hv, Nat.add_mul]; omega), hv, show (i + 1) * esz + k - esz = i * esz + k by rw [Nat.add_mul]; omega]
      exact ih (fun u hu => h u (List.mem_cons_of_mem _ hu)) (by simpa using hi)
theorem VRel.arr_cells [Env] {m : Nat} {g : Nat → V} {esz : Nat} {ex : Bool} {x : Value} (h : VRel ρ (.lst (arrL m g) esz ex) x) : ∀ i, i < m → (g i).cells.length = esz := by
  intro i hi
  have hne : arrL m g ≠ [] := fun e => by have := arrL_length m g; rw [e] at this; simp at this; omega
  generalize he : arrL m g = es at h
  cases h with
  | lst hu => exact hu (g i) (by rw [← he]; exact List.mem_of_getElem? (arrL_get hi))
  | lstnil => exact absurd he hne
  | lstzero => exact absurd he hne
/-- A new row of cells, told as a row of elements. -/
theorem grown_row [Env] {ρ' : Ren} {w' : World} {sz m : Nat} {g : Nat → V} {cs : List V} (hcs : cs = flatCells (arrL m g)) (h : Stp (fun b => b = id) ρ σ w ρ' (grown σ id sz m cs true).2 w') (hu : ∀ i, i < m → (g i).cells.length = sz) :
    Stp (fun b => b = id) ρ σ w ρ' (σ.new id (.row m g sz true)) w' := by
  subst hcs
  have hmem : ∀ v ∈ arrL m g, v.cells.length = sz := by
    intro v hv
    obtain ⟨i, hi, rfl⟩ := List.getElem_of_mem hv
    rw [arrL_length] at hi
    have := arrL_get (f := g) hi
    rw [List.getElem?_eq_getElem (by rw [arrL_length]; exact hi)] at this
    rw [Option.some.inj this]; exact hu i hi
  refine h.toRow (b := id) (n := m) (f := g) (esz := sz) (z := []) (t := putAll (flatCells (arrL m g)) .leaf 0) (p := true) (by show (σ.new id _).heap.get id = _; rw [new_heap, Trie.get_put, if_pos rfl]) hu (fun i hi k v hk => ?_) (fun b' => ?_) (by show (σ.new id _).next = (σ.new id _).next; rw [new_next, new_next])
  · have hks : k < sz := by rw [← hu i hi]; exact (List.getElem?_eq_some_iff.1 hk).1
    have hlt : i * sz + k < m * sz := by have := mul_room hi (Nat.succ_le_of_lt hks); omega
    unfold cellOf
    have hb : Nat.blt (i * sz + k) (m * sz) = true := by rw [Nat.blt_eq]; exact hlt
    rw [hb]
    dsimp only
    have hfl : (flatCells (arrL m g)).length = m * sz := by rw [flatCells_length hmem, arrL_length]
    rw [putAll_get, if_pos ⟨Nat.zero_le _, by rw [hfl]; omega⟩, Nat.sub_zero, flatCells_get hmem (arrL_get hi) hks, hk]
  · show (σ.new id _).heap.get b' = if b' = id then _ else (σ.new id _).heap.get b'
    rw [new_heap, new_heap, Trie.get_put, Trie.get_put]
    by_cases e : b' = id
    · rw [if_pos e, if_pos e]
    · rw [if_neg e, if_neg e, if_neg e]
theorem own_of_slice [Env] {ρ' : Ren} {m sz : Nat} {v' : Value} (hm : m ≠ 0) (h : VRel ρ' (.slice id 0 m m false sz) v') : VRel ρ' (.own id m sz) v' := by
  cases h with
  | slice hl hex hin hN hn =>
    obtain ⟨h1, h2⟩ := hin rfl
    rcases h2 with h2 | h2
    · subst h2; exact .own hl h1 (by simpa using hN)
    · exact absurd h2.1 hm
/-- Append of a row that never turns. -/
theorem appendArr_run [Env] (hr : R ρ σ w) (hid : ρ id = none) {tys : Array TypeId} {ty t t' : TypeId} (ht : tys[0]? = some t) (ht' : tys[1]? = some t') (hnt : intType P t' = false) {m esz : Nat} {g : Nat → V} {ex nn : Bool} {s v : V} {σ' : St}
    (h : appendArr P σ id t m g esz s = some (v, σ')) {s' x' : Value} (hs : VRel ρ s s') (hx : VRel ρ (.arr m g esz ex nn) x') :
    ∃ ρ' v' w', (Builtin.append_ tys ty #[s', x']).run P w = .ok v' w' ∧ VRel ρ' v v' ∧ Stp (fun b => b = id) ρ σ w ρ' σ' w' := by
  cases hx with
  | arr _ hx =>
  have hu := VRel.arr_cells hx
  unfold appendArr at h
  split at h
  · rename_i e hut
    split at h
    · rename_i sz by_ z hsz hby hz
      split at h
      · cases h
      · rename_i hcond
        rw [not_or, not_or, not_or] at hcond
        obtain ⟨c1, c2, c3, c4⟩ := hcond
        rw [ne_eq, Decidable.not_not] at c4
        subst c4
        have base : ∀ s₀, evalAppend P σ id t s₀ (.lst (arrL m g) sz ex) = appendTo σ id sz by_ m (flatCells (arrL m g)) s₀ := by
          intro s₀
          unfold evalAppend
          rw [hut]
          dsimp only
          rw [hsz, hby, hz]
          dsimp only
          rw [if_neg (by rw [not_or, not_or]; exact ⟨c1, c2, c3⟩)]
          unfold newCells
          dsimp only
          rw [if_pos rfl, len_eq, arrL_length]
        unfold appendRow at h
        split at h
        · split at h
          · rename_i hm
            refine append_run hr hid ht ht' hnt (x := .lst (arrL m g) sz ex) ?_ hs hx
            rw [base]; unfold appendTo; dsimp only; rw [if_pos hm]; exact h
          · rename_i hm
            split at h
            · rename_i hroom
              cases h
              obtain ⟨ρ', v', w', hrun, hv, hst⟩ := append_run hr hid ht ht' hnt (x := .lst (arrL m g) sz ex) (s := .nilslice) (v := (grown σ id sz m (flatCells (arrL m g)) true).1) (σ' := (grown σ id sz m (flatCells (arrL m g)) true).2) (by
                rw [base]; unfold appendTo; dsimp only; rw [if_neg hm, if_pos hroom]) hs hx
              exact ⟨ρ', v', w', hrun, own_of_slice hm hv, grown_row rfl hst hu⟩
            · cases h
        · rename_i n f esz' nn
          split at h
          · cases h
          · rename_i hn
            rw [not_or, ne_eq, Decidable.not_not, ne_eq, Decidable.not_not] at hn
            obtain ⟨rfl, rfl⟩ := hn
            cases hs with
            | arr _ hs =>
            have h0 : arrL 0 f = [] := rfl
            rw [h0] at hs
            split at h
            · rename_i hm
              cases h
              obtain ⟨ρ', v', w', hrun, hv, hst⟩ := append_run hr hid ht ht' hnt (x := .lst (arrL m g) sz ex) (s := .lst [] sz true) (v := .lst [] sz true) (σ' := σ) (by
                rw [base]; unfold appendTo; dsimp only; rw [if_neg (by simp), if_pos hm]) hs hx
              exact ⟨ρ', v', w', hrun, .arr (fun h => by cases h) hv, hst⟩
            · rename_i hm
              split at h
              · rename_i hroom
                cases h
                obtain ⟨ρ', v', w', hrun, hv, hst⟩ := append_run hr hid ht ht' hnt (x := .lst (arrL m g) sz ex) (s := .lst [] sz true) (v := (grown σ id sz m (flatCells (arrL m g)) true).1) (σ' := (grown σ id sz m (flatCells (arrL m g)) true).2) (by
                  rw [base]; unfold appendTo; dsimp only
                  rw [if_neg (by simp), if_neg hm, show len ([] : List V) + m = m from Nat.zero_add m, if_pos hroom]; rfl) hs hx
                exact ⟨ρ', v', w', hrun, own_of_slice hm hv, grown_row rfl hst hu⟩
              · cases h
        · rename_i b off n cap esz'
          split at h
          case h_2 => cases h
          rename_i hcs
          split at h
          · cases h
          · rename_i hn
            rw [not_or, not_or, ne_eq, Decidable.not_not, ne_eq, Decidable.not_not, ne_eq, Decidable.not_not] at hn
            obtain ⟨rfl, rfl, rfl⟩ := hn
            split at h
            · rename_i hm
              cases h
              exact append_run hr hid ht ht' hnt (x := .lst (arrL m g) sz ex) (s := .slice b off 0 0 true sz) (v := .slice b off 0 0 true sz) (σ' := σ) (by
                rw [base]; unfold appendTo; dsimp only; rw [if_neg (by simp), if_pos hm]) hs hx
            · rename_i hm
              split at h
              · rename_i hroom
                cases h
                obtain ⟨ρ', v', w', hrun, hv, hst⟩ := append_run hr hid ht ht' hnt (x := .lst (arrL m g) sz ex) (s := .slice b off 0 0 true sz) (v := (grown σ id sz m (flatCells (arrL m g)) true).1) (σ' := (grown σ id sz m (flatCells (arrL m g)) true).2) (by
                  rw [base]; unfold appendTo; dsimp only
                  rw [if_neg (by simp), if_neg hm, if_neg (by omega), Nat.zero_add, if_pos hroom, Nat.zero_mul, hcs]; rfl) hs hx
                exact ⟨ρ', v', w', hrun, own_of_slice hm hv, grown_row rfl hst hu⟩
              · cases h
        · cases h
    · cases h
  · cases h
theorem arrL_cells {n : Nat} {g : Nat → V} {esz : Nat} (hu : ∀ i, i < n → (g i).cells.length = esz) : ∀ v ∈ arrL n g, v.cells.length = esz := by
  intro v hv
  obtain ⟨i, hi, rfl⟩ := List.getElem_of_mem hv
  rw [arrL_length] at hi
  have := arrL_get (f := g) hi
  rw [List.getElem?_eq_getElem (by rw [arrL_length]; exact hi)] at this
  rw [Option.some.inj this]; exact hu i hi
theorem row_at [Env] {l : Loc} {n : Nat} {f : Nat → V} {esz : Nat} {p : Bool} (h : BlkOk ρ w l (.row n f esz p)) {k : Nat} {v : V} (hk : (flatCells (arrL n f))[k]? = some v) : ∃ x, w.cell? ⟨l.c, l.o + k, none⟩ = some x ∧ VRel ρ v x := by
  cases h with
  | row hs hn hu hv hf hp =>
    have hmem := arrL_cells hu
    have hlt : k < n * esz := by
      have := (List.getElem?_eq_some_iff.1 hk).1
      rw [flatCells_length hmem, arrL_length] at this; exact this
    have h0 : 0 < esz := by
      rcases Nat.eq_zero_or_pos esz with h | h
      · subst h; simp at hlt
      · exact h
    have hi : k / esz < n := (Nat.div_lt_iff_lt_mul h0).2 hlt
    have hk' : k % esz < esz := Nat.mod_lt _ h0
    have e : k / esz * esz + k % esz = k := by rw [Nat.mul_comm]; exact Nat.div_add_mod k esz
    have hg := flatCells_get hmem (arrL_get (f := f) hi) hk'
    rw [e, hk] at hg
    obtain ⟨x, hx, hr⟩ := hv _ hi _ v hg.symm
    rw [e] at hx
    exact ⟨x, hx, hr⟩
/-- A row of elements, told as cells. -/
theorem Stp.toCells [Env] {ids : Nat → Prop} {ρ₀ : Ren} {σ₀ : St} {w₀ : World} (h : Stp ids ρ₀ σ₀ w₀ ρ σ w) {b n esz : Nat} {f : Nat → V} {p : Bool} (hb : σ.heap.get b = some (.row n f esz p))
    {σ' : St} (hσ : ∀ b', σ'.heap.get b' = if b' = b then some (.cells (n * esz) [] (putAll (flatCells (arrL n f)) .leaf 0) p false) else σ.heap.get b') (hn : σ'.next = σ.next) : Stp ids ρ₀ σ₀ w₀ ρ σ' w := by
  have hd : ∀ b' k, σ'.heap.get b' = some k → ∃ k', σ.heap.get b' = some k' := by
    intro b' k hk
    rw [hσ] at hk
    by_cases e : b' = b
    · subst e; exact ⟨_, hb⟩
    · rw [if_neg e] at hk; exact ⟨_, hk⟩
  have hwr : ∀ c, Wr ρ σ' c → Wr ρ σ c := by
    rintro c ⟨b', k, l, h1, _, h3, h4⟩
    obtain ⟨k', h1'⟩ := hd b' k h1
    exact ⟨b', k', l, h1', rfl, h3, h4⟩
  refine ⟨⟨fun b' k hk => ?_, fun b₁ b₂ k₁ k₂ l₁ l₂ h1 h2 => ?_, fun b' hb' => h.r.fresh b' (by rw [← hn]; exact hb'), h.r.valid, fun c o x hx => ⟨(h.r.imm c o x hx).1, fun hw => (h.r.imm c o x hx).2 (hwr c hw)⟩, h.r.laid⟩,
    h.le, by rw [hn]; exact h.next, h.dom, h.size, h.os, h.tape, h.output, h.keep, fun c hc hw => h.wr c hc (hwr c hw), fun b' k hk => ?_, h.idom⟩
  · rw [hσ] at hk
    by_cases e : b' = b
    · subst e
      rw [if_pos rfl] at hk
      cases hk
      obtain ⟨l, hl, hok⟩ := h.r.blk _ _ hb
      refine ⟨l, hl, ?_⟩
      have hat := @row_at ρ w _ l n f esz p hok
      cases hok with
      | row hs hn hu hv hf hp =>
        refine .cells hs hn (fun i v hi => ?_) (fun _ => hf) hp
        rcases cellOf_putAll hi with ⟨_, _, h3⟩ | ⟨_, h2⟩
        · exact hat h3
        · unfold cellOf at h2
          split at h2
          · rw [Trie.get_leaf] at h2; simp [nth_eq] at h2
          · cases h2
    · rw [if_neg e] at hk; exact h.r.blk b' k hk
  · obtain ⟨k₁', h1'⟩ := hd _ _ h1
    obtain ⟨k₂', h2'⟩ := hd _ _ h2
    exact h.r.inj _ _ _ _ _ _ h1' h2'
  · obtain ⟨k', hk'⟩ := hd _ _ hk
    exact h.hdom b' k' hk'
theorem cellsOf_mk {n : Nat} {z : List V} {t : Trie V} : ∀ (vs : List V) (off : Nat), (∀ i v, vs[i]? = some v → cellOf n z t (off + i) = some v) → cellsOf n z t vs.length off = some vs
  | [], off, _ => rfl
  | v :: vs, off, h => by
    show consO (cellOf n z t off) (cellsOf n z t vs.length (Nat.add off 1)) = _
    rw [show cellOf n z t off = some v from h 0 v rfl, cellsOf_mk vs (Nat.add off 1) fun i u hu => by
      have := h (i + 1) u (by simpa using hu)
      rwa [show off + (i + 1) = Nat.add off 1 + i by show off + (i + 1) = off + 1 + i; omega] at this]
    rfl
theorem cellsOf_putAll (vs : List V) : cellsOf vs.length [] (putAll vs .leaf 0) vs.length 0 = some vs :=
  cellsOf_mk vs 0 fun i v hi => by
    have hlt := (List.getElem?_eq_some_iff.1 hi).1
    unfold cellOf
    rw [Nat.zero_add, show Nat.blt i vs.length = true by rw [Nat.blt_eq]; exact hlt]
    dsimp only
    rw [putAll_get, if_pos ⟨Nat.zero_le _, by omega⟩, Nat.sub_zero, hi]
theorem catF_eq (n : Nat) (f g : Nat → V) (j : Nat) : catF n f g j = if j < n then f j else g (j - n) := by
  unfold catF
  by_cases h : j < n
  · rw [if_pos h, show Nat.blt j n = true by rw [Nat.blt_eq]; exact h]
  · rw [if_neg h]
    cases hb : Nat.blt j n with
    | false => rfl
    | true => rw [Nat.blt_eq] at hb; exact absurd hb h
theorem arrL_cat (n m : Nat) (f g : Nat → V) : arrL (n + m) (catF n f g) = arrL n f ++ arrL m g := by
  apply List.ext_getElem?
  intro i
  by_cases hi : i < n
  · rw [List.getElem?_append_left (by rw [arrL_length]; exact hi), arrL_get (by omega), arrL_get hi, catF_eq, if_pos hi]
  · rw [List.getElem?_append_right (by rw [arrL_length]; omega), arrL_length]
    by_cases e : i < n + m
    · rw [arrL_get e, catF_eq, if_neg hi, arrL_get (by omega)]
    · rw [List.getElem?_eq_none (by rw [arrL_length]; omega), List.getElem?_eq_none (by rw [arrL_length]; omega)]
theorem oneOf_cells {σ : St} {sz : Nat} {x : V} {m : Nat} {g : Nat → V} {new : List V} (h : oneOf σ sz x = some (m, g, new)) :
    m ≠ 0 ∧ newCells σ sz x = some (m, new) ∧ flatCells (arrL m g) = new := by
  unfold oneOf at h
  split at h
  · split at h
    · rename_i hn hc
      cases h
      have hn := Nat.eq_of_beq_eq_true hn
      subst hn
      refine ⟨by omega, ?_, ?_⟩
      · show (σ.cells _ _ (1 * sz)).map _ = _
        rw [hc]; rfl
      · show app new [] = new
        rw [app_eq, List.append_nil]
    · cases h
  · rename_i es esz ex
    split at h
    · rename_i hb
      rw [Bool.and_eq_true] at hb
      cases h
      have h1 := Nat.eq_of_beq_eq_true hb.1
      have h2 := hb.2
      rw [Nat.blt_eq] at h2
      subst h1
      refine ⟨by omega, ?_, ?_⟩
      · show (if esz = esz then some (len es, flatCells es) else none) = _
        rw [if_pos rfl]
      · congr 1
        apply List.ext_getElem?
        intro i
        by_cases hi : i < es.length
        · rw [arrL_get (by rw [len_eq]; exact hi)]; unfold lstF; rw [nth_eq, List.getElem?_eq_getElem hi]
        · rw [List.getElem?_eq_none (by rw [arrL_length, len_eq]; omega), List.getElem?_eq_none (by omega)]
    · cases h
  · cases h
theorem newCells_killed {σ σc : St} {b sz : Nat} {x : V} {m : Nat} {new : List V} (h : newCells σ sz x = some (m, new)) (hget : ∀ b', b' ≠ b → σc.heap.get b' = σ.heap.get b') (hb : ∃ n f z p, σ.heap.get b = some (.row n f z p)) : newCells σc sz x = some (m, new) := by
  unfold newCells at h ⊢
  split at h
  · exact h
  · rename_i bx off n cap ex esz
    rw [Option.map_eq_some_iff] at h
    obtain ⟨l, hl, he⟩ := h
    have : σc.cells bx off (n * sz) = σ.cells bx off (n * sz) := by
      unfold St.cells
      rw [hget bx fun e => ?_]
      subst e
      obtain ⟨n', f, z, p, hb⟩ := hb
      unfold St.cells at hl
      rw [hb] at hl; cases hl
    rw [this, hl, Option.map_some]
    exact congrArg some he
  · exact h
  · exact h
  · cases h
theorem oneOf_size [Env] {sz : Nat} {x : V} {m : Nat} {g : Nat → V} {new : List V} (h : oneOf σ sz x = some (m, g, new)) {x' : Value} (hx : VRel ρ x x') (hn : new.length = m * sz) : ∀ i, i < m → (g i).cells.length = sz := by
  unfold oneOf at h
  split at h
  · split at h
    · cases h
      intro i _
      show new.length = sz
      omega
    · cases h
  · rename_i es esz ex
    split at h
    · rename_i hb
      rw [Bool.and_eq_true] at hb
      cases h
      have h1 := Nat.eq_of_beq_eq_true hb.1
      subst h1
      intro i hi
      rw [len_eq] at hi
      unfold lstF
      rw [nth_eq, List.getElem?_eq_getElem hi]
      have : ∀ v ∈ es, v.cells.length = esz := by
        cases hx with
        | lst hu => exact hu
        | lstnil => exact fun v hv => by cases hv
        | lstzero => exact fun v hv => by cases hv
      exact this _ (List.getElem_mem hi)
    · cases h
  · cases h
/-- Elements appended to a row of its own. -/
theorem appendOne_run [Env] (hr : R ρ σ w) (hid : ρ id = none) {tys : Array TypeId} {ty t t' : TypeId} (ht : tys[0]? = some t) (ht' : tys[1]? = some t') (hnt : intType P t' = false) {b n esz : Nat} {v x : V} {σ' : St}
    (h : appendOne P σ id t b n esz x = some (v, σ')) {s' x' : Value} (hs : VRel ρ (.own b n esz) s') (hx : VRel ρ x x') :
    ∃ ρ' v' w', (Builtin.append_ tys ty #[s', x']).run P w = .ok v' w' ∧ VRel ρ' v v' ∧ Stp (fun b => b = id) ρ σ w ρ' σ' w' := by
  unfold appendOne at h
  split at h
  · rename_i e hut
    split at h
    · rename_i sz by_ z hsz hby hz
      split at h
      · cases h
      · rename_i hcond
        rw [not_or, not_or, not_or] at hcond
        obtain ⟨c1, c2, c3, c4⟩ := hcond
        rw [ne_eq, Decidable.not_not] at c4
        subst c4
        split at h
        · rename_i m g new hnew
          obtain ⟨hm0, hnc, hfg⟩ := oneOf_cells hnew
          unfold appendOwn at h
          split at h
          · rename_i n' f esz p hb
            split at h
            · rename_i hc
              obtain ⟨rfl, rfl, _, hroom, hsc⟩ := hc
              cases h
              let cs := flatCells (arrL n' f)
              let σc := σ.set b (.cells (n' * esz) [] (putAll cs .leaf 0) p false)
              have hget : ∀ b', σc.heap.get b' = if b' = b then some (.cells (n' * esz) [] (putAll cs .leaf 0) p false) else σ.heap.get b' := fun b' => by
                show (σ.set b _).heap.get b' = _
                rw [set_heap, Trie.get_put]
              have hst := Stp.toCells (σ' := σc) (Stp.refl (ids := fun b => b = id) hr) hb hget (by show (σ.set b _).next = _; rw [set_next])
              have hsl : VRel ρ (.slice b 0 n' n' false esz) s' := by
                cases hs with
                | own hl hc hN => exact .slice hl (fun h => by cases h) (fun _ => ⟨hc, .inl rfl⟩) hN (Nat.le_refl _)
              obtain ⟨l, hl, hok⟩ := hr.blk _ _ hb
              have hu : ∀ i, i < n' → (f i).cells.length = esz := by cases hok with | row hs hn hu => exact hu
              have hcl : cs.length = n' * esz := by show (flatCells _).length = _; rw [flatCells_length (arrL_cells hu), arrL_length]
              obtain ⟨_, _, _, _, hnl⟩ := newCells_run (P := P) hr hnc hx
              have hev : evalAppend P σc id t (.slice b 0 n' n' false esz) x = some (grown (σc.kill b) id esz (n' + m) (app cs new) p) := by
                unfold evalAppend
                rw [hut]
                dsimp only
                rw [hsz, hby, hz]
                dsimp only
                rw [if_neg (by rw [not_or, not_or]; exact ⟨c1, c2, c3⟩)]
                have h1 : newCells σc esz x = some (m, new) := newCells_killed hnc (fun b' e => by rw [hget, if_neg e]) ⟨_, _, _, _, hb⟩
                rw [h1]
                show appendTo σc id esz by_ m new (.slice b 0 n' n' false esz) = _
                unfold appendTo
                dsimp only
                rw [if_neg (by simp), if_neg hm0, if_neg (by omega), if_pos hroom]
                have h2 : σc.cells b 0 (n' * esz) = some cs := by
                  unfold St.cells
                  rw [hget, if_pos rfl]
                  show cellsOf (n' * esz) [] (putAll cs .leaf 0) (n' * esz) 0 = some cs
                  rw [← hcl]
                  exact cellsOf_putAll cs
                rw [h2]
                show appendGrow σc id esz b false (n' + m) new cs = _
                unfold appendGrow
                dsimp only
                have h3 : plainRow σc b = some p := by
                  unfold plainRow
                  rw [hget, if_pos rfl]
                rw [h3, hsc]
              obtain ⟨ρ', v', w', hrun, hv, hst2⟩ := append_run hst.r hid ht ht' hnt hev hsl hx
              refine ⟨ρ', v', w', hrun, own_of_slice (by omega) hv, hst.trans ?_⟩
              have hfl : flatCells (arrL (n' + m) (catF n' f g)) = app cs new := by
                rw [arrL_cat, flatCells_append, app_eq, hfg]
              have hug : ∀ i, i < m → (g i).cells.length = esz := oneOf_size hnew hx hnl
              have hu' : ∀ i, i < n' + m → (catF n' f g i).cells.length = esz := by
                intro i hi
                rw [catF_eq]
                by_cases h : i < n'
                · rw [if_pos h]; exact hu i h
                · rw [if_neg h]; exact hug _ (by omega)
              refine hst2.toRow (b := id) (n := n' + m) (f := catF n' f g) (esz := esz) (z := []) (t := putAll (app cs new) .leaf 0) (p := p) (by show ((σc.kill b).new id _).heap.get id = _; rw [new_heap, Trie.get_put, if_pos rfl]) hu' (fun i hi k v hk => ?_) (fun b' => ?_) (by show ((σ.kill b).new id _).next = ((σc.kill b).new id _).next; rw [new_next, new_next, kill_next, kill_next]; show max σ.next (id + 1) = max (σ.set b _).next (id + 1); rw [set_next])
              · have hks : k < esz := by rw [← hu' i hi]; exact (List.getElem?_eq_some_iff.1 hk).1
                have hlt : i * esz + k < (n' + m) * esz := by have := mul_room hi (Nat.succ_le_of_lt hks); omega
                unfold cellOf
                have hbb : Nat.blt (i * esz + k) ((n' + m) * esz) = true := by rw [Nat.blt_eq]; exact hlt
                rw [hbb]
                dsimp only
                rw [putAll_get, ← hfl, if_pos ⟨Nat.zero_le _, by rw [flatCells_length (arrL_cells hu'), arrL_length]; omega⟩, Nat.sub_zero, flatCells_get (arrL_cells hu') (arrL_get hi) hks, hk]
              · show ((σ.kill b).new id _).heap.get b' = if b' = id then _ else ((σc.kill b).new id _).heap.get b'
                rw [new_heap, new_heap, Trie.get_put, Trie.get_put, kill_heap, kill_heap, Trie.get_put, Trie.get_put]
                by_cases e : b' = id
                · rw [if_pos e, if_pos e]
                · rw [if_neg e, if_neg e, if_neg e]
                  by_cases e2 : b' = b
                  · rw [if_pos e2, if_pos e2]
                  · rw [if_neg e2, if_neg e2, hget, if_neg e2]
            · cases h
          · cases h
        · cases h
    · cases h
  · cases h
theorem appendR_run [Env] (hr : R ρ σ w) (hid : ρ id = none) {tys : Array TypeId} {ty t t' : TypeId} (ht : tys[0]? = some t) (ht' : tys[1]? = some t') (hnt : intType P t' = false) {s x v : V} {σ' : St}
    (h : evalAppendR P σ id t s x = some (v, σ')) {s' x' : Value} (hs : VRel ρ s s') (hx : VRel ρ x x') :
    ∃ ρ' v' w', (Builtin.append_ tys ty #[s', x']).run P w = .ok v' w' ∧ VRel ρ' v v' ∧ Stp (fun b => b = id) ρ σ w ρ' σ' w' := by
  unfold evalAppendR at h
  split at h
  · exact appendArr_run hr hid ht ht' hnt h hs hx
  · split at h
    · exact appendOne_run hr hid ht ht' hnt h hs hx
    · exact append_run hr hid ht ht' hnt h hs hx


theorem zerosOf_rel [Env] {ρ : Ren} {z : V} {zv : Value} (h : VRel ρ z zv) {sz n : Nat} (hs : z.cells.length = sz) (h0 : sz ≠ 0) : VsRel ρ (zerosOf sz n z.cells) (Builtin.zeroCells zv.cells n).toList := by
  have hc := h.cells
  have hsz : zv.cells.size = sz := by rw [← hs, hc.length]; simp
  unfold zerosOf Builtin.zeroCells
  rw [hsz]
  generalize n * sz = m
  rw [Array.toList_map, Array.toList_range]
  generalize List.range m = l
  induction l with
  | nil => exact .nil
  | cons i l ih =>
    refine .cons ?_ ih
    have hi : i % sz < sz := Nat.mod_lt _ (by omega)
    obtain ⟨x, hx, hr⟩ := hc.get (i % sz) (show z.cells[i % sz]? = some _ from List.getElem?_eq_getElem (by omega))
    have e1 : z.cells.getD (i % sz) undefV = z.cells[i % sz]'(by omega) := by rw [List.getD_eq_getElem?_getD, List.getElem?_eq_getElem (by omega)]; rfl
    have e2 : zv.cells[i % sz]! = x := by
      rw [getElem!_pos zv.cells (i % sz) (by omega)]
      rw [Array.getElem?_toList, Array.getElem?_eq_getElem (by omega)] at hx
      exact Option.some.inj hx
    show VRel ρ (z.cells.getD (i % sz) undefV) (zv.cells[i % sz]!)
    rw [e1, e2]; exact hr

/-- 'append(nil, make([]T, n)...)': what the machine comes to. -/
theorem append_zeros [Env] (hr : R ρ σ w) (hid : ρ id = none) {tys : Array TypeId} {ty t t' : TypeId} (ht : tys[0]? = some t) (ht' : tys[1]? = some t') {s x v : V} {σ' : St}
    (h : appendZeros P σ id t t' s x = some (v, σ')) {s' x' : Value} (hs : VRel ρ s s') (hx : VRel ρ x x') :
    ∃ ρ' v' w', (Builtin.append_ tys ty #[s', x']).run P w = .ok v' w' ∧ VRel ρ' v v' ∧ Stp (fun b => b = id) ρ σ w ρ' σ' w' := by
  unfold appendZeros at h
  split at h
  · rename_i e kk hu hd
    split at h
    · rename_i n
      split at h
      · rename_i sz by_ z hsz hby hz
        split at h
        · cases h
        · rename_i hcond
          rw [not_or, not_or, not_or, not_or] at hcond
          obtain ⟨c1, c2, c3, c4, c5⟩ := hcond
          rw [len_eq, ne_eq, Decidable.not_not] at c3
          obtain ⟨i, hi, rfl⟩ := bytesT_run hby
          obtain ⟨zv, hzr, hzv⟩ := zeroT_run (P := P) hz ρ
          have hzs : zv.cells.size = sz := by rw [← c3, hzv.cells.length]; simp
          obtain ⟨N, rfl⟩ : ∃ N : Nat, n = (N : Int) := ⟨n.toNat, by omega⟩
          rw [Int.toNat_natCast] at h c5
          have hroom : N * i.bytes ≤ 1099511627776 := by omega
          have hpos : 1 ≤ i.bytes := by omega
          have hneed : N ≤ 1099511627776 := Nat.le_trans (Nat.le_mul_of_pos_right _ hpos) hroom
          have hcapn : Builtin.nextslicecap N 0 * i.bytes ≤ 2 ^ 48 := by
            have h1 := nextslicecap_le (need := N) (cap := 0) (by omega)
            have h2 : Builtin.nextslicecap N 0 * i.bytes ≤ (2 * N + 192) * i.bytes := Nat.mul_le_mul_right _ h1
            have h3 : (2 * N + 192) * i.bytes = 2 * (N * i.bytes) + 192 * i.bytes := by rw [Nat.add_mul, Nat.mul_assoc]
            have h4 : i.bytes ≤ 1099511627776 := Nat.le_trans (Nat.le_mul_of_pos_left _ (by omega)) hroom
            omega
          cases hs; cases hx
          have hwrap : IntKind.i64.wrap (N : Int) = N := by
            have h1 : ((N : Int) % (2 ^ 64 : Int)) = N := Int.emod_eq_of_lt (by omega) (by omega)
            unfold IntKind.wrap
            simp only [IntKind.signed, IntKind.bits, h1, Bool.true_and]
            rw [if_neg (by simp; omega)]
          let q : Question := .appendCap (0 + N) 0 e
          have hcut : 0 + N ≤ q.cut (w.tape w.drawn q) := by simp [q, Question.cut]
          have hnew : VsRel ρ (zerosOf sz N z.cells) (Builtin.zeroCells zv.cells N).toList := zerosOf_rel hzv c3 c1
          have hnl : (zerosOf sz N z.cells).length = N * sz := by simp [zerosOf]
          obtain ⟨l, hstp, hv⟩ := grown_run (e := e) hr hid (old := []) (old' := []) .nil hnew (need := N) (by simpa using hnl) hzs (q.cut (w.tape w.drawn q)) (by simpa using hcut) true
          have hh : some (grown σ id sz N (zerosOf sz N z.cells) true) = some (v, σ') := h
          cases hh
          refine ⟨_, _, _, ?_, hv, hstp⟩
          have hg0 : (#[Value.slice none 0 0, Value.int .i64 (N : Int)] : Array Value)[0]? = some (Value.slice none 0 0) := rfl
          have hg1 : (#[Value.slice none 0 0, Value.int .i64 (N : Int)] : Array Value)[1]? = some (Value.int .i64 (N : Int)) := rfl
          have hl0 : ¬ ((N : Int) < 0) := by omega
          have hl1 : ¬ ((N : Int) * (i.bytes : Int) > 2 ^ 48) := by
            have : (N : Int) * (i.bytes : Int) = ((N * i.bytes : Nat) : Int) := by simp
            rw [this]; omega
          have hfit : ¬ (0 + N ≤ 0) := by omega
          have hmax : ¬ (((0 + N : Nat) : Int) > IntKind.i64.max ∧ (True ∨ i.bytes = 0)) := by rw [i64_max]; omega
          have hcap' : ¬ (Builtin.nextslicecap (0 + N) 0 * i.bytes > 2 ^ 48) := by rw [Nat.zero_add]; omega
          have hnz : ¬ (N * sz = 0) := by
            intro h0
            rcases Nat.mul_eq_zero.1 h0 with h0 | h0 <;> omega
          have hforced : q.forced = false := rfl
          simp only [Builtin.append_, ht, ht', hg0, hg1, Sem.run_bind, run_underlying hu, run_underlying hd, Result.andThen_ok, sizeT_run hsz, Sem.run_pure, if_true, asInt, asIntOf, hwrap, if_neg hl0, run_typeInfo hi, if_neg hl1, Int.toNat_natCast]
          rw [if_neg hfit]
          simp only [Sem.run_bind, run_typeInfo hi, Result.andThen_ok, if_neg hmax, if_neg hcap', run_choose, q, hforced, Bool.false_eq_true, if_false, run_askRoom, Bool.not_true, if_neg hnz, hzr, Sem.run_pure, Builtin.firstCells]
          simp only [Nat.zero_add, Array.toArray_toList, Array.empty_append] at *
          simp
          rfl
      · cases h
    · cases h
  · cases h

end
end Go.Ev
