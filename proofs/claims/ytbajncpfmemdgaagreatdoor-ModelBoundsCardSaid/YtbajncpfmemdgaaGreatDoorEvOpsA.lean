/- Each operation of the evaluator, first part: builds, parts, equality, numbers, texts. -/
import Derived.Test.YtbajncpfmemdgaaGreatDoorEvOps
import Derived.ChangeKeysEq
namespace Go.Ev
open Go
section
variable {P : Program} {ρ : Ren} {σ : St} {w : World} {id : Nat} {p : V × St → Prop}

theorem partV_run [Env] {t : TypeId} {cs : List V} {cs' : List Value} {off : Nat} {v : V} (hc : VsRel ρ cs cs') (h : partV P t cs off = some v) :
    ∃ v', (∀ w, (part t ⟨cs'⟩ off).run P w = .ok v' w) ∧ VRel ρ v v' := by
  unfold partV at h
  split at h
  · rename_i n hagg hsz
    split at h
    · rename_i hb
      cases h
      refine ⟨.agg ⟨(cs'.drop off).take n⟩, fun w => ?_, ?_⟩
      · simp only [part, Sem.run_bind, aggT_run hagg, Result.andThen_ok, if_true, sizeT_run hsz, Sem.run_pure]
        congr 2
        simp [List.extract_eq_take_drop]
      · rw [takeOf_eq, dropOf_eq]
        exact .agg ((hc.drop off).take n)
    · cases h
  · rename_i hagg
    rw [nth_eq] at h
    obtain ⟨x, hx, hr⟩ := hc.get off h
    refine ⟨x, fun w => ?_, hr⟩
    simp [part, aggT_run hagg, hx]
  · cases h

/-! ### Builds -/
theorem places_run [Env] {fs : List Field} {l : List (Nat × Nat)} (h : places P fs = some l) : ∀ w, (fs.mapM fun f => (Prod.mk f.offset <$> sizeOf f.type : Sem (Nat × Nat))).run P w = .ok l w := by
  induction fs generalizing l with
  | nil => intro w; simp only [places, Option.some.injEq] at h; subst h; rfl
  | cons f fs ih =>
    intro w
    simp only [places] at h
    cases hs : sizeT P f.type with
    | none => simp [hs] at h
    | some n =>
      cases hl : places P fs with
      | none => simp [hs, hl] at h
      | some r =>
        simp only [hs, hl, Option.some.injEq] at h
        subst h
        simp [List.mapM_cons, sizeT_run hs, ih hl]

theorem build_run [Env] {t : TypeId} {ps : List (Nat × V)} {ps' : List (Nat × Value)} {v : V} (hps : PartsRel ρ ps ps') (h : evalBuild P t ps = some v) :
    ∃ v', (∀ w, (Instr.build t ⟨ps'⟩).run P w = .ok v' w) ∧ VRel ρ v v' := by
  unfold evalBuild at h
  split at h
  · rename_i z fs hz hu
    split at h
    · rename_i pl hpl
      rw [Option.map_eq_some_iff] at h
      obtain ⟨cs, hcs, rfl⟩ := h
      obtain ⟨zv, hzr, hzv⟩ := zeroT_run hz ρ
      obtain ⟨r', hr', hrr⟩ := fill_run ps ps' z.cells zv.cells.toList hps hzv.cells hcs
      refine ⟨.agg ⟨r'⟩, fun w => ?_, .agg hrr⟩
      have hm : (fs.mapM fun f => (do pure (f.offset, ← sizeOf f.type) : Sem (Nat × Nat))).run P w = .ok pl.toArray w := by
        rw [Array.mapM_eq_mapM_toList]
        simp [places_run hpl w]
      have hpl' : (fun i => (pl.toArray)[i]?) = nth pl := by funext i; simp [nth_eq]
      simp only [Instr.build, Sem.run_bind, hzr, Result.andThen_ok, run_underlying hu, hm]
      rw [hpl', hr']
      rfl
    · cases h
  · rename_i z n e hz hu
    split at h
    · rename_i k hk
      rw [Option.map_eq_some_iff] at h
      obtain ⟨cs, hcs, rfl⟩ := h
      obtain ⟨zv, hzr, hzv⟩ := zeroT_run hz ρ
      obtain ⟨r', hr', hrr⟩ := fill_run ps ps' z.cells zv.cells.toList hps hzv.cells hcs
      refine ⟨.agg ⟨r'⟩, fun w => ?_, .agg hrr⟩
      simp only [Instr.build, Sem.run_bind, hzr, Result.andThen_ok, run_underlying hu, sizeT_run hk]
      rw [hr']
      rfl
    · cases h
  · cases h

theorem sliceE_run {t e : TypeId} (h : sliceE P t = some e) : P.underlying t = some (.slice e) := by
  unfold sliceE at h
  split at h
  · cases h; assumption
  · cases h
theorem arrayE_run {t e : TypeId} {n : Nat} (h : arrayE P t = some (n, e)) : P.underlying t = some (.array n e) := by
  unfold arrayE at h
  split at h
  · cases h; assumption
  · cases h
theorem mapT_run {t k e : TypeId} (h : mapT P t = some (k, e)) : P.underlying t = some (.map k e) := by
  unfold mapT at h
  split at h
  · cases h; assumption
  · cases h

/-! ### Equality -/
theorem beq_bytes (a b : List UInt8) : ((⟨⟨a⟩⟩ : ByteArray) == ⟨⟨b⟩⟩) = (a == b) := by
  show ((⟨a⟩ : Array UInt8) == ⟨b⟩) = _
  simp

def EqSound [Env] (P : Program) (ρ : Ren) (eq : TypeId → V → V → Option Bool) (d : Nat) : Prop :=
  ∀ t x y b, eq t x y = some b → ∀ x' y', VRel ρ x x' → VRel ρ y y' → ∀ n, d ≤ n → ∀ w, (Op.equalIn n t x' y').run P w = .ok b w

theorem fieldsEq_run [Env] {eq : TypeId → V → V → Option Bool} {d n : Nat} (he : EqSound P ρ eq d) (hn : d ≤ n) {xs ys : List V} {xs' ys' : List Value} (hx : VsRel ρ xs xs') (hy : VsRel ρ ys ys') :
    ∀ (fs : List Field) {b : Bool}, fieldsEq P eq xs ys fs = some b → ∀ w, (Op.eqFields n ⟨xs'⟩ ⟨ys'⟩ fs).run P w = .ok b w := by
  intro fs
  induction fs with
  | nil => intro b h w; have h' : some true = some b := h; cases h'; simp [Op.eqFields]
  | cons f fs ih =>
    intro b h w
    have h' : (match f.name == "_", partV P f.type xs f.offset, partV P f.type ys f.offset with
      | false, some a, some b => match eq f.type a b with
        | some true => fieldsEq P eq xs ys fs
        | some false => some false
        | none => none
      | _, _, _ => none) = some b := h
    split at h'
    · rename_i a c hname ha hc
      obtain ⟨a', har, hav⟩ := partV_run hx ha
      obtain ⟨c', hcr, hcv⟩ := partV_run hy hc
      have hname' : f.name ≠ "_" := by simpa using hname
      simp only [Op.eqFields, if_pos hname', Sem.run_bind, har, hcr, Result.andThen_ok]
      split at h'
      · rename_i heq
        simp only [he _ _ _ _ heq _ _ hav hcv n hn w, Result.andThen_ok]
        simpa using ih h' w
      · rename_i heq
        cases h'
        simp only [he _ _ _ _ heq _ _ hav hcv n hn w, Result.andThen_ok]
        simp
      · cases h'
    · cases h'

theorem flatEqS_run [Env] {eq : TypeId → V → V → Option Bool} {d n : Nat} (he : EqSound P ρ eq d) (hn : d ≤ n) {t : TypeId} {fs : Array Field} (hu : P.underlying t = some (.struct fs)) {x y : V} {b : Bool}
    (h : flatEqS P eq t fs.toList x y = some b) {x' y' : Value} (hx : VRel ρ x x') (hy : VRel ρ y y') (w : World) : (Op.equalIn (n + 1) t x' y').run P w = .ok b w := by
  unfold flatEqS at h
  split at h
  · cases h
  · rename_i hst
    split at h
    · split at h
      · cases hx with | agg hx => cases hy with | agg hy =>
        have hf : P.fieldsOf t = fs := by simp [Program.fieldsOf, hu]
        rw [run_equalIn_struct (P := P) w n t _ _ (by rw [hf]; exact hu) hst, hf]
        exact fieldsEq_run he hn hx hy _ h w
      · cases h
    · cases h

theorem flatEq_run [Env] : ∀ (d : Nat), EqSound P ρ (flatEq P d) d := by
  intro d
  induction d with
  | zero => intro t x y b h; cases h
  | succ d ih =>
    intro t x y b h x' y' hx hy n hn w
    obtain ⟨n, rfl⟩ : ∃ m, n = m + 1 := ⟨n - 1, by omega⟩
    have h' : flatEqT P (flatEq P d) t x y (P.underlying t) = some b := h
    unfold flatEqT at h'
    split at h'
    · rename_i hu
      split at h'
      · split at h'
        · cases h'; cases hx; cases hy; simp [Op.equalIn, run_underlying hu]
        · cases h'
      · cases h'
    · rename_i hu
      split at h'
      · split at h'
        · split at h'
          · rename_i hk; cases h'; cases hx; cases hy; simp [Op.equalIn, run_underlying hu, hk]
          · cases h'
        · cases h'
      · split at h'
        · rename_i i j
          obtain ⟨rfl, rfl, hi⟩ := anyEq_some h'
          cases hx; cases hy
          obtain ⟨q, hq⟩ := Env.int j hi
          rw [hq]; simp [Op.equalIn, run_underlying hu]
        · cases h'
      · cases h'
    · rename_i hu
      split at h'
      · split at h'
        · cases h'; cases hx; cases hy; simp [Op.equalIn, run_underlying hu, beq_bytes]
        · cases h'
      · cases h'
    · rename_i fs hu
      exact flatEqS_run ih (by omega) hu h' hx hy w
    · cases h'

theorem elemsEq_run [Env] {eq : TypeId → V → V → Option Bool} {d n : Nat} (he : EqSound P ρ eq d) (hn : d ≤ n) {e : TypeId} {sz : Nat} {xs ys : List V} {xs' ys' : List Value} (hx : VsRel ρ xs xs') (hy : VsRel ρ ys ys') :
    ∀ (k i : Nat) {b : Bool}, elemsEq P eq e sz xs ys k i = some b → ∀ w, (Op.eqItems n e sz ⟨xs'⟩ ⟨ys'⟩ (List.range' i k)).run P w = .ok b w := by
  intro k
  induction k with
  | zero => intro i b h w; have h' : some true = some b := h; cases h'; simp [Op.eqItems]
  | succ k ih =>
    intro i b h w
    have h' : (match partV P e xs (i * sz), partV P e ys (i * sz) with
      | some a, some b => match eq e a b with
        | some true => elemsEq P eq e sz xs ys k (i + 1)
        | some false => some false
        | none => none
      | _, _ => none) = some b := h
    rw [List.range'_succ]
    split at h'
    · rename_i a c ha hc
      obtain ⟨a', har, hav⟩ := partV_run hx ha
      obtain ⟨c', hcr, hcv⟩ := partV_run hy hc
      simp only [Op.eqItems, Sem.run_bind, har, hcr, Result.andThen_ok]
      split at h'
      · rename_i heq
        simp only [he _ _ _ _ heq _ _ hav hcv n hn w, Result.andThen_ok]
        simpa using ih (i + 1) h' w
      · rename_i heq
        cases h'
        simp only [he _ _ _ _ heq _ _ hav hcv n hn w, Result.andThen_ok]
        simp
      · cases h'
    · cases h'

theorem arrayEq_run [Env] {t e : TypeId} {k : Nat} (hu : P.underlying t = some (.array k e)) {x y : V} {b : Bool} (h : arrayEq P t e k x y = some b) {x' y' : Value} (hx : VRel ρ x x') (hy : VRel ρ y y') {n : Nat} (hn : flatDepth ≤ n) (w : World) :
    (Op.equalIn (n + 1) t x' y').run P w = .ok b w := by
  unfold arrayEq at h
  split at h
  · cases h
  · split at h
    · rename_i sz hsz
      split at h
      · split at h
        · cases hx with | agg hx => cases hy with | agg hy =>
          unfold sizeT at hsz
          rw [Option.map_eq_some_iff] at hsz
          obtain ⟨i, hi, hsz⟩ := hsz
          have hc : P.cellsOf e = sz := by unfold Program.cellsOf; rw [hi]; exact hsz
          rw [run_equalIn_array w n _ _ hu hi, hc, List.range_eq_range']
          exact elemsEq_run (flatEq_run flatDepth) hn hx hy k 0 h w
        · cases h
      · cases h
    · cases h

theorem sameAddr_same (a b : Addr) (h : a.block = b.block) (w : World) : (sameAddr a b).run P w = .ok (a == b) w := by
  unfold sameAddr
  rw [if_pos (by simpa using h)]
  rfl

theorem sameAddr_apart {a b : Addr} (h : a.block ≠ b.block) (ha : ∃ e n, w.shape? a.block = some (e, n)) (hb : ∃ e n, w.shape? b.block = some (e, n))
    (fa : ∀ i, w.frozen? ⟨a.block, i, none⟩ = false) (fb : ∀ i, w.frozen? ⟨b.block, i, none⟩ = false) (sa : a.spot = none) (sb : b.spot = none) : (sameAddr a b).run P w = .ok false w := by
  obtain ⟨e, n, ha⟩ := ha
  obtain ⟨e', n', hb⟩ := hb
  obtain ⟨ab, ao, as⟩ := a
  obtain ⟨bb, bo, bs⟩ := b
  simp only at h ha hb fa fb sa sb
  subst sa; subst sb
  have hne : (ab == bb) = false := by simpa using h
  simp [sameAddr, hne, fa, fb, noView, viewAt, ha, hb, mayBeOne, stringish]

theorem ptrEq_run [Env] (hr : R ρ σ w) {e b o b' o' : Nat} {r : Bool} (h : ptrEq P σ e b o b' o' = some r) {l l' : Loc} (hl : ρ b = some l) (hl' : ρ b' = some l') (n : Nat) {t : TypeId} (hu : P.underlying t = some (.pointer e)) :
    (Op.equalIn (n + 1) t (.pointer (some ⟨l.c, l.o + o, none⟩)) (.pointer (some ⟨l'.c, l'.o + o', none⟩))).run P w = .ok r w := by
  unfold ptrEq at h
  split at h
  · rename_i k hs
    split at h
    · rename_i hb
      have hb : b = b' := Nat.eq_of_beq_eq_true hb
      subst hb
      rw [hl] at hl'; cases hl'
      split at h
      · cases h
        simp [Op.equalIn, run_underlying hu, sizeT_run hs, sameAddr_same]
        rw [Bool.eq_iff_iff]
        simp
      · cases h
    · rename_i hb
      have hb : b ≠ b' := fun e => by subst e; rw [Nat.beq_refl] at hb; cases hb
      split at h
      · rename_i h1 h2
        cases h
        obtain ⟨⟨t1, s1⟩, _, _, _, f1⟩ := hr.cells h1 hl
        obtain ⟨⟨t2, s2⟩, _, _, _, f2⟩ := hr.cells h2 hl'
        have hc : l.c ≠ l'.c := fun ec => hb (hr.inj _ _ _ _ _ _ h1 h2 hl hl' ec)
        have := sameAddr_apart (P := P) (w := w) (a := ⟨l.c, l.o + o, none⟩) (b := ⟨l'.c, l'.o + o', none⟩) hc ⟨_, _, s1⟩ ⟨_, _, s2⟩ (f1 rfl) (f2 rfl) rfl rfl
        simp [Op.equalIn, run_underlying hu, sizeT_run hs, this]
      · cases h
  · cases h

theorem ifaceEq_run [Env] {tx ty : TypeId} {vx vy : V} {b : Bool} (h : ifaceEq P tx vx ty vy = some b) {vx' vy' : Value} (hx : VRel ρ vx vx') (hy : VRel ρ vy vy') {n : Nat} (hn : flatDepth ≤ n) {t : TypeId} {ms : Array (String × TypeId)}
    (hu : P.underlying t = some (.interface ms)) (w : World) : (Op.equalIn (n + 1) t (.iface tx vx') (.iface ty vy')).run P w = .ok b w := by
  unfold ifaceEq at h
  split at h
  · rename_i hb
    cases h
    have : tx ≠ ty := fun e => by subst e; rw [Nat.beq_refl] at hb; cases hb
    simp [Op.equalIn, run_underlying hu, this]
  · rename_i hb
    have hb : tx = ty := Nat.eq_of_beq_eq_true hb
    subst hb
    split at h
    · rename_i hc
      rw [Option.map_eq_some_iff] at hc
      obtain ⟨i, hi, hci⟩ := hc
      have := flatEq_run (P := P) (ρ := ρ) flatDepth _ _ _ _ h _ _ hx hy n hn w
      simp [Op.equalIn, run_underlying hu, run_typeInfo hi, hci, this]
    · cases h

/-- '==' at a type. -/
theorem evalEq_run [Env] (hr : R ρ σ w) {t : TypeId} {lit : Bool} {x y : V} {b : Bool} (h : evalEq P σ t lit x y = some b) {x' y' : Value} (hx : VRel ρ x x') (hy : VRel ρ y y') :
    (Op.equal t x' y').run P w = .ok b w := by
  unfold evalEq evalEqT at h
  unfold Op.equal
  obtain ⟨n, hn, h10⟩ : ∃ n, flatDepth ≤ n ∧ Op.maxDepth = n + 1 := ⟨9999, by decide, rfl⟩
  rw [h10]
  split at h
  · rename_i hu
    split at h
    · split at h
      · cases h; cases hx; cases hy; simp [Op.equalIn, run_underlying hu]
      · cases h
    · cases h
  · rename_i e hu
    split at h
    · split at h
      · cases h; cases hx; cases hy; simp [Op.equalIn, run_underlying hu]
      · cases h; cases hx; cases hy; simp [Op.equalIn, run_underlying hu]
      · cases h
    · split at h
      · cases h; cases hx; cases hy; simp [Op.equalIn, run_underlying hu]
      · cases hx with | ptr hl => cases hy with | ptr hl' => exact ptrEq_run hr h hl hl' n hu
      · cases h
    · cases h
  · rename_i ms hu
    split at h
    · split at h
      · split at h
        · cases h; cases hx; cases hy; simp [Op.equalIn, run_underlying hu]
        · cases h
      · cases h; cases hx; cases hy; simp [Op.equalIn, run_underlying hu]
      · cases h
    · split at h
      · cases h; cases hx; cases hy; simp [Op.equalIn, run_underlying hu]
      · cases hx with | iface hx => cases hy with | iface hy => exact ifaceEq_run h hx hy hn hu w
      · cases h
    · cases h
  · rename_i fs hu
    split at h
    · exact flatEqS_run (flatEq_run flatDepth) hn hu h hx hy w
    · cases h
  · rename_i k e hu
    exact arrayEq_run hu h hx hy hn w
  · rename_i hu
    split at h
    · split at h
      · cases h; cases hx; cases hy; simp [Op.equalIn, run_underlying hu]
      · cases h; cases hx; cases hy; simp [Op.equalIn, run_underlying hu]
      · cases h; cases hx; cases hy; simp [Op.equalIn, run_underlying hu]
      · cases h
    · split at h
      · cases h; cases hx; cases hy; simp [Op.equalIn, run_underlying hu]
      · cases h
    · split at h
      · cases h; cases hx; cases hy; simp [Op.equalIn, run_underlying hu]
      · cases h
    · split at h
      · cases h; cases hy
        cases hx with
        | arr hn hx =>
          obtain ⟨a, k, c, rfl⟩ := hn rfl
          simp [Op.equalIn, run_underlying hu]
      · cases h
    · cases h
  · rename_i hu
    split at h
    · split at h
      · cases h; cases hx; cases hy; simp [Op.equalIn, run_underlying hu]
      · cases h; cases hx; cases hy; simp [Op.equalIn, run_underlying hu]
      · cases h
    · split at h
      · cases h; cases hx; cases hy; simp [Op.equalIn, run_underlying hu]
      · cases h
    · cases h
  · rename_i hu
    split at h
    · split at h
      · cases h; cases hx; cases hy; simp [Op.equalIn, run_underlying hu]
      · cases h; cases hx; cases hy; simp [Op.equalIn, run_underlying hu]
      · cases h
    · split at h
      · cases h; cases hx; cases hy; simp [Op.equalIn, run_underlying hu]
      · cases h
    · cases h
  · cases h

end
end Go.Ev
