/- Each operation of the evaluator, fifth part: maps. -/
import Derived.Test.YtbajncpfmemdgaaGreatDoorEvOpsD
namespace Go.Ev
open Go
section
variable {P : Program} {ρ : Ren} {σ : St} {w : World} {id : Nat} {p : V × St → Prop}

theorem EntsRel.length [Env] {l : List (V × V × Nat)} {l' : List MapEntry} : EntsRel ρ l l' → l.length = l'.length
  | .nil => rfl
  | .cons _ hl => congrArg (· + 1) hl.length

/-! ### Keys -/
def KeySound [Env] (P : Program) (ρ : Ren) (ok : TypeId → V → Bool) (d : Nat) : Prop :=
  ∀ t x, ok t x = true → ∀ x', VRel ρ x x' → ∀ n, d ≤ n → ∀ em w, (Instr.checkKey em n t x').run P w = .ok () w

theorem keyOk_run [Env] : ∀ (d : Nat), KeySound P ρ (keyOk P d) d := by
  intro d
  induction d with
  | zero => intro t x h; cases h
  | succ d ih =>
    intro t x h x' hx n hn em w
    obtain ⟨n, rfl⟩ : ∃ m, n = m + 1 := ⟨n - 1, by omega⟩
    have h' : keyOkT P (keyOk P d) x (P.underlying t) = true := h
    unfold keyOkT at h'
    split at h'
    · rename_i hu; simp [Instr.checkKey, run_underlying hu]
    · rename_i hu; simp [Instr.checkKey, run_underlying hu]
    · rename_i hu; simp [Instr.checkKey, run_underlying hu]
    · rename_i fs hu
      split at h'
      · cases hx with | agg hx =>
        rename_i cs cs'
        simp only [Instr.checkKey, Sem.run_bind, run_underlying hu, Result.andThen_ok]
        rw [← Array.forIn_toList]
        generalize fs.toList = l at h'
        induction l with
        | nil => simp
        | cons f l ihl =>
          have h'' : (match f.name == "_", partV P f.type cs f.offset with
            | false, some a => match keyOk P d f.type a with
              | true => keyOkS P (keyOk P d) cs l
              | false => false
            | _, _ => false) = true := h'
          split at h''
          · rename_i a hname ha
            split at h''
            · rename_i hk
              obtain ⟨a', har, hav⟩ := partV_run (P := P) hx ha
              have hname' : f.name ≠ "_" := by simpa using hname
              simp only [List.forIn_cons, Sem.run_bind, if_pos hname', har, Result.andThen_ok, ih _ _ hk _ hav n (by omega) em w, Sem.run_pure]
              simpa using ihl h''
            · cases h''
          · cases h''
      · cases h'
    · cases h'

/-- What a search comes to. -/
inductive Found [Env] (ρ : Ren) (es' : List MapEntry) (i : Nat) : Option (Nat × V × V) → Option (Nat × Value) → Prop
  | none : Found ρ es' i none none
  | some {j : Nat} {k v : V} {e : MapEntry} (h : es'[j]? = some e) (hk : VRel ρ k e.key) (hv : VRel ρ v e.val) : Found ρ es' i (some (i + j, k, v)) (some (i + j, e.val))

theorem rel_int [Env] {x : V} {k : IntKind} {n : Int} (h : VRel ρ x (.int k n)) (hn : ∀ i, x ≠ .any i) : x = .int k n := by
  generalize hz : Value.int k n = z at h
  cases h <;> first
    | exact absurd rfl (hn _)
    | (rename_i h; obtain ⟨_, _, _, e⟩ := h.lst_slice rfl; subst e; cases hz; done)
    | (rename_i h; obtain ⟨_, _, _, e⟩ := h.lst_slice rfl; cases e; done)
    | (cases hz; done)
    | (cases hz; rfl)
theorem rel_bool [Env] {x : V} {b : Bool} (h : VRel ρ x (.bool b)) (hn : ∀ i, x ≠ .any i) : x = .bool b := by
  generalize hz : Value.bool b = z at h
  cases h <;> first
    | exact absurd rfl (hn _)
    | (rename_i h; obtain ⟨_, _, _, e⟩ := h.lst_slice rfl; subst e; cases hz; done)
    | (rename_i h; obtain ⟨_, _, _, e⟩ := h.lst_slice rfl; cases e; done)
    | (cases hz; done)
    | (cases hz; rfl)
theorem rel_str [Env] {x : V} {s : ByteArray} (h : VRel ρ x (.string s)) (hn : ∀ i, x ≠ .any i) : ∃ l, s = ⟨⟨l⟩⟩ ∧ x = .str l := by
  generalize hz : Value.string s = z at h
  cases h <;> first
    | exact absurd rfl (hn _)
    | (rename_i h; obtain ⟨_, _, _, e⟩ := h.lst_slice rfl; subst e; cases hz; done)
    | (rename_i h; obtain ⟨_, _, _, e⟩ := h.lst_slice rfl; cases e; done)
    | (cases hz; done)
    | (cases hz; exact ⟨_, rfl, rfl⟩)
theorem flatEqT_any {eq : TypeId → V → V → Option Bool} {t : TypeId} {d : Option TypeDesc} {x y : V} {b : Bool} (h : flatEqT P eq t x y d = some b) : ((∀ i, x ≠ .any i) ∧ ∀ i, y ≠ .any i) ∨ ∃ i, anyInts ≤ i ∧ x = .any i ∧ y = .any i ∧ b = true := by
  by_cases hx : ∀ i, x ≠ .any i
  · by_cases hy : ∀ i, y ≠ .any i
    · exact .inl ⟨hx, hy⟩
    · obtain ⟨j, rfl⟩ : ∃ j, y = .any j := Classical.byContradiction fun e => hy fun j hj => e ⟨j, hj⟩
      exfalso
      cases d with
      | none => simp [flatEqT] at h
      | some d => cases d <;> cases x <;> first
        | (simp [flatEqT] at h; done)
        | exact hx _ rfl
        | (simp only [flatEqT, flatEqS] at h; split at h <;> cases h; done)
  · obtain ⟨i, rfl⟩ : ∃ i, x = .any i := Classical.byContradiction fun e => hx fun j hj => e ⟨j, hj⟩
    cases d with
    | none => simp [flatEqT] at h
    | some d => cases d <;> cases y <;> first
      | (simp [flatEqT] at h; done)
      | (simp only [flatEqT, flatEqS] at h; split at h <;> cases h; done)
      | (obtain ⟨rfl, rfl, hi⟩ := anyEq_some h; exact .inr ⟨_, hi, rfl, rfl, rfl⟩)

theorem sameNow_eq [Env] {t : TypeId} {d : TypeDesc} (hu : P.underlying t = some d) {k k₁ : V} {b c : Bool} {k' k₁' : Value} (hk : VRel ρ k k') (hk₁ : VRel ρ k₁ k₁') (h : flatEq P flatDepth t k k₁ = some b) (hs : Instr.sameNow d k' k₁' = some c) : b = c := by
  have h' : flatEqT P (flatEq P 19) t k k₁ (P.underlying t) = some b := h
  rw [hu] at h'
  have hcase := flatEqT_any h'
  by_cases hany : (∀ i, k ≠ .any i) ∧ ∀ i, k₁ ≠ .any i
  case neg =>
    rcases hcase with h1 | ⟨i, hi, rfl, rfl, rfl⟩
    · exact absurd h1 hany
    · cases hk; cases hk₁
      obtain ⟨q, hq⟩ := Env.int i hi
      rw [hq] at hs
      unfold Instr.sameNow at hs
      split at hs
      · rename_i e1 e2
        cases e1; cases e2
        simp at hs
        exact hs.symm
      · rename_i e1 _; cases e1
      · rename_i e1 _; cases e1
      · cases hs
  obtain ⟨n1, n2⟩ := hany
  unfold Instr.sameNow at hs
  split at hs
  · obtain rfl := rel_int hk n1
    obtain rfl := rel_int hk₁ n2
    rename_i k a k' c
    by_cases hkk : k = k'
    · simp only [flatEqT, if_pos hkk, Option.some.injEq] at h'
      simp only [if_pos hkk, Option.some.injEq] at hs
      rw [← h', ← hs]
    · simp only [if_neg hkk] at hs; cases hs
  · obtain ⟨l1, rfl, rfl⟩ := rel_str hk n1
    obtain ⟨l2, rfl, rfl⟩ := rel_str hk₁ n2
    simp only [flatEqT, Option.some.injEq] at h'
    simp only [Option.some.injEq] at hs
    rw [← h', ← hs, beq_bytes]
  · obtain rfl := rel_bool hk n1
    obtain rfl := rel_bool hk₁ n2
    simp only [flatEqT, Option.some.injEq] at h'
    simp only [Option.some.injEq] at hs
    rw [← h', ← hs]
  · cases hs

theorem findKey_run [Env] {t : TypeId} {d : TypeDesc} (hu : P.underlying t = some d) {k : V} {k' : Value} (hk : VRel ρ k k') : ∀ (es : List (V × V × Nat)) (es' : List MapEntry) (i : Nat) {r : Option (Nat × V × V)}, EntsRel ρ es es' → findKeyV P t k es i = some r →
    ∃ r', Found ρ es' i r r' ∧ (∀ w, (Instr.findAsking t k' es' i).run P w = .ok r' w) ∧ (∀ q, Instr.findNow d k' es' i = some q → q = r') := by
  intro es
  induction es with
  | nil =>
    intro es' i r he h
    cases he
    have h' : some none = some r := h
    cases h'
    exact ⟨none, .none, fun w => rfl, fun q hq => by simp only [Instr.findNow, Option.some.injEq] at hq; exact hq.symm⟩
  | cons e es ih =>
    intro es' i r he h
    cases he with
    | cons he hl =>
      rename_i e' l'
      have h' : (match flatEq P flatDepth t k e.1 with
        | some true => some (some (i, e.1, e.2.1))
        | some false => findKeyV P t k es (Nat.succ i)
        | none => none) = some r := h
      split at h'
      · rename_i heq
        cases h'
        have hrun := fun w => flatEq_run (P := P) (ρ := ρ) flatDepth _ _ _ _ heq _ _ hk he.key 10000 (by decide) w
        refine ⟨some (i, e'.val), ?_, fun w => ?_, fun q hq => ?_⟩
        · exact Found.some (j := 0) (e := e') rfl he.key he.val
        · have : (Op.equal t k' e'.key).run P w = .ok true w := hrun w
          simp [Instr.findAsking, this]
        · unfold Instr.findNow at hq
          split at hq
          · cases hq; rfl
          · rename_i hs
            cases sameNow_eq hu hk he.key heq hs
          · cases hq
      · rename_i heq
        have hrun := fun w => flatEq_run (P := P) (ρ := ρ) flatDepth _ _ _ _ heq _ _ hk he.key 10000 (by decide) w
        obtain ⟨r', hf, hask, hnow⟩ := ih l' (i + 1) hl h'
        refine ⟨r', ?_, fun w => ?_, fun q hq => ?_⟩
        · cases hf with
          | none => exact .none
          | some h1 h2 h3 =>
            rename_i j k v e''
            have := Found.some (ρ := ρ) (es' := e' :: l') (i := i) (j := j + 1) (k := k) (v := v) (e := e'') (by simpa using h1) h2 h3
            rwa [show i + (j + 1) = i + 1 + j by omega] at this
        · have : (Op.equal t k' e'.key).run P w = .ok false w := hrun w
          simp [Instr.findAsking, this, hask]
        · unfold Instr.findNow at hq
          split at hq
          · rename_i hs
            cases sameNow_eq hu hk he.key heq hs
          · exact hnow q hq
          · cases hq
      · cases h'

theorem findKey_sound [Env] {t : TypeId} {d : TypeDesc} (hu : P.underlying t = some d) {k : V} {k' : Value} (hk : VRel ρ k k') {es : List (V × V × Nat)} {es' : List MapEntry} {r : Option (Nat × V × V)} (he : EntsRel ρ es es') (h : findKeyV P t k es 0 = some r) :
    ∃ r', Found ρ es' 0 r r' ∧ ∀ w, (Instr.findKey t k' es').run P w = .ok r' w := by
  obtain ⟨r', hf, hask, hnow⟩ := findKey_run hu hk es es' 0 he h
  refine ⟨r', hf, fun w => ?_⟩
  unfold Instr.findKey
  simp only [Sem.run_bind, run_underlying hu, Result.andThen_ok]
  cases hq : Instr.findNow d k' es' 0 with
  | none => exact hask w
  | some q => rw [hnow q hq]; rfl

theorem keyOk_underlying {t : TypeId} {k : V} (h : keyOk P flatDepth t k = true) : ∃ d, P.underlying t = some d := by
  have h' : keyOkT P (keyOk P 19) k (P.underlying t) = true := h
  cases hu : P.underlying t with
  | none => rw [hu] at h'; cases h'
  | some d => exact ⟨d, rfl⟩

theorem checkKey_sound [Env] {t : TypeId} {k : V} (h : keyOk P flatDepth t k = true) {k' : Value} (hk : VRel ρ k k') (em : Bool) (w : World) : (Instr.checkKey em 10000 t k').run P w = .ok () w :=
  keyOk_run (P := P) (ρ := ρ) flatDepth t k h k' hk 10000 (by decide) em w

/-! ### Look-ups -/
theorem lookup_run [Env] (hr : R ρ σ w) {t : TypeId} {ok : Bool} {m k : V} (h : (opLookup P σ t ok m k).Holds p) {m' k' : Value} (hm : VRel ρ m m') (hk : VRel ρ k k') :
    ∃ v v', p (v, σ) ∧ VRel ρ v v' ∧ (Instr.lookup t m' k' ok).run P w = .ok v' w := by
  unfold opLookup at h
  split at h
  · rename_i kt e es hmt hes
    have hu := mapT_run hmt
    split at h
    · rename_i hok
      obtain ⟨d, hd⟩ := keyOk_underlying hok
      have hmap : ∃ es' : Array MapEntry, EntsRel ρ es es'.toList ∧ ((∃ r, m' = .map (some r) ∧ ∃ clock, w.heap[r]? = some (.map es' clock)) ∨ (m' = .map none ∧ es' = #[])) := by
        unfold entriesOf at hes
        split at hes
        · cases hes; cases hm; exact ⟨#[], .nil, .inr ⟨rfl, rfl⟩⟩
        · split at hes
          · rename_i hb
            cases hes
            cases hm with
            | map hl =>
              obtain ⟨l, hl', hk⟩ := hr.blk _ _ hb
              rw [hl] at hl'; cases hl'
              cases hk with
              | map hmm he => exact ⟨_, he, .inl ⟨_, rfl, _, hmm⟩⟩
          · cases hes
        · cases hes
      obtain ⟨es', he, hcase⟩ := hmap
      have hck := checkKey_sound (P := P) hok hk es'.isEmpty w
      split at h
      · rename_i j kk v hf
        obtain ⟨r', hfound, hrun⟩ := findKey_sound hd hk he hf
        cases hfound with
        | some h1 h2 h3 =>
          rename_i j e₁
          refine ⟨_, if ok then .tuple #[e₁.val, .bool true] else e₁.val, h, ?_, ?_⟩
          · unfold okPair
            cases ok with
            | true => exact .tuple (.cons h3 (.cons (.bool true) .nil))
            | false => exact h3
          · rcases hcase with ⟨r, rfl, clock, hheap⟩ | ⟨rfl, rfl⟩
            · simp only [Instr.lookup, Sem.run_bind, run_underlying hu, Result.andThen_ok, getObj, Sem.run, hheap, hck, hrun, Sem.run_pure]
            · simp at h1
      · rename_i hf
        split at h
        · rename_i z hz
          obtain ⟨zv, hzr, hzv⟩ := zeroT_run (P := P) hz ρ
          obtain ⟨r', hfound, hrun⟩ := findKey_sound hd hk he hf
          cases hfound
          refine ⟨_, if ok then .tuple #[zv, .bool false] else zv, h, ?_, ?_⟩
          · unfold okPair
            cases ok with
            | true => exact .tuple (.cons hzv (.cons (.bool false) .nil))
            | false => exact hzv
          · rcases hcase with ⟨r, rfl, clock, hheap⟩ | ⟨rfl, rfl⟩
            · simp only [Instr.lookup, Sem.run_bind, run_underlying hu, Result.andThen_ok, getObj, Sem.run, hheap, hck, hrun, Sem.run_pure, hzr]
            · simp only [Instr.lookup, Sem.run_bind, run_underlying hu, Result.andThen_ok, hck, hrun, Sem.run_pure, hzr]
        · exact h.elim
      · exact h.elim
    · exact h.elim
  · exact h.elim


/-! ### Values without blocks -/
theorem flat1_fun [Env] {v : V} (h : V.flat1 v = true) {x y : Value} (hx : VRel ρ v x) (hy : VRel ρ v y) : x = y ∧ ∀ n, Instr.sameBits n x x = true := by
  cases v <;> first
    | (simp [V.flat1] at h; done)
    | (cases hx; cases hy; exact ⟨rfl, fun n => by simp [Instr.sameBits, beq_bytes]⟩)

theorem flats_fun [Env] : ∀ {l : List V}, l.all V.flat1 = true → ∀ {x y : List Value}, VsRel ρ l x → VsRel ρ l y → x = y ∧ ∀ n, ((x.zip x).all fun (a, b) => Instr.sameBits n a b) = true := by
  intro l
  induction l with
  | nil => intro _ x y hx hy; cases hx; cases hy; exact ⟨rfl, fun n => rfl⟩
  | cons v l ih =>
    intro h x y hx hy
    simp only [List.all_cons, Bool.and_eq_true] at h
    cases hx with
    | cons hx hlx => cases hy with
      | cons hy hly =>
        obtain ⟨rfl, s1⟩ := flat1_fun h.1 hx hy
        obtain ⟨rfl, s2⟩ := ih h.2 hlx hly
        exact ⟨rfl, fun n => by simp [s1 n, s2 n]⟩

theorem flat_cases {v : V} (h : V.flat v = true) : V.flat1 v = true ∨ ∃ cs, v = .agg cs ∧ cs.all V.flat1 = true := by
  cases v with
  | agg cs =>
    have h' : allOf V.flat1 cs = true := h
    rw [allOf_eq] at h'
    exact .inr ⟨cs, rfl, h'⟩
  | int k n => exact .inl h
  | bool b => exact .inl h
  | str s => exact .inl h
  | nilptr => exact .inl h
  | ptr a b => exact .inl h
  | nilslice => exact .inl h
  | slice a b c d e f => exact .inl h
  | nilmap => exact .inl h
  | map a => exact .inl h
  | func a b c => exact .inl h
  | nilfunc => exact .inl h
  | any i => exact .inl h
  | flt k b => exact .inl h
  | lst a b c => exact .inl h
  | eptr a b => exact .inl h
  | arr a b c d e => exact .inl h
  | own a b c => exact .inl h
  | elt a b c d => exact .inl h
  | iface a b => exact .inl h
  | niliface => exact .inl h
  | tuple a => exact .inl h

theorem flat_fun [Env] {v : V} (h : V.flat v = true) {x y : Value} (hx : VRel ρ v x) (hy : VRel ρ v y) : x = y ∧ Instr.sameBits 10000 x x = true := by
  rcases flat_cases h with h | ⟨cs, rfl, h₁⟩
  · exact ⟨(flat1_fun h hx hy).1, (flat1_fun h hx hy).2 _⟩
  · cases hx with | agg hx => cases hy with | agg hy =>
    obtain ⟨rfl, s⟩ := flats_fun h₁ hx hy
    exact ⟨rfl, by have := s 9999; simpa [Instr.sameBits] using this⟩

theorem beq_flat1 {a b : V} (h : V.beq a b = true) (hb : V.flat1 b = true) : a = b := by
  cases b <;> first
    | (simp [V.flat1] at hb; done)
    | (cases a <;> simp_all [V.beq])

theorem beqs_flat [Env] : ∀ {a b : List V}, V.beqs a b = true → b.all V.flat1 = true → a = b := by
  intro a
  induction a with
  | nil => intro b h _; cases b with
    | nil => rfl
    | cons y b => simp [V.beqs] at h
  | cons x a ih => intro b h hb; cases b with
    | nil => simp [V.beqs] at h
    | cons y b =>
      simp only [V.beqs, Bool.and_eq_true] at h
      simp only [List.all_cons, Bool.and_eq_true] at hb
      rw [beq_flat1 h.1 hb.1, ih h.2 hb.2]

theorem beq_flat [Env] {a b : V} (h : V.beq a b = true) (hb : V.flat b = true) : a = b := by
  rcases flat_cases hb with hb | ⟨cs, rfl, hb₁⟩
  · exact beq_flat1 h hb
  · cases a with
    | agg ds => simp only [V.beq] at h; rw [beqs_flat h hb₁]
    | _ => simp [V.beq] at h

/-! ### Stores into a map -/
theorem setEntry_rel [Env] {k v : V} {k' v' : Value} (hk : VRel ρ k k') (hv : VRel ρ v v') : ∀ (es : List (V × V × Nat)) (es' : List MapEntry) (j : Nat), EntsRel ρ es es' →
    EntsRel ρ (setEntry k v es j) (es'.modify j fun e => { e with key := k', val := v' }) := by
  intro es
  induction es with
  | nil => intro es' j h; cases h; simpa [setEntry] using EntsRel.nil
  | cons e es ih =>
    intro es' j h
    cases h with
    | cons he hl =>
      cases j with
      | zero => exact .cons ⟨hk, hv, he.born⟩ hl
      | succ j => exact .cons he (ih _ j hl)

theorem dropEntry_rel [Env] : ∀ (es : List (V × V × Nat)) (es' : List MapEntry) (j : Nat), EntsRel ρ es es' → EntsRel ρ (dropEntry es j) (es'.eraseIdx j) := by
  intro es
  induction es with
  | nil => intro es' j h; cases h; simpa [dropEntry] using EntsRel.nil
  | cons e es ih =>
    intro es' j h
    cases h with
    | cons he hl =>
      cases j with
      | zero => exact hl
      | succ j => exact .cons he (ih _ j hl)

theorem EntsRel.append [Env] {a b : List (V × V × Nat)} {a' b' : List MapEntry} (h : EntsRel ρ a a') (k : EntsRel ρ b b') : EntsRel ρ (a ++ b) (a' ++ b') := by
  induction a generalizing a' with
  | nil => cases h; exact k
  | cons e a ih => cases h with | cons h hl => exact .cons h (ih hl)

theorem setMap [Env] (hr : R ρ σ w) {ids : Nat → Prop} {r : Nat} {k₀ : Blk} (hb : σ.heap.get r = some k₀) (hkw : k₀.writable = true) {l : Loc} (hl : ρ r = some l) {es : List (V × V × Nat)} {clock : Nat} {es' : Array MapEntry}
    (hlt : l.c < w.heap.size) (he : EntsRel ρ es es'.toList) : Stp ids ρ σ w ρ (σ.set r (.map es clock)) { w with heap := w.heap.setIfInBounds l.c (.map es' clock) } := by
  refine Stp.set hr hb hl hkw (by simp) (fun c hc => ?_) rfl rfl rfl (.map ?_ he)
  · show (w.heap.setIfInBounds l.c _)[c]? = _
    rw [Array.getElem?_setIfInBounds_ne (by omega)]
  · show (w.heap.setIfInBounds l.c _)[l.c]? = _
    simp [hlt]

theorem run_setObj {r : Nat} {o o' : Obj} (h : w.heap[r]? = some o') (hn : ∀ a b c, o' ≠ .cells a b c) : (setObj r o).run P w = .ok () { w with heap := w.heap.setIfInBounds r o } := by
  cases o' <;> first | (simp only [setObj, Sem.run, h]; done) | exact absurd rfl (hn _ _ _)

theorem mapUpdate_run [Env] (hr : R ρ σ w) {t : TypeId} {m k v : V} (h : (opMapUpdate P σ t m k v).Holds p) {m' k' v' : Value} (hm : VRel ρ m m') (hk : VRel ρ k k') (hv : VRel ρ v v') :
    ∃ σ' w', p (undefV, σ') ∧ (Instr.mapUpdate t m' k' v').run P w = .ok () w' ∧ Stp (fun b => b = id) ρ σ w ρ σ' w' := by
  unfold opMapUpdate at h
  split at h
  · rename_i r kt e hmt
    have hu := mapT_run hmt
    split at h
    · rename_i es clock hok hb
      obtain ⟨d, hd⟩ := keyOk_underlying hok
      cases hm with
      | map hl =>
        obtain ⟨l, hl', hblk⟩ := hr.blk _ _ hb
        rw [hl] at hl'; cases hl'
        cases hblk with
        | map hmm he =>
          rename_i es'
          have hlt := hr.valid _ _ hl
          have hck := checkKey_sound (P := P) hok hk false w
          unfold opMapUpdateAt at h
          split at h
          · rename_i j kk x hf
            split at h
            · rename_i hcond
              rw [Bool.and_eq_true] at hcond
              have hkk := beq_flat hcond.1 hcond.2
              subst hkk
              obtain ⟨r', hfound, hrun⟩ := findKey_sound hd hk he hf
              cases hfound with
              | some h1 h2 h3 =>
                rename_i j e₁
                rw [Nat.zero_add] at h hf
                obtain ⟨heq, hsame⟩ := flat_fun hcond.2 h2 hk
                subst heq
                have hget : es'[j]? = some e₁ := by simpa using h1
                refine ⟨_, _, h, ?_, setMap hr hb rfl hl hlt (es' := es'.modify j fun e => { e with key := e₁.key, val := v' }) (by simpa using setEntry_rel hk hv _ _ j he)⟩
                simp only [Instr.mapUpdate, Sem.run_bind, run_underlying hu, Result.andThen_ok, getObj, Sem.run, hmm, hck, hrun, Nat.zero_add, hget, Option.map_some, Option.getD_some, Instr.keyThatStays, hsame, if_true, Sem.run_pure]
                exact run_setObj hmm (by simp)
            · exact h.elim
          · rename_i hf
            obtain ⟨r', hfound, hrun⟩ := findKey_sound hd hk he hf
            cases hfound
            rw [app_eq] at h
            refine ⟨_, _, h, ?_, setMap hr hb rfl hl hlt (es' := es'.push { key := k', val := v', born := clock }) (by simpa using he.append (.cons ⟨hk, hv, rfl⟩ .nil))⟩
            simp only [Instr.mapUpdate, Sem.run_bind, run_underlying hu, Result.andThen_ok, getObj, Sem.run, hmm, hck, hrun]
            exact run_setObj hmm (by simp)
          · exact h.elim
    · exact h.elim
  · exact h.elim

theorem delete_run [Env] (hr : R ρ σ w) {tys : Array TypeId} {ty t : TypeId} (ht : tys[0]? = some t) {m k v : V} {σ' : St} (h : evalDelete P σ t m k = some (v, σ')) {m' k' : Value} (hm : VRel ρ m m') (hk : VRel ρ k k') :
    ∃ w', (Builtin.delete_ tys ty #[m', k']).run P w = .ok (.tuple #[]) w' ∧ v = .tuple [] ∧ Stp (fun b => b = id) ρ σ w ρ σ' w' := by
  have hg0 : (#[m', k'] : Array Value)[0]? = some m' := rfl
  have hg1 : (#[m', k'] : Array Value)[1]? = some k' := rfl
  unfold evalDelete at h
  split at h
  · rename_i kt e hmt
    have hu := mapT_run hmt
    split at h
    · rename_i hok
      obtain ⟨d, hd⟩ := keyOk_underlying hok
      split at h
      · cases h; cases hm
        have hck := checkKey_sound (P := P) hok hk true w
        exact ⟨w, by simp only [Builtin.delete_, ht, hg0, hg1, Sem.run_bind, run_underlying hu, Result.andThen_ok, hck]; rfl, rfl, Stp.refl hr⟩
      · rename_i r
        unfold deleteAt at h
        split at h
        · rename_i es clock hb
          cases hm with
          | map hl =>
            obtain ⟨l, hl', hblk⟩ := hr.blk _ _ hb
            rw [hl] at hl'; cases hl'
            cases hblk with
            | map hmm he =>
              rename_i es'
              have hlt := hr.valid _ _ hl
              have hck := checkKey_sound (P := P) hok hk es'.isEmpty w
              split at h
              · rename_i j kk x hf
                cases h
                obtain ⟨r', hfound, hrun⟩ := findKey_sound hd hk he hf
                cases hfound with
                | some h1 h2 h3 =>
                  rename_i j e₁
                  refine ⟨_, ?_, rfl, setMap hr hb rfl hl hlt (es' := es'.eraseIdxIfInBounds (0 + j)) (by rw [Array.toList_eraseIdxIfInBounds]; exact dropEntry_rel _ _ _ he)⟩
                  simp only [Builtin.delete_, ht, hg0, hg1, Sem.run_bind, run_underlying hu, Result.andThen_ok, getObj, Sem.run, hmm, hck, hrun]
                  rw [run_setObj hmm (by simp)]
                  rfl
              · rename_i hf
                cases h
                obtain ⟨r', hfound, hrun⟩ := findKey_sound hd hk he hf
                cases hfound
                refine ⟨_, ?_, rfl, setMap hr hb rfl hl hlt (es' := es') he⟩
                simp only [Builtin.delete_, ht, hg0, hg1, Sem.run_bind, run_underlying hu, Result.andThen_ok, getObj, Sem.run, hmm, hck, hrun]
                rw [run_setObj hmm (by simp)]
                rfl
              · cases h
        · cases h
      · cases h
    · cases h
  · cases h

end
end Go.Ev
