/- Each operation of the evaluator, second part: numbers, texts, slices, append, copy, maps. -/
import Derived.Test.YtbajncpfmemdgaaGreatDoorEvOpsA
import Derived.Lib.Strings
namespace Go.Ev
open Go
section
variable {P : Program} {ρ : Ren} {σ : St} {w : World} {id : Nat} {p : V × St → Prop}

/-! ### Numbers and texts -/
theorem evalInt_run [Env] {op : BinOp} {k k' : IntKind} {a b : Int} {v : V} (h : evalInt op k a k' b = some v) (t : TypeId) : ∃ v', (∀ w, (binOp op t (.int k a) (.int k' b)).run P w = .ok v' w) ∧ VRel ρ v v' := by
  unfold evalInt at h
  split at h
  · split at h
    · cases h
    · rename_i hb; cases h; exact ⟨_, fun w => by simp [binOp, Op.shift, hb], .int _ _⟩
  · split at h
    · cases h
    · rename_i hb; cases h; exact ⟨_, fun w => by simp [binOp, Op.shift, hb], .int _ _⟩
  · split at h
    · cases h
    · rename_i hk
      have hk : k = k' := by simpa using hk
      subst hk
      split at h <;> first
        | (cases h; refine ⟨_, fun w => ?_, .int _ _⟩; (simp [binOp, Op.intArith]; done))
        | (cases h; refine ⟨_, fun w => ?_, .int _ _⟩; (simp only [binOp, ne_eq, not_true, if_false, Op.intBits]; rfl))
        | (cases h; refine ⟨_, fun w => ?_, .bool _⟩; (simp [binOp, Op.intCmp]; done))
        | (cases h; refine ⟨_, fun w => ?_, .bool _⟩; (simp [binOp, Op.intCmp]; rfl))
        | (split at h
           · cases h
           · rename_i hb; cases h; refine ⟨_, fun w => ?_, .int _ _⟩; (simp [binOp, Op.intDiv, hb]; done))
        | cases h

theorem bytes_toList (s : List UInt8) : (⟨⟨s⟩⟩ : ByteArray).toList = s := by
  rw [ByteArray.toList_eq]

theorem bytes_append (a b : List UInt8) : (⟨⟨a⟩⟩ ++ ⟨⟨b⟩⟩ : ByteArray) = ⟨⟨a ++ b⟩⟩ := by
  apply ByteArray.ext
  simp [ByteArray.data_append]

theorem bytes_size (a : List UInt8) : (⟨⟨a⟩⟩ : ByteArray).size = a.length := rfl

theorem evalStr_run [Env] {op : BinOp} {a b : List UInt8} {v : V} (h : evalStr op a b = some v) (t : TypeId) : ∃ v', (∀ w, (binOp op t (.string ⟨⟨a⟩⟩) (.string ⟨⟨b⟩⟩)).run P w = .ok v' w) ∧ VRel ρ v v' := by
  unfold evalStr at h
  split at h
  · split at h
    · rename_i hlen
      cases h
      refine ⟨.string ⟨⟨a ++ b⟩⟩, fun w => ?_, .str _⟩
      have hno : ¬ (((a.length + b.length : Nat) : Int) > IntKind.i64.max) := by
        have : IntKind.i64.max = 9223372036854775807 := by decide
        rw [this]; omega
      simp only [binOp, Op.stringOp, bytes_size, if_neg hno, bytes_append]
      rfl
    · cases h
  all_goals first
    | (cases h; refine ⟨_, fun w => ?_, .bool _⟩; (simp [binOp, Op.stringOp]; done))
    | cases h

theorem evalFlt_run [Env] {op : BinOp} {k k' : FloatKind} {a b : Nat} {v : V} (h : evalFlt op k a k' b = some v) (t : TypeId) : ∃ v', (∀ w, (binOp op t (.float k a) (.float k' b)).run P w = .ok v' w) ∧ VRel ρ v v' := by
  unfold evalFlt at h
  split at h
  · cases h
  · rename_i hk
    have hk : k = k' := Classical.not_not.1 hk
    subst hk
    cases op <;> first
      | (cases h; done)
      | (cases h; refine ⟨_, fun w => ?_, .bool _⟩; (simp [binOp, Op.floatCmp]; done))

/-- What goes ahead of an operator: nothing, where no two values of an interface type are both nil (but for literals). -/
theorem eqGuard_run {op : BinOp} (hop : op = .eql ∨ op = .neq) {t : TypeId} {x y : Operand} {a b : Value} (h1 : a = .nilIface → b = .nilIface → (isConst x || isConst y) = true)
    (h2 : ∀ as bs, a = .agg as → b = .agg bs → P.eqGuardType P.depth t = false) : (eqGuard op t x y a b).run P w = .ok () w := by
  rcases hop with rfl | rfl
  all_goals
    cases a <;> cases b <;> first
      | rfl
      | (have h := h1 rfl rfl; cases x <;> cases y <;> first | rfl | (simp [isConst] at h; done))
      | (have h := h2 _ _ rfl rfl; simp [eqGuard, h]; done)

theorem evalEq_sides {t : TypeId} {lit : Bool} {x y : V} {b : Bool} (h : evalEq P σ t lit x y = some b) :
    (x = .niliface → y = .niliface → lit = true) ∧ (∀ xs ys, x = .agg xs → y = .agg ys → P.eqGuardType P.depth t = false) := by
  unfold evalEq at h
  cases hu : P.underlying t with
  | none => rw [hu] at h; cases h
  | some d =>
    rw [hu] at h
    constructor
    · rintro rfl rfl
      cases d <;> first
        | (cases h; done)
        | (cases lit <;> first | rfl | (have h' : (none : Option Bool) = some b := h; cases h'))
        | (have h' : (match P.eqGuardType P.depth t with | false => flatEqS P (flatEq P flatDepth) t _ .niliface .niliface | true => none) = some b := h
           split at h'
           · unfold flatEqS at h'
             split at h' <;> cases h'
           · cases h')
        | (rename_i n' e'; have h' : arrayEq P t e' n' .niliface .niliface = some b := h
           unfold arrayEq at h'
           split at h'
           · cases h'
           · split at h' <;> cases h')
    · rintro xs ys rfl rfl
      cases d <;> first
        | (cases h; done)
        | (have h' : (match P.eqGuardType P.depth t with | false => flatEqS P (flatEq P flatDepth) t _ (.agg xs) (.agg ys) | true => none) = some b := h
           split at h'
           · assumption
           · cases h')
        | (rename_i n' e'; have h' : arrayEq P t e' n' (.agg xs) (.agg ys) = some b := h
           unfold arrayEq at h'
           split at h'
           · cases h'
           · assumption)

theorem rel_nilIface [Env] {x : V} (h : VRel ρ x .nilIface) : x = .niliface ∨ ∃ i, x = .any i := by
  generalize hz : Value.nilIface = z at h
  cases h <;> first
    | exact .inl rfl
    | exact .inr ⟨_, rfl⟩
    | (rename_i h; obtain ⟨_, _, _, e⟩ := h.lst_slice rfl; subst e; cases hz)
    | cases hz
theorem rel_agg [Env] {x : V} {as : Array Value} (h : VRel ρ x (.agg as)) : (∃ l, x = .agg l) ∨ ∃ i, x = .any i := by
  generalize hz : Value.agg as = z at h
  cases h <;> first
    | exact .inl ⟨_, rfl⟩
    | exact .inr ⟨_, rfl⟩
    | (rename_i h; obtain ⟨_, _, _, e⟩ := h.lst_slice rfl; subst e; cases hz)
    | cases hz

theorem evalEq_any {t : TypeId} {lit : Bool} {x y : V} {b : Bool} (h : evalEq P σ t lit x y = some b) : (∀ i, x ≠ .any i) ∧ ∀ i, y ≠ .any i := by
  unfold evalEq evalEqT flatEqS arrayEq at h
  constructor
  · rintro i rfl
    repeat' split at h
    all_goals first
      | (cases h; done)
      | simp_all
  · rintro i rfl
    repeat' split at h
    all_goals first
      | (cases h; done)
      | simp_all

theorem evalBin_run [Env] (hr : R ρ σ w) {op : BinOp} {t : TypeId} {ox oy : Operand} {x y v : V} (h : evalBin P σ op t (isConst ox || isConst oy) x y = some v) {x' y' : Value} (hx : VRel ρ x x') (hy : VRel ρ y y') :
    ∃ v', ((do eqGuard op t ox oy x' y'; binOp op t x' y' : Sem Value)).run P w = .ok v' w ∧ VRel ρ v v' := by
  unfold evalBin at h
  split at h
  · cases hx; cases hy
    obtain ⟨v', hrun, hv⟩ := evalInt_run (P := P) (ρ := ρ) h t
    refine ⟨v', ?_, hv⟩
    have hg : ∀ k a k' b, (eqGuard op t ox oy (.int k a) (.int k' b)).run P w = .ok () w := by intros; cases op <;> rfl
    rw [Sem.run_bind, hg]
    exact hrun w
  · cases hx; cases hy
    obtain ⟨v', hrun, hv⟩ := evalStr_run (P := P) (ρ := ρ) h t
    refine ⟨v', ?_, hv⟩
    have hg : ∀ a b, (eqGuard op t ox oy (.string a) (.string b)).run P w = .ok () w := by intros; cases op <;> rfl
    rw [Sem.run_bind, hg]
    exact hrun w
  · cases hx; cases hy
    obtain ⟨v', hrun, hv⟩ := evalFlt_run (P := P) (ρ := ρ) h t
    refine ⟨v', ?_, hv⟩
    have hg : ∀ k a k' b, (eqGuard op t ox oy (.float k a) (.float k' b)).run P w = .ok () w := by intros; cases op <;> rfl
    rw [Sem.run_bind, hg]
    exact hrun w
  · rename_i hni hns hnf
    have hb1 : (∀ i, x ≠ .any i) → (∀ i, y ≠ .any i) → binOp .eql t x' y' = (do pure (.bool (← Op.equal t x' y'))) := by
      intro hax hay
      cases hx <;> first
        | exact absurd rfl (hax _)
        | (cases hy <;> first | exact absurd rfl (hay _) | rfl | exact (hni _ _ _ _ rfl rfl).elim | exact (hns _ _ rfl rfl).elim | exact (hnf _ _ _ _ rfl rfl).elim | (rename_i h2; obtain ⟨_, _, _, e⟩ := h2.lst_slice rfl; subst e; rfl))
        | (rename_i h1; obtain ⟨_, _, _, e⟩ := h1.lst_slice rfl; subst e; cases hy <;> first | exact absurd rfl (hay _) | rfl | (rename_i h2; obtain ⟨_, _, _, e⟩ := h2.lst_slice rfl; subst e; rfl))
    have hb2 : (∀ i, x ≠ .any i) → (∀ i, y ≠ .any i) → binOp .neq t x' y' = (do pure (.bool (!(← Op.equal t x' y')))) := by
      intro hax hay
      cases hx <;> first
        | exact absurd rfl (hax _)
        | (cases hy <;> first | exact absurd rfl (hay _) | rfl | exact (hni _ _ _ _ rfl rfl).elim | exact (hns _ _ rfl rfl).elim | exact (hnf _ _ _ _ rfl rfl).elim | (rename_i h2; obtain ⟨_, _, _, e⟩ := h2.lst_slice rfl; subst e; rfl))
        | (rename_i h1; obtain ⟨_, _, _, e⟩ := h1.lst_slice rfl; subst e; cases hy <;> first | exact absurd rfl (hay _) | rfl | (rename_i h2; obtain ⟨_, _, _, e⟩ := h2.lst_slice rfl; subst e; rfl))
    have key : ∀ op, (op = .eql ∨ op = .neq) → ∀ b, evalEq P σ t (isConst ox || isConst oy) x y = some b → (Op.equal t x' y').run P w = .ok b w ∧ (eqGuard op t ox oy x' y').run P w = .ok () w := by
      intro op hop b hb
      obtain ⟨s1, s2⟩ := evalEq_sides hb
      refine ⟨evalEq_run hr hb hx hy, eqGuard_run hop ?_ ?_⟩
      · rintro rfl rfl
        obtain ⟨n1, n2⟩ := evalEq_any hb
        obtain rfl := (rel_nilIface hx).resolve_right fun ⟨i, e⟩ => n1 i e
        obtain rfl := (rel_nilIface hy).resolve_right fun ⟨i, e⟩ => n2 i e
        exact s1 rfl rfl
      · rintro as bs rfl rfl
        obtain ⟨n1, n2⟩ := evalEq_any hb
        obtain ⟨l1, rfl⟩ := (rel_agg hx).resolve_right fun ⟨i, e⟩ => n1 i e
        obtain ⟨l2, rfl⟩ := (rel_agg hy).resolve_right fun ⟨i, e⟩ => n2 i e
        exact s2 _ _ rfl rfl
    split at h
    · rw [Option.map_eq_some_iff] at h
      obtain ⟨b, hb, rfl⟩ := h
      obtain ⟨he, hg⟩ := key .eql (.inl rfl) b hb
      exact ⟨.bool b, by rw [Sem.run_bind, hg]; simp [hb1 (evalEq_any hb).1 (evalEq_any hb).2, he], .bool b⟩
    · rw [Option.map_eq_some_iff] at h
      obtain ⟨b, hb, rfl⟩ := h
      obtain ⟨he, hg⟩ := key .neq (.inr rfl) b hb
      exact ⟨.bool !b, by rw [Sem.run_bind, hg]; simp [hb2 (evalEq_any hb).1 (evalEq_any hb).2, he], .bool _⟩
    · cases h

theorem evalUn_run [Env] {op : UnOp} {x v : V} (h : evalUn op x = some v) {x' : Value} (hx : VRel ρ x x') : ∃ v', (∀ w, (Op.unary op x').run P w = .ok v' w) ∧ VRel ρ v v' := by
  unfold evalUn at h
  split at h
  · cases h; cases hx; exact ⟨_, fun w => rfl, .int _ _⟩
  · cases h; cases hx; exact ⟨_, fun w => rfl, .int _ _⟩
  · cases h; cases hx; exact ⟨_, fun w => rfl, .bool _⟩
  · cases h

/-! ### Slices -/
theorem asNat_run [Env] {lo hi : Nat} {v : V} {n : Nat} (h : asNat lo hi v = some n) {x : Value} (hx : VRel ρ v x) (hlo : lo = 0) (code : BoundsCode) :
    (Instr.sliceBound x hi code).run P w = .ok n w ∧ n ≤ hi := by
  unfold asNat at h
  split at h
  · split at h
    · rename_i hc
      cases h; cases hx
      subst hlo
      have h0 : 0 ≤ (_ : Int) ∧ _ ≤ (hi : Int) := ⟨by simpa using hc.1, hc.2⟩
      refine ⟨?_, by omega⟩
      simp only [Instr.sliceBound, asIntOf, Sem.run_bind, Sem.run_pure, Result.andThen_ok]
      rw [if_pos h0]; rfl
    · cases h
  · cases h

end
end Go.Ev
