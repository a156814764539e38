/- Functions by what stands at the heads of their loops: frames and memory there in one canonical form. -/
import Derived.Test.YtbajncpfmemdgaaGreatDoorEvLoop
namespace Go.Ev
open Go

/-! ### Code whose memory may be told anew -/
section
variable [Env]
structure CodeN (P : Program) (n₀ : Nat) (c : Code) (Q : Post) (a : Act) (σ : St) : Prop where
  ex : ∃ e a σ, Q e a σ
  h : n₀ ≤ σ.next → ∀ (ρ : Ren) (w : World) (a' : Go.Act), R ρ σ w → ActRel ρ a a' → c.wpIn Fence.wide 0 P (CodePostN n₀ Q ρ σ w) a' w

variable {P : Program} {fn : FuncId} {n₀ : Nat}
theorem CodeN.of [Mix P] {c : Code} {Q : Post} {a : Act} {σ : St} (h : CodeS P fn none c Q a σ) : CodeN P n₀ c Q a σ := by
  have hs := h.sem
  refine ⟨?_, fun hn ρ w a' hr ha => wpIn_mono (SemE.at hs ρ w a' Fence.wide hr ha rfl).1 fun e a₁ w₁ hpost => ?_⟩
  · obtain ⟨⟨o, τ⟩, hx⟩ := hs.1
    cases o with
    | val v => exact hx.elim
    | exit e a => exact ⟨e, a, τ, hx⟩
  · obtain ⟨y, a₂, σ₂, ρ₂, h1, h2, h3, h4⟩ := hpost
    exact ⟨y, a₂, σ₂, ρ₂, h1, h2, h3, StpN.of hn h4⟩
theorem CodeN.sem {c : Code} (hc : ∀ x, c ≠ .loop x) {Q : Post} {a : Act} {σ : St} (h : CodeN P σ.next c Q a σ) : SemE P (.code none fn c a) σ (exP Q) := by
  refine ⟨let ⟨e, a, τ, hx⟩ := h.ex; ⟨(.exit e a, τ), hx⟩, ?_⟩
  intro ρ w a' F hr ha hroF
  have hF : F = Fence.wide := hroF
  subst hF
  refine ⟨wpIn_mono (h.h (Nat.le_refl _) ρ w a' hr ha) fun e a₁ w₁ hx => ?_, fun x hx => absurd hx (hc x)⟩
  obtain ⟨y, a₁, σ₁, ρ₁, h1, h2, h3, h4⟩ := hx
  exact ⟨y, a₁, σ₁, ρ₁, h1, h2, h3, h4.to hr⟩
theorem CodeN.mono {c : Code} {Q Q' : Post} {a : Act} {σ : St} (h : CodeN P n₀ c Q a σ) (hq : ∀ e a σ, Q e a σ → Q' e a σ) : CodeN P n₀ c Q' a σ := by
  refine ⟨let ⟨e, a, τ, hx⟩ := h.ex; ⟨e, a, τ, hq _ _ _ hx⟩, fun hn ρ w a' hr ha => wpIn_mono (h.h hn ρ w a' hr ha) fun e a₁ w₁ hx => ?_⟩
  obtain ⟨y, a₂, σ₂, ρ₂, h1, h2, h3, h4⟩ := hx
  exact ⟨y, a₂, σ₂, ρ₂, hq _ _ _ h1, h2, h3, h4⟩
theorem CodePostN.trans {Q : Post} {ρ ρ₁ : Ren} {σ σ₁ : St} {w w₁ w₂ : World} {e : Exit} {a : Go.Act} (h : StpN n₀ ρ σ w ρ₁ σ₁ w₁) (k : CodePostN n₀ Q ρ₁ σ₁ w₁ e a w₂) : CodePostN n₀ Q ρ σ w e a w₂ := by
  obtain ⟨y, a₂, σ₂, ρ₂, h1, h2, h3, h4⟩ := k
  exact ⟨y, a₂, σ₂, ρ₂, h1, h2, h3, h.trans h4⟩
theorem CodeN.seq {x y : Code} {Q : Post} {a : Act} {σ : St} (h : CodeN P n₀ x (seqQ (CodeN P n₀ y Q) Q) a σ) : CodeN P n₀ (.seq x y) Q a σ := by
  constructor
  · obtain ⟨e, a, τ, hx⟩ := h.ex
    cases e with
    | normal => exact CodeN.ex hx
    | exit i => exact ⟨_, _, _, hx⟩
    | goto i => exact ⟨_, _, _, hx⟩
    | ret => exact ⟨_, _, _, hx⟩
  · intro hn ρ w a' hr ha
    refine wpIn_seq (wpIn_mono (h.h hn ρ w a' hr ha) fun e a₁ w₁ hpost => ?_)
    obtain ⟨z, a₂, σ₂, ρ₂, h1, rfl, h3, h4⟩ := hpost
    cases z with
    | normal =>
      have h1 : CodeN P n₀ y Q a₂ σ₂ := h1
      exact wpIn_mono (h1.h h4.next ρ₂ w₁ a₁ h4.r h3) fun e a w hx => CodePostN.trans h4 hx
    | exit i => exact ⟨.exit i, a₂, σ₂, ρ₂, h1, rfl, h3, h4⟩
    | goto i => exact ⟨.goto i, a₂, σ₂, ρ₂, h1, rfl, h3, h4⟩
    | ret => exact ⟨.ret, a₂, σ₂, ρ₂, h1, rfl, h3, h4⟩
theorem CodeN.cond {x : Operand} {y z : Code} {Q : Post} {a : Act} {σ : St} (h : condP (CodeN P n₀ y Q a σ) (CodeN P n₀ z Q a σ) (a.eval x)) : CodeN P n₀ (.cond x y z) Q a σ := by
  cases hx : a.eval x with
  | none => rw [hx] at h; exact h.elim
  | some v =>
    rw [hx] at h
    cases v with
    | bool b =>
      cases b with
      | true =>
        have h : CodeN P n₀ y Q a σ := h
        exact ⟨h.ex, fun hn ρ w a' hr ha => wpIn_cond_true ((ha.eval x hx).bool_eq) (h.h hn ρ w a' hr ha)⟩
      | false =>
        have h : CodeN P n₀ z Q a σ := h
        exact ⟨h.ex, fun hn ρ w a' hr ha => wpIn_cond_false ((ha.eval x hx).bool_eq) (h.h hn ρ w a' hr ha)⟩
    | _ => exact h.elim
theorem CodeN.block {id : Nat} {x : Code} {Q : Post} {a : Act} {σ : St} (h : CodeN P n₀ x (blockQ id Q) a σ) : CodeN P n₀ (.block id x) Q a σ := by
  constructor
  · obtain ⟨e, a, τ, hx⟩ := h.ex
    cases e with
    | normal => exact ⟨_, _, _, hx⟩
    | exit i =>
      have hx' : (if i = id then Q .normal else Q (.exit i)) a τ := hx
      by_cases e : i = id
      · rw [if_pos e] at hx'; exact ⟨_, _, _, hx'⟩
      · rw [if_neg e] at hx'; exact ⟨_, _, _, hx'⟩
    | goto i => exact ⟨_, _, _, hx⟩
    | ret => exact ⟨_, _, _, hx⟩
  · intro hn ρ w a' hr ha
    refine wpIn_block (wpIn_mono (h.h hn ρ w a' hr ha) fun e a₁ w₁ hpost => ?_)
    obtain ⟨z, b, σ', ρ', h1, rfl, h3, h4⟩ := hpost
    cases z with
    | normal => exact ⟨.normal, _, _, _, h1, rfl, h3, h4⟩
    | exit i =>
      have h1' : (if i = id then Q .normal else Q (.exit i)) b σ' := h1
      by_cases hi : i = id
      · simp only [exitOf, Exit.inBlock, hi, if_true]
        rw [if_pos hi] at h1'
        exact ⟨.normal, _, _, _, h1', rfl, h3, h4⟩
      · simp only [exitOf, Exit.inBlock, hi, if_false]
        rw [if_neg hi] at h1'
        exact ⟨.exit i, _, _, _, h1', rfl, h3, h4⟩
    | goto l => exact ⟨.goto l, _, _, _, h1, rfl, h3, h4⟩
    | ret => exact ⟨.ret, _, _, _, h1, rfl, h3, h4⟩
/-- A scope whose labels nobody goes to. -/
theorem CodeN.scope {x : Code} {Q : Post} {a : Act} {σ : St} (h : CodeN P n₀ x (scopeF Q) a σ) : CodeN P n₀ (.scope x) Q a σ := by
  constructor
  · obtain ⟨e, a, τ, hx⟩ := h.ex
    cases e with
    | normal => exact ⟨_, _, _, hx⟩
    | exit i => exact ⟨_, _, _, hx⟩
    | goto i => exact hx.elim
    | ret => exact ⟨_, _, _, hx⟩
  · intro hn ρ w a' hr ha
    refine wpIn_scope_of (scopeIn_of (wpIn_mono (h.h hn ρ w a' hr ha) fun e a₁ w₁ hpost => ?_))
    obtain ⟨z, b, σ', ρ', h1, rfl, h3, h4⟩ := hpost
    cases z with
    | normal => exact ⟨.normal, _, _, _, h1, rfl, h3, h4⟩
    | exit i => exact ⟨.exit i, _, _, _, h1, rfl, h3, h4⟩
    | goto l => exact h1.elim
    | ret => exact ⟨.ret, _, _, _, h1, rfl, h3, h4⟩
theorem LoopN.code {x : Code} {Q : Post} {a : Act} {σ : St} (h : LoopN P n₀ x Q a σ) : CodeN P n₀ (.loop x) Q a σ := ⟨h.ex, fun hn ρ w a' hr ha => (h.h hn ρ w a' hr ha).1⟩
/-- A loop: a round of it, and the loop again. -/
theorem LoopN.round {x : Code} {Q : Post} {a : Act} {σ : St} (h : CodeN P n₀ x (seqQ (LoopN P n₀ x Q) Q) a σ) : LoopN P n₀ x Q a σ := by
  constructor
  · obtain ⟨e, a, τ, hx⟩ := h.ex
    cases e with
    | normal => exact LoopN.ex hx
    | exit i => exact ⟨_, _, _, hx⟩
    | goto i => exact ⟨_, _, _, hx⟩
    | ret => exact ⟨_, _, _, hx⟩
  · intro hn ρ w a' hr ha
    refine wpIn_loop_of (wpIn_mono (h.h hn ρ w a' hr ha) fun e a₁ w₁ hpost => ?_)
    obtain ⟨y, a₂, σ₂, ρ₂, h1, rfl, h3, h4⟩ := hpost
    cases y with
    | normal =>
      have h1 : LoopN P n₀ x Q a₂ σ₂ := h1
      exact (h1.h h4.next ρ₂ w₁ a₁ h4.r h3).2.mono fun e a w hx => CodePostN.trans h4 hx
    | exit i => exact ⟨.exit i, a₂, σ₂, ρ₂, h1, rfl, h3, h4⟩
    | goto i => exact ⟨.goto i, a₂, σ₂, ρ₂, h1, rfl, h3, h4⟩
    | ret => exact ⟨.ret, a₂, σ₂, ρ₂, h1, rfl, h3, h4⟩

/-! ### Behind a loop -/
/-- What stands behind the j-th loop of a code, as the kernel reckons it. -/
noncomputable def behind (P : Program) (K : Know P) (fn : FuncId) : Code → Nat → Nat → Post → Post
  | .seq x y, i, j, Q => match Nat.blt j (nloops x) with
    | true => behind P K fn x i j (seqQ (ws P K fn none (Nat.add i (nloops x)) y Q) Q)
    | false => behind P K fn y (Nat.add i (nloops x)) (Nat.sub j (nloops x)) Q
  | .cond _ x y, i, j, Q => match Nat.blt j (nloops x) with
    | true => behind P K fn x i j Q
    | false => behind P K fn y (Nat.add i (nloops x)) (Nat.sub j (nloops x)) Q
  | .block id x, i, j, Q => behind P K fn x i j (blockQ id Q)
  | .scope x, i, j, Q => behind P K fn x i j (scopeF Q)
  | .loop x, i, j, Q => match j with
    | 0 => Q
    | j + 1 => behind P K fn x (Nat.add i 1) j (seqQ (K.loop fn none i x Q) Q)
  | _, _, _, _ => fun _ _ _ => False
/-- The same, as it is in the machine. -/
def behindC (P : Program) (n₀ : Nat) : Code → Nat → Post → Post
  | .seq x y, j, Q => match Nat.blt j (nloops x) with
    | true => behindC P n₀ x j (seqQ (CodeN P n₀ y Q) Q)
    | false => behindC P n₀ y (Nat.sub j (nloops x)) Q
  | .cond _ x y, j, Q => match Nat.blt j (nloops x) with
    | true => behindC P n₀ x j Q
    | false => behindC P n₀ y (Nat.sub j (nloops x)) Q
  | .block id x, j, Q => behindC P n₀ x j (blockQ id Q)
  | .scope x, j, Q => behindC P n₀ x j (scopeF Q)
  | .loop x, j, Q => match j with
    | 0 => Q
    | j + 1 => behindC P n₀ x j (seqQ (LoopN P n₀ x Q) Q)
  | _, _, _ => fun _ _ _ => False

omit [Env] in
theorem loops_left {x y : Code} {j : Nat} {z : Code} (h : (loopsOf x)[j]? = some z) : (loopsOf x ++ loopsOf y)[j]? = some z ∧ Nat.blt j (nloops x) = true := by
  have hlt := (List.getElem?_eq_some_iff.1 h).1
  refine ⟨by rw [List.getElem?_append_left hlt]; exact h, ?_⟩
  rw [Nat.blt_eq, ← nloops_eq]; exact hlt
omit [Env] in
theorem loops_right {x y : Code} {j : Nat} {z : Code} (h : (loopsOf y)[j]? = some z) : (loopsOf x ++ loopsOf y)[nloops x + j]? = some z ∧ Nat.blt (nloops x + j) (nloops x) = false := by
  refine ⟨by rw [List.getElem?_append_right (by rw [nloops_eq]; omega), nloops_eq, show nloops x + j - nloops x = j by omega]; exact h, ?_⟩
  cases hb : Nat.blt (nloops x + j) (nloops x) with
  | false => rfl
  | true => rw [Nat.blt_eq] at hb; omega

section
variable [Mix P] {K : Know P}
/-- What the kernel reckons holds in the machine, if it does at the heads of the loops. -/
structure Know.OkN (K : Know P) (n₀ : Nat) : Prop extends K.OkC where
  range : ∀ {f : FuncId} {c : Code} {Q : Post} {a : Act} {σ : St}, K.range f none c Q a σ → CodeN P n₀ c Q a σ
theorem CodeN.of_ws (hK : K.OkN n₀) : ∀ (c : Code) {i : Nat} {Q Q' : Post} (_ : ∀ e a σ, Q e a σ → Q' e a σ)
    (_ : ∀ j x, (loopsOf c)[j]? = some x → ∀ a σ Q, K.loop fn none (i + j) x Q a σ → LoopN P n₀ x (behindC P n₀ c j Q') a σ) {a : Act} {σ : St}, ws P K fn none i c Q a σ → CodeN P n₀ c Q' a σ
  | .skip, i, Q, Q', hq, H, a, σ, h => CodeN.of (fn := fn) ⟨hq _ _ _ h⟩
  | .label l, i, Q, Q', hq, H, a, σ, h => CodeN.of (fn := fn) ⟨hq _ _ _ h⟩
  | .exit id, i, Q, Q', hq, H, a, σ, h => CodeN.of (fn := fn) ⟨hq _ _ _ h⟩
  | .goto l, i, Q, Q', hq, H, a, σ, h => CodeN.of (fn := fn) ⟨hq _ _ _ h⟩
  | .ret, i, Q, Q', hq, H, a, σ, h => CodeN.of (fn := fn) ⟨hq _ _ _ h⟩
  | .seq x y, i, Q, Q', hq, H, a, σ, h => by
    refine .seq (CodeN.of_ws hK x (i := i) (Q := seqQ (ws P K fn none (Nat.add i (nloops x)) y Q) Q) (fun e a σ h => ?_) (fun j z hz a σ Q₁ hA => ?_) h)
    · cases e with
      | normal =>
        refine CodeN.of_ws hK y (i := i + nloops x) hq (fun j z hz a σ Q₁ hA => ?_) h
        obtain ⟨h1, h2⟩ := loops_right (x := x) hz
        have := H (nloops x + j) z h1 a σ Q₁ (by rw [← Nat.add_assoc]; exact hA)
        unfold behindC at this
        rw [h2] at this
        dsimp only at this
        rw [show Nat.sub (nloops x + j) (nloops x) = j from Nat.add_sub_cancel_left _ _] at this
        exact this
      | exit i => exact hq _ _ _ h
      | goto l => exact hq _ _ _ h
      | ret => exact hq _ _ _ h
    · obtain ⟨h1, h2⟩ := loops_left (y := y) hz
      have := H j z h1 a σ Q₁ hA
      unfold behindC at this
      rw [h2] at this
      exact this
  | .cond x y z, i, Q, Q', hq, H, a, σ, h => by
    refine .cond ?_
    have h' : condP (ws P K fn none i y Q a σ) (ws P K fn none (Nat.add i (nloops y)) z Q a σ) (a.eval x) := h
    revert h'
    cases a.eval x with
    | none => exact id
    | some v => cases v with
      | bool b =>
        refine fun h => .mk (fun e => CodeN.of_ws hK y (i := i) hq (fun j t hz a σ Q₁ hA => ?_) (CondP.y h e)) fun e => CodeN.of_ws hK z (i := i + nloops y) hq (fun j t hz a σ Q₁ hA => ?_) (CondP.z h e)
        · obtain ⟨h1, h2⟩ := loops_left (y := z) hz
          have := H j t h1 a σ Q₁ hA
          unfold behindC at this
          rw [h2] at this
          exact this
        · obtain ⟨h1, h2⟩ := loops_right (x := y) hz
          have := H (nloops y + j) t h1 a σ Q₁ (by rw [← Nat.add_assoc]; exact hA)
          unfold behindC at this
          rw [h2] at this
          dsimp only at this
          rw [show Nat.sub (nloops y + j) (nloops y) = j from Nat.add_sub_cancel_left _ _] at this
          exact this
      | _ => exact id
  | .block id x, i, Q, Q', hq, H, a, σ, h => by
    refine .block (CodeN.of_ws hK x (i := i) (Q := blockQ id Q) (fun e a σ h => ?_) (fun j z hz a σ Q₁ hA => H j z hz a σ Q₁ hA) h)
    cases e with
    | normal => exact hq _ _ _ h
    | exit k =>
      have h' : (if k = id then Q .normal else Q (.exit k)) a σ := h
      show (if k = id then Q' .normal else Q' (.exit k)) a σ
      by_cases e : k = id
      · rw [if_pos e] at h' ⊢; exact hq _ _ _ h'
      · rw [if_neg e] at h' ⊢; exact hq _ _ _ h'
    | goto l => exact hq _ _ _ h
    | ret => exact hq _ _ _ h
  | .loop x, i, Q, Q', hq, H, a, σ, h => (H 0 x rfl a σ Q h).code
  | .region id ops draw, i, Q, Q', hq, H, a, σ, h => by
    have h' : regionS P K none ops.toList (Q .normal) a σ draw := h
    have hc : CodeS P fn none (.region id ops draw) Q a σ := by
      cases draw with
      | false => exact ⟨opsS_holds hK.toOkC h'⟩
      | true =>
        have h' : drawS P K none ops.toList (Q .normal) a σ (planOf P ops.toList) := h'
        constructor
        show ((match planOf P ops.toList with
          | some l => (⟨fun R ro a σ => (drawnC P ops.toList l).f R ro σ.next [ahead (len ops.toList) σ] a (ahead (len ops.toList) σ)⟩ : CodeC)
          | none => ⟨fun _ _ _ _ => .fail "plan"⟩).f (semR P) none a σ).Holds (exP Q)
        cases hp : planOf P ops.toList with
        | none => rw [hp] at h'; exact h'.elim
        | some l => rw [hp] at h'; exact drawnS_holds hK.toOkC h'
    exact (CodeN.of hc).mono hq
  | .rangeFunc _ _ _ _, i, Q, Q', hq, H, a, σ, h => (hK.range h).mono hq
  | .scope x, i, Q, Q', hq, H, a, σ, h => by
    refine .scope (CodeN.of_ws hK x (i := i) (Q := scopeF Q) (fun e a σ h => ?_) (fun j z hz a σ Q₁ hA => H j z hz a σ Q₁ hA) h)
    cases e with
    | normal => exact hq _ _ _ h
    | exit k => exact hq _ _ _ h
    | goto l => exact h.elim
    | ret => exact hq _ _ _ h
  | .refuse _, i, Q, Q', hq, H, a, σ, h => (CodeN.of (show CodeS P fn none _ Q a σ from h)).mono hq
theorem behind_sound (hK : K.OkN n₀) : ∀ (c : Code) {i j : Nat} {Q Q' : Post} (_ : ∀ e a σ, Q e a σ → Q' e a σ)
    (_ : ∀ j x, (loopsOf c)[j]? = some x → ∀ a σ Q, K.loop fn none (i + j) x Q a σ → LoopN P n₀ x (behindC P n₀ c j Q') a σ) {e : Ex} {a : Act} {σ : St}, behind P K fn c i j Q e a σ → behindC P n₀ c j Q' e a σ
  | .seq x y, i, j, Q, Q', hq, H, e, a, σ, h => by
    have Hx : ∀ j z, (loopsOf x)[j]? = some z → ∀ a σ Q, K.loop fn none (i + j) z Q a σ → LoopN P n₀ z (behindC P n₀ x j (seqQ (CodeN P n₀ y Q') Q')) a σ := by
      intro j z hz a σ Q₁ hA
      obtain ⟨h1, h2⟩ := loops_left (y := y) hz
      have := H j z h1 a σ Q₁ hA
      unfold behindC at this
      rw [h2] at this
      exact this
    have Hy : ∀ j z, (loopsOf y)[j]? = some z → ∀ a σ Q, K.loop fn none (i + nloops x + j) z Q a σ → LoopN P n₀ z (behindC P n₀ y j Q') a σ := by
      intro j z hz a σ Q₁ hA
      obtain ⟨h1, h2⟩ := loops_right (x := x) hz
      have := H (nloops x + j) z h1 a σ Q₁ (by rw [← Nat.add_assoc]; exact hA)
      unfold behindC at this
      rw [h2] at this
      dsimp only at this
      rw [show Nat.sub (nloops x + j) (nloops x) = j from Nat.add_sub_cancel_left _ _] at this
      exact this
    unfold behind at h
    unfold behindC
    cases hb : Nat.blt j (nloops x) with
    | true =>
      rw [hb] at h
      refine behind_sound hK x (i := i) (fun e a σ h => ?_) Hx h
      cases e with
      | normal => exact CodeN.of_ws hK y (i := i + nloops x) hq Hy h
      | exit i => exact hq _ _ _ h
      | goto l => exact hq _ _ _ h
      | ret => exact hq _ _ _ h
    | false =>
      rw [hb] at h
      exact behind_sound hK y (i := i + nloops x) hq Hy h
  | .cond _ x y, i, j, Q, Q', hq, H, e, a, σ, h => by
    unfold behind at h
    unfold behindC
    cases hb : Nat.blt j (nloops x) with
    | true =>
      rw [hb] at h
      refine behind_sound hK x (i := i) hq (fun j z hz a σ Q₁ hA => ?_) h
      obtain ⟨h1, h2⟩ := loops_left (y := y) hz
      have := H j z h1 a σ Q₁ hA
      unfold behindC at this
      rw [h2] at this
      exact this
    | false =>
      rw [hb] at h
      refine behind_sound hK y (i := i + nloops x) hq (fun j z hz a σ Q₁ hA => ?_) h
      obtain ⟨h1, h2⟩ := loops_right (x := x) hz
      have := H (nloops x + j) z h1 a σ Q₁ (by rw [← Nat.add_assoc]; exact hA)
      unfold behindC at this
      rw [h2] at this
      dsimp only at this
      rw [show Nat.sub (nloops x + j) (nloops x) = j from Nat.add_sub_cancel_left _ _] at this
      exact this
  | .block id x, i, j, Q, Q', hq, H, e, a, σ, h => by
    refine behind_sound hK x (i := i) (Q := blockQ id Q) (fun e a σ h => ?_) (fun j z hz a σ Q₁ hA => H j z hz a σ Q₁ hA) h
    cases e with
    | normal => exact hq _ _ _ h
    | exit k =>
      have h' : (if k = id then Q .normal else Q (.exit k)) a σ := h
      show (if k = id then Q' .normal else Q' (.exit k)) a σ
      by_cases e : k = id
      · rw [if_pos e] at h' ⊢; exact hq _ _ _ h'
      · rw [if_neg e] at h' ⊢; exact hq _ _ _ h'
    | goto l => exact hq _ _ _ h
    | ret => exact hq _ _ _ h
  | .scope x, i, j, Q, Q', hq, H, e, a, σ, h => by
    refine behind_sound hK x (i := i) (Q := scopeF Q) (fun e a σ h => ?_) (fun j z hz a σ Q₁ hA => H j z hz a σ Q₁ hA) h
    cases e with
    | normal => exact hq _ _ _ h
    | exit k => exact hq _ _ _ h
    | goto l => exact h.elim
    | ret => exact hq _ _ _ h
  | .loop x, i, 0, Q, Q', hq, H, e, a, σ, h => hq _ _ _ h
  | .loop x, i, j + 1, Q, Q', hq, H, e, a, σ, h => by
    refine behind_sound hK x (i := i + 1) (Q := seqQ (K.loop fn none i x Q) Q) (Q' := seqQ (LoopN P n₀ x Q') Q') (fun e a σ h => ?_) (fun j z hz a σ Q₁ hA => ?_) h
    · cases e with
      | normal => exact H 0 x rfl a σ Q h
      | exit i => exact hq _ _ _ h
      | goto l => exact hq _ _ _ h
      | ret => exact hq _ _ _ h
    · exact H (j + 1) z (by rw [loopsOf, List.getElem?_cons_succ]; exact hz) a σ Q₁ (by rw [show i + (j + 1) = i + 1 + j by omega]; exact hA)
/-- Code without rounds of functions. -/
def flatC : Code → Bool
  | .seq x y => flatC x && flatC y
  | .cond _ x y => flatC x && flatC y
  | .block _ x => flatC x
  | .loop x => flatC x
  | .scope x => flatC x
  | .rangeFunc _ _ _ _ => false
  | _ => true
omit [Mix P] in
theorem behindC_seq (x y : Code) (j : Nat) (Q : Post) : behindC P n₀ (.seq x y) j Q = match Nat.blt j (nloops x) with
    | true => behindC P n₀ x j (seqQ (CodeN P n₀ y Q) Q)
    | false => behindC P n₀ y (Nat.sub j (nloops x)) Q := rfl
omit [Mix P] in
theorem behindC_cond (o : Operand) (x y : Code) (j : Nat) (Q : Post) : behindC P n₀ (.cond o x y) j Q = match Nat.blt j (nloops x) with
    | true => behindC P n₀ x j Q
    | false => behindC P n₀ y (Nat.sub j (nloops x)) Q := rfl
omit [Mix P] in
theorem behindC_in : ∀ (c : Code), flatC c = true → ∀ {k j : Nat} {x z : Code} {Q : Post}, (loopsOf c)[k]? = some x → (loopsOf x)[j]? = some z → behindC P n₀ c (k + 1 + j) Q = behindC P n₀ x j (seqQ (LoopN P n₀ x (behindC P n₀ c k Q)) (behindC P n₀ c k Q)) := by
  intro c
  have two : ∀ {u v : Code} {k j : Nat} {x z : Code}, (loopsOf u ++ loopsOf v)[k]? = some x → (loopsOf x)[j]? = some z →
      (Nat.blt k (nloops u) = true ∧ Nat.blt (k + 1 + j) (nloops u) = true ∧ (loopsOf u)[k]? = some x) ∨ (Nat.blt k (nloops u) = false ∧ Nat.blt (k + 1 + j) (nloops u) = false ∧ (loopsOf v)[Nat.sub k (nloops u)]? = some x ∧ Nat.sub (k + 1 + j) (nloops u) = Nat.sub k (nloops u) + 1 + j) := by
    intro u v k j x z hk hj
    rcases Nat.lt_or_ge k (loopsOf u).length with hlt | hge
    · rw [List.getElem?_append_left hlt] at hk
      have h2 := (List.getElem?_eq_some_iff.1 (loopsOf_in u hk hj)).1
      rw [nloops_eq] at hlt h2
      exact .inl ⟨by rw [Nat.blt_eq]; exact hlt, by rw [Nat.blt_eq]; exact h2, hk⟩
    · rw [List.getElem?_append_right hge] at hk
      rw [nloops_eq] at hge hk
      have f : ∀ n, nloops u ≤ n → Nat.blt n (nloops u) = false := fun n hn => by
        cases hb : Nat.blt n (nloops u) with
        | false => rfl
        | true => rw [Nat.blt_eq] at hb; omega
      exact .inr ⟨f _ hge, f _ (by omega), hk, by show k + 1 + j - nloops u = k - nloops u + 1 + j; omega⟩
  induction c with
  | seq u v ihu ihv =>
    intro hp k j x z Q hk hj
    have hp := Bool.and_eq_true_iff.1 (show (flatC u && flatC v) = true from hp)
    rw [behindC_seq, behindC_seq]
    rcases two hk hj with ⟨h1, h2, h3⟩ | ⟨h1, h2, h3, h4⟩
    · rw [h1, h2]; exact ihu hp.1 h3 hj
    · rw [h1, h2]
      dsimp only
      rw [h4]; exact ihv hp.2 h3 hj
  | cond o u v ihu ihv =>
    intro hp k j x z Q hk hj
    have hp := Bool.and_eq_true_iff.1 (show (flatC u && flatC v) = true from hp)
    rw [behindC_cond, behindC_cond]
    rcases two hk hj with ⟨h1, h2, h3⟩ | ⟨h1, h2, h3, h4⟩
    · rw [h1, h2]; exact ihu hp.1 h3 hj
    · rw [h1, h2]
      dsimp only
      rw [h4]; exact ihv hp.2 h3 hj
  | block i u ih => exact fun hp {_ _ _ _ _} hk hj => ih hp hk hj
  | loop u ih =>
    intro hp k j x z Q hk hj
    cases k with
    | zero =>
      have e : u = x := by simpa [loopsOf] using hk
      subst e
      rw [show 0 + 1 + j = j + 1 by omega]
      rfl
    | succ k =>
      have hk' : (loopsOf u)[k]? = some x := by simpa [loopsOf] using hk
      rw [show k + 1 + 1 + j = (k + 1 + j) + 1 by omega]
      show behindC P n₀ u (k + 1 + j) _ = _
      exact ih hp hk' hj
  | scope u ih => exact fun hp {_ _ _ _ _} hk hj => ih hp hk hj
  | _ => intro hp k j x z Q hk; simp [loopsOf] at hk
end
end

/-! ### Frames and memory in one form -/
/-- What a slot holds: a value; a row of its own; cells of its own. -/
inductive SV where
  | val (v : V)
  | row (n : Nat) (f : Nat → V) (esz : Nat)
  | box (cs : List V)
/-- No number of a block in it. -/
def SV.clean [Env] : SV → Prop
  | .val v => Clean v
  | .row n f _ => ∀ i, i < n → ∀ u ∈ (f i).cells, Clean u
  | .box cs => ∀ u ∈ cs, Clean u
noncomputable def SV.v (s : SV) (b : Nat) : V :=
  match s with
  | .val v => v
  | .row n _ esz => .own b n esz
  | .box _ => .ptr b 0
noncomputable def SV.blk : SV → Option Blk
  | .val _ => none
  | .row n f esz => some (.row n f esz false)
  | .box cs => some (.cells (len cs) [] (putAll cs .leaf 0) false false)
noncomputable def valsOf (ss : List SV) : Nat → List V :=
  List.rec (motive := fun _ => Nat → List V) (fun _ => []) (fun s _ ih b => s.v b :: ih (match s.blk with | some _ => Nat.add b 1 | none => b)) ss
noncomputable def blksOf (ss : List SV) : List Blk :=
  List.rec (motive := fun _ => List Blk) [] (fun s _ ih => match s.blk with | some k => k :: ih | none => ih) ss
noncomputable def putL (ls : List Nat) : List V → Slots V :=
  List.rec (motive := fun _ => List V → Slots V) (fun _ => []) (fun t _ ih vs => List.rec [] (fun v r _ => (ih r).put t v) vs) ls
noncomputable def trieL (ks : List Blk) : Nat → Trie Blk :=
  List.rec (motive := fun _ => Nat → Trie Blk) (fun _ => .leaf) (fun k _ ih n => (ih (Nat.add n 1)).put n (some k)) ks
noncomputable def mkA (size : Nat) (live : List Nat) (ss : List SV) : Act := ⟨putL live (valsOf ss 0), size, []⟩
noncomputable def mkS (ss : List SV) : St := ⟨trieL (blksOf ss) 0, len (blksOf ss)⟩

noncomputable def memB (n : Nat) (l : List Nat) : Bool := List.rec (motive := fun _ => Bool) false (fun a _ b => Nat.beq n a || b) l
noncomputable def nodupB (l : List Nat) : Bool := List.rec (motive := fun _ => Bool) true (fun a t b => !memB a t && b) l
/-- Cells, element by element. -/
noncomputable def elemsOf (N : Nat) (z : List V) (t : Trie V) (esz n : Nat) : Nat → Option (List V) :=
  Nat.rec (motive := fun _ => Nat → Option (List V)) (fun _ => some []) (fun _ ih off => match cellsOf N z t esz off with
    | some cs => match ih (Nat.add off esz) with
      | some es => some (.agg cs :: es)
      | none => none
    | none => none) n
/-- Cells that are all zero, or a single element, as a row. -/
noncomputable def rowOf (n m : Nat) (ex : Bool) (esz N : Nat) (z : List V) (t : Trie V) (k : (Nat → V) → Prop) : Trie V → Prop
  | .leaf => match ex && (Nat.beq (len z) esz && Nat.blt 0 esz) with
    | true => (n ≤ m ∧ N = n * esz) ∧ k fun _ => .agg z
    | false => False
  | _ => match ex, cellsOf N z t esz 0 with
    | false, some cs => match Nat.ble 2 n with
      | true => match elemsOf N z t esz n 0 with
        | some es => (m = n ∧ N = n * esz) ∧ k (lstF es)
        | none => False
      | false => (n = 1 ∧ m = 1 ∧ N = 1 * esz) ∧ k fun _ => .agg cs
    | _, _ => False
theorem cellsOf_get0 {n : Nat} {z : List V} {t : Trie V} (k off : Nat) {vs : List V} (h : cellsOf n z t k off = some vs) : vs.length = k ∧ ∀ i v, vs[i]? = some v → cellOf n z t (off + i) = some v := by
  letI : Env := envOf [] fun x hx => by cases hx
  exact cellsOf_get k off h
theorem elemsOf_get {N : Nat} {z : List V} {t : Trie V} {esz : Nat} : ∀ {n off : Nat} {es : List V}, elemsOf N z t esz n off = some es → es.length = n ∧ ∀ i, i < n → ∃ cs, es[i]? = some (.agg cs) ∧ cs.length = esz ∧ ∀ j v, cs[j]? = some v → cellOf N z t (off + i * esz + j) = some v
  | 0, off, es, h => by
    have h : some [] = some es := h
    cases h
    exact ⟨rfl, fun i hi => absurd hi (Nat.not_lt_zero i)⟩
  | n + 1, off, es, h => by
    have h : (match cellsOf N z t esz off with
      | some cs => match elemsOf N z t esz n (Nat.add off esz) with
        | some es => some (.agg cs :: es)
        | none => none
      | none => none) = some es := h
    split at h
    · rename_i cs hc
      split at h
      · rename_i us hu
        cases h
        obtain ⟨g1, g2⟩ := elemsOf_get hu
        obtain ⟨c1, c2⟩ := cellsOf_get0 _ _ hc
        refine ⟨congrArg (· + 1) g1, fun i hi => ?_⟩
        cases i with
        | zero => exact ⟨cs, rfl, c1, fun j v hv => by rw [Nat.zero_mul, Nat.add_zero]; exact c2 j v hv⟩
        | succ i =>
          obtain ⟨ds, d1, d2, d3⟩ := g2 i (by omega)
          refine ⟨ds, d1, d2, fun j v hv => ?_⟩
          have := d3 j v hv
          rwa [show Nat.add off esz + i * esz + j = off + (i + 1) * esz + j by
            show off + esz + i * esz + j = _
            rw [Nat.succ_mul]; omega] at this
      · cases h
    · cases h
theorem rowOf_cells {n m : Nat} {ex : Bool} {esz N : Nat} {z : List V} {t : Trie V} {k : (Nat → V) → Prop} (h : rowOf n m ex esz N z t k t) :
    ∃ f, k f ∧ N = n * esz ∧ ((ex = true ∧ n ≤ m) ∨ (ex = false ∧ m = n ∧ n ≠ 0)) ∧ (∀ i, i < n → (f i).cells.length = esz) ∧ ∀ i, i < n → ∀ j v, (f i).cells[j]? = some v → cellOf N z t (i * esz + j) = some v := by
  cases t with
  | nil =>
    have h' : (match ex && (Nat.beq (len z) esz && Nat.blt 0 esz) with
      | true => (n ≤ m ∧ N = n * esz) ∧ k fun _ => .agg z
      | false => False) := h
    split at h'
    · rename_i hb
      rw [Bool.and_eq_true, Bool.and_eq_true] at hb
      obtain ⟨b1, b2, b3⟩ := hb
      have b2 := Nat.eq_of_beq_eq_true b2
      rw [len_eq] at b2
      rw [Nat.blt_eq] at b3
      obtain ⟨⟨c1, c2⟩, c3⟩ := h'
      refine ⟨_, c3, c2, .inl ⟨b1, c1⟩, fun i _ => b2, fun i hi j v hj => ?_⟩
      have hj' : z[j]? = some v := hj
      have hlt : j < esz := by rw [← b2]; exact (List.getElem?_eq_some_iff.1 hj').1
      have hlt2 : i * esz + j < N := by rw [c2]; have := mul_room hi (Nat.succ_le_of_lt hlt); omega
      unfold cellOf
      rw [show Nat.blt (i * esz + j) N = true by rw [Nat.blt_eq]; exact hlt2]
      dsimp only
      rw [show Trie.get ([] : Trie V) (i * esz + j) = none from Trie.get_leaf _]
      dsimp only
      rw [nth_eq, len_eq, b2, show Nat.mod (i * esz + j) esz = j from by
        show (i * esz + j) % esz = j
        rw [Nat.add_comm, Nat.add_mul_mod_self_right, Nat.mod_eq_of_lt hlt]]
      exact hj'
    · exact h'.elim
  | cons x t =>
    have h' : (match (generalizing := false) ex, cellsOf N z (x :: t) esz 0 with
      | false, some cs => match Nat.ble 2 n with
        | true => match elemsOf N z (x :: t) esz n 0 with
          | some es => (m = n ∧ N = n * esz) ∧ k (lstF es)
          | none => False
        | false => (n = 1 ∧ m = 1 ∧ N = 1 * esz) ∧ k fun _ => .agg cs
      | _, _ => False) := h
    split at h'
    · rename_i cs hc
      split at h'
      · rename_i h2
        have h2 := Nat.le_of_ble_eq_true h2
        split at h'
        · rename_i es he
          obtain ⟨⟨rfl, rfl⟩, h3⟩ := h'
          obtain ⟨g1, g2⟩ := elemsOf_get he
          have key : ∀ i, i < m → ∃ cs, lstF es i = .agg cs ∧ cs.length = esz ∧ ∀ j v, cs[j]? = some v → cellOf (m * esz) z (x :: t) (i * esz + j) = some v := fun i hi => by
            obtain ⟨ds, d1, d2, d3⟩ := g2 i hi
            refine ⟨ds, ?_, d2, fun j v hv => by have := d3 j v hv; rwa [Nat.zero_add] at this⟩
            unfold lstF
            rw [nth_eq, d1]
          refine ⟨_, h3, rfl, .inr ⟨rfl, rfl, by omega⟩, fun i hi => ?_, fun i hi j v hj => ?_⟩
          · obtain ⟨ds, d1, d2, _⟩ := key i hi
            rw [d1]; exact d2
          · obtain ⟨ds, d1, _, d3⟩ := key i hi
            rw [d1] at hj; exact d3 j v hj
        · exact h'.elim
      obtain ⟨⟨rfl, rfl, rfl⟩, h3⟩ := h'
      obtain ⟨g1, g2⟩ := cellsOf_get0 _ _ hc
      refine ⟨_, h3, rfl, .inr ⟨rfl, rfl, by omega⟩, fun i _ => g1, fun i hi j v hj => ?_⟩
      obtain rfl : i = 0 := by omega
      have := g2 j v hj
      rw [Nat.zero_mul]; exact this
    · exact h'.elim
def canonV (σ : St) (k : SV → Option Nat → Prop) : V → Prop
  | .own b n esz => match σ.heap.get b with
    | some (.row n' f esz' _) => (n = n' ∧ esz = esz') ∧ k (.row n' f esz') (some b)
    | _ => False
  | .ptr b off => match off, σ.heap.get b with
    | 0, some (.cells n z t _ false) => match cellsOf n z t n 0 with
      | some cs => k (.box cs) (some b)
      | none => False
    | _, _ => False
  | .slice b off n m ex esz => match off, σ.heap.get b with
    | 0, some (.cells N z t _ false) => rowOf n m ex esz N z t (fun f => k (.row n f esz) (some b)) t
    | _, _ => False
  | v => k (.val v) none
def addO (b : Option Nat) (bs : List Nat) : List Nat :=
  match b with
  | some b => b :: bs
  | none => bs
noncomputable def canonL (a : Act) (σ : St) (ls : List Nat) : (List SV → List Nat → Prop) → Prop :=
  List.rec (motive := fun _ => (List SV → List Nat → Prop) → Prop) (fun k => k [] []) (fun t _ ih k => match a.tmps.get t with
    | some v => canonV σ (fun s b => ih fun ss bs => k (s :: ss) (addO b bs)) v
    | none => False) ls
/-- Those ahead of n₀ stand in their places. -/
noncomputable def pfxB (n : Nat) : Nat → List Nat → Bool :=
  Nat.rec (motive := fun _ => Nat → List Nat → Bool) (fun _ _ => true) (fun _ ih k l => List.rec false (fun b r _ => Nat.beq b k && ih (Nat.add k 1) r) l) n
noncomputable def canonP (n₀ size : Nat) (live : List Nat) (a : Act) (σ : St) (k : List SV → Prop) : Prop :=
  match a.defers, Nat.beq a.size size with
  | [], true => canonL a σ live fun ss bs => match pfxB n₀ 0 bs && nodupB bs with
    | true => k ss
    | false => False
  | _, _ => False

section
variable [Env]
inductive CanonR (a : Act) (σ : St) : List Nat → List SV → List Nat → Prop
  | nil : CanonR a σ [] [] []
  | val {t : Nat} {v : V} {l : List Nat} {ss : List SV} {bs : List Nat} (h : a.tmps.get t = some v) (hl : CanonR a σ l ss bs) : CanonR a σ (t :: l) (.val v :: ss) bs
  | row {t b n esz : Nat} {f : Nat → V} {p : Bool} {l : List Nat} {ss : List SV} {bs : List Nat} (h : a.tmps.get t = some (.own b n esz)) (hb : σ.heap.get b = some (.row n f esz p)) (hl : CanonR a σ l ss bs) : CanonR a σ (t :: l) (.row n f esz :: ss) (b :: bs)
  | rowOf {t b n m esz N : Nat} {ex : Bool} {f : Nat → V} {z : List V} {tr : Trie V} {p : Bool} {l : List Nat} {ss : List SV} {bs : List Nat} (h : a.tmps.get t = some (.slice b 0 n m ex esz)) (hb : σ.heap.get b = some (.cells N z tr p false))
      (hN : N = n * esz) (hm : (ex = true ∧ n ≤ m) ∨ (ex = false ∧ m = n ∧ n ≠ 0)) (hu : ∀ i, i < n → (f i).cells.length = esz) (hc : ∀ i, i < n → ∀ j v, (f i).cells[j]? = some v → cellOf N z tr (i * esz + j) = some v)
      (hl : CanonR a σ l ss bs) : CanonR a σ (t :: l) (.row n f esz :: ss) (b :: bs)
  | box {t b n : Nat} {z : List V} {tr : Trie V} {p : Bool} {cs : List V} {l : List Nat} {ss : List SV} {bs : List Nat} (h : a.tmps.get t = some (.ptr b 0)) (hb : σ.heap.get b = some (.cells n z tr p false)) (hc : cellsOf n z tr n 0 = some cs) (hl : CanonR a σ l ss bs) : CanonR a σ (t :: l) (.box cs :: ss) (b :: bs)
omit [Env] in
theorem canonL_rel {a : Act} {σ : St} : ∀ {ls : List Nat} {k : List SV → List Nat → Prop}, canonL a σ ls k → ∃ ss bs, CanonR a σ ls ss bs ∧ k ss bs
  | [], k, h => ⟨[], [], .nil, h⟩
  | t :: l, k, h => by
    have h' : (match a.tmps.get t with
      | some v => canonV σ (fun s b => canonL a σ l fun ss bs => k (s :: ss) (addO b bs)) v
      | none => False) := h
    cases hv : a.tmps.get t with
    | none => rw [hv] at h'; exact h'.elim
    | some v =>
      rw [hv] at h'
      replace h' : canonV σ (fun s b => canonL a σ l fun ss bs => k (s :: ss) (addO b bs)) v := h'
      unfold canonV at h'
      split at h'
      · split at h'
        · rename_i hb
          obtain ⟨⟨rfl, rfl⟩, h'⟩ := h'
          obtain ⟨ss, bs, h1, h2⟩ := canonL_rel h'
          exact ⟨_, _, .row hv hb h1, h2⟩
        · exact h'.elim
      · split at h'
        · rename_i hb
          split at h'
          · rename_i hc
            obtain ⟨ss, bs, h1, h2⟩ := canonL_rel h'
            exact ⟨_, _, .box hv hb hc h1, h2⟩
          · exact h'.elim
        · exact h'.elim
      · split at h'
        · rename_i hb
          obtain ⟨f, h', c1, c2, c3, c4⟩ := rowOf_cells h'
          obtain ⟨ss, bs, h1, h2⟩ := canonL_rel h'
          exact ⟨_, _, .rowOf hv hb c1 c2 c3 c4 h1, h2⟩
        · exact h'.elim
      · obtain ⟨ss, bs, h1, h2⟩ := canonL_rel h'
        exact ⟨_, _, .val hv h1, h2⟩
omit [Env] in
theorem putL_get : ∀ {ls : List Nat} {vs : List V} {t : Nat} {v : V}, (putL ls vs).get t = some v → ∃ i : Nat, ls[i]? = some t ∧ vs[i]? = some v
  | [], vs, t, v, h => by cases h
  | u :: ls, [], t, v, h => by cases h
  | u :: ls, w :: vs, t, v, h => by
    have h' : ((putL ls vs).put u w).get t = some v := h
    rw [Slots.get_put] at h'
    by_cases e : t = u
    · rw [if_pos e] at h'
      exact ⟨0, by rw [e]; rfl, h'⟩
    · rw [if_neg e] at h'
      obtain ⟨i, h1, h2⟩ := putL_get h'
      exact ⟨i + 1, by simpa using h1, by simpa using h2⟩
omit [Env] in
theorem trieL_get : ∀ {ks : List Blk} {n i : Nat} {k : Blk}, (trieL ks n).get i = some k → n ≤ i ∧ ks[i - n]? = some k
  | [], n, i, k, h => by
    have h' : (Trie.leaf : Trie Blk).get i = some k := h
    rw [Trie.get_leaf] at h'; cases h'
  | q :: ks, n, i, k, h => by
    have h' : ((trieL ks (n + 1)).put n (some q)).get i = some k := h
    rw [Trie.get_put] at h'
    by_cases e : i = n
    · subst e
      rw [if_pos rfl] at h'
      exact ⟨Nat.le_refl _, by rw [Nat.sub_self]; exact h'⟩
    · rw [if_neg e] at h'
      obtain ⟨h1, h2⟩ := trieL_get h'
      exact ⟨by omega, by rw [show i - n = (i - (n + 1)) + 1 by omega, List.getElem?_cons_succ]; exact h2⟩
omit [Env] in
theorem CanonR.len {a : Act} {σ : St} {ls : List Nat} {ss : List SV} {bs : List Nat} (h : CanonR a σ ls ss bs) : (blksOf ss).length = bs.length := by
  induction h with
  | nil => rfl
  | val h hl ih => exact ih
  | row h hb hl ih => exact congrArg (· + 1) ih
  | rowOf h hb hN hm hu hc hl ih => exact congrArg (· + 1) ih
  | box h hb hc hl ih => exact congrArg (· + 1) ih
theorem CanonR.slots {a : Act} {σ : St} {ls : List Nat} {ss : List SV} {bs : List Nat} (h : CanonR a σ ls ss bs) : (∀ s ∈ ss, s.clean) → ∀ (pre : List Nat) {i t : Nat} {v : V}, ls[i]? = some t → (valsOf ss pre.length)[i]? = some v →
    ∃ u, a.tmps.get t = some u ∧ VRen (fun b => (pre ++ bs)[b]?) v u := by
  induction h with
  | nil => intro _ pre i t v h1; simp at h1
  | val h hl ih =>
    intro hc pre i t v h1 h2
    cases i with
    | zero =>
      simp at h1; subst h1
      have h2' : some _ = some v := h2
      cases h2'
      exact ⟨_, h, .clean (hc _ List.mem_cons_self)⟩
    | succ i => exact ih (fun s hs => hc s (List.mem_cons_of_mem _ hs)) pre (i := i) (by simpa using h1) h2
  | @row t₀ b n esz f p l ss bs h hb hl ih =>
    intro hc pre i t v h1 h2
    cases i with
    | zero =>
      simp at h1; subst h1
      have h2' : some _ = some v := h2
      cases h2'
      exact ⟨_, h, .own (by simp)⟩
    | succ i =>
      have := ih (fun s hs => hc s (List.mem_cons_of_mem _ hs)) (pre ++ [b]) (i := i) (t := t) (v := v) (by simpa using h1) (by rw [List.length_append]; exact h2)
      simpa using this
  | @rowOf t₀ b n m esz N ex f z tr p l ss bs h hb hN hm hu hcs hl ih =>
    intro hc pre i t v h1 h2
    cases i with
    | zero =>
      simp at h1; subst h1
      have h2' : some _ = some v := h2
      cases h2'
      rcases hm with ⟨rfl, hm⟩ | ⟨rfl, rfl, hm⟩
      · exact ⟨_, h, .ownEx (by simp) hm⟩
      · exact ⟨_, h, .ownOf (by simp) hm⟩
    | succ i =>
      have := ih (fun s hs => hc s (List.mem_cons_of_mem _ hs)) (pre ++ [b]) (i := i) (t := t) (v := v) (by simpa using h1) (by rw [List.length_append]; exact h2)
      simpa using this
  | @box t₀ b n z tr p cs l ss bs h hb hcs hl ih =>
    intro hc pre i t v h1 h2
    cases i with
    | zero =>
      simp at h1; subst h1
      have h2' : some _ = some v := h2
      cases h2'
      exact ⟨_, h, .ptr (by simp)⟩
    | succ i =>
      have := ih (fun s hs => hc s (List.mem_cons_of_mem _ hs)) (pre ++ [b]) (i := i) (t := t) (v := v) (by simpa using h1) (by rw [List.length_append]; exact h2)
      simpa using this
theorem CanonR.blks {m : Nat → Option Nat} {a : Act} {σ : St} {ls : List Nat} {ss : List SV} {bs : List Nat} (h : CanonR a σ ls ss bs) : (∀ s ∈ ss, s.clean) → ∀ {i : Nat} {k : Blk}, (blksOf ss)[i]? = some k → ∃ c k', bs[i]? = some c ∧ σ.heap.get c = some k' ∧ BlkRen m k k' := by
  induction h with
  | nil => intro _ i k h; cases i <;> cases h
  | val h hl ih => exact fun hc {i k} hk => ih (fun s hs => hc s (List.mem_cons_of_mem _ hs)) hk
  | row h hb hl ih =>
    intro hc i k hk
    cases i with
    | zero =>
      have hk' : some _ = some k := hk
      cases hk'
      exact ⟨_, _, rfl, hb, .row (fun h => by cases h) fun i hi => VRenL.clean (hc _ List.mem_cons_self i hi)⟩
    | succ i => exact ih (fun s hs => hc s (List.mem_cons_of_mem _ hs)) hk
  | @rowOf t b n m' esz N ex f z tr p l ss bs h hb hN hm hu hcs hl ih =>
    intro hc i k hk
    cases i with
    | zero =>
      have hk' : some _ = some k := hk
      cases hk'
      subst hN
      exact ⟨_, _, rfl, hb, .toRow (fun h => by cases h) hu fun i hi j v hj => ⟨v, hcs i hi j v hj, .clean (hc _ List.mem_cons_self i hi v (List.mem_of_getElem? hj))⟩⟩
    | succ i => exact ih (fun s hs => hc s (List.mem_cons_of_mem _ hs)) hk
  | @box t b n z tr p cs l ss bs h hb hcs hl ih =>
    intro hc i k hk
    cases i with
    | zero =>
      have hk' : some _ = some k := hk
      cases hk'
      obtain ⟨g1, g2⟩ := cellsOf_get _ _ hcs
      rw [len_eq, g1]
      refine ⟨_, _, rfl, hb, .cells (fun h => by cases h) fun i v hi => ?_⟩
      rcases cellOf_putAll hi with ⟨_, h2, h3⟩ | ⟨_, h2⟩
      · rw [Nat.sub_zero] at h3
        have := g2 i v h3
        rw [Nat.zero_add] at this
        exact ⟨v, this, .clean (hc _ List.mem_cons_self v (List.mem_of_getElem? h3))⟩
      · unfold cellOf at h2
        split at h2
        · rw [Trie.get_leaf] at h2; simp [nth_eq] at h2
        · cases h2
    | succ i => exact ih (fun s hs => hc s (List.mem_cons_of_mem _ hs)) hk
omit [Env] in
theorem nodupB_inj : ∀ {l : List Nat}, nodupB l = true → ∀ (i j c : Nat), l[i]? = some c → l[j]? = some c → i = j
  | [], _, i, j, c, h, _ => by simp at h
  | a :: t, hn, i, j, c, hi, hj => by
    have hn' : (!memB a t && nodupB t) = true := hn
    rw [Bool.and_eq_true] at hn'
    have hmem : ∀ {l : List Nat} {n k : Nat}, l[k]? = some n → memB n l = true := by
      intro l
      induction l with
      | nil => intro n k h; simp at h
      | cons x l ih =>
        intro n k h
        show (Nat.beq n x || memB n l) = true
        cases k with
        | zero => simp at h; subst h; rw [Nat.beq_refl, Bool.true_or]
        | succ k => rw [ih (k := k) (by simpa using h), Bool.or_true]
    have hna : memB a t = false := by simpa using hn'.1
    cases i with
    | zero =>
      cases j with
      | zero => rfl
      | succ j =>
        simp at hi; subst hi
        have := hmem (l := t) (k := j) (by simpa using hj)
        rw [hna] at this; cases this
    | succ i =>
      cases j with
      | zero =>
        simp at hj; subst hj
        have := hmem (l := t) (k := i) (by simpa using hi)
        rw [hna] at this; cases this
      | succ j => rw [nodupB_inj hn'.2 i j c (by simpa using hi) (by simpa using hj)]
omit [Env] in
theorem pfxB_get : ∀ {n k : Nat} {l : List Nat}, pfxB n k l = true → n ≤ l.length ∧ ∀ i, i < n → l[i]? = some (k + i)
  | 0, _, _, _ => ⟨Nat.zero_le _, fun i hi => absurd hi (Nat.not_lt_zero i)⟩
  | n + 1, k, [], h => by cases h
  | n + 1, k, b :: r, h => by
    have h' : (Nat.beq b k && pfxB n (k + 1) r) = true := h
    rw [Bool.and_eq_true] at h'
    obtain ⟨h1, h2⟩ := pfxB_get h'.2
    refine ⟨by simp; omega, fun i hi => ?_⟩
    cases i with
    | zero => rw [Nat.eq_of_beq_eq_true h'.1]; rfl
    | succ i => rw [List.getElem?_cons_succ, h2 i (by omega), show k + 1 + i = k + (i + 1) by omega]
theorem canonP_fgt {n₀ size : Nat} {live : List Nat} {a : Act} {σ : St} {k : List SV → Prop} (h : canonP n₀ size live a σ k) : ∃ ss, k ss ∧ ((∀ s ∈ ss, s.clean) → ∃ m, Fgt n₀ m (mkA size live ss) (mkS ss) a σ) := by
  unfold canonP at h
  split at h
  · rename_i hd hs
    obtain ⟨ss, bs, h1, h2⟩ := canonL_rel h
    split at h2
    · rename_i hn
      rw [Bool.and_eq_true] at hn
      obtain ⟨hpf, hn⟩ := hn
      obtain ⟨hp1, hp2⟩ := pfxB_get hpf
      refine ⟨ss, h2, fun hc => ⟨fun b => bs[b]?, ?_⟩⟩
      refine ⟨(Nat.eq_of_beq_eq_true hs).symm, rfl, hd, fun i v hv => ?_, fun i k hk => ?_, fun i j c => nodupB_inj hn i j c, fun i hi => ?_, fun i hi => by rw [hp2 i hi, Nat.zero_add], by show n₀ ≤ len (blksOf ss); rw [len_eq, h1.len]; exact hp1⟩
      · obtain ⟨j, e1, e2⟩ := putL_get hv
        simpa using h1.slots hc [] e1 e2
      · obtain ⟨_, e⟩ := trieL_get (n := 0) hk
        exact h1.blks hc (by simpa using e)
      · have hi' : (blksOf ss).length ≤ i := by
          have : len (blksOf ss) ≤ i := hi
          rwa [len_eq] at this
        rw [h1.len] at hi'
        exact List.getElem?_eq_none hi'
    · exact h2.elim
  · exact h.elim

/-! ### Functions -/
/-- Calls as they are known; at the head of loop i, in the one form, what A says. -/
noncomputable def KF (P : Program) (call : FuncId → List V → St → VPost → Prop) (n₀ size : Nat) (live : Nat → List Nat) (A : Nat → List SV → Prop) : Know P :=
  { call := call, loop := fun _ _ i _ _ a σ => canonP n₀ size (live i) a σ (A i) }
variable {P : Program} [Mix P] {fn : FuncId}
/-- Loops, by what stands at their heads, and what grows less from head to head. -/
theorem LoopN.floyd {call : FuncId → List V → St → VPost → Prop} (hcall : ∀ {f vs σ k}, call f vs σ k → CallS P f vs k σ) {n₀ size : Nat} {live : Nat → List Nat} {c : Code} (hp : flatC c = true) {Q : Post}
    {α : Type} {r : α → α → Prop} (wf : WellFounded r) (μ : Nat → List SV → α) (I : Nat → List SV → Prop) (hc : ∀ k ss, I k ss → ∀ s ∈ ss, s.clean)
    (hstep : ∀ k x, (loopsOf c)[k]? = some x → ∀ ss, I k ss → ws P (KF P call n₀ size live fun k' ss' => I k' ss' ∧ r (μ k' ss') (μ k ss)) fn none (Nat.add k 1) x
      (seqQ (fun a σ => canonP n₀ size (live k) a σ fun ss' => I k ss' ∧ r (μ k ss') (μ k ss)) (behind P (KF P call n₀ size live fun k' ss' => I k' ss' ∧ r (μ k' ss') (μ k ss)) fn c 0 k Q)) (mkA size (live k) ss) (mkS ss)) :
    ∀ k x, (loopsOf c)[k]? = some x → ∀ ss, I k ss → LoopN P n₀ x (behindC P n₀ c k Q) (mkA size (live k) ss) (mkS ss) := by
  have key : ∀ (q : α), ∀ k x, (loopsOf c)[k]? = some x → ∀ ss, I k ss → μ k ss = q → LoopN P n₀ x (behindC P n₀ c k Q) (mkA size (live k) ss) (mkS ss) := by
    intro q
    induction q using wf.induction with
    | _ q ih =>
      intro k x hx ss hI hq
      have hK : (KF P call n₀ size live fun k' ss' => I k' ss' ∧ r (μ k' ss') (μ k ss)).OkN n₀ := ⟨⟨fun h => hcall h, fun h => h⟩, fun h => CodeN.of h⟩
      have H : ∀ j z, (loopsOf c)[j]? = some z → ∀ a σ (Q₁ : Post), (KF P call n₀ size live fun k' ss' => I k' ss' ∧ r (μ k' ss') (μ k ss)).loop fn none j z Q₁ a σ → LoopN P n₀ z (behindC P n₀ c j Q) a σ := by
        intro j z hz a σ Q₁ hA
        obtain ⟨ss', ⟨g1, g2⟩, g3⟩ := canonP_fgt (show canonP n₀ size (live j) a σ _ from hA)
        obtain ⟨m, hf⟩ := g3 (hc j ss' g1)
        exact (ih (μ j ss') (by rw [← hq]; exact g2) j z hz ss' g1 rfl).fgt hf
      have := hstep k x hx ss hI
      refine LoopN.round (CodeN.of_ws hK x (i := k + 1) (fun e a σ h => ?_) (fun j z hz a σ Q₁ hA => ?_) this)
      · cases e with
        | normal => exact H k x hx a σ (fun _ _ _ => True) h
        | exit i => exact behind_sound hK c (i := 0) (Q := Q) (Q' := Q) (fun _ _ _ h => h) (fun j z hz a σ Q₁ hA => H j z hz a σ Q₁ (by rw [Nat.zero_add] at hA; exact hA)) h
        | goto i => exact behind_sound hK c (i := 0) (Q := Q) (Q' := Q) (fun _ _ _ h => h) (fun j z hz a σ Q₁ hA => H j z hz a σ Q₁ (by rw [Nat.zero_add] at hA; exact hA)) h
        | ret => exact behind_sound hK c (i := 0) (Q := Q) (Q' := Q) (fun _ _ _ h => h) (fun j z hz a σ Q₁ hA => H j z hz a σ Q₁ (by rw [Nat.zero_add] at hA; exact hA)) h
      · rw [← behindC_in c hp hx hz]
        exact H (k + 1 + j) z (loopsOf_in c hx hz) a σ Q₁ hA
  exact fun k x hx ss hI => key _ k x hx ss hI rfl
/-- A call of a function. -/
theorem CallS.floyd {call : FuncId → List V → St → VPost → Prop} (hcall : ∀ {f vs σ k}, call f vs σ k → CallS P f vs k σ) {g : Func} {c : Code} {vs : List V} {Q : VPost} (hf : P.funcs[fn]? = some g) (hb : g.body = some c) (hn : (g.name == "runtime.NumGoroutine") = false) (hp : flatC c = true) {σ : St} {n₀ : Nat} (hn₀ : σ.next = n₀)
    {live : Nat → List Nat} {α : Type} {r : α → α → Prop} (wf : WellFounded r) (μ : Nat → List SV → α) (I : Nat → List SV → Prop) (hc : ∀ k ss, I k ss → ∀ s ∈ ss, s.clean)
    (hentry : ws P (KF P call n₀ g.ntmps live I) fn none 0 c (retS P g Q) (actOf g.ntmps vs) σ)
    (hstep : ∀ k x, (loopsOf c)[k]? = some x → ∀ ss, I k ss → ws P (KF P call n₀ g.ntmps live fun k' ss' => I k' ss' ∧ r (μ k' ss') (μ k ss)) fn none (Nat.add k 1) x
      (seqQ (fun a σ => canonP n₀ g.ntmps (live k) a σ fun ss' => I k ss' ∧ r (μ k ss') (μ k ss)) (behind P (KF P call n₀ g.ntmps live fun k' ss' => I k' ss' ∧ r (μ k' ss') (μ k ss)) fn c 0 k (retS P g Q))) (mkA g.ntmps (live k) ss) (mkS ss))
    (hl : ∀ x, c ≠ .loop x) : CallS P fn vs Q σ := by
  subst hn₀
  have hL := LoopN.floyd (fn := fn) (call := call) (n₀ := σ.next) (size := g.ntmps) (live := live) (Q := retS P g Q) (fun h => hcall h) hp wf μ I hc hstep
  have hK : (KF P call σ.next g.ntmps live I).OkN σ.next := ⟨⟨fun h => hcall h, fun h => h⟩, fun h => CodeN.of h⟩
  have hN : CodeN P σ.next c (retS P g Q) (actOf g.ntmps vs) σ := CodeN.of_ws hK c (i := 0) (fun _ _ _ h => h) (fun j z hz a τ Q₁ hA => by
    rw [Nat.zero_add] at hA
    obtain ⟨ss', g1, g3⟩ := canonP_fgt (show canonP σ.next g.ntmps (live j) a τ _ from hA)
    obtain ⟨m, hf⟩ := g3 (hc j ss' g1)
    exact (hL j z hz ss' g1).fgt hf) hentry
  exact CallS.codeE hf hb hn (CodeN.sem (fn := fn) hl hN)
end
end Go.Ev
