/- Code, calls, rounds, deferred calls. -/
import Derived.Test.YtbajncpfmemdgaaGreatDoorEvDrawF
import Derived.Test.YtbajncpfmemdgaaGreatDoorEvRange
namespace Go.Ev
open Go

section
variable {P : Program} {ρ : Ren} {σ : St} {w : World} {Rn : Task → St → Run} {F : Fence} {ro : Option Nat}

/-- From the post of a first part to what follows it. -/
theorem then_of_post [Env] {q p : Out × St → Prop} {K : Go.Act → World → Prop} {e : Exit} {a' : Go.Act} {w' : World} (h : CodePost q ρ σ w e a' w')
    (hn : ∀ a σ' ρ', q (.exit .normal a, σ') → ActRel ρ' a a' → Stp Nix ρ σ w ρ' σ' w' → K a' w')
    (he : ∀ x a σ', x ≠ .normal → q (.exit x a, σ') → p (.exit x a, σ')) : Exit.then K (CodePost p ρ σ w) e a' w' := by
  obtain ⟨x, a, σ', ρ', h1, rfl, h3, h4⟩ := h
  cases x with
  | normal => exact hn _ _ _ h1 h3 h4
  | exit i => exact ⟨_, _, _, _, he _ _ _ (by simp) h1, rfl, h3, h4⟩
  | goto i => exact ⟨_, _, _, _, he _ _ _ (by simp) h1, rfl, h3, h4⟩
  | ret => exact ⟨_, _, _, _, he _ _ _ (by simp) h1, rfl, h3, h4⟩

theorem wpIn_loop_of {x : Code} {Q : Exit → Go.Act → World → Prop} {a : Go.Act} {w : World}
    (h : x.wpIn F 0 P (Exit.then (fun a' w' => LoopIn F P x Q a' w') Q) a w) : (Code.loop x).wpIn F 0 P Q a w ∧ LoopIn F P x Q a w := by
  have key : ∀ (b : Frame) (k : List Go.Item) (cs : List Frame), b.roundOf = F.round → F.fn b.fn → F.room (cs.length + 1 + 0) →
      ∃ e a' w', Q e a' w' ∧ ArrivesIn (Machine.fenced P F) P (lone (b.atR a (.code x :: .inLoop x :: k)) cs w) b k cs e a' w' := by
    intro b k cs hro hb hr
    obtain ⟨e, a₁, w₁, hq, harr⟩ := h b (.inLoop x :: k) cs hro hb hr
    cases e with
    | normal =>
      obtain ⟨e₂, a₂, w₂, hq₂, harr₂⟩ := hq b k cs hro hb hr
      exact ⟨e₂, a₂, w₂, hq₂, .of_steps harr harr₂⟩
    | exit id => exact ⟨_, a₁, w₁, hq, .pass (x := .inLoop x) rfl (fun _ _ => .inl (by simp)) harr⟩
    | goto l => exact ⟨_, a₁, w₁, hq, .pass (x := .inLoop x) rfl (fun _ _ => .inl (by simp)) harr⟩
    | ret => exact ⟨_, a₁, w₁, hq, .pass (x := .inLoop x) rfl (fun _ _ => .inl (by simp)) harr⟩
    | panic ch => exact ⟨_, a₁, w₁, hq, .pass (x := .inLoop x) rfl (fun _ _ => .inl (by simp)) harr⟩
    | outgrown => exact ⟨_, a₁, w₁, hq, .pass (x := .inLoop x) rfl (fun _ _ => .inl (by simp)) harr⟩
  constructor
  · intro b k cs hro hb hr
    obtain ⟨e, a', w', hq, harr⟩ := key b k cs hro hb hr
    exact ⟨e, a', w', hq, .of_steps (.one (fenced_calm hb hr rfl) stepR_loop) harr⟩
  · intro b k cs hro hb hr
    obtain ⟨e, a', w', hq, harr⟩ := key b k cs hro hb hr
    exact ⟨e, a', w', hq, .of_steps (.one (fenced_calm hb hr rfl) stepR_inLoop) harr⟩

theorem stepR_scope {b : Frame} {a : Go.Act} {k : List Go.Item} {cs : List Frame} {c : Code} : Go.step P (lone (b.atR a (.code (.scope c) :: k)) cs w) = .next (lone (b.atR a (.code c :: .inScope c :: k)) cs w) :=
  step_lone_go (by simp [stepG, stepG.exec, Frame.atR])
theorem stepR_inScope {b : Frame} {a : Go.Act} {k : List Go.Item} {cs : List Frame} {c : Code} : Go.step P (lone (b.atR a (.inScope c :: k)) cs w) = .next (lone (b.atR a k) cs w) :=
  step_lone_go (by simp [stepG, stepG.exec, Frame.atR])

theorem wpIn_scope_of [Env] {x : Code} {Q : Exit → Go.Act → World → Prop} {a : Go.Act} {w : World} (h : ScopeIn F P x x Q a w) : (Code.scope x).wpIn F 0 P Q a w := by
  intro b k cs hro hb hr
  obtain ⟨e, a', w', hq, harr⟩ := h b k cs hro hb hr
  exact ⟨e, a', w', hq, .of_steps (.one (fenced_calm hb hr rfl) stepR_scope) harr⟩

theorem scopeIn_of [Env] {x cur : Code} {Q : Exit → Go.Act → World → Prop} {a : Go.Act} {w : World}
    (h : cur.wpIn F 0 P (fun e a' w' => match e with
      | .goto l => (∀ rest, findLabel x l = some rest → ScopeIn F P x rest Q a' w') ∧ (findLabel x l = none → Q (.goto l) a' w')
      | e => Q e a' w') a w) : ScopeIn F P x cur Q a w := by
  intro b k cs hro hb hr
  obtain ⟨e, a₁, w₁, hq, harr⟩ := h b (.inScope x :: k) cs hro hb hr
  cases e with
  | normal => exact ⟨.normal, a₁, w₁, hq, StepsIn.trans harr (.one (fenced_calm hb hr rfl) stepR_inScope)⟩
  | exit id =>
    have hx : exitTo id (.inScope x :: k) = exitTo id k := by simp [exitTo]
    exact ⟨.exit id, a₁, w₁, hq, fun k' hk => harr.1 k' (by rw [hx]; exact hk), fun hr' hk => harr.2 hr' (by rw [hx]; exact hk)⟩
  | goto l =>
    cases hf : findLabel x l with
    | some rest =>
      have hs := harr.1 (.code rest :: .inScope x :: k) (by simp [gotoIn, hf])
      obtain ⟨e₂, a₂, w₂, hq₂, harr₂⟩ := hq.1 rest hf b k cs hro hb hr
      exact ⟨e₂, a₂, w₂, hq₂, .of_steps hs harr₂⟩
    | none =>
      have hx : gotoIn l (.inScope x :: k) = gotoIn l k := by simp [gotoIn, hf]
      exact ⟨.goto l, a₁, w₁, hq.2 hf, fun k' hk => harr.1 k' (by rw [hx]; exact hk), fun hr' hk => harr.2 hr' (by rw [hx]; exact hk)⟩
  | ret => exact ⟨_, a₁, w₁, hq, harr⟩
  | panic ch => exact ⟨_, a₁, w₁, hq, harr⟩
  | outgrown => exact ⟨_, a₁, w₁, hq, harr⟩

theorem LeavesInM.mono {n : Nat} {fn : Func} {tmps : Array Value} {Q Q' : Ending → World → Prop} : ∀ {ds : List Deferred} {u : FrameMode} {w : World}, LeavesInM F n P fn tmps Q ds u w → (∀ e w, Q e w → Q' e w) → LeavesInM F n P fn tmps Q' ds u w := by
  intro ds
  induction ds with
  | nil =>
    intro u w h hq
    cases u with
    | run => exact h.elim
    | returning => obtain ⟨v, h1, h2⟩ := h; exact ⟨v, h1, hq _ _ h2⟩
    | panicking c => exact hq _ _ h
  | cons d ds ih =>
    intro u w h hq
    obtain ⟨h1, h2⟩ := h
    refine ⟨h1, h2.imp ?_ ?_⟩
    · rintro ⟨r, w', a, b, c⟩; exact ⟨r, w', a, b, ih c hq⟩
    · rintro ⟨a, fv, cap, f, args, b, c, d, e⟩
      refine ⟨a, fv, cap, f, args, b, c, d, e.mono fun e u' w' h => ?_⟩
      cases e with
      | returned v => exact ih h hq
      | panicked c => exact ih h hq
      | outgrown => exact hq _ _ h

/-! ### Code -/
theorem codeC_sound [Env] (hg : Good P Rn) (hmix : P.follows .mixedOrders = true) {fn : FuncId} : ∀ (c : Code) {a : Act} {σ : St} {p : Out × St → Prop}, ((codeC P fn c).f Rn ro a σ).Holds p →
    ∀ {ρ : Ren} {w : World} {a' : Go.Act}, R ρ σ w → ActRel ρ a a' → RoOk ρ ro F → c.wpIn F 0 P (CodePost p ρ σ w) a' w ∧ ∀ x, c = .loop x → LoopIn F P x (CodePost p ρ σ w) a' w := by
  intro c
  induction c with
  | skip =>
    intro a σ p h ρ w a' hr ha hroF
    exact ⟨wpIn_skip ⟨.normal, _, _, _, h, rfl, ha, Stp.refl hr⟩, fun _ e => by cases e⟩
  | label l =>
    intro a σ p h ρ w a' hr ha hroF
    exact ⟨wpIn_label ⟨.normal, _, _, _, h, rfl, ha, Stp.refl hr⟩, fun _ e => by cases e⟩
  | exit i =>
    intro a σ p h ρ w a' hr ha hroF
    exact ⟨wpIn_exit ⟨.exit i, _, _, _, h, rfl, ha, Stp.refl hr⟩, fun _ e => by cases e⟩
  | goto l =>
    intro a σ p h ρ w a' hr ha hroF
    exact ⟨wpIn_goto ⟨.goto l, _, _, _, h, rfl, ha, Stp.refl hr⟩, fun _ e => by cases e⟩
  | ret =>
    intro a σ p h ρ w a' hr ha hroF
    exact ⟨wpIn_ret ⟨.ret, _, _, _, h, rfl, ha, Stp.refl hr⟩, fun _ e => by cases e⟩
  | seq x y ihx ihy =>
    intro a σ p h ρ w a' hr ha hroF
    refine ⟨wpIn_seq (wpIn_mono (ihx (Res.Holds.bind h) hr ha hroF).1 fun e a₁ w₁ hpost => ?_), fun _ e => by cases e⟩
    refine then_of_post hpost (fun a σ' ρ' hq ha' hst => ?_) (fun x a σ' hx hq => ?_)
    · exact wpIn_mono (ihy hq hst.r ha' (hroF.mono hst.le)).1 fun _ _ _ hp => CodePost.trans hst hp
    · cases x <;> first | exact absurd rfl hx | exact hq
  | cond x y z ihy ihz =>
    intro a σ p h ρ w a' hr ha hroF
    refine ⟨?_, fun _ e => by cases e⟩
    have h' : (condK ((codeC P fn y).f Rn ro) ((codeC P fn z).f Rn ro) a σ (a.eval x)).Holds p := h
    unfold condK at h'
    split at h'
    · rename_i hx; exact wpIn_cond_true ((ha.eval x hx).bool_eq) (ihy h' hr ha hroF).1
    · rename_i hx; exact wpIn_cond_false ((ha.eval x hx).bool_eq) (ihz h' hr ha hroF).1
    · exact h'.elim
  | block id x ih =>
    intro a σ p h ρ w a' hr ha hroF
    refine ⟨wpIn_block (wpIn_mono (ih (Res.Holds.bind h) hr ha hroF).1 fun e a₁ w₁ hpost => ?_), fun _ e => by cases e⟩
    obtain ⟨e, b, σ', ρ', h1, rfl, h3, h4⟩ := hpost
    cases e with
    | normal => exact ⟨.normal, _, _, _, h1, rfl, h3, h4⟩
    | exit i =>
      have h1' : p (.exit (if i = id then .normal else .exit i) b, σ') := h1
      by_cases hi : i = id
      · simp only [exitOf, Exit.inBlock, hi, if_true]
        rw [if_pos hi] at h1'
        exact ⟨.normal, _, _, _, h1', rfl, h3, h4⟩
      · simp only [exitOf, Exit.inBlock, hi, if_false]
        rw [if_neg hi] at h1'
        exact ⟨.exit i, _, _, _, h1', rfl, h3, h4⟩
    | goto l => exact ⟨.goto l, _, _, _, h1, rfl, h3, h4⟩
    | ret => exact ⟨.ret, _, _, _, h1, rfl, h3, h4⟩
  | loop x ih =>
    intro a σ p h ρ w a' hr ha hroF
    refine ⟨hg.code h hr ha hroF, fun y e => ?_⟩
    cases e
    exact hg.loop h hr ha hroF
  | region id ops draw =>
    intro a σ p h ρ w a' hr ha hroF
    refine ⟨?_, fun _ e => by cases e⟩
    cases draw with
    | false => exact region_sound hg hr ha hroF h
    | true => exact drawn_sound hg hmix hr ha hroF h
  | rangeFunc f ps as bo _ _ =>
    intro a σ p h ρ w a' hr ha hroF
    exact ⟨rangeFunc_sound hg hr ha hroF h, fun _ e => by cases e⟩
  | scope x ih =>
    intro a σ p h ρ w a' hr ha hroF
    exact ⟨wpIn_scope_of (hg.inScope h hr ha hroF), fun _ e => by cases e⟩
  | refuse u =>
    intro a σ p h ρ w a' hr ha hroF
    exact h.elim


/-- A loop: a round, and the loop again. -/
theorem loopC_sound [Env] (hg : Good P Rn) (hmix : P.follows .mixedOrders = true) {fn : FuncId} {x : Code} {a : Act} {σ : St} {p : Out × St → Prop} (h : (((codeC P fn x).f Rn ro a σ).bind (seqK fun a σ => Rn (.code ro fn (.loop x) a) σ)).Holds p)
    {ρ : Ren} {w : World} {a' : Go.Act} (hr : R ρ σ w) (ha : ActRel ρ a a') (hroF : RoOk ρ ro F) : (Code.loop x).wpIn F 0 P (CodePost p ρ σ w) a' w ∧ LoopIn F P x (CodePost p ρ σ w) a' w := by
  refine wpIn_loop_of (wpIn_mono (codeC_sound hg hmix x (Res.Holds.bind h) hr ha hroF).1 fun e a₁ w₁ hpost => ?_)
  refine then_of_post hpost (fun a σ' ρ' hq ha' hst => ?_) (fun x a σ' hx hq => ?_)
  · exact (hg.loop hq hst.r ha' (hroF.mono hst.le)).mono fun _ _ _ hp => CodePost.trans hst hp
  · cases x <;> first | exact absurd rfl hx | exact hq

theorem stepCode_sound [Env] (hg : Good P Rn) (hmix : P.follows .mixedOrders = true) {fn : FuncId} (c : Code) {a : Act} {σ : St} {p : Out × St → Prop} (h : (stepCode P Rn ro fn a σ c).Holds p) {ρ : Ren} {w : World} {a' : Go.Act} (hr : R ρ σ w) (ha : ActRel ρ a a') (hroF : RoOk ρ ro F) :
    c.wpIn F 0 P (CodePost p ρ σ w) a' w ∧ ∀ x, c = .loop x → LoopIn F P x (CodePost p ρ σ w) a' w := by
  by_cases hl : ∃ x, c = .loop x
  · obtain ⟨x, rfl⟩ := hl
    obtain ⟨h1, h2⟩ := loopC_sound hg hmix h hr ha hroF
    exact ⟨h1, fun y e => by cases e; exact h2⟩
  · refine codeC_sound (fn := fn) hg hmix c (a := a) ?_ hr ha hroF
    cases c <;> first
      | exact absurd ⟨_, rfl⟩ hl
      | exact h

end
end Go.Ev
