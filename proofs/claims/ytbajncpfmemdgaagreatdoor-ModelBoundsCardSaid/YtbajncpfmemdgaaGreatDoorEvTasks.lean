/- Calls, deferred calls, ways out: what a task comes to. -/
import Derived.Test.YtbajncpfmemdgaaGreatDoorEvSound
namespace Go.Ev
open Go
section
variable {P : Program} {ρ : Ren} {σ : St} {w : World} {Rn : Task → St → Run}

theorem actOf_rel [Env] {vs : List V} {vs' : List Value} (h : VsRel ρ vs vs') (n : Nat) : ActRel ρ (actOf n vs) { tmps := ⟨vs'⟩ ++ Array.replicate (n - (⟨vs'⟩ : Array Value).size) undef, defers := [] } := by
  have hl := h.length
  refine ⟨fun i v hv => ?_, ?_, .nil⟩
  · have hv' : (Slots.puts vs (Slots.blank n) 0).get i = some v := hv
    rw [Slots.get_puts] at hv'
    have hi : vs[i]? = some v := by
      split at hv'
      · simpa using hv'
      · rw [Slots.get_blank] at hv'; cases hv'
    obtain ⟨x, hx, hrel⟩ := h.get i hi
    refine ⟨x, ?_, hrel⟩
    have hlt : i < vs'.length := (List.getElem?_eq_some_iff.1 hx).1
    show ((⟨vs'⟩ : Array Value) ++ _)[i]? = _
    rw [Array.getElem?_append_left (by simpa using hlt)]
    simpa using hx
  · show max n (len vs) = _
    rw [len_eq]
    simp
    omega

theorem resultsV_run [Env] (hr : R ρ σ w) {a : Act} {a' : Go.Act} (ha : ActRel ρ a a') : ∀ (rs : List ResultVar) {l : List V}, resultsV P a σ rs = some l →
    ∃ l' : List Value, (rs.mapM fun r => (match r with
      | .tmp t => pure (a'.tmps.getD t undef)
      | .cell x t => do loadVar t (← asAddr (a'.tmps.getD x undef)) : Sem Value)).run P w = .ok l' w ∧ VsRel ρ l l' := by
  intro rs
  induction rs with
  | nil => intro l h; cases h; exact ⟨[], rfl, .nil⟩
  | cons r rs ih =>
    intro l h
    have hget : ∀ {t : Tmp} {v : V}, a.tmps.get t = some v → VRel ρ v (a'.tmps.getD t undef) := by
      intro t v hv
      obtain ⟨x, hx, hrel⟩ := ha.tmps t v hv
      rw [Array.getD_eq_getD_getElem?, hx]
      exact hrel
    cases r with
    | tmp t =>
      unfold resultsV at h
      split at h
      · rename_i v l₁ hv hl
        cases h
        obtain ⟨l', hrun, hrel⟩ := ih hl
        refine ⟨a'.tmps.getD t undef :: l', ?_, .cons (hget hv) hrel⟩
        rw [List.mapM_cons]
        simp only [Sem.run_bind, Sem.run_pure, Result.andThen_ok, hrun]
      · cases h
    | cell x t =>
      unfold resultsV at h
      split at h
      · rename_i v l₁ hv hl
        rw [Option.map_eq_some_iff] at h
        obtain ⟨u, hu, rfl⟩ := h
        obtain ⟨l', hrun, hrel⟩ := ih hl
        obtain ⟨u', _, hurel, ad, had, hload⟩ := loadV_run (P := P) hr (hget hv) hu
        refine ⟨u' :: l', ?_, .cons hurel hrel⟩
        rw [List.mapM_cons]
        dsimp only
        have hA : (asAddr (.pointer (some ad))).run P w = .ok ad w := rfl
        rw [had]
        simp only [Sem.run_bind, hA, Result.andThen_ok, Sem.run_pure, hload, hrun]
      · cases h

theorem results_sound [Env] (hr : R ρ σ w) {a : Act} {a' : Go.Act} (ha : ActRel ρ a a') {fn : Func} {l : List V} (h : resultsV P a σ fn.results.toList = some l) :
    ∃ v', (results fn a'.tmps).run P w = .ok v' w ∧ VRel ρ (oneOrTuple l) v' := by
  obtain ⟨l', hrun, hrel⟩ := resultsV_run (P := P) hr ha _ h
  refine ⟨if hh : (⟨l'⟩ : Array Value).size = 1 then (⟨l'⟩ : Array Value)[0] else .tuple ⟨l'⟩, ?_, ?_⟩
  · unfold results
    rw [Sem.run_bind, Array.mapM_eq_mapM_toList, Sem.run_map]
    exact congrArg (fun r : Result (List Value) => ((r.andThen fun a w' => Result.ok a.toArray w').andThen fun a w' => Sem.run P (pure (if h : a.size = 1 then a[0] else Value.tuple a)) w')) hrun
  · cases hrel with
    | nil => exact .tuple .nil
    | cons h1 h2 => cases h2 with
      | nil => exact h1
      | cons h3 h4 =>
        rw [dif_neg (by simp)]
        exact .tuple (.cons h1 (.cons h3 h4))

theorem callFunc_run {f : FuncId} {fn : Func} {c : Code} (hf : P.funcs[f]? = some fn) (hb : fn.body = some c) (hn : (fn.name == "runtime.NumGoroutine") = false) (args : Array Value) : (callFunc f args).run P w = .ok (.enter f args) w := by
  have hprog : (program).run P w = .ok P w := rfl
  simp only [callFunc, Sem.run_bind, hprog, Result.andThen_ok, hf, hn, Bool.false_eq_true, if_false, hb, Option.isNone_some, Sem.run_pure]

theorem callBody_holds [Env] {f : FuncId} {fn : Func} {args : List V} {K : Out × St → Run} {p : Out × St → Prop} (h : (callBody Rn f fn args σ K fn.body).Holds p) :
    ∃ c, fn.body = some c ∧ (fn.name == "runtime.NumGoroutine") = false ∧ (Rn (.code none f c (actOf fn.ntmps args)) σ).Holds fun x => (K x).Holds p := by
  unfold callBody at h
  split at h
  · rename_i c hb
    split at h
    · exact h.elim
    · rename_i hn
      exact ⟨c, hb, hn, h.bind⟩
  · exact h.elim

theorem dropDefers_rel [Env] {a : Act} {a' : Go.Act} (ha : ActRel ρ a a') {r : List (Option (Fn × List V) × Nat × List V)} {r' : List Deferred} (h : DefsRel ρ r r') : ActRel ρ (dropDefers a r) { a' with defers := r' } := by
  obtain ⟨t, s, d⟩ := a
  exact ⟨ha.tmps, ha.size, h⟩

theorem step_good [Env] (hmix : P.follows .mixedOrders = true) (hg : Good P Rn) : Good P (step P Rn) := by
  constructor
  case code =>
    intro ro fn c a σ p h ρ w a' F hr ha hroF
    exact (stepCode_sound hg hmix c h hr ha hroF).1
  case loop =>
    intro ro fn x a σ p h ρ w a' F hr ha hroF
    exact (stepCode_sound hg hmix (.loop x) h hr ha hroF).2 x rfl
  case inScope =>
    intro ro fn x cur a σ p h ρ w a' F hr ha hroF
    refine scopeIn_of (wpIn_mono (codeC_sound hg hmix cur (Res.Holds.bind h) hr ha hroF).1 fun e a₁ w₁ hpost => ?_)
    obtain ⟨e, b, σ', ρ', h1, rfl, h3, h4⟩ := hpost
    cases e with
    | normal => exact ⟨.normal, _, _, _, h1, rfl, h3, h4⟩
    | exit i => exact ⟨.exit i, _, _, _, h1, rfl, h3, h4⟩
    | ret => exact ⟨.ret, _, _, _, h1, rfl, h3, h4⟩
    | goto l =>
      have h1' : (match findLabel x l with
        | some rest => Rn (.inScope ro fn x rest b) σ'
        | none => .ok (.exit (.goto l) b, σ') : Run).Holds p := h1
      refine ⟨fun rest hf => ?_, fun hf => ?_⟩
      · rw [hf] at h1'
        exact (hg.inScope h1' h4.r h3 (hroF.mono h4.le)).mono fun _ _ _ hp => CodePost.trans h4 hp
      · rw [hf] at h1'
        exact ⟨.goto l, _, _, _, h1', rfl, h3, h4⟩
  case call =>
    intro f vs σ p h ρ w vs' hr hv
    have h' : (stepCallF Rn f vs σ P.funcs[f]?).Holds p := h
    unfold stepCallF at h'
    split at h'
    · rename_i fn hf
      obtain ⟨c, hb, hn, hc⟩ := callBody_holds h'
      refine ⟨callFunc_run hf hb hn _, callsIn_of_wp_marks hf hb trivial (wpIn_mono (hg.code hc hr (actOf_rel hv fn.ntmps) rfl) fun e a₁ w₁ hpost => ?_)⟩
      obtain ⟨e, b, σ', ρ', h1, rfl, h3, h4⟩ := hpost
      have fin : (Rn (.leave fn b) σ').Holds p → LeavesInM Fence.wide 0 P fn a₁.tmps (ValPost p ρ σ w) a₁.defers .returning w₁ := by
        intro h
        exact LeavesInM.mono (hg.leave h h4.r h3) fun e w' hv => ValPost.trans h4 hv
      cases e with
      | normal => exact fin h1
      | ret => exact fin h1
      | exit i => exact Res.Holds.elim_fail h1
      | goto l => exact Res.Holds.elim_fail h1
    · exact h'.elim
  case deferred =>
    intro f vs σ p h ρ w vs' hr hv
    have h' : (stepDeferredF Rn f vs σ P.funcs[f]?).Holds p := h
    unfold stepDeferredF at h'
    split at h'
    · rename_i fn hf
      obtain ⟨c, hb, hn, hc⟩ := callBody_holds h'
      refine ⟨callFunc_run hf hb hn _, fun u => callsDIn_of_wp hf hb trivial (wpIn_mono (hg.code hc hr (actOf_rel hv fn.ntmps) rfl) fun e a₁ w₁ hpost => ?_)⟩
      obtain ⟨e, b, σ', ρ', h1, rfl, h3, h4⟩ := hpost
      have fin : (leaveBare Rn fn b σ').Holds p → a₁.defers = [] ∧ ∃ v, (results fn a₁.tmps).run P w₁ = .ok v w₁ ∧ ValPost p ρ σ w (.returned v) w₁ := by
        intro h
        unfold leaveBare at h
        split at h
        · rename_i hd
          have hds := h3.defers
          rw [hd] at hds
          have hd' : a₁.defers = [] := by
            generalize a₁.defers = l at hds
            cases hds; rfl
          have hl := hg.leave h h4.r h3
          rw [hd'] at hl
          obtain ⟨v, hrun, hv⟩ := hl
          exact ⟨hd', v, hrun, ValPost.trans h4 hv⟩
        · exact h.elim
      cases e with
      | normal => exact fin h1
      | ret => exact fin h1
      | exit i => exact Res.Holds.elim_fail h1
      | goto l => exact Res.Holds.elim_fail h1
    · exact h'.elim
  case leave =>
    intro fn a σ p h ρ w a' hr ha
    have h' : (stepLeave P Rn fn a σ a.defers).Holds p := h
    have hds := ha.defers
    unfold stepLeave at h'
    split at h'
    · rename_i hd
      rw [hd] at hds
      have hd' : a'.defers = [] := by
        generalize a'.defers = l at hds
        cases hds; rfl
      rw [hd']
      unfold resultK at h'
      split at h'
      · rename_i l hl
        obtain ⟨v', hrun, hrel⟩ := results_sound hr ha hl
        exact ⟨v', hrun, _, _, ρ, v', h', rfl, hrel, Stp.refl hr⟩
      · exact h'.elim
    · rename_i d ex r hd
      rw [hd] at hds
      generalize hdd : a'.defers = l' at hds
      cases hds with
      | cons hdr hrest =>
        cases hdr with
        | mark hld =>
          rename_i r' l
          unfold leaveMark at h'
          split at h'
          · rename_i hb
            obtain ⟨l₁, hl₁, hblk⟩ := hr.blk _ _ hb
            rw [hld] at hl₁; cases hl₁
            cases hblk with
            | deferred hw =>
              have hst : Stp Nix ρ σ w ρ (σ.kill d) { w with heap := w.heap.setIfInBounds l.c (.deferred none) } := by
                refine Stp.drop hr hb hld rfl (by simp) (fun c hc => ?_) rfl rfl rfl
                show (w.heap.setIfInBounds l.c _)[c]? = _
                rw [Array.getElem?_setIfInBounds_ne (by omega)]
              refine ⟨by simp, .inl ⟨l.c, { w with heap := w.heap.setIfInBounds l.c (.deferred none) }, rfl, ?_, ?_⟩⟩
              · have hget : (getObj l.c).run P w = .ok (.deferred (some [])) w := by simp [getObj, Sem.run, hw]
                simp only [Instr.takeDeferred, Sem.run_bind, hget, Result.andThen_ok, run_setObj hw (by intros; simp), Sem.run_pure]
              · exact LeavesInM.mono (hg.leave h' hst.r (dropDefers_rel ha hrest)) fun e w' hv => ValPost.trans hst hv
          · exact h'.elim
    · rename_i g captured ex vs r hd
      rw [hd] at hds
      generalize hdd : a'.defers = l' at hds
      cases hds with
      | cons hdr hrest =>
        cases hdr with
        | call n hf hx hy =>
          rename_i r' f' x' y'
          have hf' : f' = .func g := by cases hf with | same _ => rfl
          subst hf'
          obtain ⟨hcf, hcall⟩ := hg.deferred (Res.Holds.bind h') hr (vs' := y' ++ x') (by rw [app_eq]; exact hy.append hx)
          have e1 : ((⟨y'⟩ : Array Value) ++ ⟨x'⟩) = ⟨y' ++ x'⟩ := by simp
          refine ⟨by simp, .inr ⟨fun h => (by cases h), .func g, ⟨x'⟩, g, ⟨y' ++ x'⟩, rfl, ?_, fun _ _ => trivial, (hcall .returning).mono fun e u' w' hv => ?_⟩⟩
          · simp only [invoke]
            rw [e1]; exact hcf
          · obtain ⟨rfl, v, σ', ρ', v', hp, rfl, _, hst⟩ := hv
            have hp' : (Rn (.leave fn (dropDefers a r)) σ').Holds p := hp
            exact LeavesInM.mono (hg.leave hp' hst.r (dropDefers_rel (ha.mono hst.le) (hrest.mono hst.le))) fun e w' hv => ValPost.trans hst hv
    · exact h'.elim
  case apply =>
    intro f vs σ p h ρ w f' vs' hr hf hv
    have h' : (stepApply Rn vs σ f).Holds p := h
    unfold stepApply at h'
    split at h'
    · rename_i g first captured
      cases hf with
      | func hfn hx hy =>
        rename_i fn' x' y'
        have hfn' : fn' = .func g := by cases hfn with | same _ => rfl
        subst hfn'
        obtain ⟨hcf, hcall⟩ := hg.call h' hr (vs' := x' ++ (vs' ++ y')) (by rw [app_eq, app_eq]; exact hx.append (hv.append hy))
        refine ⟨{ target := .fn (.func g) ⟨y'⟩, args := ⟨x'⟩ ++ ⟨vs'⟩ }, rfl, .inl ⟨g, ⟨x' ++ (vs' ++ y')⟩, ?_, hcall⟩⟩
        have e1 : ((⟨x'⟩ ++ ⟨vs'⟩ : Array Value) ++ ⟨y'⟩) = ⟨x' ++ (vs' ++ y')⟩ := by simp
        simp only [invoke]
        rw [e1]; exact hcf
    · rename_i l first ex
      cases hf with
      | func hfn hx hy =>
        rename_i fn' x' y'
        cases hfn with
        | same hne => exact absurd rfl (hne _)
        | yield hl =>
          rename_i k
          obtain ⟨g, tmps, as, bo, hy', hround⟩ := hg.round h' hr hl (vs' := x' ++ vs') (by rw [app_eq]; exact hx.append hv)
          refine ⟨{ target := .fn (.yield k.c) ⟨y'⟩, args := ⟨x'⟩ ++ ⟨vs'⟩ }, rfl, .inr ⟨k.c, g, tmps, as, bo, ?_, hround⟩⟩
          have e1 : (⟨x'⟩ ++ ⟨vs'⟩ : Array Value) = ⟨x' ++ vs'⟩ := by simp
          simp only [invoke]
          rw [e1]; exact hy'
    · exact h'.elim
  case round =>
    intro l vs σ p h ρ w k vs' hr hl hv
    exact round_sound hg h hr hl hv

theorem run_good [Env] (hmix : P.follows .mixedOrders = true) : ∀ n, Good P (run P n) := by
  intro n
  induction n with
  | zero => constructor <;> intros <;> exact Res.Holds.elim_fail (by assumption)
  | succ n ih => exact step_good hmix ih

end
end Go.Ev
