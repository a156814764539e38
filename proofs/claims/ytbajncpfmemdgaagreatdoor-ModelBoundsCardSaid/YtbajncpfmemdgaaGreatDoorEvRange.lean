/- Ranges over functions: the loop's record, a round. -/
import Derived.Test.YtbajncpfmemdgaaGreatDoorEvReg
namespace Go.Ev
open Go
section
variable {P : Program} {ρ : Ren} {σ : St} {w : World} {Rn : Task → St → Run} {F : Fence} {ro : Option Nat}

/-- A block that is written in the machine, and known no more. -/
theorem Stp.drop [Env] {ids : Nat → Prop} (h : R ρ σ w) {b : Nat} {k : Blk} {l : Loc} (hk : σ.heap.get b = some k) (hl : ρ b = some l) (hkw : k.writable = true)
    {w' : World} (hsz : w'.heap.size = w.heap.size) (hoth : ∀ c, c ≠ l.c → w'.heap[c]? = w.heap[c]?) (ho : w'.os = w.os) (ht : w'.tape = w.tape) (hp : w'.output = w.output) :
    Stp ids ρ σ w ρ (σ.kill b) w' := by
  have key : ∀ b' k, (σ.kill b).heap.get b' = some k → b' ≠ b ∧ σ.heap.get b' = some k := by
    intro b' k hb'
    rw [kill_heap, Trie.get_put] at hb'
    by_cases e : b' = b
    · rw [if_pos e] at hb'; cases hb'
    · rw [if_neg e] at hb'; exact ⟨e, hb'⟩
  have hkeep : ∀ c, c < w.heap.size → ¬ Wr ρ σ c → w'.heap[c]? = w.heap[c]? := fun c hc hn => hoth c fun e => hn ⟨b, k, l, hk, hkw, hl, e.symm⟩
  have hwr : ∀ c, c < w.heap.size → Wr ρ (σ.kill b) c → Wr ρ σ c := by
    rintro c hc ⟨b', k₁, l', h1, h2, h3, h4⟩
    exact ⟨b', k₁, l', (key _ _ h1).2, h2, h3, h4⟩
  refine ⟨⟨fun b' k₁ hb' => ?_, fun b₁ b₂ k₁ k₂ l₁ l₂ h1 h2 => h.inj b₁ b₂ k₁ k₂ l₁ l₂ (key _ _ h1).2 (key _ _ h2).2, fun b' hb' => h.fresh b' (by simpa using hb'), fun b' l' hb' => by rw [hsz]; exact h.valid b' l' hb', h.imm_of rfl hkeep hwr, h.laid⟩,
    Ren.le.refl ρ, by simp, fun _ _ h => .inl h, by omega, ho, ht, hp, hkeep, hwr, fun b' k h => .inl ⟨k, (key b' k h).2⟩, fun _ _ _ h => .inl h⟩
  · obtain ⟨hne, hb''⟩ := key _ _ hb'
    obtain ⟨l', hl', hk'⟩ := h.blk b' k₁ hb''
    exact ⟨l', hl', hk'.same (Ren.le.refl ρ) (hoth _ fun ec => hne (h.inj b' b _ _ _ _ hb'' hk hl' hl ec))⟩

/-- A block that is no row of cells, written over. -/
theorem setBlk [Env] (hr : R ρ σ w) {ids : Nat → Prop} {b : Nat} {k₀ k : Blk} (hb : σ.heap.get b = some k₀) (hkw : k₀.writable = true) {l : Loc} (hl : ρ b = some l) {o : Obj}
    (hok : BlkOk ρ { w with heap := w.heap.setIfInBounds l.c o } l k) : Stp ids ρ σ w ρ (σ.set b k) { w with heap := w.heap.setIfInBounds l.c o } := by
  refine Stp.set hr hb hl hkw (by simp) (fun c hc => ?_) rfl rfl rfl hok
  show (w.heap.setIfInBounds l.c _)[c]? = _
  rw [Array.getElem?_setIfInBounds_ne (by omega)]

/-- What a loop's record is in the machine. -/
theorem R.loop [Env] (hr : R ρ σ w) {l : Nat} {st : LoopState} {pend : Option Code} {fn : FuncId} {t : Slots V} {size d : Nat} {ps : List Tmp} {as bo : Code} (hb : σ.heap.get l = some (.loop st pend fn t size ps as bo d)) {k : Loc} (hl : ρ l = some k) :
    ∃ fn' t' ld, w.heap[k.c]? = some (.loop { state := st, pending := pend, fn := fn', tmps := t', params := ⟨ps⟩, assign := as, body := bo, defers := ld.c }) ∧ SlotsRel ρ t t' ∧ size = t'.size ∧ ρ d = some ld := by
  obtain ⟨k', hk', hblk⟩ := hr.blk _ _ hb
  rw [hl] at hk'; cases hk'
  cases hblk with
  | loop h ht hs hd => exact ⟨_, _, _, h, ht, hs, hd⟩

theorem run_getLoop {c : Nat} {r : Loop} (h : w.heap[c]? = some (.loop r)) : (Instr.getLoop c).run P w = .ok r w := by
  simp [Instr.getLoop, getObj, Sem.run, h]

theorem run_setLoop [Env] {c : Nat} {r r' : Loop} (h : w.heap[c]? = some (.loop r)) : (setObj c (.loop r')).run P w = .ok () { w with heap := w.heap.setIfInBounds c (.loop r') } :=
  run_setObj h (by intros; simp)

/-- A loop's record, written over. -/
theorem setLoop [Env] (hr : R ρ σ w) {ids : Nat → Prop} {l : Nat} {k₀ : Blk} (hb : σ.heap.get l = some k₀) (hkw : k₀.writable = true) {k : Loc} (hl : ρ l = some k) {st : LoopState} {pend : Option Code} {fn fn' : FuncId} {t : Slots V} {t' : Array Value} {size d : Nat} {ps : List Tmp} {as bo : Code}
    {ld : Loc} (ht : SlotsRel ρ t t') (hs : size = t'.size) (hd : ρ d = some ld) :
    Stp ids ρ σ w ρ (σ.set l (.loop st pend fn t size ps as bo d)) { w with heap := w.heap.setIfInBounds k.c (.loop { state := st, pending := pend, fn := fn', tmps := t', params := ⟨ps⟩, assign := as, body := bo, defers := ld.c }) } := by
  refine setBlk hr hb hkw hl (.loop (fn' := fn') ?_ ht hs hd)
  show (w.heap.setIfInBounds k.c _)[k.c]? = _
  simp [hr.valid _ _ hl]

theorem setParams_rel [Env] : ∀ (ps : List Tmp) {vs : List V} {vs' : List Value} {t t₂ : Slots V} {t' : Array Value} {size : Nat}, SlotsRel ρ t t' → size = t'.size → VsRel ρ vs vs' → setParams t size ps vs = some t₂ →
    ps.length = vs'.length ∧ SlotsRel ρ t₂ ((ps.zip vs').foldl (fun (tmps : Array Value) (q : Tmp × Value) => tmps.setIfInBounds q.1 q.2) t') ∧ size = ((ps.zip vs').foldl (fun (tmps : Array Value) (q : Tmp × Value) => tmps.setIfInBounds q.1 q.2) t').size := by
  intro ps
  induction ps with
  | nil =>
    intro vs vs' t t₂ t' size ht hs hv h
    cases vs with
    | nil => cases hv; cases h; exact ⟨rfl, ht, hs⟩
    | cons v vs => cases h
  | cons q ps ih =>
    intro vs vs' t t₂ t' size ht hs hv h
    cases vs with
    | nil => cases h
    | cons v vs =>
      cases hv with
      | cons hv hvs =>
        rename_i x l'
        unfold setParams at h
        split at h
        · rename_i hlt
          obtain ⟨h1, h2, h3⟩ := ih (ht.put (by rw [← hs]; exact hlt) hv) (by simpa using hs) hvs h
          exact ⟨by simp [h1], h2, h3⟩
        · cases h

/-- A round. -/
theorem round_sound [Env] (hg : Good P Rn) {l : Nat} {vs : List V} {σ : St} {p : Out × St → Prop} (h : (stepRound Rn l vs σ (σ.heap.get l)).Holds p) {ρ : Ren} {w : World} {k : Loc} {vs' : List Value}
    (hr : R ρ σ w) (hl : ρ l = some k) (hv : VsRel ρ vs vs') :
    ∃ g tmps as bo, (Instr.yield k.c ⟨vs'⟩).run P w = .ok (.round k.c g tmps as bo) w ∧ RoundIn Fence.wide 0 P k.c g tmps as bo w (ValPost p ρ σ w) := by
  unfold stepRound at h
  split at h
  · rename_i st pend fn t size ps as bo d hb
    obtain ⟨fn', t', ld, hw, ht, hs, hd⟩ := hr.loop hb hl
    unfold roundTmps at h
    split at h
    · rename_i t₂ ht₂
      obtain ⟨hlen, hrel, hsz⟩ := setParams_rel ps ht hs hv ht₂
      refine ⟨fn', (ps.zip vs').foldl (fun (tmps : Array Value) (q : Tmp × Value) => tmps.setIfInBounds q.1 q.2) t', as, bo, ?_, ?_⟩
      · have hsz' : ¬ ((⟨vs'⟩ : Array Value).size ≠ (⟨ps⟩ : Array Tmp).size) := by simp [hlen]
        have hz : ((⟨ps⟩ : Array Tmp).zip ⟨vs'⟩) = ⟨ps.zip vs'⟩ := by simp
        simp only [Instr.yield, Sem.run_bind, run_getLoop hw, Result.andThen_ok, if_neg hsz', hz, Sem.run_pure]
        simp
      · refine roundIn_of_wpIn trivial ?_
        have hroF : RoOk ρ (some l) (Fence.wide.inRound k.c) := ⟨k, hl, rfl⟩
        refine wpIn_mono (hg.code (Res.Holds.bind h) hr (a' := { tmps := _, defers := [] }) ⟨hrel, hsz, .nil⟩ hroF) fun e a₁ w₁ hpost => ?_
        obtain ⟨x, a, σ₁, ρ₁, h1, rfl, ha₁, hst₁⟩ := hpost
        cases x with
        | normal =>
          have h1' : (roundBody Rn l fn bo a σ₁ (σ₁.heap.get l)).Holds p := h1
          unfold roundBody at h1'
          split at h1'
          · rename_i p₁ fn₁ t₁ s₁ ps₁ as₁ bo₁ d₁ hb₁
            split at h1'
            · have hl₁ := hst₁.le _ _ hl
              obtain ⟨fn₁', t₁', ld₁, hw₁, ht₁, hs₁, hd₁⟩ := hst₁.r.loop hb₁ hl₁
              have hst₂ := setLoop (ids := Nix) (fn := fn₁) (fn' := fn₁') (st := .busy) (pend := p₁) (ps := ps₁) (as := as₁) (bo := bo₁) hst₁.r hb₁ rfl hl₁ ht₁ hs₁ hd₁
              refine ⟨{ w₁ with heap := w₁.heap.setIfInBounds k.c (.loop { state := .busy, pending := p₁, fn := fn₁', tmps := t₁', params := ⟨ps₁⟩, assign := as₁, body := bo₁, defers := ld₁.c }) }, ?_, ?_⟩
              · simp only [Instr.beginRound, Sem.run_bind, run_getLoop hw₁, Result.andThen_ok, run_setLoop hw₁, Sem.run_pure]
              · refine wpIn_mono (hg.code (Res.Holds.bind h1') hst₂.r ha₁ (hroF.mono hst₁.le)) fun e a₂ w₂ hpost => ?_
                obtain ⟨x, a, σ₂, ρ₂, h2, rfl, ha₂, hst₃⟩ := hpost
                have h2' : (roundEnd l x σ₂ (σ₂.heap.get l)).Holds p := h2
                unfold roundEnd at h2'
                split at h2'
                · rename_i st₂ p₂ fn₂ t₂ s₂ ps₂ as₂ bo₂ d₂ hb₂
                  have hl₂ := hst₃.le _ _ hl₁
                  obtain ⟨fn₂', t₂', ld₂, hw₂, ht₂, hs₂, hd₂⟩ := hst₃.r.loop hb₂ hl₂
                  have fin : ∀ (j : Option Code) (st : LoopState) (b : Bool), st = (if j.isNone then .ready else .done) → b = j.isNone → p (.val (.bool b), σ₂.set l (.loop st j fn₂ t₂ s₂ ps₂ as₂ bo₂ d₂)) →
                      ∃ v w', (Instr.endRound k.c j).run P w₂ = .ok v w' ∧ ValPost p ρ σ w (.returned v) w' := by
                    intro j st b hst hbj hp
                    refine ⟨.bool b, _, ?_, .bool b, _, ρ₂, .bool b, hp, rfl, .bool b, (hst₁.trans hst₂).trans (hst₃.trans (setLoop (fn' := fn₂') hst₃.r hb₂ rfl hl₂ ht₂ hs₂ hd₂))⟩
                    simp only [Instr.endRound, Sem.run_bind, run_getLoop hw₂, Result.andThen_ok, run_setLoop hw₂, Sem.run_pure, hbj, hst]
                  cases x with
                  | normal => exact fin none _ _ rfl rfl h2'
                  | exit i => exact fin (some (.exit i)) _ _ rfl rfl h2'
                  | goto i => exact fin (some (.goto i)) _ _ rfl rfl h2'
                  | ret => exact fin (some .ret) _ _ rfl rfl h2'
                · exact h2'.elim
            · exact h1'.elim
          · exact h1'.elim
        | exit i => exact Res.Holds.elim_fail h1
        | goto i => exact Res.Holds.elim_fail h1
        | ret => exact Res.Holds.elim_fail h1
    · exact h.elim
  · exact h.elim

/-- The statement 'for .. := range f'. -/
theorem rangeFunc_sound [Env] (hg : Good P Rn) (hr : R ρ σ w) {a : Act} {a' : Go.Act} (ha : ActRel ρ a a') (hroF : RoOk ρ ro F) {fn : FuncId} {f : Operand} {ps : Array Tmp} {as bo : Code} {p : Out × St → Prop}
    (h : ((codeC P fn (.rangeFunc f ps as bo)).f Rn ro a σ).Holds p) : (Code.rangeFunc f ps as bo).wpIn F 0 P (CodePost p ρ σ w) a' w := by
  have h' : (rangeFuncK Rn ro fn a σ ps.toList as bo (a.eval f)).Holds p := h
  unfold rangeFuncK at h'
  split at h'
  · rename_i g first captured hf
    have hfr := ha.eval f hf
    generalize hev : a'.eval f = f' at hfr
    cases hfr with
    | func hfn hx hy =>
      rename_i fn' x' y'
      have hfn' : fn' = .func g := by cases hfn with | same _ => rfl
      subst hfn'
      unfold Go.Ev.rangeCall at h'
      split at h'
      · rename_i d σ₁ a₁ hmark
        -- the block for the rounds' deferred calls, and the mark
        have mk : ∀ fm, ∃ (ρ₁ : Ren) (w₁ : World) (mark : List Deferred) (ld : Loc), Stp Nix ρ σ w ρ₁ σ₁ w₁ ∧ ρ₁ d = some ld ∧ ActRel ρ₁ a₁ { a' with defers := mark ++ a'.defers } ∧
            (Instr.enterLoop fm a'.tmps ps as bo F.round).run P w =
              .ok (w₁.heap.size, mark) { w₁ with heap := w₁.heap.push (.loop { state := .ready, pending := none, fn := fm, tmps := a'.tmps, params := ps, assign := as, body := bo, defers := ld.c }) } := by
          intro fm
          unfold rangeMark at hmark
          split at hmark
          · rename_i hro'
            obtain ⟨t, s, ds⟩ := a
            have hF : F = Fence.wide := hroF
            subst hF
            simp only [Option.some.injEq, Prod.mk.injEq] at hmark
            obtain ⟨rfl, rfl, rfl⟩ := hmark
            have hid : ρ σ.next = none := hr.fresh _ (Nat.le_refl _)
            have hst : Stp (fun b => b = σ.next) ρ σ w (upd ρ σ.next ⟨w.heap.size, 0, 0⟩) (σ.new σ.next .deferred) { w with heap := w.heap.push (.deferred (some [])) } :=
              Stp.alloc hr hid rfl rfl rfl rfl (.deferred (by show (w.heap.push _)[w.heap.size]? = _; simp))
            refine ⟨_, _, [{ target := .collected w.heap.size, args := #[] }], ⟨w.heap.size, 0, 0⟩, hst.next_nix, upd_self _ _ _, ⟨ha.tmps.mono hst.le, ha.size, .cons (.mark (l := ⟨w.heap.size, 0, 0⟩) (upd_self _ _ _)) (ha.defers.mono hst.le)⟩, ?_⟩
            simp [Instr.enterLoop, Fence.wide]
            rfl
          · rename_i l₀
            obtain ⟨k₀, hk₀, rfl⟩ := hroF
            split at hmark
            · rename_i st pend fn₀ t₀ s₀ ps₀ as₀ bo₀ d₀ hb₀
              cases hmark
              obtain ⟨fn₀', t₀', ld, hw₀, _, _, hd₀⟩ := hr.loop hb₀ hk₀
              refine ⟨ρ, w, [], ld, Stp.refl hr, hd₀, ha, ?_⟩
              simp [Instr.enterLoop, run_getLoop hw₀]
            · cases hmark
        refine wpIn_rangeFunc fun fm _ => ?_
        obtain ⟨ρ₁, w₁, mark, ld, hst₁, hld, ha₁, henter⟩ := mk fm
        have hid : ρ₁ σ₁.next = none := hst₁.r.fresh _ (Nat.le_refl _)
        have hts : a₁.tmps = a.tmps ∧ a₁.size = a.size := by
          unfold rangeMark at hmark
          split at hmark
          · obtain ⟨t, s, ds⟩ := a
            simp only [Option.some.injEq, Prod.mk.injEq] at hmark
            obtain ⟨_, _, rfl⟩ := hmark
            exact ⟨rfl, rfl⟩
          · split at hmark
            · cases hmark; exact ⟨rfl, rfl⟩
            · cases hmark
        have hst₂ : Stp (fun b => b = σ₁.next) ρ₁ σ₁ w₁ (upd ρ₁ σ₁.next ⟨w₁.heap.size, 0, 0⟩) (σ₁.new σ₁.next (.loop .ready none fn a.tmps a.size ps.toList as bo d))
            { w₁ with heap := w₁.heap.push (.loop { state := .ready, pending := none, fn := fm, tmps := a'.tmps, params := ps, assign := as, body := bo, defers := ld.c }) } := by
          refine Stp.alloc hst₁.r hid rfl rfl rfl rfl (.loop (fn' := fm) (t' := a'.tmps) (ld := ld) (by show (w₁.heap.push _)[w₁.heap.size]? = _; simp) ?_ ha.size (upd_le ρ₁ _ hid _ _ hld))
          exact ha.tmps.mono (hst₁.le.trans (upd_le ρ₁ _ hid))
        have hst₂' := hst₁.trans hst₂.next_nix
        have hyl : upd ρ₁ σ₁.next ⟨w₁.heap.size, 0, 0⟩ σ₁.next = some ⟨w₁.heap.size, 0, 0⟩ := upd_self _ _ _
        have hargs : VsRel (upd ρ₁ σ₁.next ⟨w₁.heap.size, 0, 0⟩) (app first (app [.func (.yield σ₁.next) [] []] captured)) (x' ++ ([.func (.yield w₁.heap.size) #[] #[]] ++ y')) := by
          rw [app_eq, app_eq]
          exact (hx.mono hst₂'.le).append ((VsRel.cons (.func (.yield (k := ⟨w₁.heap.size, 0, 0⟩) hyl) .nil .nil) .nil).append (hy.mono hst₂'.le))
        obtain ⟨hcf, hcall⟩ := hg.call (Res.Holds.bind h') hst₂.r hargs
        let W2 : World := { w₁ with heap := w₁.heap.push (.loop { state := .ready, pending := none, fn := fm, tmps := a'.tmps, params := ps, assign := as, body := bo, defers := ld.c }) }
        refine ⟨w₁.heap.size, mark, W2, { target := .fn (.func g) ⟨y'⟩, args := ⟨x'⟩ ++ #[.func (.yield w₁.heap.size) #[] #[]] }, W2, g, ⟨x' ++ ([.func (.yield w₁.heap.size) #[] #[]] ++ y')⟩, W2, henter, ?_, fun f' _ => hroF.fn f', ?_, hroF.depth 0, hroF.calls ?_⟩
        · have e0 : (#[Operand.const (.func (.yield w₁.heap.size) #[] #[])] : Array Operand).map a'.eval = #[.func (.yield w₁.heap.size) #[] #[]] := by simp [Go.Act.eval]
          simp only [resolve]
          rw [e0, hev]
          simp [Deferred.ofValue]
        · have e1 : ((⟨x'⟩ ++ #[.func (.yield w₁.heap.size) #[] #[]] : Array Value) ++ ⟨y'⟩) = ⟨x' ++ ([.func (.yield w₁.heap.size) #[] #[]] ++ y')⟩ := by simp
          simp only [invoke]
          rw [e1]
          exact hcf
        · refine hcall.mono fun e w₃ hv => ?_
          obtain ⟨v, σ₃, ρ₃, v', hp, rfl, _, hst₃⟩ := hv
          have hp' : (rangeEnd Rn ro fn a₁ σ₁.next σ₃ (σ₃.heap.get σ₁.next)).Holds p := hp
          unfold rangeEnd at hp'
          split at hp'
          · exact hp'.elim
          · rename_i st jump fn₃ t₃ s₃ ps₃ as₃ bo₃ d₃ hnb hb₃
            have hl₃ := hst₃.le _ _ hyl
            obtain ⟨fn₃', t₃', ld₃, hw₃, ht₃, hs₃, hd₃⟩ := hst₃.r.loop hb₃ hl₃
            have hst₄ := setLoop (ids := Nix) (fn := fn₃) (fn' := fn₃') (st := .exhausted) (pend := jump) (ps := ps₃) (as := as₃) (bo := bo₃) hst₃.r hb₃ rfl hl₃ ht₃ hs₃ hd₃
            refine ⟨jump, { w₃ with heap := w₃.heap.setIfInBounds w₁.heap.size (.loop { state := .exhausted, pending := jump, fn := fn₃', tmps := t₃', params := ⟨ps₃⟩, assign := as₃, body := bo₃, defers := ld₃.c }) }, ?_, ?_⟩
            · have hnb' : (st == LoopState.busy) = false := by
                cases st <;> first
                  | rfl
                  | exact hnb.elim
                  | exact (hnb rfl).elim
                  | exact (hnb _ _ _ _ _ _ _ _ rfl).elim
              simp only [Instr.endLoop, Sem.run_bind, run_getLoop hw₃, Result.andThen_ok, hnb', Bool.false_eq_true, if_false, run_setLoop hw₃, Sem.run_pure]
            · have hst₄ := hst₄.trans (Stp.kill (ids := Nix) hst₄.r σ₁.next)
              have hall := hst₂'.trans (hst₃.trans hst₄)
              have haf : ActRel ρ₃ a₁ { a' with defers := mark ++ a'.defers } := ha₁.mono ((upd_le ρ₁ _ hid).trans hst₃.le)
              unfold rangeJump at hp'
              cases jump with
              | none => exact ⟨.normal, _, _, _, hp', rfl, haf, hall⟩
              | some c => exact wpIn_mono (hg.code hp' hst₄.r haf (hroF.mono hall.le)) fun _ _ _ hq => CodePost.trans hall hq
          · exact hp'.elim
      · exact h'.elim
  · exact h'.elim
end
end Go.Ev
