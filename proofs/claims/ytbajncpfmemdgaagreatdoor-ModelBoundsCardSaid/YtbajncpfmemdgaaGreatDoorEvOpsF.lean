/- Each operation of the evaluator, sixth part: ranges over maps, and all operations that are no calls. -/
import Derived.Test.YtbajncpfmemdgaaGreatDoorEvOpsE
namespace Go.Ev
open Go
section
variable {P : Program} {ρ : Ren} {σ : St} {w : World} {id : Nat} {p : V × St → Prop}

theorem EntsRel.filter [Env] {q : Nat → Bool} : ∀ {l : List (V × V × Nat)} {l' : List MapEntry}, EntsRel ρ l l' → EntsRel ρ (l.filter fun e => q e.2.2) (l'.filter fun e => q e.born) := by
  intro l
  induction l with
  | nil => intro l' h; cases h; exact .nil
  | cons e l ih =>
    intro l' h
    cases h with
    | cons he hl =>
      rename_i e' l'
      simp only [List.filter_cons, he.born]
      cases q e'.born with
      | true => exact .cons he (ih hl)
      | false => exact ih hl

theorem EntsRel.all [Env] {q : Nat → Bool} : ∀ {l : List (V × V × Nat)} {l' : List MapEntry}, EntsRel ρ l l' → (l.all fun e => q e.2.2) = l'.all fun e => q e.born := by
  intro l
  induction l with
  | nil => intro l' h; cases h; rfl
  | cons e l ih => intro l' h; cases h with | cons he hl => simp only [List.all_cons, he.born, ih hl]

theorem EntsRel.isEmpty [Env] {l : List (V × V × Nat)} {l' : List MapEntry} (h : EntsRel ρ l l') : l.isEmpty = l'.isEmpty := by
  cases h <;> rfl

/-- A candidate: an entry, or the end. -/
inductive CandRel [Env] (ρ : Ren) : Option (V × V × Nat) → Option MapEntry → Prop
  | none : CandRel ρ none none
  | some {e : V × V × Nat} {e' : MapEntry} (h : EntRel ρ e e') : CandRel ρ (some e) (some e')
inductive CandsRel [Env] (ρ : Ren) : List (Option (V × V × Nat)) → List (Option MapEntry) → Prop
  | nil : CandsRel ρ [] []
  | cons {e : Option (V × V × Nat)} {e' : Option MapEntry} {l : List (Option (V × V × Nat))} {l' : List (Option MapEntry)} (h : CandRel ρ e e') (hl : CandsRel ρ l l') : CandsRel ρ (e :: l) (e' :: l')
theorem CandsRel.length [Env] {l : List (Option (V × V × Nat))} {l' : List (Option MapEntry)} : CandsRel ρ l l' → l.length = l'.length
  | .nil => rfl
  | .cons _ hl => congrArg (· + 1) hl.length
theorem CandsRel.get [Env] {l : List (Option (V × V × Nat))} {l' : List (Option MapEntry)} (h : CandsRel ρ l l') (i : Nat) {c : Option (V × V × Nat)} (hc : l[i]? = some c) : ∃ c', l'[i]? = some c' ∧ CandRel ρ c c' := by
  induction i generalizing l l' with
  | zero => cases h with
    | nil => simp at hc
    | cons h hl => simp at hc; subst hc; exact ⟨_, rfl, h⟩
  | succ i ih => cases h with
    | nil => simp at hc
    | cons h hl => exact ih hl (by simpa using hc)
theorem CandsRel.of_ents [Env] {l : List (V × V × Nat)} {l' : List MapEntry} (h : EntsRel ρ l l') : CandsRel ρ (l.map some) (l'.map some) := by
  induction l generalizing l' with
  | nil => cases h; exact .nil
  | cons e l ih => cases h with | cons he hl => exact .cons (.some he) (ih hl)

theorem candidates_rel [Env] {es : List (V × V × Nat)} {es' : List MapEntry} (h : EntsRel ρ es es') (since : Nat) (seen : List Nat) :
    CandsRel ρ (candidates es since seen)
      ((if (((es'.filter fun e => !seen.contains e.born).filter fun e => decide (e.born < since)).isEmpty) then [none] else []) ++
        ((((es'.filter fun e => !seen.contains e.born).filter fun e => decide (e.born < since)) ++ ((es'.filter fun e => !seen.contains e.born).filter fun e => decide (e.born ≥ since))).map some)) := by
  have h1 := h.filter (q := fun b => !seen.contains b)
  have h2 := h1.filter (q := fun b => decide (b < since))
  have h3 := h1.filter (q := fun b => decide (b ≥ since))
  unfold candidates
  dsimp only
  rw [h2.isEmpty]
  split
  · exact .cons .none (CandsRel.of_ents (h2.append h3))
  · exact CandsRel.of_ents (h2.append h3)

theorem setIter [Env] (hr : R ρ σ w) {ids : Nat → Prop} {r : Nat} {m : Option Nat} {since last : Nat} {seen : List Nat} {k₀ : Blk} (hb : σ.heap.get r = some k₀) (hkw : k₀.writable = true) {l : Loc} (hl : ρ r = some l) (ho : l.o = 0) {m' : Option Nat} (hm : OptRel ρ m m') :
    Stp ids ρ σ w ρ (σ.set r (.iter m since seen last)) { w with heap := w.heap.setIfInBounds l.c (.mapIter m' since ⟨seen⟩ last) } := by
  have hlt := hr.valid _ _ hl
  refine Stp.set hr hb hl hkw (by simp) (fun c hc => ?_) rfl rfl rfl (.iter ?_ ho hm)
  · show (w.heap.setIfInBounds l.c _)[c]? = _
    rw [Array.getElem?_setIfInBounds_ne (by omega)]
  · show (w.heap.setIfInBounds l.c _)[l.c]? = _
    simp [hlt]

/-- The next entry of a map, or the end. -/
theorem next_run [Env] (hr : R ρ σ w) {it : V} {isS : Bool} {ty : TypeId} (h : (evalNext σ it isS).Holds p) {it' : Value} (hit : VRel ρ it it') :
    ∃ v σ' v' w', p (v, σ') ∧ VRel ρ v v' ∧ (Instr.next it' isS ty).run P w = .ok v' w' ∧ Stp (fun b => b = id) ρ σ w ρ σ' w' := by
  unfold evalNext at h
  split at h
  · rename_i r
    cases hit with
    | ptr hl =>
      rename_i l
      unfold nextOf at h
      split at h
      · rename_i s1 s2 s3 hb
        obtain ⟨l', hl', hblk⟩ := hr.blk _ _ hb
        rw [hl] at hl'; cases hl'
        cases hblk with
        | iter hh ho hm =>
          cases hm
          refine ⟨_, _, .tuple #[.bool false], w, h, .tuple (.cons (.bool false) .nil), ?_, Stp.refl hr⟩
          simp only [Instr.next, ho, Nat.add_zero, Sem.run_bind, getObj, Sem.run, hh, Result.andThen_ok]
          rfl
      · rename_i m since seen last hb
        obtain ⟨l', hl', hblk⟩ := hr.blk _ _ hb
        rw [hl] at hl'; cases hl'
        cases hblk with
        | iter hh ho hm =>
          cases hm with
          | some hml =>
            rename_i lm
            split at h
            · rename_i es clock hmb
              obtain ⟨lm', hlm', hmblk⟩ := hr.blk _ _ hmb
              rw [hml] at hlm'; cases hlm'
              cases hmblk with
              | map hmm he =>
                rename_i es'
                split at h
                · exact h.elim
                · rename_i hgone
                  have hgone' : (!(⟨seen⟩ : Array Nat).isEmpty && !es'.isEmpty && es'.all fun e => decide (e.born ≥ last)) = false := by
                    rw [← hgone]
                    unfold allGone
                    rw [he.all (q := fun b => decide (b ≥ last)), he.isEmpty]
                    simp
                  have hcand := candidates_rel he since seen
                  -- the machine's candidates
                  let left := es'.filter fun e => !(⟨seen⟩ : Array Nat).contains e.born
                  let old := left.filter fun e => decide (e.born < since)
                  let new := left.filter fun e => decide (e.born ≥ since)
                  let C : Array (Option MapEntry) := (if old.isEmpty then #[none] else #[]) ++ (old ++ new).map some
                  have hC : CandsRel ρ (candidates es since seen) C.toList := by
                    have : C.toList = ((if (((es'.toList.filter fun e => !seen.contains e.born).filter fun e => decide (e.born < since)).isEmpty) then [none] else []) ++
                        ((((es'.toList.filter fun e => !seen.contains e.born).filter fun e => decide (e.born < since)) ++ ((es'.toList.filter fun e => !seen.contains e.born).filter fun e => decide (e.born ≥ since))).map some)) := by
                      simp only [C, Array.toList_append, Array.toList_map, old, new, left, Array.toList_filter]
                      congr 1
                      · simp only [Array.isEmpty_iff, List.isEmpty_iff]
                        split <;> rename_i h1 <;> split <;> rename_i h2 <;> first
                          | rfl
                          | (exfalso; simp_all; done)
                          | (exfalso; simp_all; obtain ⟨x, a1, a2, a3⟩ := h1; exact a3 (h2 x a1 a2))
                          | (exfalso; simp_all; obtain ⟨x, a1, a2, a3⟩ := h2; exact a3 (h1 x a1 a2))
                      · simp
                    rw [this]; exact hcand
                  have hrun : ∀ (k : Nat) (w₁ : World), (choose (.mapNext C.size)).run P w = .ok k w₁ → w₁.heap = w.heap → ∀ c', C[k]? = some c' →
                      (Instr.next (.pointer (some ⟨l.c, l.o + 0, none⟩)) false ty).run P w =
                        (match c' with
                          | some e => .ok (.tuple #[.bool true, e.key, e.val]) { w₁ with heap := w₁.heap.setIfInBounds l.c (.mapIter (some lm.c) since ⟨seen ++ [e.born]⟩ clock) }
                          | none => .ok (.tuple #[.bool false]) w₁) := by
                    intro k w₁ hch hw₁ c' hc'
                    simp only [Instr.next, ho, Nat.add_zero, Sem.run_bind, getObj, Sem.run, hh, Result.andThen_ok, hmm]
                    rw [if_neg (by rw [hgone']; simp)]
                    have hch' : (choose (.mapNext ((if old.isEmpty = true then #[none] else #[]) ++ (old ++ new).map some).size)).run P w = .ok k w₁ := hch
                    have hc'' : ((if old.isEmpty = true then #[none] else #[]) ++ (old ++ new).map some)[k]? = some c' := hc'
                    simp only [old, new, left] at hch' hc''
                    simp only [Sem.run_bind, hch', Result.andThen_ok, hc'']
                    cases c' with
                    | none => rfl
                    | some e =>
                      simp only [Sem.run_bind]
                      rw [run_setObj (o' := .mapIter (some lm.c) since ⟨seen⟩ last) (by rw [hw₁]; exact hh) (by simp)]
                      simp
                  unfold pickEntry at h
                  have fin : ∀ (k : Nat) (w₁ : World), (choose (.mapNext C.size)).run P w = .ok k w₁ → w₁.heap = w.heap → w₁.os = w.os → w₁.tape = w.tape → w₁.output = w.output →
                      (takeEntry σ r m since seen clock (candidates es since seen)[k]?).Holds p →
                      ∃ v σ' v' w', p (v, σ') ∧ VRel ρ v v' ∧ (Instr.next (.pointer (some ⟨l.c, l.o + 0, none⟩)) false ty).run P w = .ok v' w' ∧ Stp (fun b => b = id) ρ σ w ρ σ' w' := by
                    intro k w₁ hch hw₁ ho₁ ht₁ hp₁ hh₁
                    unfold takeEntry at hh₁
                    split at hh₁
                    · rename_i a b c heq
                      obtain ⟨c', hc', hrel⟩ := hC.get k heq
                      have hc'' : C[k]? = some c' := by simpa using hc'
                      cases hrel with
                      | some hrel =>
                        rename_i e'
                        have hb := hrel.born
                        dsimp only at hb
                        subst hb
                        refine ⟨_, _, _, _, hh₁, ?_, hrun k w₁ hch hw₁ _ hc'', (Stp.drawn hr hw₁ ho₁ ht₁ hp₁).trans (setIter (hr.congr hw₁) hb rfl hl ho (.some hml))⟩
                        exact .tuple (.cons (.bool true) (.cons hrel.key (.cons hrel.val .nil)))
                    · rename_i heq
                      obtain ⟨c', hc', hrel⟩ := hC.get k heq
                      have hc'' : C[k]? = some c' := by simpa using hc'
                      cases hrel
                      exact ⟨_, _, _, _, hh₁, .tuple (.cons (.bool false) .nil), hrun k w₁ hch hw₁ _ hc'', Stp.drawn hr hw₁ ho₁ ht₁ hp₁⟩
                    · exact hh₁.elim
                  have hsz : (candidates es since seen).length = C.size := by rw [hC.length]; simp
                  split at h
                  · rename_i hle
                    exact fin 0 w (by rw [run_choose, if_pos (by simp [Question.forced]; omega)]) rfl rfl rfl rfl h
                  · rename_i hle
                    have hnf : (Question.mapNext C.size).forced = false := by simp [Question.forced]; omega
                    have hk : (Question.mapNext C.size).cut (w.tape w.drawn (.mapNext C.size)) < C.size := by simp only [Question.cut]; exact Nat.mod_lt _ (by omega)
                    exact fin _ { w with drawn := w.drawn + 1 } (by rw [run_choose, hnf]; rfl) rfl rfl rfl rfl (h.2 _ (by rw [hsz]; exact hk))
            · exact h.elim
      · exact h.elim
  · exact h.elim

end
end Go.Ev
