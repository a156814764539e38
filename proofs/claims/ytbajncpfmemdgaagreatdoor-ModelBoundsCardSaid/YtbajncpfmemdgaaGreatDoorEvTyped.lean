/- A law's arguments, as values of plain types: out of the trees. -/
import Derived.Test.YtbajncpfmemdgaaGreatDoorEvPure
namespace Go.Ev
open Go

/-- Whatever are these cells are those. -/
def Imp [Env] (us vs : List V) : Prop := ∀ (ρ : Ren) (xs : List Value), VsRel ρ us xs → VsRel ρ vs xs
/-- The types of a struct's fields. -/
def fieldTys (P : Program) (t : TypeId) : Option (List TypeId) :=
  match P.underlying t with
  | some (.struct fs) => some (fs.toList.map (·.type))
  | _ => none
def AllTy (r : TypeId → List V → Prop) : List TypeId → List (List V) → Prop
  | [], [] => True
  | t :: ts, p :: ps => r t p ∧ AllTy r ts ps
  | _, _ => False
section
variable [Env] {P : Program} {d : Nat} {t : TypeId} {us : List V}
theorem Imp.refl (us : List V) : Imp us us := fun _ _ h => h
theorem Imp.append {a b c e : List V} (h : Imp a b) (k : Imp c e) : Imp (a ++ c) (b ++ e) := fun ρ xs hx => by
  have h1 := hx.take a.length
  have h2 := hx.drop a.length
  rw [List.take_left' rfl] at h1
  rw [List.drop_left' rfl] at h2
  have e : xs = xs.take a.length ++ xs.drop a.length := (List.take_append_drop _ _).symm
  rw [e]
  exact (h ρ _ h1).append (k ρ _ h2)
omit [Env] in
theorem AllTy.of {r : TypeId → List V → Prop} : ∀ {fs : List Field} {ps : List (List V)}, AllT r fs ps → AllTy r (fs.map (·.type)) ps
  | [], [], _ => trivial
  | _ :: _, _ :: _, h => ⟨h.1, AllTy.of h.2⟩
omit [Env] in
theorem AllTy.cons {r : TypeId → List V → Prop} {t : TypeId} {ts : List TypeId} {ps : List (List V)} (h : AllTy r (t :: ts) ps) : ∃ p qs, ps = p :: qs ∧ r t p ∧ AllTy r ts qs := by
  cases ps with
  | nil => exact h.elim
  | cons p qs => exact ⟨p, qs, rfl, h.1, h.2⟩
omit [Env] in
theorem AllTy.nil {r : TypeId → List V → Prop} {ps : List (List V)} (h : AllTy r [] ps) : ps = [] := by
  cases ps with
  | nil => rfl
  | cons p qs => exact h.elim
omit [Env] in
theorem HasT.struct {tys : List TypeId} (ht : fieldTys P t = some tys) (h : HasT P d t us) : ∃ d' ps, us = ps.flatten ∧ AllTy (HasT P d') tys ps := by
  cases d with
  | zero => exact h.elim
  | succ d =>
    unfold fieldTys at ht
    split at ht
    · rename_i fs hu
      cases ht
      unfold HasT at h
      rw [hu] at h
      obtain ⟨ps, h1, h2⟩ := h
      exact ⟨d, ps, h1, AllTy.of h2⟩
    · cases ht
omit [Env] in
theorem HasT.int {k : IntKind} (hu : P.underlying t = some (.int k)) (h : HasT P d t us) : ∃ n, us = [.int k n] := by
  cases d with
  | zero => exact h.elim
  | succ d => unfold HasT at h; rw [hu] at h; obtain ⟨n, h, _⟩ := h; exact ⟨n, h⟩
omit [Env] in
theorem HasT.bool (hu : P.underlying t = some .bool) (h : HasT P d t us) : ∃ b, us = [.bool b] := by
  cases d with
  | zero => exact h.elim
  | succ d => unfold HasT at h; rw [hu] at h; exact h
omit [Env] in
theorem HasT.str (hu : P.underlying t = some .string) (h : HasT P d t us) : ∃ s, us = [.str s] := by
  cases d with
  | zero => exact h.elim
  | succ d => unfold HasT at h; rw [hu] at h; obtain ⟨n, h, _⟩ := h; exact ⟨n, h⟩
omit [Env] in
theorem arrL_getD' {α : Type} [Inhabited α] (enc : α → V) (l : List α) : arrL l.length (fun i => enc (l.getD i default)) = l.map enc := by
  apply List.ext_getElem?
  intro i
  by_cases h : i < l.length
  · rw [arrL_get h, List.getElem?_map, List.getElem?_eq_getElem h, List.getD_eq_getElem?_getD, List.getElem?_eq_getElem h]; rfl
  · rw [List.getElem?_eq_none (by rw [arrL_length]; omega), List.getElem?_eq_none (by rw [List.length_map]; omega)]
theorem HasT.slice {e : TypeId} {α : Type} [Inhabited α] {enc : α → V} {esz : Nat} (hu : P.underlying t = some (.slice e)) (hcs : P.cellsOf e = esz) (hsz : ∀ a, (enc a).cells.length = esz)
    (H : ∀ {d : Nat} {us : List V}, HasT P d e us → ∃ a, Imp us (enc a).cells) (h : HasT P d t us) : ∃ l : List α, Imp us [arrOf enc esz l] := by
  cases d with
  | zero => exact h.elim
  | succ d =>
    unfold HasT at h
    rw [hu] at h
    obtain ⟨es, rfl, _, hes⟩ := h
    have key : ∀ es : List (List V), (∀ x ∈ es, HasT P d e x) → ∃ l : List α, l.length = es.length ∧ ∀ (ρ : Ren) (ys : List Value), VsRel ρ (flatCells (es.map (valT P e))) ys → VsRel ρ (flatCells (l.map enc)) ys := by
      intro es
      induction es with
      | nil => exact fun _ => ⟨[], rfl, fun _ _ h => h⟩
      | cons x es ih =>
        intro hx
        obtain ⟨l, h1, h2⟩ := ih fun y hy => hx y (List.mem_cons_of_mem _ hy)
        obtain ⟨a, ha⟩ := H (hx x List.mem_cons_self)
        refine ⟨a :: l, by simp [h1], ?_⟩
        have hc := (hx x List.mem_cons_self).cells
        intro ρ ys hy
        rw [List.map_cons, flatCells_cons] at hy ⊢
        rw [hc] at hy
        exact Imp.append (fun ρ xs h => ha ρ xs h) (fun ρ xs h => h2 ρ xs h) ρ ys hy
    obtain ⟨l, h1, h2⟩ := key es hes
    refine ⟨l, fun ρ xs hx => ?_⟩
    cases hx with
    | cons hx hl =>
      cases hl
      refine .cons (.arr (fun h => by cases h) (lst_frz (ρ' := ρ) (fun _ _ _ h => h) (hcs ▸ hx) (fun ys hy => ?_) ?_ ?_ fun h => by cases h)) .nil
      · rw [arrL_getD']; exact h2 ρ ys hy
      · rw [arrL_getD']
        intro v hv
        obtain ⟨a, _, rfl⟩ := List.mem_map.1 hv
        exact hsz a
      · rw [arrL_length, List.length_map, h1]
/-- A law's call, out of what is known of it at the arguments' values. -/
theorem calls_typed {f : FuncId} {v : V} {x : Value} {w : World} (hl : ∀ q ∈ Env.laid, w.cell? ⟨q.1, q.2.1, none⟩ = some q.2.2) (hv : VsRel (allImm w) [v] [x]) (h : CallS P f [v] (fun u _ => u = .bool true) start) : Calls P f #[x] w fun e w' => e = .returned (.bool true) ∧ RowKit.Below w.heap.size w w' := by
  obtain ⟨_, hc⟩ := SemE.at h.h (allImm w) w [x] (allImm_rel w hl) hv
  refine callsIn_wide.1 (hc.mono fun e w' hp => ?_)
  obtain ⟨v', σ', ρ', x', h1, rfl, h2, h3⟩ := hp
  have h1 : v' = .bool true := h1
  subst h1
  cases h2
  refine ⟨rfl, h3.os, h3.tape, h3.output, h3.size, fun k hk => h3.keep k hk ?_⟩
  rintro ⟨b, k, l, hb, _⟩
  rw [start_get] at hb
  cases hb
end
end Go.Ev
