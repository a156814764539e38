/- Each operation of the evaluator: the machine's operation goes through, and comes to the same. -/
import Derived.Test.YtbajncpfmemdgaaGreatDoorEvMem
import Derived.Laws.StructEq
import Derived.Laws.Concat
import Derived.MapKept
namespace Go.Ev
open Go

theorem Res.Holds.bind {α β : Type} {p : β → Prop} {r : Res α} {f : α → Res β} (h : (r.bind f).Holds p) : r.Holds fun a => (f a).Holds p := by
  induction r with
  | ok a => exact h
  | fail w => exact h
  | pick n k ih => exact ⟨h.1, fun i hi => ih i (h.2 i hi)⟩
  | tr C hm he => exact h
theorem Res.Holds.bind_intro {α β : Type} {p : β → Prop} {r : Res α} {f : α → Res β} (h : r.Holds fun a => (f a).Holds p) : (r.bind f).Holds p := by
  induction r with
  | ok a => exact h
  | fail w => exact h
  | pick n k ih => exact ⟨h.1, fun i hi => ih i (h.2 i hi)⟩
  | tr C hm he => exact h
theorem Res.allUpTo_get {n : Nat} {p : Nat → Bool} (h : Res.allUpTo n p = true) {i : Nat} (hi : i < n) : p i = true := by
  induction n with
  | zero => omega
  | succ n ih =>
    simp only [Res.allUpTo, Bool.and_eq_true] at h
    by_cases e : i = n
    · subst e; exact h.2
    · exact ih h.1 (by omega)
theorem Res.holds_of_check {α : Type} {p : α → Bool} {r : Res α} (h : r.check p = true) : r.Holds fun a => p a = true := by
  induction r with
  | ok a => exact h
  | fail w => cases h
  | pick n k ih =>
    have h' : (Nat.blt 0 n && Res.allUpTo n fun i => (k i).check p) = true := h
    rw [Bool.and_eq_true, Nat.blt_eq] at h'
    exact ⟨h'.1, fun i hi => ih i (Res.allUpTo_get h'.2 hi)⟩
  | tr C hm he => cases h

/-- What an operation comes to. -/
def Outs [Env] (P : Program) (s : Sem Next) (id : Nat) (ρ : Ren) (σ : St) (w : World) (p : V × St → Prop) : Prop :=
  ∃ v σ' ρ' v' w', p (v, σ') ∧ VRel ρ' v v' ∧ Stp (fun b => b = id) ρ σ w ρ' σ' w' ∧
    (s.run P w = .ok (.value v') w' ∨ (v' = undef ∧ s.run P w = .ok .skip w'))

section
variable {P : Program} {ρ : Ren} {σ : St} {w : World} {id : Nat} {p : V × St → Prop}

theorem Outs.value [Env] {s : Sem Next} (hr : R ρ σ w) {v : V} {v' : Value} (hp : p (v, σ)) (hv : VRel ρ v v') (h : s.run P w = .ok (.value v') w) : Outs P s id ρ σ w p :=
  ⟨v, σ, ρ, v', w, hp, hv, Stp.refl hr, .inl h⟩

theorem keep_holds {why : String} {x : Option V} (h : (keep σ why x).Holds p) : ∃ v, x = some v ∧ p (v, σ) := by
  cases x with
  | none => exact h.elim
  | some v => exact ⟨v, rfl, h⟩
theorem at1_holds {why : String} {x : Option V} {k : V → VS} (h : (at1 why x k).Holds p) : ∃ v, x = some v ∧ (k v).Holds p := by
  cases x with
  | none => exact h.elim
  | some v => exact ⟨v, rfl, h⟩
theorem at2_holds {why : String} {x y : Option V} {k : V → V → VS} (h : (at2 why x y k).Holds p) : ∃ v u, x = some v ∧ y = some u ∧ (k v u).Holds p := by
  cases x with
  | none => exact h.elim
  | some v => cases y with
    | none => exact h.elim
    | some u => exact ⟨v, u, rfl, rfl, h⟩

/-! ### Types -/
theorem run_typeInfo {t : TypeId} {i : TypeInfo} (h : P.info? t = some i) : (typeInfo t).run P w = .ok i w := by simp [typeInfo, h]
theorem run_underlying {t : TypeId} {d : TypeDesc} (h : P.underlying t = some d) : (underlying t).run P w = .ok d w := by simp [underlying, h]
theorem sizeT_run [Env] {t : TypeId} {n : Nat} (h : sizeT P t = some n) : (sizeOf t).run P w = .ok n w := by
  unfold sizeT at h
  rw [Option.map_eq_some_iff] at h
  obtain ⟨i, hi, rfl⟩ := h
  simp [sizeOf, run_typeInfo hi]
theorem bytesT_run {t : TypeId} {n : Nat} (h : bytesT P t = some n) : ∃ i, P.info? t = some i ∧ i.bytes = n := by
  unfold bytesT at h
  rw [Option.map_eq_some_iff] at h
  exact h
theorem aggT_run [Env] {t : TypeId} {b : Bool} (h : aggT P t = some b) : (isAgg t).run P w = .ok b w := by
  unfold aggT at h
  unfold isAgg
  cases hu : P.underlying t with
  | none => simp [hu] at h
  | some d =>
    simp only [Sem.run_bind, run_underlying hu, Result.andThen_ok]
    rw [hu] at h
    cases d <;> simp at h <;> subst h <;> rfl
theorem zeroT_run [Env] {t : TypeId} {z : V} (h : zeroT P t = some z) (ρ : Ren) : ∃ zv, (∀ w, (zeroValue t).run P w = .ok zv w) ∧ VRel ρ z zv := by
  unfold zeroT at h
  rw [Option.bind_eq_some_iff] at h
  obtain ⟨zv, h1, h2⟩ := h
  rw [Option.bind_eq_some_iff] at h1
  obtain ⟨i, hi, hz⟩ := h1
  exact ⟨zv, fun w => by simp [zeroValue, run_typeInfo hi, hz], ofValue_rel ρ zv h2⟩

/-! ### Loads -/
theorem loadV_run [Env] (hr : R ρ σ w) {t : TypeId} {x v : V} {x' : Value} (hx : VRel ρ x x') (h : loadV P σ t x = some v) : ∃ v', (Instr.loadAt t x').run P w = .ok v' w ∧ VRel ρ v v' ∧ ∃ a, x' = .pointer (some a) ∧ (loadVar t a).run P w = .ok v' w := by
  unfold loadV at h
  split at h
  · rename_i b off n hagg hsz
    cases hx with
    | ptr hl =>
      rw [Option.map_eq_some_iff] at h
      obtain ⟨vs, hvs, rfl⟩ := h
      obtain ⟨xs, hrun', hrel, _⟩ := hr.loadCells (P := P) hvs hl
      have hrun := hrun' w rfl
      refine ⟨.agg ⟨xs⟩, ?_, .agg hrel, _, rfl, ?_⟩
      · simp [Instr.loadAt, Instr.sureAddr, loadVar, aggT_run hagg, sizeT_run hsz, hrun]
      · simp [loadVar, aggT_run hagg, sizeT_run hsz, hrun]
  · rename_i b off hagg
    cases hx with
    | ptr hl =>
      obtain ⟨x, hc, hrel⟩ := hr.cell h hl
      refine ⟨x, ?_, hrel, _, rfl, ?_⟩
      · simp [Instr.loadAt, Instr.sureAddr, loadVar, aggT_run hagg, hc]
      · simp [loadVar, aggT_run hagg, hc]
  · rename_i cs off n hagg hsz
    cases hx with
    | eptr hx hi =>
      rename_i c o xs
      split at h
      · rename_i hle
        cases h
        rw [len_eq] at hle
        have hle : off + n ≤ cs.length := Nat.le_of_ble_eq_true hle
        have hlen := hx.length
        rw [takeOf_eq, dropOf_eq]
        have hl : ((xs.drop off).take n).length = n := by simp; omega
        have hrun : ∀ w₁ : World, w₁.heap = w.heap → (loadCells ⟨c, o + off, none⟩ n).run P w₁ = .ok ⟨(xs.drop off).take n⟩ w₁ := fun w₁ hw => by
          have := hr.loadImm (P := P) (c := c) (o := o + off) (xs := (xs.drop off).take n) (fun k x hk => by
            rw [Nat.add_assoc]
            refine hi (off + k) x ?_
            rw [List.getElem?_take] at hk
            split at hk
            · rw [List.getElem?_drop] at hk; exact hk
            · cases hk) w₁ hw
          rwa [hl] at this
        refine ⟨.agg ⟨(xs.drop off).take n⟩, ?_, .agg ((hx.drop off).take n), _, rfl, ?_⟩
        · simp [Instr.loadAt, Instr.sureAddr, loadVar, aggT_run hagg, sizeT_run hsz, hrun w rfl]
        · simp [loadVar, aggT_run hagg, sizeT_run hsz, hrun w rfl]
      · cases h
  · rename_i cs off hagg
    cases hx with
    | eptr hx hi =>
      rename_i c o xs
      rw [nth_eq] at h
      obtain ⟨x, hx', hrel⟩ := hx.get _ h
      have hc : w.cell? ⟨c, o + off, none⟩ = some x := (hr.imm _ _ _ (hi off x hx')).1
      refine ⟨x, ?_, hrel, _, rfl, ?_⟩
      · simp [Instr.loadAt, Instr.sureAddr, loadVar, aggT_run hagg, hc]
      · simp [loadVar, aggT_run hagg, hc]
  · rename_i b i esz off n hagg hsz
    cases hx with
    | elt hl =>
      rename_i l
      rw [Option.bind_eq_some_iff] at h
      obtain ⟨cs, hcs, h⟩ := h
      obtain ⟨hlen, xs, hx, hcell⟩ := hr.elt hcs hl
      unfold partC at h
      split at h
      · rename_i hle
        cases h
        rw [len_eq] at hle
        have hle : off + n ≤ cs.length := Nat.le_of_ble_eq_true hle
        have hlen := hx.length
        rw [takeOf_eq, dropOf_eq]
        have hlx : ((xs.drop off).take n).length = n := by simp; omega
        have hrun : (loadCells ⟨l.c, l.o + (i * esz + off), none⟩ n).run P w = .ok ⟨(xs.drop off).take n⟩ w := by
          have := run_loadCells_list (P := P) w ⟨l.c, l.o + (i * esz + off), none⟩ ((xs.drop off).take n) (fun j x hj => by
            rw [addr_add, show l.o + (i * esz + off) + j = l.o + (i * esz + (off + j)) by omega]
            refine hcell (off + j) x ?_
            rw [List.getElem?_take] at hj
            split at hj
            · rw [List.getElem?_drop] at hj; exact hj
            · cases hj)
          rwa [hlx] at this
        refine ⟨.agg ⟨(xs.drop off).take n⟩, ?_, .agg ((hx.drop off).take n), _, rfl, ?_⟩
        · simp [Instr.loadAt, Instr.sureAddr, loadVar, aggT_run hagg, sizeT_run hsz, hrun]
        · simp [loadVar, aggT_run hagg, sizeT_run hsz, hrun]
      · cases h
  · rename_i b i esz off hagg
    cases hx with
    | elt hl =>
      rename_i l
      rw [Option.bind_eq_some_iff] at h
      obtain ⟨cs, hcs, h⟩ := h
      obtain ⟨hlen, xs, hx, hcell⟩ := hr.elt hcs hl
      rw [nth_eq] at h
      obtain ⟨x, hx', hrel⟩ := hx.get _ h
      have hc : w.cell? ⟨l.c, l.o + (i * esz + off), none⟩ = some x := hcell off x hx'
      refine ⟨x, ?_, hrel, _, rfl, ?_⟩
      · simp [Instr.loadAt, Instr.sureAddr, loadVar, aggT_run hagg, hc]
      · simp [loadVar, aggT_run hagg, hc]
  · cases h

/-! ### A new row of cells -/
theorem alloc_row [Env] (hr : R ρ σ w) (hid : ρ id = none) {vs : List V} {xs : List Value} (hx : VsRel ρ vs xs) {ty : TypeId} {w' : World} (hw : w'.heap = w.heap.push (.cells ⟨xs⟩ ty (0, 0)))
    (ho : w'.os = w.os) (ht : w'.tape = w.tape) (hp : w'.output = w.output) :
    Stp (fun b => b = id) ρ σ w (upd ρ id ⟨w.heap.size, 0, xs.length⟩) (newRow σ id vs.length [] (putAll vs .leaf 0) true) w' := by
  have hat : w'.heap[w.heap.size]? = some (.cells ⟨xs⟩ ty (0, 0)) := by rw [hw]; simp
  refine Stp.alloc hr hid hw ho ht hp (.cells ⟨ty, ?_⟩ (by simp [hx.length]) (fun i v hi => ?_) (fun _ i _ => ?_) (fun _ i => ?_))
  · simp [World.shape?, hat]
  · rcases cellOf_putAll hi with ⟨_, h2, h3⟩ | ⟨_, h2⟩
    · obtain ⟨x, hx', hrel⟩ := hx.get _ h3
      refine ⟨x, ?_, hrel.mono (upd_le ρ _ hid)⟩
      simpa [World.cell?, hat] using hx'
    · unfold cellOf at h2
      split at h2
      · rw [Trie.get_leaf] at h2; simp [nth_eq] at h2
      · cases h2
  · simp [World.frozen?, hat]
  · simp [World.frozen?, hat]

theorem box_run [Env] (hr : R ρ σ w) (hid : ρ id = none) {v : V} {x : Value} (hx : VRel ρ v x) (e : TypeId) (hp : p (.ptr id 0, newRow σ id (len v.cells) [] (putAll v.cells .leaf 0) true)) {s : Sem Next}
    (hs : s.run P w = .ok (.value (.pointer (some ⟨w.heap.size, 0, none⟩))) { w with heap := w.heap.push (.cells x.cells e) }) : Outs P s id ρ σ w p := by
  have hc := hx.cells
  have hst := alloc_row hr hid hc (ty := e) (w' := { w with heap := w.heap.push (.cells x.cells e) }) rfl rfl rfl rfl
  rw [len_eq] at hp
  exact ⟨_, _, _, _, _, hp, .ptr (l := ⟨w.heap.size, 0, x.cells.toList.length⟩) (upd_self _ _ _), hst, .inl (by simpa using hs)⟩

/-! ### Operands of a build -/
inductive PartsRel [Env] (ρ : Ren) : List (Nat × V) → List (Nat × Value) → Prop
  | nil : PartsRel ρ [] []
  | cons {i : Nat} {v : V} {x : Value} {l : List (Nat × V)} {l' : List (Nat × Value)} (h : VRel ρ v x) (hl : PartsRel ρ l l') : PartsRel ρ ((i, v) :: l) ((i, x) :: l')

theorem ActRel.parts [Env] {a : Act} {a' : Go.Act} (h : ActRel ρ a a') (l : List (Nat × Operand)) {vs : List (Nat × V)} (hv : a.parts l = some vs) : PartsRel ρ vs (l.map fun q => (q.1, a'.eval q.2)) := by
  induction l generalizing vs with
  | nil => have hv' : some [] = some vs := hv; cases hv'; exact .nil
  | cons q l ih =>
    obtain ⟨v, t, h1, h2, rfl⟩ := consO_some (x := partO a q) (l := a.parts l) hv
    unfold partO at h1
    split at h1
    · rename_i u hu
      cases h1
      exact .cons (h.eval q.2 hu) (ih h2)
    · cases h1

theorem fold_set (off : Nat) : ∀ (vs : List Value) (k : Nat) (A : List Value), off + k + vs.length ≤ A.length →
    (vs.zipIdx k).foldl (fun (cs : Array Value) (q : Value × Nat) => cs.setIfInBounds (off + q.2) q.1) ⟨A⟩ = ⟨A.take (off + k) ++ (vs ++ A.drop (off + k + vs.length))⟩ := by
  intro vs
  induction vs with
  | nil => intro k A _; simp
  | cons u vs ih =>
    intro k A hA
    simp only [List.length_cons] at hA
    have h1 : ((⟨A⟩ : Array Value).setIfInBounds (off + k) u) = ⟨A.set (off + k) u⟩ := by simp
    rw [List.zipIdx_cons, List.foldl_cons, h1, ih (k + 1) _ (by simp; omega)]
    congr 1
    apply List.ext_getElem?
    intro i
    simp only [List.getElem?_append, List.length_take, List.length_set, List.getElem?_take, List.getElem?_set, List.getElem?_drop, List.length_cons, List.getElem?_cons]
    grind

theorem fill_run [Env] {place : Nat → Option (Nat × Nat)} : ∀ (ps : List (Nat × V)) (ps' : List (Nat × Value)) (cs : List V) (cs' : List Value) {r : List V}, PartsRel ρ ps ps' → VsRel ρ cs cs' →
    fillV place ps cs = some r → ∃ r' : List Value, Instr.fill place ⟨cs'⟩ ps' = some ⟨r'⟩ ∧ VsRel ρ r r' := by
  intro ps
  induction ps with
  | nil =>
    intro ps' cs cs' r hps hcs h
    cases hps
    have h' : some cs = some r := h
    cases h'
    exact ⟨cs', rfl, hcs⟩
  | cons q ps ih =>
    intro ps' cs cs' r hps hcs h
    cases hps with
    | cons hv hl =>
      rename_i i v x l'
      have h' : (match fillOne cs v.cells (place i) with | some cs₁ => fillV place ps cs₁ | none => none) = some r := h
      cases hf : fillOne cs v.cells (place i) with
      | none => rw [hf] at h'; cases h'
      | some cs₁ =>
        rw [hf] at h'
        cases hpl : place i with
        | none => rw [hpl] at hf; cases hf
        | some os =>
          obtain ⟨off, size⟩ := os
          rw [hpl] at hf
          unfold fillOne at hf
          dsimp only at hf
          cases hb : (Nat.beq (len v.cells) size && Nat.ble (Nat.add off size) (len cs)) with
          | false => rw [hb] at hf; cases hf
          | true =>
            rw [hb] at hf
            simp only [Option.some.injEq] at hf
            rw [Bool.and_eq_true, len_eq, len_eq] at hb
            have h1 : v.cells.length = size := Nat.eq_of_beq_eq_true hb.1
            have h2 : off + size ≤ cs.length := Nat.le_of_ble_eq_true hb.2
            have hvc := hv.cells
            have hvl : x.cells.size = size := by rw [← h1, hvc.length]; simp
            have hcl := hcs.length
            subst hf
            rw [app_eq, app_eq, takeOf_eq, dropOf_eq] at h'
            have hrel : VsRel ρ (cs.take off ++ (v.cells ++ cs.drop (off + size))) (cs'.take off ++ (x.cells.toList ++ cs'.drop (off + size))) :=
              (hcs.take off).append (hvc.append (hcs.drop _))
            obtain ⟨r', hr', hrr⟩ := ih l' _ _ hl hrel h'
            refine ⟨r', ?_, hrr⟩
            simp only [Instr.fill, hpl]
            have hno : (decide (x.cells.size ≠ size) || decide (off + x.cells.size > (⟨cs'⟩ : Array Value).size)) = false := by
              simp only [List.size_toArray, Bool.or_eq_false_iff, decide_eq_false_iff_not]
              omega
            rw [hno]
            simp only [Bool.false_eq_true, if_false]
            rw [← hr', ← Array.foldl_toList, Array.toList_zipIdx, fold_set off x.cells.toList 0 cs' (by simp [hvl]; omega)]
            simp [hvl]

end
end Go.Ev
