/- A law's arguments, for the evaluator: cells of which nothing is known. -/
import Derived.Test.YtbajncpfmemdgaaGreatDoorEvWp
import Derived.Test.YtbajncpfmemdgaaGreatDoorEvEnds
import Derived.ProofKit
import Derived.Carry
import Derived.WideShapes
namespace Go.Ev
open Go Go.RowKit

theorem cell_one {P : Program} {w : World} {r : Reach} {base : Nat} {t : TypeId} {v : Value} (h : Cell.okWide P w r base t v) : v.oneCell' = true := by
  unfold Cell.okWide at h
  split at h <;> first
    | rfl
    | (unfold Cell.ok at h; split at h <;> first | rfl | exact h.elim)

/-- Is it a whole number of 64 bits? -/
def isI64 (P : Program) (t : TypeId) : Bool :=
  match P.underlying t with
  | some (.int .i64) => true
  | _ => false
/-- A value's cells: a struct or an array, or one; of each cell whether it is a whole number of 64 bits. -/
def shapeT (P : Program) (t : TypeId) : Bool × List Bool :=
  match P.underlying t with
  | some (.struct _) | some (.array _ _) => (true, (List.range (P.cellsOf t)).map fun i => match P.cellTypes P.depth t with
    | some ts => match ts[i % ts.length]? with
      | some u => isI64 P u
      | none => false
    | none => false)
  | _ => (false, [isI64 P t])

/-- What is said of a cell. -/
def flagOk (f : Bool) (x : Value) : Prop := x.oneCell' = true ∧ (f = true → ∃ n, x = .int .i64 n)
def cellsOk : List Bool → List Value → Prop
  | [], [] => True
  | f :: fs, x :: xs => flagOk f x ∧ cellsOk fs xs
  | _, _ => False
theorem cellsOk.of : ∀ {fs : List Bool} {xs : List Value}, xs.length = fs.length → (∀ (i : Nat) f x, fs[i]? = some f → xs[i]? = some x → flagOk f x) → cellsOk fs xs
  | [], [], _, _ => trivial
  | f :: fs, x :: xs, hl, h => ⟨h 0 f x rfl rfl, cellsOk.of (by simpa using hl) fun i f x hf hx => h (i + 1) f x (by simpa using hf) (by simpa using hx)⟩
theorem cellsOk.length : ∀ {fs : List Bool} {xs : List Value}, cellsOk fs xs → xs.length = fs.length
  | [], [], _ => rfl
  | f :: fs, x :: xs, h => by simpa using cellsOk.length h.2
theorem cellsOk.get : ∀ {fs : List Bool} {xs : List Value}, cellsOk fs xs → ∀ (i : Nat) f x, fs[i]? = some f → xs[i]? = some x → flagOk f x
  | f :: fs, x :: xs, h, 0, g, y, hg, hy => by cases hg; cases hy; exact h.1
  | f :: fs, x :: xs, h, i + 1, g, y, hg, hy => cellsOk.get h.2 i g y (by simpa using hg) (by simpa using hy)
theorem cellsOk.one {fs : List Bool} {xs : List Value} (h : cellsOk fs xs) : ∀ x ∈ xs, x.oneCell' = true := fun x hx => by
  obtain ⟨i, hi, rfl⟩ := List.getElem_of_mem hx
  have hl := h.length
  exact (h.get i fs[i] xs[i] (by simp) (by simp)).1

theorem isI64_cell {P : Program} {w : World} {r : Reach} {base : Nat} {t : TypeId} {v : Value} (h : Cell.okWide P w r base t v) : flagOk (isI64 P t) v := by
  refine ⟨cell_one h, fun hf => ?_⟩
  unfold isI64 at hf
  split at hf
  · rename_i hu
    simp only [Cell.okWide, hu] at h
    cases v <;> simp_all [Cell.ok]
  · cases hf

theorem row_ok {P : Program} {w : World} {r : Reach} {base : Nat} {t : TypeId} {cs : List Value} (hs : cs.length = P.cellsOf t) (h : Row.okWide P w r base t ⟨cs⟩) :
    cellsOk ((List.range (P.cellsOf t)).map fun i => match P.cellTypes P.depth t with
    | some ts => match ts[i % ts.length]? with
      | some u => isI64 P u
      | none => false
    | none => false) cs := by
  obtain ⟨ts, hts, _, hc⟩ := h
  refine .of (by simp [hs]) fun i f x hf hx => ?_
  have hi := (List.getElem?_eq_some_iff.1 hx).1
  obtain ⟨u, hu, hok⟩ := hc i x (by simpa using hx)
  rw [hs] at hi
  simp only [List.getElem?_map, List.getElem?_range hi, Option.map_some, Option.some.injEq, hts, hu] at hf
  subst hf
  exact isI64_cell hok

theorem value_shape {P : Program} {w : World} {r : Reach} {base : Nat} {t : TypeId} {v : Value} (h : Value.okWide P w r base t v) :
    (∃ cs, v = .agg ⟨cs⟩ ∧ (shapeT P t).1 = true ∧ cellsOk (shapeT P t).2 cs ∧ Row.okWide P w r base t ⟨cs⟩) ∨ ((shapeT P t).1 = false ∧ cellsOk (shapeT P t).2 [v] ∧ v.oneCell' = true ∧ Cell.okWide P w r base t v) := by
  unfold Value.okWide at h
  unfold shapeT
  split at h
  · rename_i fs hu
    obtain ⟨⟨cs⟩, rfl, hs, hr⟩ := h
    refine .inl ⟨cs, rfl, by rw [hu], ?_, hr⟩
    rw [hu]; exact row_ok hs hr
  · rename_i n e hu
    obtain ⟨⟨cs⟩, rfl, hs, hr⟩ := h
    refine .inl ⟨cs, rfl, by rw [hu], ?_, hr⟩
    rw [hu]; exact row_ok hs hr
  · rename_i h1 h2
    have e : (match P.underlying t with
      | some (.struct _) | some (.array _ _) => (true, (List.range (P.cellsOf t)).map fun i => match P.cellTypes P.depth t with
        | some ts => match ts[i % ts.length]? with
          | some u => isI64 P u
          | none => false
        | none => false)
      | _ => (false, [isI64 P t])) = (false, [isI64 P t]) := by
      split
      · rename_i fs hu; exact absurd hu (h1 fs)
      · rename_i n e hu; exact absurd hu (h2 n e)
      · rfl
    rw [e]
    exact .inr ⟨rfl, ⟨isI64_cell h, trivial⟩, cell_one h, h⟩

def asInt : Value → Value
  | .int .i64 n => .int .i64 n
  | _ => .int .i64 0
/-- Cells, as the unknown ones: each under its number; a whole number of 64 bits under another one, too. -/
abbrev envOf (cs : List Value) (h : ∀ x ∈ cs, x.oneCell' = true) (l : List (Nat × Nat × Value) := []) : Env := ⟨fun i => if i < anyInts then cs.getD i (.bool true) else asInt (cs.getD (i - anyInts) (.bool true)), fun i => by
  by_cases hi : i < anyInts
  · rw [if_pos hi, List.getD_eq_getElem?_getD]
    cases hi : cs[i]? with
    | none => rfl
    | some x => exact h x (List.mem_of_getElem? hi)
  · rw [if_neg hi]
    unfold asInt
    split <;> rfl, fun i hi => by
  rw [if_neg (Nat.not_lt.2 hi)]
  unfold asInt
  split
  · exact ⟨_, rfl⟩
  · exact ⟨0, rfl⟩, l⟩

noncomputable def anyAt (k : Nat) : Bool → V
  | true => .any (Nat.add anyInts k)
  | false => .any k
noncomputable def anys : Nat → List Bool → List V
  | _, [] => []
  | k, f :: fs => anyAt k f :: anys (Nat.add k 1) fs
noncomputable def anyArgs : List (Bool × List Bool) → Nat → List V
  | [], _ => []
  | (true, fs) :: l, k => .agg (anys k fs) :: anyArgs l (Nat.add k (len fs))
  | (false, fs) :: l, k => app (anys k fs) (anyArgs l (Nat.add k (len fs)))
def cellsAll : List Value → List Value
  | [] => []
  | v :: l => v.cells.toList ++ cellsAll l

theorem anyAt_rel {ρ : Ren} {all : List Value} (h : ∀ x ∈ all, x.oneCell' = true) (hs : all.length ≤ anyInts) {k : Nat} {x : Value} (hx : all[k]? = some x) {f : Bool} (hf : flagOk f x) : @VRel (envOf all h) ρ (anyAt k f) x := by
  letI := envOf all h
  have hk := (List.getElem?_eq_some_iff.1 hx).1
  cases f with
  | false =>
    have e : x = Env.val k := by
      show x = if k < anyInts then all.getD k (.bool true) else _
      rw [if_pos (Nat.lt_of_lt_of_le hk hs), List.getD_eq_getElem?_getD, hx]; rfl
    rw [e]; exact .any k
  | true =>
    obtain ⟨n, hn⟩ := hf.2 rfl
    have e : x = Env.val (anyInts + k) := by
      show x = if anyInts + k < anyInts then _ else asInt (all.getD (anyInts + k - anyInts) (.bool true))
      rw [if_neg (by omega), show anyInts + k - anyInts = k by omega, List.getD_eq_getElem?_getD, hx, hn]; rfl
    rw [e]; exact .any (anyInts + k)

theorem anys_rel {ρ : Ren} {all : List Value} (h : ∀ x ∈ all, x.oneCell' = true) (hs : all.length ≤ anyInts) : ∀ {fs : List Bool} {cs : List Value} {k : Nat}, cellsOk fs cs → (∀ i x, cs[i]? = some x → all[k + i]? = some x) → @VsRel (envOf all h) ρ (anys k fs) cs
  | [], [], _, _, _ => @VsRel.nil (envOf all h) ρ
  | f :: fs, x :: xs, k, hc, hk => @VsRel.cons (envOf all h) ρ _ _ _ _ (anyAt_rel h hs (hk 0 x rfl) hc.1) (anys_rel h hs (k := k + 1) hc.2 fun i y hy => by rw [← hk (i + 1) y (by simpa using hy)]; congr 1; omega)

/-- Values of types, one by one. -/
inductive Typed (P : Program) (w : World) (r : Reach) (base : Nat) : List TypeId → List Value → Prop
  | nil : Typed P w r base [] []
  | cons {t : TypeId} {v : Value} {ts : List TypeId} {vs : List Value} (h : Value.okWide P w r base t v) (hl : Typed P w r base ts vs) : Typed P w r base (t :: ts) (v :: vs)
theorem Typed.of {P : Program} {w : World} {r : Reach} {base : Nat} : ∀ {ts : List TypeId} {vs : List Value}, vs.length = ts.length → (∀ (j : Nat) t v, ts[j]? = some t → vs[j]? = some v → Value.okWide P w r base t v) → Typed P w r base ts vs
  | [], [], _, _ => .nil
  | t :: ts, v :: vs, hl, h => .cons (h 0 t v rfl rfl) (Typed.of (by simpa using hl) fun j t v ht hv => h (j + 1) t v (by simpa using ht) (by simpa using hv))

theorem one_cells {v : Value} (hv : v.oneCell' = true) : v.cells.toList = [v] := by
  cases v <;> first | rfl | cases hv

theorem Typed.one {P : Program} {w : World} {r : Reach} {base : Nat} {ts : List TypeId} {vs : List Value} (h : Typed P w r base ts vs) : ∀ x ∈ cellsAll vs, x.oneCell' = true := by
  induction h with
  | nil => intro x hx; simp [cellsAll] at hx
  | @cons t v ts vs h hl ih =>
    intro x hx
    rcases (List.mem_append (s := v.cells.toList) (t := cellsAll vs)).1 hx with hx | hx
    · rcases value_shape h with ⟨cs, rfl, _, hc, _⟩ | ⟨_, _, hv, _⟩
      · exact hc.one x hx
      · rw [one_cells hv] at hx
        rw [List.mem_singleton.1 hx]; exact hv
    · exact ih x hx

def widths (P : Program) : List TypeId → Nat
  | [] => 0
  | t :: ts => (shapeT P t).2.length + widths P ts
theorem Typed.width {P : Program} {w : World} {r : Reach} {base : Nat} {ts : List TypeId} {vs : List Value} (h : Typed P w r base ts vs) : (cellsAll vs).length = widths P ts := by
  induction h with
  | nil => rfl
  | @cons t v ts vs h hl ih =>
    show (v.cells.toList ++ cellsAll vs).length = (shapeT P t).2.length + widths P ts
    rw [List.length_append, ih]
    rcases value_shape h with ⟨cs, rfl, _, hc, _⟩ | ⟨_, hc, hv, _⟩
    · rw [← hc.length]; rfl
    · rw [← hc.length, one_cells hv]

theorem Typed.anys {P : Program} {w : World} {r : Reach} {base : Nat} {ρ : Ren} {ts : List TypeId} {vs : List Value} (h : Typed P w r base ts vs) {all : List Value} (ha : ∀ x ∈ all, x.oneCell' = true) (hs : all.length ≤ anyInts) {k : Nat}
    (hk : ∀ i x, (cellsAll vs)[i]? = some x → all[k + i]? = some x) : @VsRel (envOf all ha) ρ (anyArgs (ts.map (shapeT P)) k) vs := by
  letI := envOf all ha
  induction h generalizing k with
  | nil => exact .nil
  | @cons t v ts vs h hl ih =>
    rw [List.map_cons]
    rcases value_shape h with ⟨cs, rfl, h1, hc, _⟩ | ⟨h1, hc, hv, _⟩
    · generalize shapeT P t = q at h1 hc
      obtain ⟨q1, fs⟩ := q
      dsimp only at h1 hc
      subst h1
      have hlen := hc.length
      refine .cons (.agg (anys_rel ha hs hc fun i x hx => hk i x ?_)) (ih fun i x hx => ?_)
      · have hi := (List.getElem?_eq_some_iff.1 hx).1
        show (cs ++ cellsAll vs)[i]? = _
        rw [List.getElem?_append_left hi]; exact hx
      · rw [← hk (fs.length + i) x ?_]
        · congr 1
          show k + len fs + i = _
          rw [len_eq]; omega
        · show (cs ++ cellsAll vs)[fs.length + i]? = _
          rw [List.getElem?_append_right (by omega), ← hx]
          congr 1; omega
    · generalize shapeT P t = q at h1 hc
      obtain ⟨q1, fs⟩ := q
      dsimp only at h1 hc
      subst h1
      have hlen := hc.length
      have hone : fs.length = 1 := by simpa using hlen.symm
      have e := one_cells hv
      show VsRel ρ (app (Ev.anys k fs) (anyArgs (ts.map (shapeT P)) (Nat.add k (len fs)))) (v :: vs)
      rw [app_eq]
      refine VsRel.append (a' := [v]) (anys_rel ha hs hc fun i x hx => hk i x ?_) (ih fun i x hx => ?_)
      · have hi := (List.getElem?_eq_some_iff.1 hx).1
        show (v.cells.toList ++ cellsAll vs)[i]? = _
        rw [e, List.getElem?_append_left hi]; exact hx
      · rw [← hk (i + 1) x ?_]
        · congr 1
          show k + len fs + i = _
          rw [len_eq]; omega
        · show (v.cells.toList ++ cellsAll vs)[i + 1]? = _
          rw [e]; simpa using hx

theorem trodAll_len {H : Type} {enc : TypeId × Value → H} {P : Program} {W : World} {base : Nat} {sp : Nat → Bool} {held : Bool} : ∀ {ts : List TypeId} {vs : List Value} {ds : List (DataW H)} {ps : List MemPlace},
    DataW.TrodAll enc P W base sp held ts vs ds ps → vs.length = ts.length
  | [], [], [], _, _ => rfl
  | t :: ts, v :: vs, d :: ds, ps, h => by
    obtain ⟨p, q, _, h1, _⟩ := h
    simpa using trodAll_len h1

theorem trodAll_below {H : Type} {enc : TypeId × Value → H} {P : Program} (hl : laidOutB P = true) {W W' : World} (hb : Below W.heap.size W W') : ∀ {ts : List TypeId} {vs : List Value} {ds : List (DataW H)} {ps : List MemPlace},
    (∀ t ∈ ts, P.readableRec t = true ∧ t < P.types.size) → DataW.TrodAll enc P W 0 (fun _ => true) true ts vs ds ps → (∀ x ∈ ps, x.block < W.heap.size) → DataW.TrodAll enc P W' 0 (fun b => decide (b < W.heap.size)) true ts vs ds ps
  | [], [], [], _, _, h, _ => h
  | t :: ts, v :: vs, d :: ds, ps, ht, h, hlt => by
    obtain ⟨p, q, h0, h1, rfl⟩ := h
    refine ⟨p, q, Below.trod hl (ht t (by simp)).1 (ht t (by simp)).2 h0 hb fun x hx => hlt x (by simp [hx]), trodAll_below hl hb (fun t h => ht t (by simp [h])) h1 fun x hx => hlt x (by simp [hx]), rfl⟩

/-! Where the kernel reckons what comes out: the state behind is named, not written out. -/
noncomputable def VS.st : VS → St
  | .ok x => x.2
  | _ => start
noncomputable def VS.v : VS → V
  | .ok x => x.1
  | _ => undefV
noncomputable def Run.st : Run → St
  | .ok x => x.2
  | _ => start
theorem OkP.red {r : VS} {k : VPost} (v : V) (h : r = .ok (v, VS.st r)) (hk : k v (VS.st r)) : OkP r k := .mk' h hk
theorem OkP.redv {r : VS} {k : VPost} (h : r = .ok (VS.v r, VS.st r)) (hk : k (VS.v r) (VS.st r)) : OkP r k := .mk' h hk
noncomputable def Run.v : Run → V
  | .ok (.val v, _) => v
  | _ => undefV
noncomputable def seqL : Code → Code
  | .seq x _ => x
  | _ => .skip
noncomputable def seqR : Code → Code
  | .seq _ x => x
  | _ => .skip

end Go.Ev
