/- A law's arguments, for the evaluator: cells of which nothing is known. -/
import Derived.Test.YtkaknfocnecckaaEvUse
import Derived.ProofKit
import Derived.Carry
import Derived.WideShapes
namespace Go.Ev
open Go Go.RowKit

theorem cell_one {P : Program} {w : World} {r : Reach} {base : Nat} {t : TypeId} {v : Value} (h : Cell.okWide P w r base t v) : v.oneCell' = true := by
  unfold Cell.okWide at h
  split at h <;> first
    | rfl
    | (unfold Cell.ok at h; split at h <;> first | rfl | exact h.elim)

/-- How many cells a struct or an array has; none: one value. -/
def shapeT (P : Program) (t : TypeId) : Option Nat :=
  match P.underlying t with
  | some (.struct _) | some (.array _ _) => some (P.cellsOf t)
  | _ => none

theorem value_shape {P : Program} {w : World} {r : Reach} {base : Nat} {t : TypeId} {v : Value} (h : Value.okWide P w r base t v) :
    (∃ n cs, shapeT P t = some n ∧ v = .agg ⟨cs⟩ ∧ cs.length = n ∧ (∀ x ∈ cs, x.oneCell' = true) ∧ Row.okWide P w r base t ⟨cs⟩) ∨ (shapeT P t = none ∧ v.oneCell' = true ∧ Cell.okWide P w r base t v) := by
  unfold Value.okWide at h
  unfold shapeT
  split at h
  · rename_i fs hu
    obtain ⟨⟨cs⟩, rfl, hs, hr⟩ := h
    refine .inl ⟨P.cellsOf t, cs, by rw [hu], rfl, hs, fun x hx => ?_, hr⟩
    obtain ⟨ts, _, _, hc⟩ := hr
    obtain ⟨i, hi, rfl⟩ := List.getElem_of_mem hx
    obtain ⟨u, _, hu⟩ := hc i cs[i] (by simp [hi])
    exact cell_one hu
  · rename_i n e hu
    obtain ⟨⟨cs⟩, rfl, hs, hr⟩ := h
    refine .inl ⟨P.cellsOf t, cs, by rw [hu], rfl, hs, fun x hx => ?_, hr⟩
    obtain ⟨ts, _, _, hc⟩ := hr
    obtain ⟨i, hi, rfl⟩ := List.getElem_of_mem hx
    obtain ⟨u, _, hu⟩ := hc i cs[i] (by simp [hi])
    exact cell_one hu
  · rename_i h1 h2
    refine .inr ⟨?_, cell_one h, h⟩
    split
    · rename_i fs hu; exact absurd hu (h1 fs)
    · rename_i n e hu; exact absurd hu (h2 n e)
    · rfl

theorem value_agg {P : Program} {w : World} {r : Reach} {base : Nat} {t : TypeId} {v : Value} {n : Nat} (h : Value.okWide P w r base t v) (hs : shapeT P t = some n) :
    ∃ cs, v = .agg ⟨cs⟩ ∧ cs.length = n ∧ (∀ x ∈ cs, x.oneCell' = true) ∧ Row.okWide P w r base t ⟨cs⟩ := by
  rcases value_shape h with ⟨m, cs, hm, h1, h2, h3, h4⟩ | ⟨hm, _⟩
  · rw [hs] at hm; cases hm; exact ⟨cs, h1, h2, h3, h4⟩
  · rw [hs] at hm; cases hm

/-- Cells, as the opaque ones. -/
abbrev envOf (cs : List Value) (h : ∀ x ∈ cs, x.oneCell' = true) : Env := ⟨fun i => cs.getD i (.bool true), fun i => by
  rw [List.getD_eq_getElem?_getD]
  cases hi : cs[i]? with
  | none => rfl
  | some x => exact h x (List.mem_of_getElem? hi)⟩

def anys (k n : Nat) : List V := (List.range n).map fun i => .any (k + i)
noncomputable def anyArgs : List (Option Nat) → Nat → List V
  | [], _ => []
  | none :: l, k => .any k :: anyArgs l (k + 1)
  | some n :: l, k => .agg (anys k n) :: anyArgs l (k + n)
def cellsAll : List Value → List Value
  | [] => []
  | v :: l => v.cells.toList ++ cellsAll l

theorem val_get {all : List Value} {h : ∀ x ∈ all, x.oneCell' = true} {i : Nat} {x : Value} (hx : all[i]? = some x) : x = (envOf all h).val i := by
  show x = all.getD i (.bool true)
  rw [List.getD_eq_getElem?_getD, hx]; rfl

theorem anys_rel {ρ : Ren} {all : List Value} (h : ∀ x ∈ all, x.oneCell' = true) {cs : List Value} {k n : Nat} (hn : cs.length = n) (hk : ∀ i x, cs[i]? = some x → all[k + i]? = some x) : @VsRel (envOf all h) ρ (anys k n) cs := by
  letI := envOf all h
  refine VsRel.of_get (by simp [anys, hn]) fun i v x hv hx => ?_
  have hi : i < n := by
    have := (List.getElem?_eq_some_iff.1 hx).1
    omega
  have e1 : v = .any (k + i) := by simpa [anys, hi] using hv.symm
  have e2 : x = Env.val (k + i) := val_get (hk i x hx)
  rw [e1, e2]
  exact .any _

/-- Values of types, one by one. -/
inductive Typed (P : Program) (w : World) (r : Reach) (base : Nat) : List TypeId → List Value → Prop
  | nil : Typed P w r base [] []
  | cons {t : TypeId} {v : Value} {ts : List TypeId} {vs : List Value} (h : Value.okWide P w r base t v) (hl : Typed P w r base ts vs) : Typed P w r base (t :: ts) (v :: vs)
theorem Typed.of {P : Program} {w : World} {r : Reach} {base : Nat} : ∀ {ts : List TypeId} {vs : List Value}, vs.length = ts.length → (∀ (j : Nat) t v, ts[j]? = some t → vs[j]? = some v → Value.okWide P w r base t v) → Typed P w r base ts vs
  | [], [], _, _ => .nil
  | t :: ts, v :: vs, hl, h => .cons (h 0 t v rfl rfl) (Typed.of (by simpa using hl) fun j t v ht hv => h (j + 1) t v (by simpa using ht) (by simpa using hv))

theorem Typed.one {P : Program} {w : World} {r : Reach} {base : Nat} {ts : List TypeId} {vs : List Value} (h : Typed P w r base ts vs) : ∀ x ∈ cellsAll vs, x.oneCell' = true := by
  induction h with
  | nil => intro x hx; simp [cellsAll] at hx
  | @cons t v ts vs h hl ih =>
    intro x hx
    rcases (List.mem_append (s := v.cells.toList) (t := cellsAll vs)).1 hx with hx | hx
    · rcases value_shape h with ⟨n, cs, _, rfl, _, hc, _⟩ | ⟨_, hv, _⟩
      · exact hc x hx
      · cases v <;> first
          | (cases hv; done)
          | (have e := List.mem_singleton.1 hx; rw [e]; rfl)
    · exact ih x hx

theorem Typed.anys {P : Program} {w : World} {r : Reach} {base : Nat} {ρ : Ren} {ts : List TypeId} {vs : List Value} (h : Typed P w r base ts vs) {all : List Value} (ha : ∀ x ∈ all, x.oneCell' = true) {k : Nat}
    (hk : ∀ i x, (cellsAll vs)[i]? = some x → all[k + i]? = some x) : @VsRel (envOf all ha) ρ (anyArgs (ts.map (shapeT P)) k) vs := by
  letI := envOf all ha
  induction h generalizing k with
  | nil => exact .nil
  | @cons t v ts vs h hl ih =>
    rcases value_shape h with ⟨n, cs, hs, rfl, hn, hc, _⟩ | ⟨hs, hv, _⟩
    · rw [List.map_cons, hs]
      refine .cons (.agg (anys_rel ha hn fun i x hx => hk i x ?_)) (ih fun i x hx => ?_)
      · have hi := (List.getElem?_eq_some_iff.1 hx).1
        show (cs ++ cellsAll vs)[i]? = _
        rw [List.getElem?_append_left hi]; exact hx
      · rw [← hk (n + i) x ?_]
        · congr 1; omega
        · show (cs ++ cellsAll vs)[n + i]? = _
          rw [List.getElem?_append_right (by omega), ← hx]
          congr 1; omega
    · rw [List.map_cons, hs]
      have e : v.cells.toList = [v] := by
        cases v <;> first | rfl | cases hv
      have h0 : all[k]? = some v := hk 0 v (by show (v.cells.toList ++ cellsAll vs)[0]? = _; rw [e]; rfl)
      refine .cons ?_ (ih fun i x hx => ?_)
      · rw [val_get (h := ha) h0]; exact .any k
      · rw [← hk (i + 1) x ?_]
        · congr 1; omega
        · show (v.cells.toList ++ cellsAll vs)[i + 1]? = _
          rw [e]; simpa using hx

theorem trodAll_len {H : Type} {enc : TypeId × Value → H} {P : Program} {W : World} {base : Nat} {sp : Nat → Bool} {held : Bool} : ∀ {ts : List TypeId} {vs : List Value} {ds : List (DataW H)} {ps : List MemPlace},
    DataW.TrodAll enc P W base sp held ts vs ds ps → vs.length = ts.length
  | [], [], [], _, _ => rfl
  | t :: ts, v :: vs, d :: ds, ps, h => by
    obtain ⟨p, q, _, h1, _⟩ := h
    simpa using trodAll_len h1

theorem trodAll_below {H : Type} {enc : TypeId × Value → H} {P : Program} (hl : laidOutB P = true) {W W' : World} (hb : Below W.heap.size W W') : ∀ {ts : List TypeId} {vs : List Value} {ds : List (DataW H)} {ps : List MemPlace},
    (∀ t ∈ ts, P.readableRec t = true ∧ t < P.types.size) → DataW.TrodAll enc P W 0 (fun _ => true) true ts vs ds ps → (∀ x ∈ ps, x.block < W.heap.size) → DataW.TrodAll enc P W' 0 (fun b => decide (b < W.heap.size)) true ts vs ds ps
  | [], [], [], _, _, h, _ => h
  | t :: ts, v :: vs, d :: ds, ps, ht, h, hlt => by
    obtain ⟨p, q, h0, h1, rfl⟩ := h
    refine ⟨p, q, Below.trod hl (ht t (by simp)).1 (ht t (by simp)).2 h0 hb fun x hx => hlt x (by simp [hx]), trodAll_below hl hb (fun t h => ht t (by simp [h])) h1 fun x hx => hlt x (by simp [hx]), rfl⟩

/-- A call with arguments of which nothing is known that the kernel reckons to be true. -/
theorem calls_anys {P : Program} (hmix : P.follows .mixedOrders = true) {f : FuncId} {ts : List TypeId} {vs : List Value} {w : World} {r : Reach} {base : Nat} (ht : Typed P w r base ts vs)
    (h : CallW P f (anyArgs (ts.map (shapeT P)) 0) (fun v _ => v = .bool true) start) : Calls P f ⟨vs⟩ w fun e w' => e = .returned (.bool true) ∧ Below w.heap.size w w' :=
  @calls_true (envOf (cellsAll vs) ht.one) P hmix f _ vs start nowhere w (@start_rel (envOf (cellsAll vs) ht.one) w) (ht.anys ht.one fun i x hx => by rw [Nat.zero_add]; exact hx) (fun b => Trie.get_leaf b) h

def saysTrueV (v : V) (_ : St) : Bool := match v with
  | .bool b => b
  | _ => false
theorem saysTrueV_eq {v : V} {σ : St} (h : saysTrueV v σ = true) : v = .bool true := by
  cases v with
  | bool b => cases b with
    | true => rfl
    | false => cases h
  | _ => cases h
theorem CallW.of_true {P : Program} {f : FuncId} {vs : List V} {σ : St} (n : Nat) (h : (run P n (.call f vs) σ).check (checkV saysTrueV) = true) : CallW P f vs (fun v _ => v = .bool true) σ :=
  (CallW.of_check n saysTrueV h).mono fun _ _ hv => saysTrueV_eq hv

noncomputable def retTrue (P : Program) (fn : Func) (e : Ex) (a : Act) (σ : St) : Bool := match e, a.defers with
  | .ret, [] => match resultsV P a σ fn.results.toList with
    | some [.bool b] => b
    | _ => false
  | _, _ => false
theorem retTrue_ret {P : Program} {fn : Func} {e : Ex} {a : Act} {σ : St} (h : retTrue P fn e a σ = true) : retQ P fn (fun v _ => v = .bool true) e a σ := by
  unfold retTrue at h
  split at h
  · rename_i hd
    unfold retQ
    dsimp only
    rw [hd]
    dsimp only
    split at h
    · rename_i b hr
      rw [hr]
      show V.bool b = .bool true
      rw [h]
    · cases h
  · cases h
/-- The rest of a body, reckoned: it returns true. -/
theorem CodeW.of_true {P : Program} {fn : FuncId} {g : Func} {c : Code} {a : Act} {σ : St} (n : Nat) (h : ((codeC P fn c).f (run P n) none a σ).check (checkE (retTrue P g)) = true) : CodeW P fn none c (retQ P g fun v _ => v = .bool true) a σ :=
  (CodeW.of_check n (retTrue P g) h).mono fun _ _ _ hx => retTrue_ret hx

noncomputable def seqL : Code → Code
  | .seq x _ => x
  | _ => .skip
noncomputable def seqR : Code → Code
  | .seq _ x => x
  | _ => .skip

end Go.Ev
