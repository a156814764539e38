/- What never turns from some moment on: rows that are told as slices without blocks; a call that leaves memory as it was. -/
import Derived.Test.YtbajncpfmemdgaaGreatDoorEvSem
namespace Go.Ev
open Go

/-! ### A value, its rows told as slices that never turn -/
/-- It hangs on no block. -/
def Clean [Env] (v : V) : Prop := ∀ (ρ ρ' : Ren) (x : Value), (∀ c o y, ρ.imm c o = some y → ρ'.imm c o = some y) → VRel ρ v x → VRel ρ' v x
mutual
inductive Frz [Env] (σ : St) : V → V → Prop
  | clean {v : V} (h : Clean v) : Frz σ v v
  | toArr {v : V} {n : Nat} {g : Nat → V} {esz : Nat} {ex : Bool} (h : Frz σ v (.lst (arrL n g) esz ex)) : Frz σ v (.arr n g esz ex false)
  | arr {n : Nat} {f g : Nat → V} {esz : Nat} {ex ex' nn nn' : Bool} (h : ∀ i, i < n → FrzL σ (f i).cells (g i).cells) (hu : ∀ i, i < n → (g i).cells.length = esz) (he : ex' = true → ex = true) (hn : nn' = true → nn = true) : Frz σ (.arr n f esz ex nn) (.arr n g esz ex' nn')
  | own {b n esz : Nat} {f g : Nat → V} {p nn : Bool} (hb : σ.heap.get b = some (.row n f esz p)) (h : ∀ i, i < n → FrzL σ (f i).cells (g i).cells) (hu : ∀ i, i < n → (g i).cells.length = esz) : Frz σ (.own b n esz) (.arr n g esz false nn)
  | int (k : IntKind) (n : Int) : Frz σ (.int k n) (.int k n)
  | bool (b : Bool) : Frz σ (.bool b) (.bool b)
  | str (s : List UInt8) : Frz σ (.str s) (.str s)
  | flt (k : FloatKind) (b : Nat) : Frz σ (.flt k b) (.flt k b)
  | any (i : Nat) : Frz σ (.any i) (.any i)
  | nilptr : Frz σ .nilptr .nilptr
  | nilmap : Frz σ .nilmap .nilmap
  | nilfunc : Frz σ .nilfunc .nilfunc
  | niliface : Frz σ .niliface .niliface
  | nilslice : Frz σ .nilslice .nilslice
  | empty (esz : Nat) (ex : Bool) : Frz σ .nilslice (.lst [] esz ex)
  | lst {es us : List V} {esz : Nat} {ex ex' : Bool} (h : FrzL σ (flatCells es) (flatCells us)) (hu : ∀ v ∈ us, v.cells.length = esz) (hn : us.length = es.length) (he : ex' = true → ex = true) : Frz σ (.lst es esz ex) (.lst us esz ex')
  | eptr {cs ds : List V} {o : Nat} (h : FrzL σ cs ds) : Frz σ (.eptr cs o) (.eptr ds o)
  | ptrE {b off n : Nat} {cs ds : List V} (hc : σ.cells b 0 n = some cs) (h : FrzL σ cs ds) : Frz σ (.ptr b off) (.eptr ds off)
  | func {g : FuncId} {x y x' y' : List V} (hx : FrzL σ x x') (hy : FrzL σ y y') : Frz σ (.func (.func g) x y) (.func (.func g) x' y')
  | slice {b off n cap esz : Nat} {ex : Bool} {cs es : List V} (hc : σ.cells b off (n * esz) = some cs) (hf : FrzL σ cs (flatCells es)) (hu : ∀ v ∈ es, v.cells.length = esz) (hn : es.length = n) : Frz σ (.slice b off n cap ex esz) (.lst es esz false)
  | agg {x y : List V} (h : FrzL σ x y) : Frz σ (.agg x) (.agg y)
  | tuple {x y : List V} (h : FrzL σ x y) : Frz σ (.tuple x) (.tuple y)
  | iface {t : TypeId} {x y : V} (h : Frz σ x y) : Frz σ (.iface t x) (.iface t y)
inductive FrzL [Env] (σ : St) : List V → List V → Prop
  | nil : FrzL σ [] []
  | cons {v u : V} {x y : List V} (h : Frz σ v u) (hl : FrzL σ x y) : FrzL σ (v :: x) (u :: y)
end

theorem FrzL.append [Env] {σ : St} : ∀ {a b c d : List V}, FrzL σ a b → FrzL σ c d → FrzL σ (a ++ c) (b ++ d)
  | [], [], _, _, .nil, h => h
  | _ :: _, _ :: _, _, _, .cons h hl, k => .cons h (hl.append k)

theorem FrzL.clean [Env] {σ : St} : ∀ {cs : List V}, (∀ v ∈ cs, Clean v) → FrzL σ cs cs
  | [], _ => .nil
  | v :: _, h => .cons (.clean (h v List.mem_cons_self)) (FrzL.clean fun u hu => h u (List.mem_cons_of_mem _ hu))
section
variable [Env]
theorem VsRel.clean {ρ ρ' : Ren} (hi : ∀ c o y, ρ.imm c o = some y → ρ'.imm c o = some y) : ∀ {cs : List V} {xs : List Value}, (∀ v ∈ cs, Clean v) → VsRel ρ cs xs → VsRel ρ' cs xs
  | [], _, _, .nil => .nil
  | v :: _, _, h, .cons hx hl => .cons (h v List.mem_cons_self _ _ _ hi hx) (VsRel.clean hi (fun u hu => h u (List.mem_cons_of_mem _ hu)) hl)
theorem Clean.int (k : IntKind) (n : Int) : Clean (.int k n) := fun _ _ _ _ h => by cases h; exact .int k n
theorem Clean.bool (b : Bool) : Clean (.bool b) := fun _ _ _ _ h => by cases h; exact .bool b
theorem Clean.str (s : List UInt8) : Clean (.str s) := fun _ _ _ _ h => by cases h; exact .str s
theorem Clean.niliface : Clean .niliface := fun _ _ _ _ h => by cases h; exact .niliface
theorem Clean.nilslice : Clean .nilslice := fun _ _ _ _ h => by cases h; exact .nilslice
theorem Clean.nilptr : Clean .nilptr := fun _ _ _ _ h => by cases h; exact .nilptr
theorem Clean.nilfunc : Clean .nilfunc := fun _ _ _ _ h => by cases h; exact .nilfunc
theorem Clean.flt (k : FloatKind) (b : Nat) : Clean (.flt k b) := fun _ _ _ _ h => by cases h; exact .flt k b
theorem Clean.iface {t : TypeId} {v : V} (hv : Clean v) : Clean (.iface t v) := fun _ _ _ hi h => by cases h with | iface h => exact .iface (hv _ _ _ hi h)
theorem Clean.agg {cs : List V} (hc : ∀ v ∈ cs, Clean v) : Clean (.agg cs) := fun _ _ _ hi h => by cases h with | agg h => exact .agg (h.clean hi hc)
theorem Clean.tuple {cs : List V} (hc : ∀ v ∈ cs, Clean v) : Clean (.tuple cs) := fun _ _ _ hi h => by cases h with | tuple h => exact .tuple (h.clean hi hc)
theorem Clean.func (f : FuncId) : Clean (.func (.func f) [] []) := fun _ _ _ _ h => by
  cases h with
  | func hf hx hy =>
    cases hx; cases hy
    cases hf with
    | same h => exact .func (.same h) .nil .nil
theorem Clean.fn {f : FuncId} {x y : List V} (hx : ∀ v ∈ x, Clean v) (hy : ∀ v ∈ y, Clean v) : Clean (.func (.func f) x y) := fun _ _ _ hi h => by
  cases h with
  | func hf h1 h2 =>
    cases hf with
    | same h => exact .func (.same h) (h1.clean hi hx) (h2.clean hi hy)
theorem Clean.eptr {cs : List V} {o : Nat} (hc : ∀ v ∈ cs, Clean v) : Clean (.eptr cs o) := fun _ _ _ hi h => by
  cases h with
  | eptr hx hm => exact .eptr (hx.clean hi hc) fun k x h => hi _ _ _ (hm k x h)
theorem Clean.lst {es : List V} {esz : Nat} {ex : Bool} (hc : ∀ v ∈ es, ∀ u ∈ v.cells, Clean u) : Clean (.lst es esz ex) := fun _ _ _ hi h => by
  have hf : ∀ {l : List V}, (∀ v ∈ l, ∀ u ∈ v.cells, Clean u) → ∀ u ∈ flatCells l, Clean u := by
    intro l
    induction l with
    | nil => intro _ u hu; cases hu
    | cons v l ih =>
      intro hl u hu
      rw [flatCells_cons] at hu
      rcases List.mem_append.1 hu with hu | hu
      · exact hl v List.mem_cons_self u hu
      · exact ih (fun w hw => hl w (List.mem_cons_of_mem _ hw)) u hu
  cases h with
  | lst hu hx hm hc' he => exact .lst hu (hx.clean hi (hf hc)) (fun k x h => hi _ _ _ (hm k x h)) hc' he
  | lstnil => exact .lstnil
  | lstzero he => exact .lstzero he
theorem Clean.arr {n : Nat} {f : Nat → V} {esz : Nat} {ex nn : Bool} (hc : ∀ i, i < n → ∀ u ∈ (f i).cells, Clean u) : Clean (.arr n f esz ex nn) := fun _ _ _ hi h => by
  cases h with
  | arr hn h =>
    refine .arr hn (Clean.lst (fun v hv => ?_) _ _ _ hi h)
    obtain ⟨i, hi', rfl⟩ := List.getElem_of_mem hv
    rw [arrL_length] at hi'
    have := arrL_get (f := f) hi'
    rw [List.getElem?_eq_getElem (by rw [arrL_length]; exact hi')] at this
    rw [Option.some.inj this]; exact hc i hi'
theorem flat_arr {ρ ρ' : Ren} {n : Nat} {f g : Nat → V} (h : ∀ i, i < n → ∀ ys, VsRel ρ (f i).cells ys → VsRel ρ' (g i).cells ys) : ∀ {xs : List Value}, VsRel ρ (flatCells (arrL n f)) xs → VsRel ρ' (flatCells (arrL n g)) xs := by
  have key : ∀ (l : List Nat), (∀ i ∈ l, i < n) → ∀ {xs : List Value}, VsRel ρ (flatCells (l.map f)) xs → VsRel ρ' (flatCells (l.map g)) xs := by
    intro l
    induction l with
    | nil => intro _ xs hx; exact (by cases hx; exact .nil)
    | cons i l ih =>
      intro hl xs hx
      rw [List.map_cons, flatCells_cons] at hx ⊢
      have h1 := hx.take (f i).cells.length
      have h2 := hx.drop (f i).cells.length
      rw [List.take_left' rfl] at h1
      rw [List.drop_left' rfl] at h2
      have e : xs = xs.take (f i).cells.length ++ xs.drop (f i).cells.length := (List.take_append_drop _ _).symm
      rw [e]
      exact (h i (hl i List.mem_cons_self) _ h1).append (ih (fun j hj => hl j (List.mem_cons_of_mem _ hj)) h2)
  intro xs hx
  exact key (List.range n) (fun i hi => List.mem_range.1 hi) hx
theorem lst_frz {ρ ρ' : Ren} (hi : ∀ c o x, ρ.imm c o = some x → ρ'.imm c o = some x) {es us : List V} {esz : Nat} {ex ex' : Bool} {x : Value} (hx : VRel ρ (.lst es esz ex) x) (h : ∀ xs, VsRel ρ (flatCells es) xs → VsRel ρ' (flatCells us) xs) (hu : ∀ v ∈ us, v.cells.length = esz) (hn : us.length = es.length) (he : ex' = true → ex = true) : VRel ρ' (.lst us esz ex') x := by
  cases hx with
  | lst hu0 hx hm hc hex =>
    rename_i c off cap xs
    have key := VRel.lst (ρ := ρ') (c := c) (off := off) (cap := cap) (ex := ex') hu (h _ hx) (fun k x h => hi _ _ _ (hm k x h)) (by rw [hn]; exact hc) (fun h => (hex (he h)).trans hn.symm)
    rw [hn] at key; exact key
  | lstnil =>
    have : us = [] := List.eq_nil_of_length_eq_zero hn
    subst this
    exact .lstnil
  | lstzero hex =>
    have : us = [] := List.eq_nil_of_length_eq_zero hn
    subst this
    exact .lstzero fun h => hex (he h)
theorem row_cells {ρ : Ren} {w : World} {l : Loc} {n : Nat} {f : Nat → V} {esz : Nat} {p : Bool} (h : BlkOk ρ w l (.row n f esz p)) : ∃ xs : List Value, VsRel ρ (flatCells (arrL n f)) xs ∧ ∀ (k : Nat) x, xs[k]? = some x → w.cell? ⟨l.c, l.o + k, none⟩ = some x := by
  cases h with
  | row hs hn hu hv hf hp =>
    refine rel_list fun k v hk => ?_
    have hmem := arrL_cells hu
    have hlt : k < n * esz := by
      have := (List.getElem?_eq_some_iff.1 hk).1
      rw [flatCells_length hmem, arrL_length] at this; exact this
    have h0 : 0 < esz := by
      rcases Nat.eq_zero_or_pos esz with h | h
      · subst h; simp at hlt
      · exact h
    have hi : k / esz < n := (Nat.div_lt_iff_lt_mul h0).2 hlt
    have hk' : k % esz < esz := Nat.mod_lt _ h0
    have e : k / esz * esz + k % esz = k := by rw [Nat.mul_comm]; exact Nat.div_add_mod k esz
    have hg := flatCells_get hmem (arrL_get (f := f) hi) hk'
    rw [e, hk] at hg
    obtain ⟨x, hx, hr⟩ := hv _ hi _ v hg.symm
    rw [e] at hx
    exact ⟨x, hx, hr⟩
end

theorem R.cellsAt [Env] {ρ : Ren} {σ : St} {w : World} (h : R ρ σ w) {b off k : Nat} {vs : List V} (hv : σ.cells b off k = some vs) {l : Loc} (hl : ρ b = some l) :
    ∃ xs : List Value, VsRel ρ vs xs ∧ xs.length = k ∧ ∀ i x, xs[i]? = some x → w.cell? ⟨l.c, l.o + off + i, none⟩ = some x := by
  unfold St.cells at hv
  split at hv
  · rename_i n z t p ro hb
    obtain ⟨hlen, hall⟩ := cellsOf_get _ _ hv
    have hc := (h.cells hb hl).2.2.1
    have key : ∀ (vs : List V) (o : Nat), (∀ i v, vs[i]? = some v → ∃ x, w.cell? ⟨l.c, o + i, none⟩ = some x ∧ VRel ρ v x) →
        ∃ xs : List Value, VsRel ρ vs xs ∧ ∀ i x, xs[i]? = some x → w.cell? ⟨l.c, o + i, none⟩ = some x := by
      intro vs
      induction vs with
      | nil => intro o _; exact ⟨[], .nil, fun i x hx => by simp at hx⟩
      | cons v vs ih =>
        intro o hh
        obtain ⟨x, hx, hr⟩ := hh 0 v rfl
        obtain ⟨xs, hxs, hall⟩ := ih (o + 1) (fun i v hv => by
          obtain ⟨x, hx, hr⟩ := hh (i + 1) v (by simpa using hv)
          exact ⟨x, by rwa [show o + (i + 1) = o + 1 + i by omega] at hx, hr⟩)
        refine ⟨x :: xs, .cons hr hxs, fun i y hy => ?_⟩
        cases i with
        | zero => simp at hy; subst hy; exact hx
        | succ i => have := hall i y (by simpa using hy); rwa [show o + 1 + i = o + (i + 1) by omega] at this
    obtain ⟨xs, hxs, hc'⟩ := key vs (l.o + off) (fun i v hi => by
      obtain ⟨x, hx, hr⟩ := hc _ _ (hall i v hi)
      exact ⟨x, by rwa [show l.o + (off + i) = l.o + off + i by omega] at hx, hr⟩)
    exact ⟨xs, hxs, by rw [← hxs.length, hlen], hc'⟩
  · cases hv

section
variable [Env] {ρ ρ' : Ren} {σ τ : St} {w : World}
mutual
theorem frz_rel (hr : R ρ τ w) (hi : ∀ c o x, ρ.imm c o = some x → ρ'.imm c o = some x) (hk : ∀ b k l, τ.heap.get b = some k → ρ b = some l → ∀ o x, w.cell? ⟨l.c, o, none⟩ = some x → ρ'.imm l.c o = some x) :
    ∀ {v u : V} {x : Value}, Frz τ v u → VRel ρ v x → VRel ρ' u x
  | _, _, _, .int k n, .int _ _ => .int k n
  | _, _, _, .bool b, .bool _ => .bool b
  | _, _, _, .str s, .str _ => .str s
  | _, _, _, .flt k b, .flt _ _ => .flt k b
  | _, _, _, .any i, .any _ => .any i
  | _, _, _, .nilptr, .nilptr => .nilptr
  | _, _, _, .nilmap, .nilmap => .nilmap
  | _, _, _, .nilfunc, .nilfunc => .nilfunc
  | _, _, _, .niliface, .niliface => .niliface
  | _, _, _, .nilslice, .nilslice => .nilslice
  | _, _, _, .empty _ _, .nilslice => .lstnil
  | _, _, _, .lst h hu hn he, .lst (c := c) (off := off) (cap := cap) hu0 hx hm hc hex => by
    have key := VRel.lst (ρ := ρ') (c := c) (off := off) (cap := cap) (ex := _) hu (frzL_rel hr hi hk h hx) (fun k x h => hi _ _ _ (hm k x h)) (by rw [hn]; exact hc) (fun h => (hex (he h)).trans hn.symm)
    rw [hn] at key; exact key
  | _, _, _, .lst h hu hn he, .lstnil => by
    have : _ = [] := List.eq_nil_of_length_eq_zero hn
    subst this
    exact .lstnil
  | _, _, _, .lst h hu hn he, .lstzero hex => by
    have : _ = [] := List.eq_nil_of_length_eq_zero hn
    subst this
    exact .lstzero fun h => hex (he h)
  | _, _, _, .clean h, hx => h _ _ _ hi hx
  | _, _, _, .toArr h, hx => .arr (fun h => by cases h) (frz_rel hr hi hk h hx)
  | _, _, _, .arr h hu he hn, .arr hnx hx => .arr (fun h => hnx (hn h)) (lst_frz hi hx (fun xs => flat_arr fun i hin ys hy => frzL_rel hr hi hk (h i hin) hy) (arrL_cells hu) (by rw [arrL_length, arrL_length]) he)
  | _, _, _, @Frz.own _ _ b n esz f g p nn hb h hu, .own (l := l) (cap := cap) hl hc hN => by
    obtain ⟨l', hl', hok⟩ := hr.blk b _ hb
    rw [hl] at hl'; cases hl'
    obtain ⟨xs, h1, h2⟩ := row_cells hok
    have key := VRel.lst (ρ := ρ') (c := l.c) (off := l.o) (cap := cap) (ex := false) (es := arrL n g) (arrL_cells hu) (flat_arr (fun i hin ys hy => frzL_rel hr hi hk (h i hin) hy) h1) (fun i x hx => hk b _ l hb hl _ _ (h2 i x hx)) (by rw [arrL_length]; exact hc) (fun h => by cases h)
    rw [arrL_length] at key
    exact .arr (fun _ => ⟨_, _, _, rfl⟩) key
  | _, _, _, .eptr h, .eptr hx hm => .eptr (frzL_rel hr hi hk h hx) fun k x h => hi _ _ _ (hm k x h)
  | _, _, _, @Frz.slice _ _ b off n cap esz ex cs es hc hf hu hn, .slice (l := l) (off' := off') (cap' := cap') hl hex hin hN hnc => by
    subst hn
    by_cases hz : off' = l.o + off
    · subst hz
      obtain ⟨xs, h1, h2, h3⟩ := hr.cellsAt hc hl
      obtain ⟨k, hb⟩ : ∃ k, τ.heap.get b = some k := by
        unfold St.cells at hc
        split at hc
        · rename_i hb; exact ⟨_, hb⟩
        · cases hc
      refine .lst hu (frzL_rel hr hi hk hf h1) (fun i x hx => hk b k l hb hl _ _ (h3 i x hx)) ?_ (fun h => by cases h)
      cases ex with
      | true => rw [(hex rfl).1]; exact hnc
      | false => exact Nat.le_trans hnc (hin rfl).1
    · have h0 : es = [] := by
        cases ex with
        | true => exact absurd (hex rfl).2 hz
        | false =>
          rcases (hin rfl).2 with h' | h'
          · exact absurd h' hz
          · exact List.eq_nil_of_length_eq_zero h'.1
      subst h0
      exact .lst (xs := []) (fun v hv => by cases hv) .nil (fun k x h => by simp at h) (Nat.zero_le _) (fun h => by cases h)
  | _, _, _, @Frz.ptrE _ _ b off n cs ds hc h, .ptr (l := l) hl => by
    obtain ⟨xs, h1, h2, h3⟩ := hr.cellsAt hc hl
    obtain ⟨k, hb⟩ : ∃ k, τ.heap.get b = some k := by
      unfold St.cells at hc
      split at hc
      · rename_i hb; exact ⟨_, hb⟩
      · cases hc
    exact .eptr (c := l.c) (o := l.o) (frzL_rel hr hi hk h h1) fun i x hx => hk b k l hb hl _ _ (h3 i x hx)
  | _, _, _, .func hx hy, .func hf hx' hy' => .func (by cases hf with
    | same h => exact .same h) (frzL_rel hr hi hk hx hx') (frzL_rel hr hi hk hy hy')
  | _, _, _, .agg h, .agg hx => .agg (frzL_rel hr hi hk h hx)
  | _, _, _, .tuple h, .tuple hx => .tuple (frzL_rel hr hi hk h hx)
  | _, _, _, .iface h, .iface hx => .iface (frz_rel hr hi hk h hx)
theorem frzL_rel (hr : R ρ τ w) (hi : ∀ c o x, ρ.imm c o = some x → ρ'.imm c o = some x) (hk : ∀ b k l, τ.heap.get b = some k → ρ b = some l → ∀ o x, w.cell? ⟨l.c, o, none⟩ = some x → ρ'.imm l.c o = some x) :
    ∀ {vs us : List V} {xs : List Value}, FrzL τ vs us → VsRel ρ vs xs → VsRel ρ' us xs
  | _, _, _, .nil, .nil => .nil
  | _, _, _, .cons h hl, .cons hx hxs => .cons (frz_rel hr hi hk h hx) (frzL_rel hr hi hk hl hxs)
end

/-- Memory of which nothing is known. -/
def void (n : Nat) : St := ⟨.leaf, n⟩
omit [Env] in
theorem void_get (n b : Nat) : (void n).heap.get b = none := Trie.get_leaf b
omit [Env] in
theorem void_wr {n c : Nat} : ¬ Wr ρ (void n) c := by
  rintro ⟨b, k, l, h, _⟩
  rw [void_get] at h; cases h
theorem R.void (h : R ρ σ w) : R ρ (Ev.void σ.next) w := h.sub (fun c k hc => by rw [void_get] at hc; cases hc) rfl

variable {P : Program}
/-- A call that looks at no memory but what never turns: its answer is told without blocks, and memory is as it was. -/
theorem CallS.froz {f : FuncId} {vs : List V} {Q : V → Prop} (h : CallS P f vs (fun v τ => ∃ u, Frz τ v u ∧ Q u) (Ev.void σ.next)) : CallS P f vs (fun v σ' => Q v ∧ σ' = σ) σ := by
  have h := h.h
  refine ⟨⟨?_, ?_⟩⟩
  · obtain ⟨⟨o, τ⟩, hx⟩ := h.1
    cases o with
    | val v => obtain ⟨u, _, hu⟩ := hx; exact ⟨(.val u, σ), hu, rfl⟩
    | exit e a => exact hx.elim
  · intro ρ w vs' hr hv
    obtain ⟨g1, g2⟩ := SemE.at h ρ w vs' hr.void hv
    refine ⟨g1, g2.mono fun e w' hx => ?_⟩
    obtain ⟨v, τ', ρ₁, v', ⟨u, hf, hq⟩, rfl, hvr, hst⟩ := hx
    let ρ₂ : Ren := ⟨ρ.at', fun c o => if c < w.heap.size then ρ.imm c o else w'.cell? ⟨c, o, none⟩⟩
    have hold : ∀ c, c < w.heap.size → w'.heap[c]? = w.heap[c]? := fun c hc => hst.keep c hc void_wr
    have hle : ρ.le ρ₂ := ⟨fun b l hb => hb, fun c o x hx => by
      show (if c < w.heap.size then ρ.imm c o else _) = some x
      rw [if_pos (lt_of_cell (hr.imm c o x hx).1)]; exact hx⟩
    have himm : ∀ c o x, ρ₁.imm c o = some x → ρ₂.imm c o = some x := by
      intro c o x hx
      show (if c < w.heap.size then ρ.imm c o else _) = some x
      by_cases hc : c < w.heap.size
      · rw [if_pos hc]
        rcases hst.idom c o x hx with h1 | h1 | h1
        · exact h1
        · omega
        · exact absurd h1 void_wr
      · rw [if_neg hc]; exact (hst.r.imm c o x hx).1
    have hnew : ∀ b k l, τ'.heap.get b = some k → ρ₁ b = some l → ∀ o x, w'.cell? ⟨l.c, o, none⟩ = some x → ρ₂.imm l.c o = some x := by
      intro b k l hb hl o x hx
      show (if l.c < w.heap.size then ρ.imm l.c o else _) = some x
      rw [if_neg fun hc => void_wr (hst.wr l.c hc ⟨b, k, l, hb, rfl, hl, rfl⟩)]
      exact hx
    refine ⟨u, σ, ρ₂, v', ⟨hq, rfl⟩, rfl, frz_rel hst.r himm hnew hf hvr, ⟨⟨fun b k hb => ?_, hr.inj, hr.fresh, fun b l hb => Nat.lt_of_lt_of_le (hr.valid b l hb) hst.size, fun c o x hx => ?_, hr.laid_le hle⟩, hle, Nat.le_refl _, fun b l hb => .inl hb, hst.size, hst.os, hst.tape, hst.output,
      fun c hc _ => hold c hc, fun c _ h => h, fun b k hb => .inl ⟨k, hb⟩, fun c o x hx => ?_⟩⟩
    · obtain ⟨l, hl, hk⟩ := hr.blk b k hb
      exact ⟨l, hl, hk.same hle (hold l.c (hr.valid b l hl))⟩
    · replace hx : (if c < w.heap.size then ρ.imm c o else w'.cell? ⟨c, o, none⟩) = some x := hx
      by_cases hc : c < w.heap.size
      · rw [if_pos hc] at hx
        obtain ⟨a1, a2⟩ := hr.imm c o x hx
        exact ⟨by rw [cell?_of_block (hold c hc)]; exact a1, a2⟩
      · rw [if_neg hc] at hx
        refine ⟨hx, ?_⟩
        rintro ⟨b, k, l, _, _, h3, h4⟩
        exact hc (by rw [← h4]; exact hr.valid b l h3)
    · replace hx : (if c < w.heap.size then ρ.imm c o else w'.cell? ⟨c, o, none⟩) = some x := hx
      by_cases hc : c < w.heap.size
      · rw [if_pos hc] at hx; exact .inl hx
      · exact .inr (.inl (Nat.le_of_not_lt hc))

/-- Rows that may be written are handed on to a call that looks at them alone, and whose answer knows no row: memory is as it was. -/
theorem CallS.lend {f : FuncId} {vs us : List V} {Q : V → Prop} (hf : FrzL σ vs us) (hq : ∀ v, Q v → ∀ (ρ ρ' : Ren) x, VRel ρ v x → VRel ρ' v x) (h : CallS P f us (fun v _ => Q v) (Ev.void σ.next)) : CallS P f vs (fun v σ' => Q v ∧ σ' = σ) σ := by
  have h := h.h
  refine ⟨⟨?_, ?_⟩⟩
  · obtain ⟨⟨o, τ⟩, hx⟩ := h.1
    cases o with
    | val v => exact ⟨(.val v, σ), hx, rfl⟩
    | exit e a => exact hx.elim
  · intro ρ w vs' hr hv
    -- all that lies there now, for as long as the call goes on
    let ρ₀ : Ren := ⟨ρ.at', fun c o => w.cell? ⟨c, o, none⟩⟩
    have hr₀ : R ρ₀ (Ev.void σ.next) w := ⟨fun b k hb => (by rw [void_get] at hb; cases hb), fun b b' k k' l l' hb => (by rw [void_get] at hb; cases hb), hr.fresh, hr.valid, fun c o x hx => ⟨hx, void_wr⟩, fun q hq => (hr.imm _ _ _ (hr.laid q hq)).1⟩
    have hv₀ : VsRel ρ₀ us vs' := frzL_rel hr (fun c o x hx => (hr.imm c o x hx).1) (fun b k l _ _ o x hx => hx) hf hv
    obtain ⟨g1, g2⟩ := SemE.at h ρ₀ w vs' hr₀ hv₀
    refine ⟨g1, g2.mono fun e w' hx => ?_⟩
    obtain ⟨v, τ', ρ₁, v', hq', rfl, hvr, hst⟩ := hx
    have hold : ∀ c, c < w.heap.size → w'.heap[c]? = w.heap[c]? := fun c hc => hst.keep c hc void_wr
    refine ⟨v, σ, ρ, v', ⟨hq', rfl⟩, rfl, hq v hq' ρ₁ ρ v' hvr, ⟨⟨fun b k hb => ?_, hr.inj, hr.fresh, fun b l hb => Nat.lt_of_lt_of_le (hr.valid b l hb) hst.size, fun c o x hx => ?_, hr.laid⟩, Ren.le.refl ρ, Nat.le_refl _, fun b l hb => .inl hb, hst.size, hst.os, hst.tape, hst.output,
      fun c hc _ => hold c hc, fun c _ h => h, fun b k hb => .inl ⟨k, hb⟩, fun c o x hx => .inl hx⟩⟩
    · obtain ⟨l, hl, hk⟩ := hr.blk b k hb
      exact ⟨l, hl, hk.same (Ren.le.refl ρ) (hold l.c (hr.valid b l hl))⟩
    · obtain ⟨a1, a2⟩ := hr.imm c o x hx
      exact ⟨by rw [cell?_of_block (hold c (lt_of_cell a1))]; exact a1, a2⟩

/-- What is known of a call in the machine that leaves all of memory as it was. -/
theorem CallS.of_calls {f : FuncId} {vs : List V} {Q : V → Prop} (hex : ∃ v, Q v)
    (h : ∀ (ρ : Ren) (w : World) (vs' : List Value), R ρ σ w → VsRel ρ vs vs' → (callFunc f ⟨vs'⟩).run P w = .ok (.enter f ⟨vs'⟩) w ∧ Calls P f ⟨vs'⟩ w fun e w' => ∃ v v', Q v ∧ e = .returned v' ∧ VRel ρ v v' ∧ RowKit.Below w.heap.size w w') :
    CallS P f vs (fun v σ' => Q v ∧ σ' = σ) σ := by
  refine ⟨⟨let ⟨v, hv⟩ := hex; ⟨(.val v, σ), hv, rfl⟩, ?_⟩⟩
  intro ρ w vs' hr hv
  obtain ⟨g1, g2⟩ := h ρ w vs' hr hv
  refine ⟨g1, (callsIn_wide.2 g2).mono fun e w' hx => ?_⟩
  obtain ⟨v, v', hq, rfl, hvr, hb⟩ := hx
  refine ⟨v, σ, ρ, v', ⟨hq, rfl⟩, rfl, hvr, ⟨⟨fun b k hb' => ?_, hr.inj, hr.fresh, fun b l hb' => Nat.lt_of_lt_of_le (hr.valid b l hb') hb.size, fun c o x hx => ?_, hr.laid⟩, Ren.le.refl ρ, Nat.le_refl _, fun b l hb => .inl hb, hb.size, hb.os, hb.tape, hb.output,
    fun c hc _ => hb.block c hc, fun c _ h => h, fun b k hb => .inl ⟨k, hb⟩, fun c o x hx => .inl hx⟩⟩
  · obtain ⟨l, hl, hk⟩ := hr.blk b k hb'
    exact ⟨l, hl, hk.same (Ren.le.refl ρ) (hb.block l.c (hr.valid b l hl))⟩
  · obtain ⟨a1, a2⟩ := hr.imm c o x hx
    exact ⟨by rw [cell?_of_block (hb.block c (lt_of_cell a1))]; exact a1, a2⟩
end
end Go.Ev
