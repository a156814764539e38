/- All operations that are no calls of functions. -/
import Derived.Test.YtbajncpfmemdgaaGreatDoorEvOpsF
namespace Go.Ev
open Go
section
variable {P : Program} {ρ : Ren} {σ : St} {w : World} {id : Nat} {p : V × St → Prop}

theorem fillV_length {place : Nat → Option (Nat × Nat)} : ∀ {ps : List (Nat × V)} {cs r : List V}, fillV place ps cs = some r → r.length = cs.length := by
  intro ps
  induction ps with
  | nil => intro cs r h; have h' : some cs = some r := h; cases h'; rfl
  | cons q ps ih =>
    intro cs r h
    have h' : (match fillOne cs q.2.cells (place q.1) with | some cs₁ => fillV place ps cs₁ | none => none) = some r := h
    cases hf : fillOne cs q.2.cells (place q.1) with
    | none => rw [hf] at h'; cases h'
    | some cs₁ =>
      rw [hf] at h'
      rw [ih h']
      unfold fillOne at hf
      split at hf
      · cases hf
      · split at hf
        · rename_i hb
          cases hf
          rw [Bool.and_eq_true, len_eq, len_eq] at hb
          have h1 := Nat.eq_of_beq_eq_true hb.1
          have h2 := Nat.le_of_ble_eq_true hb.2
          rw [app_eq, app_eq, takeOf_eq, dropOf_eq]
          simp only [List.length_append, List.length_take, List.length_drop]
          simp only [Nat.add_eq] at h2 ⊢
          omega
        · cases hf

theorem undef_rel [Env] : VRel ρ undefV undef := .tuple .nil
theorem VRel.bool_eq [Env] {b : Bool} {x : Value} (h : VRel ρ (.bool b) x) : x = .bool b := by cases h; rfl
theorem VRel.int_eq [Env] {k : IntKind} {n : Int} {x : Value} (h : VRel ρ (.int k n) x) : x = .int k n := by cases h; rfl
theorem VRel.cells_size [Env] {v : V} {x : Value} (h : VRel ρ v x) : x.cells.size = len v.cells := by
  rw [len_eq, h.cells.length]; simp

theorem store_run [Env] (hr : R ρ σ w) {t : TypeId} {v u : V} (h : (opStore P σ t v u).Holds p) {v' u' : Value} (hv : VRel ρ v v') (hu : VRel ρ u u') :
    ∃ σ' w', p (undefV, σ') ∧ (Instr.storeAt t u' v').run P w = .ok () w' ∧ Stp (fun b => b = id) ρ σ w ρ σ' w' := by
  unfold opStore at h
  split at h
  · rename_i b i esz off
    cases hu with
    | elt hl =>
      split at h
      · rename_i n hn
        split at h
        · rename_i hlen
          cases hst : σ.storeElt b i esz off v with
          | none => rw [hst] at h; exact h.elim
          | some σ' =>
            rw [hst] at h
            obtain ⟨w', hrun, hstp⟩ := hr.storeElt (P := P) (ids := fun b => b = id) hst hl hv
            refine ⟨σ', w', h, ?_, hstp⟩
            have hsz : ¬ v'.cells.size ≠ n := by rw [hv.cells_size, hlen]; simp
            simp only [Instr.storeAt, Instr.sureAddr, storeVar, Sem.run_bind, Sem.run_pure, Result.andThen_ok, sizeT_run hn, if_neg hsz, hrun]
        · exact h.elim
      · exact h.elim
  · rename_i b off
    cases hu with
    | ptr hl =>
      split at h
      · rename_i n hn
        split at h
        · rename_i hlen
          cases hst : σ.store b off v.cells with
          | none => rw [hst] at h; exact h.elim
          | some σ' =>
            rw [hst] at h
            obtain ⟨w', hrun, hstp⟩ := hr.store (P := P) (ids := fun b => b = id) hst hl hv.cells
            refine ⟨σ', w', h, ?_, hstp⟩
            have hsz : ¬ v'.cells.size ≠ n := by rw [hv.cells_size, hlen]; simp
            simp only [Instr.storeAt, Instr.sureAddr, storeVar, Sem.run_bind, Sem.run_pure, Result.andThen_ok, sizeT_run hn, if_neg hsz, hrun]
        · exact h.elim
      · exact h.elim
  · exact h.elim

theorem zeros_get [Env] {sz n i : Nat} {z : V} {zv : Value} (hz : VRel ρ z zv) (hlen : len z.cells = sz) (hsz : sz ≠ 0) (hi : i < n) :
    ∃ x, ((Array.range n).map (zv.cells[· % zv.cells.size]!))[i]? = some x ∧ VRel ρ (z.cells.getD (i % sz) undefV) x := by
  have hcs := hz.cells
  have hzs : zv.cells.size = sz := by rw [hz.cells_size, hlen]
  rw [len_eq] at hlen
  have hm : i % sz < z.cells.length := by rw [hlen]; exact Nat.mod_lt _ (by omega)
  obtain ⟨x, hx, hrel⟩ := hcs.get (i % sz) (v := z.cells[i % sz]) (by simp [hm])
  refine ⟨x, ?_, ?_⟩
  · have : (Array.range n)[i]? = some i := by simp [hi]
    rw [Array.getElem?_map, this]
    simp only [Option.map_some, hzs, Option.some.injEq]
    have hx' : zv.cells[i % sz]? = some x := by simpa using hx
    simp [getElem!_def, hx']
  · simpa [List.getD_eq_getElem?_getD, hm] using hrel

/-- The row that a slice written out makes, in the machine. -/
theorem buildRow_run [Env] {t e : TypeId} {n sz : Nat} {z : V} {l : List (Nat × V)} {cs : List V} (he : sliceE P t = some e) (hsz : sizeT P e = some sz) (hz : zeroT P e = some z) (hc1 : sz ≠ 0) (hc2 : n * sz ≤ 65536) (hc3 : len z.cells = sz)
    (hcs : buildCells sz n z.cells l = some cs) {l' : List (Nat × Value)} (hl : PartsRel ρ l l') (w : World) :
    ∃ r' : List Value, VsRel ρ cs r' ∧ cs.length = n * sz ∧ (Instr.buildSlice t n ⟨l'⟩).run P w = .ok (.slice (some ⟨w.heap.size, 0, none⟩) n n) { w with heap := w.heap.push (.cells ⟨r'⟩ e) } := by
  obtain ⟨zv, hzr, hzrel⟩ := zeroT_run (P := P) hz ρ
  have hzrow : VsRel ρ ((List.range (n * sz)).map fun i => z.cells.getD (i % sz) undefV) ((Array.range (n * sz)).map (zv.cells[· % zv.cells.size]!)).toList := by
    refine VsRel.of_get (by simp) fun i v x hv hx => ?_
    have hi : i < n * sz := by
      have := List.getElem?_eq_some_iff.1 hv
      obtain ⟨hlt, _⟩ := this
      simpa using hlt
    obtain ⟨x', hx', hrel⟩ := zeros_get (n := n * sz) hzrel hc3 hc1 hi
    have e1 : v = z.cells.getD (i % sz) undefV := by
      simpa [hi] using hv.symm
    have e2 : x = x' := by
      rw [Array.getElem?_toList, hx'] at hx
      exact (Option.some.inj hx).symm
    rw [e1, e2]; exact hrel
  unfold buildCells at hcs
  obtain ⟨r', hfill, hrel⟩ := fill_run (place := fun i => some (i * sz, sz)) l l' _ _ hl hzrow hcs
  have hcl : cs.length = n * sz := by
    have := fillV_length hcs
    simpa using this
  refine ⟨r', hrel, hcl, ?_⟩
  have hno : ¬ n * sz > 2 ^ 24 := by omega
  have hfill' : Instr.fill (fun i => some (i * sz, sz)) ((Array.range (n * sz)).map (zv.cells[· % zv.cells.size]!)) l' = some ⟨r'⟩ := by
    exact hfill
  by_cases hn0 : n * sz = 0
  · have e0 : ∀ f : Nat → Value, (Array.range 0).map f = #[] := by simp
    have hn : n = 0 := by
      rcases Nat.mul_eq_zero.1 hn0 with h | h
      · exact h
      · exact absurd h hc1
    subst hn
    have h00 : ¬ (0 : Nat) > 2 ^ 24 := by decide
    rw [hn0, e0] at hfill'
    simp only [Instr.buildSlice, Sem.run_bind, run_underlying (sliceE_run he), Result.andThen_ok, sizeT_run hsz, if_neg h00, Sem.run_pure, if_true, hn0, e0, hfill', Go.newRow, run_newObj]
  · simp only [Instr.buildSlice, Sem.run_bind, run_underlying (sliceE_run he), Result.andThen_ok, sizeT_run hsz, if_neg hno, Sem.run_pure, if_neg hn0, hzr, hfill', Go.newRow, run_newObj]

/-- A row that never turns. -/
theorem Stp.lit [Env] (h : R ρ σ w) {ids : Nat → Prop} (r : Array Value) (e : TypeId) :
    Stp ids ρ σ w ⟨ρ.at', fun c o => if c = w.heap.size then r[o]? else ρ.imm c o⟩ σ { w with heap := w.heap.push (.cells r e) } := by
  have hold : ∀ c, c < w.heap.size → (w.heap.push (.cells r e))[c]? = w.heap[c]? := fun c hc => by rw [Array.getElem?_push, if_neg (by omega)]
  have hle : ρ.le ⟨ρ.at', fun c o => if c = w.heap.size then r[o]? else ρ.imm c o⟩ := ⟨fun _ _ h => h, fun c o x hx => by
    have := lt_of_cell (h.imm c o x hx).1
    show (if c = w.heap.size then r[o]? else ρ.imm c o) = some x
    rw [if_neg (by omega)]; exact hx⟩
  refine ⟨⟨fun b k hb => ?_, h.inj, h.fresh, fun b l hb => ?_, fun c o x hx => ?_, h.laid_le hle⟩, hle, Nat.le_refl _, fun _ _ hb => .inl hb, by simp, rfl, rfl, rfl, fun c hc _ => hold c hc, fun _ _ h => h, fun _ k hb => .inl ⟨k, hb⟩, fun c o x hx => ?_⟩
  · obtain ⟨l, hl, hk⟩ := h.blk b k hb
    exact ⟨l, hl, hk.same hle (hold l.c (h.valid b l hl))⟩
  · have := h.valid b l hb
    simp; omega
  · have hx' : (if c = w.heap.size then r[o]? else ρ.imm c o) = some x := hx
    by_cases e : c = w.heap.size
    · rw [if_pos e] at hx'
      subst e
      refine ⟨by simp [World.cell?, hx'], ?_⟩
      rintro ⟨b, k, l, h1, _, h3, h4⟩
      have := h.valid b l h3
      omega
    · rw [if_neg e] at hx'
      obtain ⟨a1, a2⟩ := h.imm c o x hx'
      exact ⟨by rw [cell?_of_block (hold c (lt_of_cell a1))]; exact a1, a2⟩
  · have hx' : (if c = w.heap.size then r[o]? else ρ.imm c o) = some x := hx
    by_cases e : c = w.heap.size
    · exact .inr (.inl (by omega))
    · rw [if_neg e] at hx'; exact .inl hx'

theorem flatCells_scalar : ∀ {cs : List V}, (∀ v ∈ cs, v.scalar = true) → flatCells cs = cs ∧ ∀ v ∈ cs, v.cells.length = 1
  | [], _ => ⟨rfl, fun _ h => by cases h⟩
  | v :: cs, h => by
    obtain ⟨h1, h2⟩ := flatCells_scalar (cs := cs) fun u hu => h u (List.mem_cons_of_mem _ hu)
    have hv : v.cells = [v] := by
      have := h v List.mem_cons_self
      cases v <;> first | rfl | cases this
    refine ⟨by rw [flatCells_cons, hv, h1]; rfl, fun u hu => ?_⟩
    rcases List.mem_cons.1 hu with rfl | hu
    · rw [hv]; rfl
    · exact h2 u hu

theorem buildSlice_run [Env] (hr : R ρ σ w) (hid : ρ id = none) {t : TypeId} {n : Nat} {l : List (Nat × V)} (h : (opBuildSlice P σ id t n (some l)).Holds p) {l' : List (Nat × Value)} (hl : PartsRel ρ l l') :
    ∃ v σ' ρ' v' w', p (v, σ') ∧ VRel ρ' v v' ∧ (Instr.buildSlice t n ⟨l'⟩).run P w = .ok v' w' ∧ Stp (fun b => b = id) ρ σ w ρ' σ' w' := by
  have h' : (match sliceE P t with
    | some e => match sizeT P e, zeroT P e with
      | some sz, some z => match isByte P e with
        | true => opBuildLit σ sz n l z.cells
        | false => opBuildSliceZ σ id sz n l z.cells
      | _, _ => .fail "buildSlice type"
    | none => .fail "buildSlice type" : VS).Holds p := h
  clear h
  split at h'
  · rename_i e he
    split at h'
    · rename_i sz z hsz hz
      split at h'
      · unfold opBuildLit at h'
        split at h'
        · exact h'.elim
        · rename_i hc
          rw [not_or, not_or] at hc
          obtain ⟨hc1, hc2, hc3⟩ := hc
          have hc1 : sz = 1 := Decidable.not_not.1 hc1
          have hc3 : len z.cells = 1 := Decidable.not_not.1 hc3
          subst hc1
          split at h'
          · rename_i cs hcs
            split at h'
            · rename_i hsc
              obtain ⟨r', hrel, hcl, hrun⟩ := buildRow_run (P := P) he hsz hz (by decide) (by omega) hc3 hcs hl w
              have hst := Stp.lit (ids := fun b => b = id) hr ⟨r'⟩ e
              obtain ⟨g1, g2⟩ := flatCells_scalar (cs := cs) (fun v hv => List.all_eq_true.1 (by rw [← allOf_eq]; exact hsc) v hv)
              rw [Nat.mul_one] at hcl
              refine ⟨_, _, _, _, _, h', ?_, hrun, hst⟩
              have key := VRel.lst (ρ := ⟨ρ.at', fun c o => if c = w.heap.size then (⟨r'⟩ : Array Value)[o]? else ρ.imm c o⟩) (es := cs) (esz := 1) (c := w.heap.size) (off := 0) (cap := n) (ex := true) (xs := r') g2
                (by rw [g1]; exact hrel.mono hst.le) (fun k x hk => by
                  show (if w.heap.size = w.heap.size then (⟨r'⟩ : Array Value)[0 + k]? else ρ.imm w.heap.size (0 + k)) = some x
                  rw [if_pos rfl, Nat.zero_add]; simpa using hk) (by omega) (fun _ => hcl.symm)
              rw [hcl] at key
              exact key
            · exact h'.elim
          · exact h'.elim
      · unfold opBuildSliceZ at h'
        split at h'
        · exact h'.elim
        · rename_i hc
          have hc1 : sz ≠ 0 := fun e => hc (.inl e)
          have hc2 : n * sz ≤ 65536 := by
            apply Nat.le_of_not_lt; intro e; exact hc (.inr (.inl e))
          have hc3 : len z.cells = sz := Decidable.byContradiction fun e => hc (.inr (.inr e))
          split at h'
          · rename_i cs hcs
            split at h'
            · rename_i hsc
              obtain ⟨r', hrel, hcl, hrun⟩ := buildRow_run (P := P) he hsz hz hc1 hc2 hc3 hcs hl w
              have hst := alloc_row hr hid hrel (ty := e) (w' := { w with heap := w.heap.push (.cells ⟨r'⟩ e) }) rfl rfl rfl rfl
              rw [hcl] at hst
              refine ⟨_, _, _, _, _, h', .slice (l := ⟨w.heap.size, 0, r'.length⟩) (off' := 0) (cap' := n) (upd_self _ _ _) (fun _ => ⟨rfl, rfl⟩) (by simp) ?_ (Nat.le_refl _), hrun, hst⟩
              show 0 + n * sz ≤ r'.length
              rw [← hrel.length, hcl]; omega
            · exact h'.elim
          · exact h'.elim
    · exact h'.elim
  · exact h'.elim

theorem makeSlice_run [Env] (hr : R ρ σ w) (hid : ρ id = none) {t : TypeId} {n m : V} (h : (opMakeSlice P σ id t n m).Holds p) {n' m' : Value} (hn : VRel ρ n n') (hm : VRel ρ m m') :
    ∃ v σ' ρ' v' w', p (v, σ') ∧ VRel ρ' v v' ∧ (Instr.makeSlice t n' m').run P w = .ok v' w' ∧ Stp (fun b => b = id) ρ σ w ρ' σ' w' := by
  unfold opMakeSlice at h
  split at h
  · rename_i kn n km m
    cases hn; cases hm
    split at h
    · rename_i e he
      split at h
      · rename_i sz by_ z hsz hby hz
        obtain ⟨zv, hzr, hzrel⟩ := zeroT_run (P := P) hz ρ
        obtain ⟨i, hi, hib⟩ := bytesT_run hby
        unfold opMakeSliceZ at h
        split at h
        · rename_i hc
          obtain ⟨c0, c1, c2, c3, c4, c5, c6⟩ := hc
          have hzs : zv.cells.size = sz := by rw [hzrel.cells_size, c5]
          obtain ⟨M, rfl⟩ : ∃ M : Nat, m = (M : Int) := ⟨m.toNat, by omega⟩
          obtain ⟨N, rfl⟩ : ∃ N : Nat, n = (N : Int) := ⟨n.toNat, by omega⟩
          simp only [Int.toNat_natCast] at c2 h
          have hwn : IntKind.i64.wrap (N : Int) = N := by
            simp [IntKind.wrap, IntKind.bits, IntKind.signed]; omega
          have hwm : IntKind.i64.wrap (M : Int) = M := by
            simp [IntKind.wrap, IntKind.bits, IntKind.signed]; omega
          let row : Array Value := (Array.range (M * sz)).map (zv.cells[· % zv.cells.size]!)
          have hbig : i.bytes * M ≤ 1099511627776 := by rw [hib, Nat.mul_comm]; exact c2
          have hrun : (Instr.makeSlice t (.int kn N) (.int km M)).run P w = .ok (.slice (some ⟨w.heap.size, 0, none⟩) N M) { w with heap := w.heap.push (.cells row e) } := by
            have t1 : (decide ((M : Int) < 0) || decide ((i.bytes : Int) * M > 2 ^ 48) || decide ((N : Int) < 0) || decide ((N : Int) > M)) = false := by
              have : ((i.bytes * M : Nat) : Int) ≤ ((1099511627776 : Nat) : Int) := Int.ofNat_le.2 hbig
              rw [Int.natCast_mul] at this
              have h1 : ¬ ((M : Int) < 0) := by omega
              have h2 : ¬ ((i.bytes : Int) * M > 281474976710656) := by omega
              have h48 : (2 : Int) ^ 48 = 281474976710656 := by decide
              have h3 : ¬ ((N : Int) < 0) := by omega
              have h4 : ¬ ((N : Int) > M) := by omega
              rw [h48]; simp only [h1, h2, h3, h4, decide_false, Bool.or_false]
            by_cases hn0 : M * sz = 0
            · have e0 : ∀ f : Nat → Value, (Array.range 0).map f = #[] := by simp
              have hrow : row = #[] := by
                show (Array.range (M * sz)).map _ = _
                rw [hn0, e0]
              simp only [Instr.makeSlice, Sem.run_bind, run_underlying (sliceE_run he), Result.andThen_ok, asInt, asIntOf, Sem.run_pure, run_typeInfo hi, hwn, hwm, t1, Bool.false_eq_true, if_false, run_askRoom, Int.toNat_natCast, sizeT_run hsz, if_true, hn0, e0, hrow, Go.newRow, run_newObj]
            · simp only [Instr.makeSlice, Sem.run_bind, run_underlying (sliceE_run he), Result.andThen_ok, asInt, asIntOf, Sem.run_pure, run_typeInfo hi, hwn, hwm, t1, Bool.false_eq_true, if_false, run_askRoom, Int.toNat_natCast, sizeT_run hsz, if_neg hn0, hzr, Go.newRow, run_newObj]
              rfl
          have hrs : row.size = M * sz := by simp [row]
          refine ⟨_, _, _, _, _, h, .slice (l := ⟨w.heap.size, 0, M * sz⟩) (off' := 0) (cap' := M) (upd_self ρ _ _) (fun _ => ⟨rfl, rfl⟩) (by simp) (by show 0 + M * sz ≤ M * sz; omega) (by omega), hrun, ?_⟩
          have hat : (w.heap.push (.cells row e))[w.heap.size]? = some (.cells row e (0, 0)) := by simp
          refine Stp.alloc hr hid (w' := { w with heap := w.heap.push (.cells row e) }) rfl rfl rfl rfl (.cells ⟨e, ?_⟩ (by simp) (fun k v hk => ?_) (fun _ k _ => ?_) (fun _ k => ?_))
          · simp [World.shape?, hrs]
          · have hk' := cellOf_lt hk
            have hv : v = z.cells.getD (k % sz) undefV := by
              unfold cellOf at hk
              rw [Trie.get_leaf] at hk
              split at hk
              · rw [nth_eq, c5] at hk
                have hk'' : z.cells[k % sz]? = some v := hk
                simp [List.getD_eq_getElem?_getD, hk'']
              · cases hk
            obtain ⟨x, hx, hrel⟩ := zeros_get (n := M * sz) hzrel c5 c4 hk'
            refine ⟨x, ?_, hv ▸ hrel.mono (upd_le ρ _ hid)⟩
            have hx' : row[k]? = some x := hx
            unfold World.cell?
            dsimp only
            rw [hat, Nat.zero_add]
            exact hx'
          · simp [World.frozen?]
          · simp [World.frozen?]
        · exact h.elim
      · exact h.elim
    · exact h.elim
  · exact h.elim

theorem assert_run [Env] {x v : V} {t xt : TypeId} {ok : Bool} (h : evalAssert P x t ok = some v) {x' : Value} (hx : VRel ρ x x') (w : World) : ∃ v', (Instr.typeAssert x' xt t ok).run P w = .ok v' w ∧ VRel ρ v v' := by
  have hold : ∀ {u : V} {u' : Value}, VRel ρ u u' → (some (if ok then .tuple [u, .bool true] else u : V) = some v) → VRel ρ v (if ok then .tuple #[u', .bool true] else u') := by
    intro u u' hu he
    cases he
    cases ok with
    | true => exact .tuple (.cons hu (.cons (.bool true) .nil))
    | false => exact hu
  have hfail : (if ok then (zeroT P t).map fun z => (.tuple [z, .bool false] : V) else none) = some v → ok = true ∧ ∃ zv, (∀ w, (zeroValue t).run P w = .ok zv w) ∧ VRel ρ v (.tuple #[zv, .bool false]) := by
    intro he
    cases ok with
    | false => simp at he
    | true =>
      simp only [if_true, Option.map_eq_some_iff] at he
      obtain ⟨z, hz, rfl⟩ := he
      obtain ⟨zv, hzr, hzv⟩ := zeroT_run (P := P) hz ρ
      exact ⟨rfl, zv, hzr, .tuple (.cons hzv (.cons (.bool false) .nil))⟩
  unfold evalAssert at h
  dsimp only at h
  split at h
  · rename_i ms hu
    obtain ⟨rfl, zv, hzr, hv⟩ := hfail h
    cases hx
    exact ⟨_, by simp [Instr.typeAssert, run_underlying hu, hzr], hv⟩
  · rename_i want ty vv hu
    cases hx with
    | iface hx =>
      split at h
      · rename_i i hi
        split at h
        · rename_i hm
          refine ⟨_, ?_, hold (.iface hx) h⟩
          simp only [Instr.typeAssert, Sem.run_bind, run_underlying hu, Result.andThen_ok, run_typeInfo hi, hm, Sem.run_pure]
        · rename_i mm hm
          obtain ⟨rfl, zv, hzr, hv⟩ := hfail h
          exact ⟨_, by simp [Instr.typeAssert, run_underlying hu, run_typeInfo hi, hm, hzr], hv⟩
      · cases h
  · rename_i hn hu
    obtain ⟨rfl, zv, hzr, hv⟩ := hfail h
    cases hx
    refine ⟨_, ?_, hv⟩
    rename_i d _
    cases d <;> simp [Instr.typeAssert, run_underlying hu, hzr]
  · rename_i d ty vv hn hu
    cases hx with
    | iface hx =>
      split at h
      · rename_i ht
        refine ⟨_, ?_, hold hx h⟩
        cases d <;> first
          | exact (hn _ rfl).elim
          | (simp only [Instr.typeAssert, Sem.run_bind, run_underlying hu, Result.andThen_ok, if_pos ht, Sem.run_pure])
      · rename_i ht
        obtain ⟨rfl, zv, hzr, hv⟩ := hfail h
        refine ⟨_, ?_, hv⟩
        cases d <;> first
          | exact (hn _ rfl).elim
          | (simp only [Instr.typeAssert, Sem.run_bind, run_underlying hu, Result.andThen_ok, if_neg ht, if_true, hzr, Sem.run_pure])
  · cases h

theorem entry_run [Env] (hr : R ρ σ w) {it v : V} (h : evalEntry σ it = some v) {it' : Value} (hit : VRel ρ it it') : ∃ v', (Instr.entry it').run P w = .ok v' w ∧ VRel ρ v v' := by
  unfold evalEntry at h
  split at h
  · rename_i r
    cases hit with
    | ptr hl =>
      rename_i l
      split at h
      · rename_i m since seen last hb
        obtain ⟨l', hl', hblk⟩ := hr.blk _ _ hb
        rw [hl] at hl'; cases hl'
        cases hblk with
        | iter hh ho hm =>
          cases hm with
          | some hml =>
            rename_i lm
            split at h
            · rename_i stamp es clock hst hmb
              obtain ⟨lm', hlm', hmblk⟩ := hr.blk _ _ hmb
              rw [hml] at hlm'; cases hlm'
              cases hmblk with
              | map hmm he =>
                rename_i es'
                split at h
                · cases h
                · rename_i hcl
                  split at h
                  · rename_i e hfind
                    cases h
                    have hf : ∀ (l : List (V × V × Nat)) (l' : List MapEntry), EntsRel ρ l l' → ∀ e, (l.find? fun e => e.2.2 == stamp) = some e → ∃ e', (l'.find? fun e => e.born == stamp) = some e' ∧ EntRel ρ e e' := by
                      intro l
                      induction l with
                      | nil => intro l' _ e h; simp at h
                      | cons a l ih =>
                        intro l' hl e h
                        cases hl with
                        | cons ha hl =>
                          rename_i a' l'
                          simp only [List.find?_cons, ha.born] at h ⊢
                          split at h
                          · rename_i hq; cases h; exact ⟨a', rfl, ha⟩
                          · rename_i hq; obtain ⟨e', h1, h2⟩ := ih l' hl e h; exact ⟨e', h1, h2⟩
                    obtain ⟨e', hfind', hrel⟩ := hf _ _ he _ hfind
                    have hcl' : (clock != last) = false := by simpa using hcl
                    have hback : (⟨seen⟩ : Array Nat).back? = some stamp := by simpa [List.getLast?_eq_getElem?, Array.back?] using hst
                    refine ⟨.tuple #[e'.key, e'.val], ?_, .tuple (.cons hrel.key (.cons hrel.val .nil))⟩
                    have hfa : es'.find? (fun e => e.born == stamp) = some e' := by rw [← Array.find?_toList]; exact hfind'
                    simp only [Instr.entry, ho, Nat.add_zero, Sem.run_bind, getObj, Sem.run, hh, Result.andThen_ok, hback, hmm, hcl', Bool.false_eq_true, if_false, hfa]
                    rfl
                  · cases h
            · cases h
      · cases h
  · cases h

theorem range_run [Env] (hr : R ρ σ w) (hid : ρ id = none) {t : TypeId} {x : V} (h : (opRange P σ id t x).Holds p) {x' : Value} (hx : VRel ρ x x') :
    ∃ v σ' ρ' v' w', p (v, σ') ∧ VRel ρ' v v' ∧ (Instr.range t x').run P w = .ok v' w' ∧ Stp (fun b => b = id) ρ σ w ρ' σ' w' := by
  have fin : ∀ {m m' : Option Nat} {since last : Nat}, OptRel ρ m m' → p (.ptr id 0, σ.new id (.iter m since [] last)) →
      ((Instr.range t x').run P w = .ok (.pointer (some ⟨w.heap.size, 0, none⟩)) { w with heap := w.heap.push (.mapIter m' since #[] last) }) →
      ∃ v σ' ρ' v' w', p (v, σ') ∧ VRel ρ' v v' ∧ (Instr.range t x').run P w = .ok v' w' ∧ Stp (fun b => b = id) ρ σ w ρ' σ' w' := by
    intro m m' since last hm hp hrun
    refine ⟨_, _, upd ρ id ⟨w.heap.size, 0, 0⟩, _, _, hp, .ptr (l := ⟨w.heap.size, 0, 0⟩) (upd_self _ _ _), hrun, ?_⟩
    exact Stp.alloc hr hid (w' := { w with heap := w.heap.push (.mapIter m' since #[] last) }) rfl rfl rfl rfl
      (.iter (by show (w.heap.push _)[w.heap.size]? = _; simp) rfl (hm.mono (upd_le ρ _ hid)))
  unfold opRange at h
  split at h
  · rename_i hm
    obtain ⟨⟨k, e⟩, he⟩ : ∃ q, mapT P t = some q := ⟨_, hm⟩
    have hu := mapT_run he
    cases hx
    exact fin .none h (by simp only [Instr.range, Sem.run_bind, run_underlying hu, Result.andThen_ok]; rfl)
  · rename_i m q hm
    obtain ⟨k, e⟩ := q
    have hu := mapT_run hm
    split at h
    · rename_i es clock hb
      cases hx with
      | map hl =>
        obtain ⟨l, hl', hblk⟩ := hr.blk _ _ hb
        rw [hl] at hl'; cases hl'
        cases hblk with
        | map hmm he =>
          exact fin (.some hl) h (by simp only [Instr.range, Sem.run_bind, run_underlying hu, Result.andThen_ok, getObj, Sem.run, hmm]; rfl)
    · exact h.elim
  · exact h.elim

/-- The place of an element of a slice that never turns. -/
theorem indexL_run [Env] (hr : R ρ σ w) {t e : TypeId} {es : List V} {esz sz : Nat} {ex : Bool} {u : V} {k : IntKind} {i : Int} (he : sliceE P t = some e) (hsz : sizeT P e = some sz) (c1 : 0 ≤ i) (c2 : i < es.length) (c3 : sz = esz) (c4 : sz ≠ 0) (hnth : es[i.toNat]? = some u) {x' : Value} (hxv : VRel ρ (.lst es esz ex) x') :
    ∃ v', (Instr.indexAt t x' (.int k i)).run P w = .ok v' w ∧ VRel ρ (.eptr u.cells 0) v' := by
  subst c3
  cases hxv with
  | lst hu hx' hi' hcap hex =>
    rename_i c off cap xs
    have hdr : flatCells (es.drop i.toNat) = (flatCells es).drop (i.toNat * sz) := flatCells_drop hu _
    have hcons : es.drop i.toNat = u :: es.drop (i.toNat + 1) := by
      have hlt := (List.getElem?_eq_some_iff.1 hnth)
      obtain ⟨h1, h2⟩ := hlt
      rw [List.drop_eq_getElem_cons h1, h2]
    have hul : u.cells.length = sz := hu u (List.mem_of_getElem? hnth)
    have hrel : VsRel ρ u.cells ((xs.drop (i.toNat * sz)).take sz) := by
      have h1 := (hx'.drop (i.toNat * sz)).take sz
      rw [← hdr, hcons, flatCells_cons, ← hul, List.take_left'  rfl] at h1
      rw [← hul]; exact h1
    refine ⟨.pointer (some ⟨c, off + i.toNat * sz + 0, none⟩), ?_, .eptr hrel fun k x hk => ?_⟩
    · simp [Instr.indexAt, asIntOf, run_underlying (sliceE_run he), c1, c2, sizeT_run hsz, addr_add]
    · rw [List.getElem?_take] at hk
      split at hk
      · rw [List.getElem?_drop] at hk
        rw [Nat.add_assoc]; exact hi' _ x hk
      · cases hk
  | lstnil => simp at hnth
  | lstzero he => simp at hnth

/-- All operations that are no calls of functions. -/
theorem op_sound [Env] (hr : R ρ σ w) (hid : ρ id = none) {a : Act} {a' : Go.Act} (ha : ActRel ρ a a') (o : Oper) (h : ((opC P o.op).f a σ id).Holds p) (hnc : ∀ c, o.op ≠ .call c) :
    Outs P (execOp a'.eval o) id ρ σ w p := by
  unfold execOp
  cases hop : o.op with
  | move x =>
    rw [hop] at h
    obtain ⟨v, hv, hp⟩ := keep_holds h
    exact .value hr hp (ha.eval x hv) rfl
  | assign x =>
    rw [hop] at h
    obtain ⟨v, hv, hp⟩ := keep_holds h
    exact .value hr hp (ha.eval x hv) rfl
  | pick c x y =>
    rw [hop] at h
    obtain ⟨cv, hc, h⟩ := at1_holds h
    unfold opPick at h
    split at h
    · rename_i b
      obtain ⟨v, hv, hp⟩ := keep_holds h
      have hcv := ha.eval c hc
      have hcb : a'.eval c = .bool b := hcv.bool_eq
      refine .value hr hp (v' := if b then a'.eval x else a'.eval y) ?_ ?_
      · cases b with
        | true => exact ha.eval x hv
        | false => exact ha.eval y hv
      · dsimp only; rw [hcb]; rfl
    · exact h.elim
  | alloc e =>
    rw [hop] at h
    have h' : (opAlloc P σ id e).Holds p := h
    unfold opAlloc at h'
    split at h'
    · rename_i z hz
      obtain ⟨zv, hzr, hzv⟩ := zeroT_run (P := P) hz ρ
      split at h'
      · exact box_run hr hid hzv e h' (by dsimp only; simp [Instr.alloc, hzr, newVar, Go.newRow])
      · exact h'.elim
    · exact h'.elim
  | box e x =>
    rw [hop] at h
    obtain ⟨v, hv, h⟩ := at1_holds h
    unfold opBox at h
    split at h
    · exact box_run hr hid (ha.eval x hv) e h (by dsimp only; simp [Instr.box, newVar, Go.newRow])
    · exact h.elim
  | build t ps =>
    rw [hop] at h
    have h' : (opBuild P σ t (a.parts ps.toList)).Holds p := h
    cases hps : a.parts ps.toList with
    | none => rw [hps] at h'; exact h'.elim
    | some l =>
      rw [hps] at h'
      obtain ⟨v, hv, hp⟩ := keep_holds h'
      obtain ⟨v', hrun, hrel⟩ := build_run (P := P) (ha.parts ps.toList hps) hv
      refine .value hr hp hrel ?_
      have e : (ps.map fun (q : Nat × Operand) => (q.1, a'.eval q.2)) = ⟨ps.toList.map fun q => (q.1, a'.eval q.2)⟩ := Array.ext' (by simp)
      dsimp only
      rw [show (ps.map fun x => match x with | (i, x) => (i, a'.eval x)) = ⟨ps.toList.map fun q => (q.1, a'.eval q.2)⟩ from e]
      simp [hrun]
  | buildSlice t n ps =>
    rw [hop] at h
    have h' : (opBuildSlice P σ id t n (a.parts ps.toList)).Holds p := h
    cases hps : a.parts ps.toList with
    | none => rw [hps] at h'; exact h'.elim
    | some l =>
      rw [hps] at h'
      obtain ⟨v, σ', ρ', v', w', hp, hv, hrun, hst⟩ := buildSlice_run hr hid h' (ha.parts ps.toList hps)
      refine ⟨v, σ', ρ', v', w', hp, hv, hst, .inl ?_⟩
      dsimp only
      rw [show (ps.map fun x => match x with | (i, x) => (i, a'.eval x)) = ⟨ps.toList.map fun q => (q.1, a'.eval q.2)⟩ from Array.ext' (by simp)]
      simp [hrun]
  | insert t m k v =>
    rw [hop] at h
    obtain ⟨mv, kv, hm, hk, h⟩ := at2_holds h
    obtain ⟨vv, hv, h⟩ := at1_holds h
    obtain ⟨σ', w', hp, hrun, hst⟩ := mapUpdate_run hr h (ha.eval m hm) (ha.eval k hk) (ha.eval v hv)
    exact ⟨_, _, _, _, _, hp, undef_rel, hst, .inr ⟨rfl, by dsimp only; simp [hrun]⟩⟩
  | load t x =>
    rw [hop] at h
    obtain ⟨xv, hx, h⟩ := at1_holds h
    obtain ⟨v, hv, hp⟩ := keep_holds h
    obtain ⟨v', hrun, hrel, _⟩ := loadV_run (P := P) hr (ha.eval x hx) hv
    exact .value hr hp hrel (by dsimp only; simp [hrun])
  | store t x y =>
    rw [hop] at h
    obtain ⟨yv, xv, hy, hx, h⟩ := at2_holds h
    obtain ⟨σ', w', hp, hrun, hst⟩ := store_run hr h (ha.eval y hy) (ha.eval x hx)
    exact ⟨_, _, _, _, _, hp, undef_rel, hst, .inr ⟨rfl, by dsimp only; simp [hrun]⟩⟩
  | ready g => rw [hop] at h; exact h.elim
  | waits g => rw [hop] at h; exact h.elim
  | nilCheck x =>
    rw [hop] at h
    obtain ⟨xv, hx, h⟩ := at1_holds h
    have hxv := ha.eval x hx
    unfold opNilCheck at h
    dsimp only
    generalize a'.eval x = x' at hxv ⊢
    split at h
    · cases hxv with
      | ptr hl => exact .value hr h (.ptr hl) rfl
    · cases hxv with
      | eptr hx hi => exact .value hr h (.eptr hx hi) rfl
    · cases hxv with
      | elt hl => exact .value hr h (.elt hl) rfl
    · exact h.elim
    · rename_i f x y hnm
      cases hxv with
      | func hf hx hy =>
        refine .value hr h (.func hf hx hy) ?_
        cases hf with
        | yield _ => rfl
        | same _ =>
          cases f <;> first
            | exact absurd rfl (hnm _)
            | rfl
    · cases hxv with
      | iface hv => exact .value hr h (.iface hv) rfl
    · exact h.elim
  | binOp op t x y yt =>
    rw [hop] at h
    obtain ⟨xv, yv, hx, hy, h⟩ := at2_holds h
    obtain ⟨v, hv, hp⟩ := keep_holds h
    obtain ⟨v', hrun, hrel⟩ := evalBin_run (P := P) hr hv (ha.eval x hx) (ha.eval y hy)
    refine .value hr hp hrel ?_
    dsimp only
    rw [Sem.run_bind, hrun]; rfl
  | unOp op t x =>
    rw [hop] at h
    obtain ⟨xv, hx, h⟩ := at1_holds h
    obtain ⟨v, hv, hp⟩ := keep_holds h
    obtain ⟨v', hrun, hrel⟩ := evalUn_run (P := P) hv (ha.eval x hx)
    exact .value hr hp hrel (by dsimp only; simp [hrun])
  | convert s d x =>
    rw [hop] at h
    obtain ⟨xv, hx, h⟩ := at1_holds h
    unfold opConv at h
    cases hc : evalConv P σ id s d xv with
    | none => rw [hc] at h; exact h.elim
    | some r =>
      rw [hc] at h
      obtain ⟨ρ', v', w', hrun, hv, hst⟩ := conv_run hr hid hc (ha.eval x hx)
      exact ⟨_, _, _, _, _, h, hv, hst, .inl (by dsimp only; simp [hrun])⟩
  | sliceToArrayPointer d x => rw [hop] at h; exact h.elim
  | makeInterface t x =>
    rw [hop] at h
    obtain ⟨xv, hx, h⟩ := at1_holds h
    unfold opMakeInterface at h
    split at h
    · exact h.elim
    · rename_i d hni hd
      refine .value hr h (.iface (ha.eval x hx)) ?_
      dsimp only
      cases d <;> first
        | exact (hni _ hd).elim
        | exact (hni _ rfl).elim
        | simp [Instr.makeInterface, run_underlying hd]
    · exact h.elim
  | makeFunc fn f c =>
    rw [hop] at h
    have h' : (opMakeFunc σ fn (a.evals f.toList) (a.evals c.toList)).Holds p := h
    cases hf : a.evals f.toList with
    | none => rw [hf] at h'; exact h'.elim
    | some fs => cases hc : a.evals c.toList with
      | none => rw [hf, hc] at h'; exact h'.elim
      | some cs =>
        rw [hf, hc] at h'
        unfold opMakeFunc at h'
        dsimp only at h' ⊢
        split at h'
        · exact h'.elim
        · rename_i hny
          refine .value hr h' (.func (.same hny) (ha.evals _ hf) (ha.evals _ hc)) ?_
          rw [show f.map a'.eval = ⟨f.toList.map a'.eval⟩ from Array.ext' (by simp), show c.map a'.eval = ⟨c.toList.map a'.eval⟩ from Array.ext' (by simp)]
          rfl
  | makeMap t r =>
    rw [hop] at h
    have h' : (opMakeMap P a σ id t r).Holds p := h
    have fin : p (.map id, σ.new id (.map [] 0)) → (Instr.makeMap t (r.map a'.eval)).run P w = .ok (.map (some w.heap.size)) { w with heap := w.heap.push (.map #[] 0) } →
        Outs P (do pure (.value (← Instr.makeMap t (r.map a'.eval)))) id ρ σ w p := by
      intro hp hrun
      refine ⟨_, _, upd ρ id ⟨w.heap.size, 0, 0⟩, _, _, hp, .map (l := ⟨w.heap.size, 0, 0⟩) (upd_self _ _ _), ?_, .inl (by simp [hrun]; rfl)⟩
      exact Stp.alloc hr hid (w' := { w with heap := w.heap.push (.map #[] 0) }) rfl rfl rfl rfl (.map (by show (w.heap.push _)[w.heap.size]? = _; simp) .nil)
    unfold opMakeMap at h'
    split at h'
    · exact fin h' (by simp [Instr.makeMap])
    · rename_i x
      split at h'
      · rename_i k n e k' hx hu
        have hi := (ha.eval x hx).int_eq
        exact fin h' (by simp [Instr.makeMap, run_underlying hu, hi, asInt, asIntOf])
      · exact h'.elim
  | makeChan t s => rw [hop] at h; exact h.elim
  | makeSlice t l c =>
    rw [hop] at h
    obtain ⟨lv, cv, hl, hc, h⟩ := at2_holds h
    obtain ⟨v, σ', ρ', v', w', hp, hv, hrun, hst⟩ := makeSlice_run hr hid h (ha.eval l hl) (ha.eval c hc)
    exact ⟨v, σ', ρ', v', w', hp, hv, hst, .inl (by dsimp only; simp [hrun])⟩
  | slice t x lo hi mx =>
    rw [hop] at h
    obtain ⟨xv, hx, h⟩ := at1_holds h
    unfold opSlice at h
    split at h
    · rename_i l hh m h1 h2 h3
      split at h
      · rename_i k e hk
        obtain ⟨v, hv, hp⟩ := keep_holds h
        obtain ⟨v', hrun, hrel⟩ := evalSliceA_run (P := P) hr (arrayE_run hk) hv (ha.eval x hx) (ha.optV h1) (ha.optV h2) (ha.optV h3)
        exact .value hr hp hrel (by dsimp only; simp [hrun])
      · obtain ⟨v, hv, hp⟩ := keep_holds h
        obtain ⟨v', hrun, hrel⟩ := evalSlice_run (P := P) hv (ha.eval x hx) (ha.optV h1) (ha.optV h2) (ha.optV h3) w
        exact .value hr hp hrel (by dsimp only; simp [hrun])
    · exact h.elim
  | fieldAddr s x f =>
    rw [hop] at h
    obtain ⟨xv, hx, h⟩ := at1_holds h
    have hxv := ha.eval x hx
    unfold opFieldAddr at h
    dsimp only
    generalize a'.eval x = x' at hxv ⊢
    split at h
    · cases hxv with
      | ptr hl =>
        rename_i b off l
        split at h
        · rename_i fd hfd
          split at h
          · rename_i n hn
            unfold fieldOf at hfd
            split at hfd
            · rename_i fs hu
              refine .value hr h (v' := .pointer (some ⟨l.c, l.o + (off + fd.offset), none⟩)) (.ptr hl) ?_
              simp [Instr.fieldAt, run_underlying hu, hfd, Instr.sureAddr, fieldPlace, sizeT_run hn, addr_add, Nat.add_assoc]
            · cases hfd
          · exact h.elim
        · exact h.elim
    · cases hxv with
      | eptr hx' hi' =>
        rename_i cs off c o xs
        split at h
        · rename_i fd hfd
          split at h
          · rename_i n hn
            unfold fieldOf at hfd
            split at hfd
            · rename_i fs hu
              refine .value hr h (v' := .pointer (some ⟨c, o + (off + fd.offset), none⟩)) (.eptr hx' hi') ?_
              simp [Instr.fieldAt, run_underlying hu, hfd, Instr.sureAddr, fieldPlace, sizeT_run hn, addr_add, Nat.add_assoc]
            · cases hfd
          · exact h.elim
        · exact h.elim
    · cases hxv with
      | elt hl =>
        rename_i b i esz off l
        split at h
        · rename_i fd hfd
          split at h
          · rename_i n hn
            unfold fieldOf at hfd
            split at hfd
            · rename_i fs hu
              refine .value hr h (v' := .pointer (some ⟨l.c, l.o + (i * esz + (off + fd.offset)), none⟩)) (.elt hl) ?_
              simp [Instr.fieldAt, run_underlying hu, hfd, Instr.sureAddr, fieldPlace, sizeT_run hn, addr_add, Nat.add_assoc]
            · cases hfd
          · exact h.elim
        · exact h.elim
    · exact h.elim
  | field t x f =>
    rw [hop] at h
    obtain ⟨xv, hx, h⟩ := at1_holds h
    have hxv := ha.eval x hx
    unfold opField at h
    dsimp only
    generalize a'.eval x = x' at hxv ⊢
    split at h
    · cases hxv with
      | agg hc =>
        split at h
        · rename_i fd hfd
          obtain ⟨v, hv, hp⟩ := keep_holds h
          obtain ⟨v', hrun, hrel⟩ := partV_run (P := P) hc hv
          unfold fieldOf at hfd
          split at hfd
          · rename_i fs hu
            exact .value hr hp hrel (by simp [Instr.field, run_underlying hu, hfd, asAgg, hrun])
          · cases hfd
        · exact h.elim
    · exact h.elim
  | indexAddr t x ix =>
    rw [hop] at h
    obtain ⟨xv, iv, hx, hi, h⟩ := at2_holds h
    have hxv := ha.eval x hx
    have hiv := ha.eval ix hi
    unfold opIndexAddr at h
    dsimp only
    generalize a'.eval x = x' at hxv ⊢
    generalize a'.eval ix = i' at hiv ⊢
    split at h
    · rename_i b n esz k i
      cases hiv
      unfold opIndexAddrO at h
      split at h
      · rename_i e he
        split at h
        · rename_i sz hsz
          split at h
          · rename_i hc
            obtain ⟨c1, c2, c3, c4⟩ := hc
            subst c3
            cases hxv with
            | own hl hcap hN =>
              rename_i l cap
              refine .value hr h (v' := .pointer (some ⟨l.c, l.o + (i.toNat * sz + 0), none⟩)) (.elt hl) ?_
              simp [Instr.indexAt, asIntOf, run_underlying (sliceE_run he), c1, c2, sizeT_run hsz, addr_add]
          · exact h.elim
        · exact h.elim
      · exact h.elim
    · rename_i n f esz ex nn k i
      cases hiv
      unfold opIndexAddrF at h
      split at h
      · rename_i e he
        split at h
        · rename_i sz hsz
          split at h
          · rename_i hc
            obtain ⟨c1, c2, c3, c4⟩ := hc
            cases hxv with
            | arr _ hxv =>
              obtain ⟨v', hrun, hrel⟩ := indexL_run (P := P) (k := k) hr he hsz c1 (by rw [arrL_length]; exact c2) c3 c4 (arrL_get (f := f) (i := i.toNat) (by omega)) hxv
              exact .value hr h hrel (by simp [hrun])
          · exact h.elim
        · exact h.elim
      · exact h.elim
    · rename_i b off len cap ex esz k i
      cases hiv
      unfold opIndexAddrS at h
      split at h
      · rename_i e he
        split at h
        · rename_i sz hsz
          split at h
          · rename_i hc
            obtain ⟨c1, c2, c3⟩ := hc
            cases hxv with
            | slice hl hex hin hN hn =>
              rename_i l off' cap'
              have ho : off' = l.o + off := by
                cases ex with
                | true => exact (hex rfl).2
                | false => rcases (hin rfl).2 with h | h
                           · exact h
                           · omega
              refine .value hr h (v' := .pointer (some ⟨l.c, l.o + (off + i.toNat * sz), none⟩)) (.ptr hl) ?_
              simp [Instr.indexAt, asIntOf, run_underlying (sliceE_run he), c1, c2, sizeT_run hsz, addr_add, ho, Nat.add_assoc]
          · exact h.elim
        · exact h.elim
      · exact h.elim
    · rename_i es esz ex k i
      cases hiv
      unfold opIndexAddrL at h
      split at h
      · rename_i e he
        split at h
        · rename_i sz hsz
          split at h
          · rename_i hc
            obtain ⟨c1, c2, c3, c4⟩ := hc
            subst c3
            rw [len_eq] at c2
            split at h
            · rename_i u hnth
              rw [nth_eq] at hnth
              cases hxv with
              | lst hu hx' hi' hcap hex =>
                rename_i c off cap xs
                have hdr : flatCells (es.drop i.toNat) = (flatCells es).drop (i.toNat * sz) := flatCells_drop hu _
                have hcons : es.drop i.toNat = u :: es.drop (i.toNat + 1) := by
                  have hlt := (List.getElem?_eq_some_iff.1 hnth)
                  obtain ⟨h1, h2⟩ := hlt
                  rw [List.drop_eq_getElem_cons h1, h2]
                have hul : u.cells.length = sz := hu u (List.mem_of_getElem? hnth)
                have hrel : VsRel ρ u.cells ((xs.drop (i.toNat * sz)).take sz) := by
                  have h1 := (hx'.drop (i.toNat * sz)).take sz
                  rw [← hdr, hcons, flatCells_cons, ← hul, List.take_left'  rfl] at h1
                  rw [← hul]; exact h1
                refine .value hr h (v' := .pointer (some ⟨c, off + i.toNat * sz + 0, none⟩)) (.eptr hrel fun k x hk => ?_) ?_
                · rw [List.getElem?_take] at hk
                  split at hk
                  · rw [List.getElem?_drop] at hk
                    rw [Nat.add_assoc]; exact hi' _ x hk
                  · cases hk
                · simp [Instr.indexAt, asIntOf, run_underlying (sliceE_run he), c1, c2, sizeT_run hsz, addr_add]
              | lstnil => simp at hnth
              | lstzero he => simp at hnth
            · exact h.elim
          · exact h.elim
        · exact h.elim
      · exact h.elim
    · rename_i b off k i
      cases hiv
      unfold opIndexAddrA at h
      split at h
      · rename_i n e he
        split at h
        · rename_i sz hsz
          split at h
          · rename_i hc
            obtain ⟨c1, c2⟩ := hc
            cases hxv with
            | ptr hl =>
              rename_i l
              refine .value hr h (v' := .pointer (some ⟨l.c, l.o + (off + i.toNat * sz), none⟩)) (.ptr hl) ?_
              simp [Instr.indexAt, asIntOf, run_underlying (arrayE_run he), c1, c2, sizeT_run hsz, Instr.sureAddr, addr_add, Nat.add_assoc]
          · exact h.elim
        · exact h.elim
      · exact h.elim
    · exact h.elim
  | index t x ix =>
    rw [hop] at h
    obtain ⟨xv, iv, hx, hi, h⟩ := at2_holds h
    have hxv := ha.eval x hx
    have hiv := ha.eval ix hi
    unfold opIndex at h
    dsimp only
    generalize a'.eval x = x' at hxv ⊢
    generalize a'.eval ix = i' at hiv ⊢
    split at h
    · rename_i s k i
      cases hiv; cases hxv
      unfold opIndexStr at h
      split at h
      · rename_i hu
        split at h
        · rename_i hi0
          split at h
          · rename_i c hc
            rw [nth_eq] at hc
            refine .value hr h (.int _ _) ?_
            have hb : (⟨⟨s⟩⟩ : ByteArray)[i.toNat]? = some c := by
              obtain ⟨hl, he⟩ := List.getElem?_eq_some_iff.1 hc
              rw [getElem?_pos _ _ (by exact hl)]; exact congrArg some he
            simp [Instr.index, asIntOf, run_underlying hu, hi0, hb]
          · exact h.elim
        · exact h.elim
      · exact h.elim
    · rename_i cs k i
      cases hiv
      cases hxv with
      | agg hcs =>
        unfold opIndexArr at h
        split at h
        · rename_i n e he
          split at h
          · rename_i sz hsz
            split at h
            · rename_i hc
              obtain ⟨c1, c2⟩ := hc
              obtain ⟨v, hv, hp⟩ := keep_holds h
              obtain ⟨v', hrun, hrel⟩ := partV_run (P := P) hcs hv
              exact .value hr hp hrel (by simp [Instr.index, asIntOf, run_underlying (arrayE_run he), c1, c2, sizeT_run hsz, hrun])
            · exact h.elim
          · exact h.elim
        · exact h.elim
    · exact h.elim
  | lookup t x k ok =>
    rw [hop] at h
    obtain ⟨xv, kv, hx, hk, h⟩ := at2_holds h
    obtain ⟨v, v', hp, hv, hrun⟩ := lookup_run hr h (ha.eval x hx) (ha.eval k hk)
    exact .value hr hp hv (by dsimp only; simp [hrun])
  | mapUpdate t m k v =>
    rw [hop] at h
    obtain ⟨mv, kv, hm, hk, h⟩ := at2_holds h
    obtain ⟨vv, hv, h⟩ := at1_holds h
    obtain ⟨σ', w', hp, hrun, hst⟩ := mapUpdate_run hr h (ha.eval m hm) (ha.eval k hk) (ha.eval v hv)
    exact ⟨_, _, _, _, _, hp, undef_rel, hst, .inr ⟨rfl, by dsimp only; simp [hrun]⟩⟩
  | mapEntry t m k => rw [hop] at h; exact h.elim
  | entryStore t m s v => rw [hop] at h; exact h.elim
  | range t x =>
    rw [hop] at h
    obtain ⟨xv, hx, h⟩ := at1_holds h
    obtain ⟨v, σ', ρ', v', w', hp, hv, hrun, hst⟩ := range_run hr hid h (ha.eval x hx)
    exact ⟨v, σ', ρ', v', w', hp, hv, hst, .inl (by dsimp only; simp [hrun])⟩
  | next it s =>
    rw [hop] at h
    obtain ⟨xv, hx, h⟩ := at1_holds h
    obtain ⟨v, σ', v', w', hp, hv, hrun, hst⟩ := next_run (P := P) (ty := o.type) (id := id) hr h (ha.eval it hx)
    exact ⟨v, σ', ρ, v', w', hp, hv, hst, .inl (by dsimp only; simp [hrun])⟩
  | entry it =>
    rw [hop] at h
    obtain ⟨xv, hx, h⟩ := at1_holds h
    obtain ⟨v, hv, hp⟩ := keep_holds h
    obtain ⟨v', hrun, hrel⟩ := entry_run (P := P) hr hv (ha.eval it hx)
    exact .value hr hp hrel (by dsimp only; simp [hrun])
  | typeAssert x xt t ok =>
    rw [hop] at h
    obtain ⟨xv, hx, h⟩ := at1_holds h
    obtain ⟨v, hv, hp⟩ := keep_holds h
    obtain ⟨v', hrun, hrel⟩ := assert_run (P := P) (xt := xt) hv (ha.eval x hx) w
    exact .value hr hp hrel (by dsimp only; simp [hrun])
  | extract x i =>
    rw [hop] at h
    obtain ⟨xv, hx, h⟩ := at1_holds h
    have hxv := ha.eval x hx
    unfold opExtract at h
    dsimp only
    generalize a'.eval x = x' at hxv ⊢
    split at h
    · cases hxv with
      | tuple hvs =>
        obtain ⟨v, hv, hp⟩ := keep_holds h
        rw [nth_eq] at hv
        obtain ⟨v', hv', hrel⟩ := hvs.get i hv
        exact .value hr hp hrel (by simp [Instr.extract, hv'])
    · exact h.elim
  | call c => exact absurd hop (hnc c)
  | go c => rw [hop] at h; exact h.elim
  | defer c => rw [hop] at h; exact h.elim
  | panic x => rw [hop] at h; exact h.elim
  | send c x => rw [hop] at h; exact h.elim
  | recv t c ok => rw [hop] at h; exact h.elim
  | select cs b => rw [hop] at h; exact h.elim

end
end Go.Ev
