/- Each operation of the evaluator, fourth part: copy, conversions, maps. -/
import Derived.Test.YtbajncpfmemdgaaGreatDoorEvOpsC
import Derived.Laws.BytesString
namespace Go.Ev
open Go
section
variable {P : Program} {ρ : Ren} {σ : St} {w : World} {id : Nat} {p : V × St → Prop}

theorem lenV_run [Env] {x : V} {n : Nat} (h : lenV x = some n) {x' : Value} (hx : VRel ρ x x') (w : World) : (Builtin.lenOf x').run P w = .ok n w := by
  unfold lenV at h
  split at h
  · cases h; cases hx; rfl
  · cases h; cases hx; rfl
  · cases h; cases hx; rw [len_eq]; rfl
  · cases h; rw [len_eq]; cases hx <;> rfl
  · cases h

theorem firstOf_run [Env] (hr : R ρ σ w) {x : V} {n sz : Nat} {l : List V} (h : firstOf σ x n sz = some l) {x' : Value} (hx : VRel ρ x x') (hn : ∃ m, lenV x = some m ∧ n ≤ m) :
    ∃ l' : List Value, (Builtin.firstCells sz n x').run P w = .ok ⟨l'⟩ w ∧ VsRel ρ l l' := by
  unfold firstOf at h
  split at h
  · split at h
    · rename_i hn0
      cases h; cases hx
      exact ⟨[], by simp [Builtin.firstCells], .nil⟩
    · cases h
  · rename_i b off m cap ex esz
    cases hx with
    | slice hl hex hin hN hnc =>
      rename_i l₀ off' cap'
      obtain ⟨k, hk, hnk⟩ := hn
      cases hk
      by_cases hz : off' = l₀.o + off
      · subst hz
        obtain ⟨xs, hrun, hrel, _⟩ := hr.loadCells (P := P) h hl
        exact ⟨xs, by simpa [Builtin.firstCells] using hrun w rfl, hrel⟩
      · have hzero : m = 0 := by
          cases ex with
          | true => exact absurd (hex rfl).2 hz
          | false =>
            rcases (hin rfl).2 with h' | h'
            · exact absurd h' hz
            · exact h'.1
        have : n = 0 := by omega
        subst this
        rw [Nat.zero_mul] at h
        unfold St.cells at h
        split at h
        · have h' : some ([] : List V) = some _ := h
          cases h'
          exact ⟨[], by simp [Builtin.firstCells, loadCells, loadCellsFrom], .nil⟩
        · cases h
  · split at h
    · rename_i hs
      cases h; cases hx
      subst hs
      rename_i l
      rw [mapOf_eq, takeOf_eq]
      refine ⟨_, ?_, VsRel.bytes _⟩
      have : ((⟨⟨l⟩⟩ : ByteArray).extract 0 n) = ⟨⟨l.take n⟩⟩ := by rw [Lib.extract_eq]; simp
      simp only [Builtin.firstCells, this, Sem.run_pure]
      simp
    · cases h
  · split at h
    · rename_i hs
      obtain ⟨hs, hn'⟩ := hs
      cases h
      subst hs
      rw [len_eq] at hn'
      rw [takeOf_eq]
      cases hx with
      | lst hu hx hi hc he =>
        rename_i c off cap xs
        have hl := flatCells_length hu
        have hxl := hx.length
        have hlen : (xs.take (n * sz)).length = n * sz := by
          rw [List.length_take, ← hxl, hl]
          exact Nat.min_eq_left (Nat.mul_le_mul_right sz hn')
        refine ⟨xs.take (n * sz), ?_, hx.take _⟩
        have := hr.loadImm (P := P) (c := c) (o := off) (xs := xs.take (n * sz)) (fun k x hk => by
          rw [List.getElem?_take] at hk
          split at hk
          · exact hi k x hk
          · cases hk) w rfl
        rw [hlen] at this
        simpa [Builtin.firstCells] using this
      | lstnil =>
        have hn0 : n = 0 := by simpa using hn'
        subst hn0
        exact ⟨[], by simp [Builtin.firstCells], by simp [flatCells]; exact .nil⟩
      | lstzero he =>
        have hn0 : n = 0 := by simpa using hn'
        subst hn0
        exact ⟨[], by simp [Builtin.firstCells, loadCells, loadCellsFrom], by simp [flatCells]; exact .nil⟩
    · cases h
  · cases h

theorem copy_run [Env] (hr : R ρ σ w) {tys : Array TypeId} {ty t : TypeId} (ht : tys[0]? = some t) {d x v : V} {σ' : St} (h : evalCopy P σ t d x = some (v, σ')) {d' x' : Value} (hd : VRel ρ d d') (hx : VRel ρ x x') :
    ∃ v' w', (Builtin.copy_ tys ty #[d', x']).run P w = .ok v' w' ∧ VRel ρ v v' ∧ Stp (fun b => b = id) ρ σ w ρ σ' w' := by
  unfold evalCopy at h
  split at h
  · rename_i e hu
    split at h
    · rename_i sz n m hsz hn hm
      split at h
      · cases h
      · split at h
        · cases h
        · rename_i l hl
          obtain ⟨l', hrun, hrel⟩ := firstOf_run (P := P) hr hl hx ⟨n, hn, Nat.min_le_left _ _⟩
          have hlx := lenV_run (P := P) hn hx w
          have hg0 : (#[d', x'] : Array Value)[0]? = some d' := rfl
          have hg1 : (#[d', x'] : Array Value)[1]? = some x' := rfl
          unfold copyTo at h
          split at h
          · cases h; cases hd
            cases hm
            refine ⟨_, w, ?_, .int _ _, Stp.refl hr⟩
            simp only [Builtin.copy_, ht, hg0, hg1, Sem.run_bind, run_underlying hu, Result.andThen_ok, hlx, sizeT_run hsz]
            rw [show Nat.min n 0 = min n 0 from rfl, hrun]
            rfl
          · rename_i b off k cap ex esz
            split at h
            case h_2 => cases h
            rename_i hcond
            rw [Option.map_eq_some_iff] at h
            obtain ⟨σ₁, hst, he⟩ := h
            cases he
            cases hm
            cases hd with
            | slice hl₀ hex hin hN hnc =>
              rename_i l₀ off' cap'
              obtain ⟨w', hsr, hstp⟩ := hr.store (P := P) (ids := fun b => b = id) hst hl₀ hrel
              refine ⟨_, w', ?_, .int _ _, hstp⟩
              have hz : off' = l₀.o + off := by
                cases ex with
                | true => exact (hex rfl).2
                | false =>
                  rcases (hin rfl).2 with h' | ⟨_, h'⟩
                  · exact h'
                  · subst h'; simp at hcond
              subst hz
              simp only [Builtin.copy_, ht, hg0, hg1, Sem.run_bind, run_underlying hu, Result.andThen_ok, hlx, sizeT_run hsz]
              rw [show Nat.min n m = min n m from rfl, hrun]
              simp only [Result.andThen_ok, hsr]
              rfl
          · cases h
    · cases h
  · cases h


theorem len_run [Env] (hr : R ρ σ w) {tys : Array TypeId} {ty t : TypeId} (ht : tys[0]? = some t) {x v : V} (h : evalLen P σ t x = some v) {x' : Value} (hx : VRel ρ x x') :
    ∃ v', (Builtin.len_ tys ty #[x']).run P w = .ok v' w ∧ VRel ρ v v' := by
  have hg0 : (#[x'] : Array Value)[0]? = some x' := rfl
  unfold evalLen at h
  split at h
  · rename_i hu
    split at h
    · cases h; cases hx
      rw [len_eq]
      exact ⟨_, by simp only [Builtin.len_, ht, hg0, Sem.run_bind, run_underlying hu, Result.andThen_ok]; rfl, .int _ _⟩
    · cases h
  · rename_i n e hu
    cases h
    exact ⟨_, by simp only [Builtin.len_, ht, hg0, Sem.run_bind, run_underlying hu, Result.andThen_ok]; rfl, .int _ _⟩
  · rename_i hu
    split at h
    · cases h; cases hx
      exact ⟨_, by simp only [Builtin.len_, ht, hg0, Sem.run_bind, run_underlying hu, Result.andThen_ok]; rfl, .int _ _⟩
    · cases h; cases hx
      exact ⟨_, by simp only [Builtin.len_, ht, hg0, Sem.run_bind, run_underlying hu, Result.andThen_ok]; rfl, .int _ _⟩
    · cases h
      rw [len_eq]
      cases hx <;> exact ⟨_, by simp only [Builtin.len_, ht, hg0, Sem.run_bind, run_underlying hu, Result.andThen_ok]; rfl, .int _ _⟩
    · rename_i n f esz ex nn
      cases h
      cases hx with
      | arr _ hx =>
        obtain ⟨a, cap, rfl⟩ := hx.lst_len rfl
        refine ⟨.int .i64 (arrL n f).length, by simp only [Builtin.len_, ht, hg0, Sem.run_bind, run_underlying hu, Result.andThen_ok]; rfl, ?_⟩
        rw [arrL_length]; exact .int _ _
    · cases h; cases hx
      exact ⟨_, by simp only [Builtin.len_, ht, hg0, Sem.run_bind, run_underlying hu, Result.andThen_ok]; rfl, .int _ _⟩
    · cases h
  · rename_i hu
    unfold lenMap at h
    split at h
    · cases h; cases hx
      exact ⟨_, by simp only [Builtin.len_, ht, hg0, Sem.run_bind, run_underlying hu, Result.andThen_ok]; rfl, .int _ _⟩
    · rename_i r
      split at h
      · rename_i es clock hb
        cases h; cases hx with
        | map hl =>
          obtain ⟨l, hl', hk⟩ := hr.blk _ _ hb
          rw [hl] at hl'; cases hl'
          cases hk with
          | map hm he =>
            rename_i es'
            have hlen : es.length = es'.size := by
              have : ∀ (l : List (V × V × Nat)) (l' : List MapEntry), EntsRel ρ l l' → l.length = l'.length := by
                intro l
                induction l with
                | nil => intro l' h; cases h; rfl
                | cons a l ih => intro l' h; cases h with | cons _ h => simp [ih _ h]
              simpa using this _ _ he
            rw [len_eq, hlen]
            refine ⟨.int .i64 es'.size, ?_, .int _ _⟩
            simp only [Builtin.len_, ht, hg0, Sem.run_bind, run_underlying hu, Result.andThen_ok, getObj, Sem.run, hm]
            rfl
      · cases h
    · cases h
  · cases h

/-! ### Conversions -/
theorem bytesOfV_run [Env] : ∀ {l : List V} {s : List UInt8} {l' : List Value}, bytesOfV l = some s → VsRel ρ l l' → ∃ ns : List Int, l' = ns.map (Value.int .u8) ∧ s = ns.map fun n => UInt8.ofNat n.toNat := by
  intro l
  induction l with
  | nil =>
    intro s l' h hl
    cases hl
    simp only [bytesOfV, Option.some.injEq] at h
    subst h
    exact ⟨[], rfl, rfl⟩
  | cons v l ih =>
    intro s l' h hl
    cases hl with
    | cons hv hl =>
      cases v with
      | int k n =>
        cases k <;> first
          | (simp [bytesOfV] at h; done)
          | (simp only [bytesOfV, Option.map_eq_some_iff] at h
             obtain ⟨s', hs', rfl⟩ := h
             obtain ⟨ns, rfl, rfl⟩ := ih hs' hl
             cases hv
             exact ⟨n :: ns, rfl, rfl⟩)
      | _ => simp [bytesOfV] at h

theorem foldl_bytes : ∀ (ns : List Int) (acc : ByteArray), ns.foldl (fun (r : ByteArray) n => r.push (UInt8.ofNat n.toNat)) acc = acc ++ ⟨⟨ns.map fun n => UInt8.ofNat n.toNat⟩⟩ := by
  intro ns
  induction ns with
  | nil => intro acc; apply ByteArray.ext; simp
  | cons n ns ih =>
    intro acc
    rw [List.foldl_cons, ih]
    apply ByteArray.ext
    simp [ByteArray.data_push, ByteArray.data_append]

theorem conv_run [Env] (hr : R ρ σ w) (hid : ρ id = none) {src dst : TypeId} {x v : V} {σ' : St} (h : evalConv P σ id src dst x = some (v, σ')) {x' : Value} (hx : VRel ρ x x') :
    ∃ ρ' v' w', (convert src dst x').run P w = .ok v' w' ∧ VRel ρ' v v' ∧ Stp (fun b => b = id) ρ σ w ρ' σ' w' := by
  unfold evalConv at h
  split at h
  · rename_i k k' k'' n hs hd
    cases h; cases hx
    exact ⟨ρ, _, w, by simp only [convert, Sem.run_bind, run_underlying hs, run_underlying hd, Result.andThen_ok]; rfl, .int _ _, Stp.refl hr⟩
  · rename_i k k' k'' n hs hd
    cases h; cases hx
    exact ⟨ρ, _, w, by simp only [convert, Sem.run_bind, run_underlying hs, run_underlying hd, Result.andThen_ok]; rfl, .flt _ _, Stp.refl hr⟩
  · rename_i hs hd
    split at h
    · rename_i n hn
      split at h
      · rename_i hin
        cases h; cases hx
        exact ⟨ρ, _, w, by simp only [convert, Sem.run_bind, run_underlying hs, run_underlying hd, Result.andThen_ok, Conv.floatToInt, hn, if_pos hin]; rfl, .int _ _, Stp.refl hr⟩
      · cases h
    · cases h
  · rename_i s hs hd
    cases h; cases hx
    exact ⟨ρ, _, w, by simp only [convert, Sem.run_bind, run_underlying hs, run_underlying hd, Result.andThen_ok]; rfl, .str _, Stp.refl hr⟩
  · rename_i e s hs hd
    split at h
    · rename_i he
      split at h
      · rename_i hc
        cases h; cases hx
        obtain ⟨hsz, hby, hle⟩ := hc
        rw [len_eq]
        obtain ⟨cap, hcap⟩ : ∃ cap, cap = (Question.appendCap s.length 0 e).cut (w.tape w.drawn (.appendCap s.length 0 e)) := ⟨_, rfl⟩
        have hsc : s.length ≤ cap := by rw [hcap]; simp [Question.cut]
        let C : Array Value := (s.map fun c => Value.int .u8 c.toNat).toArray ++ Array.replicate (cap - s.length) (.int .u8 0)
        have hC : C.size = cap := by simp [C]; omega
        let w' : World := { w with drawn := w.drawn + 1, heap := w.heap.push (.cells C e (cap, cap + 1)) }
        have hat : w'.heap[w.heap.size]? = some (.cells C e (cap, cap + 1)) := by show (w.heap.push _)[w.heap.size]? = _; simp
        refine ⟨upd ρ id ⟨w.heap.size, 0, cap⟩, .slice (some ⟨w.heap.size, 0, none⟩) s.length cap, w', ?_, ?_, ?_⟩
        · have hforced : (Question.appendCap s.length 0 e).forced = false := rfl
          have hmap : (⟨⟨s⟩⟩ : ByteArray).data.map (fun b => Value.int .u8 (b.toNat : Int)) ++ Array.replicate (cap - s.length) (.int .u8 0) = C := by
            simp [C]
          simp only [convert, Sem.run_bind, run_underlying hs, run_underlying hd, run_underlying he, Result.andThen_ok, Conv.stringToBytes, bytes_size, run_choose, hforced, Bool.false_eq_true, if_false, ← hcap, Go.newRow, run_newObj, hmap, Sem.run_pure, markStringish, run_shape]
          have hsh : World.shape? { heap := w.heap.push (.cells C e), tape := w.tape, drawn := w.drawn + 1, os := w.os, output := w.output } w.heap.size = some (e, C.size) := by simp [World.shape?]
          rw [hsh]
          simp only [run_freeze, Result.andThen_ok, World.freeze, hC]
          congr 1
          simp only [Nat.one_ne_zero, if_false, w']
          congr 1
          apply Array.ext_getElem?
          intro j
          rw [Array.getElem?_modify]
          by_cases hj : w.heap.size = j
          · subst hj; simp
          · rw [if_neg hj, Array.getElem?_push, Array.getElem?_push]
            by_cases hj' : j = w.heap.size
            · exact absurd hj'.symm hj
            · rw [if_neg hj', if_neg hj']
        · exact .own (l := ⟨w.heap.size, 0, cap⟩) (upd_self _ _ _) hsc (by simp)
        · refine Stp.alloc hr hid (w' := w') rfl rfl rfl rfl (.row ⟨e, ?_⟩ (by simpa using hsc) (fun i _ => rfl) (fun i hi k v hk => ?_) (fun i hi => ?_) (by simp))
          · unfold World.shape?; rw [hat]; simp only [hC]
          · have hk0 : k = 0 ∧ byteF s i = v := by
              cases k with
              | zero => exact ⟨rfl, by simpa [V.cells, byteF] using hk⟩
              | succ k => simp [V.cells, byteF] at hk
            obtain ⟨rfl, rfl⟩ := hk0
            refine ⟨.int .u8 (s[i]'hi).toNat, ?_, ?_⟩
            · simp only [World.cell?, hat, Option.isSome_none, Bool.false_eq_true, if_false]
              show ((s.map fun c => Value.int .u8 c.toNat).toArray ++ _)[0 + (i * 1 + 0)]? = _
              rw [show 0 + (i * 1 + 0) = i by omega, Array.getElem?_append_left (by simpa using hi)]
              simp [List.getElem?_eq_getElem hi]
            · unfold byteF byteN
              rw [nth_eq, List.getElem?_eq_getElem hi]
              exact .int _ _
          · simp only [World.frozen?, hat]
            have : i < cap := hi
            simp; omega
      · cases h
    · cases h
  · rename_i e hs hd
    split at h
    · rename_i he
      cases h; cases hx
      exact ⟨ρ, _, w, by simp only [convert, Sem.run_bind, run_underlying hs, run_underlying hd, Result.andThen_ok, run_underlying he]; rfl, .str _, Stp.refl hr⟩
    · cases h
  · rename_i e b off n cap ex esz hs hd
    split at h
    · rename_i he
      split at h
      · rename_i l hl
        rw [Option.map_eq_some_iff] at h
        obtain ⟨s, hs', he'⟩ := h
        cases he'
        cases hx with
        | slice hl₀ hex hin hN hnc =>
          rename_i l₀ off' cap'
          have hload : ∃ xs : List Value, (loadCells ⟨l₀.c, off', none⟩ n).run P w = .ok ⟨xs⟩ w ∧ VsRel ρ l xs := by
            by_cases hz : off' = l₀.o + off
            · subst hz
              obtain ⟨xs, hrun, hrel, _⟩ := hr.loadCells (P := P) hl hl₀
              exact ⟨xs, hrun w rfl, hrel⟩
            · have hzero : n = 0 := by
                cases ex with
                | true => exact absurd (hex rfl).2 hz
                | false =>
                  rcases (hin rfl).2 with h' | h'
                  · exact absurd h' hz
                  · exact h'.1
              subst hzero
              unfold St.cells at hl
              split at hl
              · have h' : some ([] : List V) = some _ := hl
                cases h'
                exact ⟨[], rfl, .nil⟩
              · cases hl
          obtain ⟨xs, hrun, hrel⟩ := hload
          obtain ⟨ns, rfl, rfl⟩ := bytesOfV_run hs' hrel
          refine ⟨ρ, .string ⟨⟨ns.map fun n => UInt8.ofNat n.toNat⟩⟩, w, ?_, .str _, Stp.refl hr⟩
          rw [run_convert_bytes_string w src dst e _ _ _ hs he hd, run_bytesToString w _ _ _ ns (by simpa using hrun), foldl_bytes]
          congr 2
      · cases h
    · cases h
  · rename_i e es esz ex hs hd
    split at h
    · rename_i he
      split at h
      · rename_i h1
        have h1 := Nat.eq_of_beq_eq_true h1
        rw [Option.map_eq_some_iff] at h
        obtain ⟨s, hs', he'⟩ := h
        cases he'
        have fin : ∀ (a : Option Addr) (n cap : Nat) (xs : List Value), (a = none → n = 0) → x' = .slice a n cap → (∀ a', a = some a' → (loadCells a' n).run P w = .ok ⟨xs⟩ w) → (a = none → xs = []) → VsRel ρ (flatCells es) xs →
            ∃ ρ' v' w', (convert src dst x').run P w = .ok v' w' ∧ VRel ρ' (.str s) v' ∧ Stp (fun b => b = id) ρ σ w ρ' σ w' := by
          rintro a n cap xs hn rfl hload hnone hrel
          obtain ⟨ns, rfl, rfl⟩ := bytesOfV_run hs' hrel
          cases a with
          | none =>
            have hns : ns = [] := by simpa using hnone rfl
            subst hns
            have := hn rfl
            subst this
            exact ⟨ρ, _, w, by simp only [convert, Sem.run_bind, run_underlying hs, run_underlying hd, Result.andThen_ok, run_underlying he]; rfl, .str _, Stp.refl hr⟩
          | some a =>
            refine ⟨ρ, .string ⟨⟨ns.map fun n => UInt8.ofNat n.toNat⟩⟩, w, ?_, .str _, Stp.refl hr⟩
            rw [run_convert_bytes_string w src dst e _ _ _ hs he hd, run_bytesToString w _ _ _ ns (by simpa using hload a rfl), foldl_bytes]
            congr 2
        cases hx with
        | lst hu hx hi hc hex =>
          rename_i c off cap xs
          have hl : (flatCells _).length = _ := flatCells_length hu
          have hxl := hx.length
          refine fin _ _ _ xs (fun h => by cases h) rfl (fun a' ha => ?_) (fun h => by cases h) hx
          cases ha
          have := hr.loadImm (P := P) hi w rfl
          rw [← hxl, hl, h1, Nat.mul_one] at this
          exact this
        | lstnil => exact fin _ _ _ [] (fun _ => rfl) rfl (fun _ h => by cases h) (fun _ => rfl) .nil
        | lstzero hex => exact fin _ _ _ [] (fun _ => rfl) rfl (fun a' ha => by simp [loadCells, loadCellsFrom]) (fun _ => rfl) .nil
      · cases h
    · cases h
  · rename_i e b n esz hs hd
    split at h
    · rename_i he
      split at h
      · rename_i n' f z p hb
        split at h
        · rename_i hc
          obtain ⟨rfl, rfl⟩ := hc
          rw [Option.map_eq_some_iff] at h
          obtain ⟨s, hs', he'⟩ := h
          cases he'
          let σc := σ.set b (.cells (n' * 1) [] (putAll (flatCells (arrL n' f)) .leaf 0) p false)
          have hget : ∀ b', σc.heap.get b' = if b' = b then some (.cells (n' * 1) [] (putAll (flatCells (arrL n' f)) .leaf 0) p false) else σ.heap.get b' := fun b' => by
            show (σ.set b _).heap.get b' = _
            rw [set_heap, Trie.get_put]
          have hst := Stp.toCells (σ' := σc) (Stp.refl (ids := fun b => b = id) hr) hb hget (by show (σ.set b _).next = _; rw [set_next])
          obtain ⟨l, hl, hok⟩ := hr.blk _ _ hb
          have hu : ∀ i, i < n' → (f i).cells.length = 1 := by cases hok with | row hs hn hu => exact hu
          have hcl : (flatCells (arrL n' f)).length = n' := by rw [flatCells_length (arrL_cells hu), arrL_length, Nat.mul_one]
          have hcells : σc.cells b 0 n' = some (flatCells (arrL n' f)) := by
            unfold St.cells
            rw [hget, if_pos rfl]
            show cellsOf (n' * 1) [] (putAll (flatCells (arrL n' f)) .leaf 0) n' 0 = _
            have := cellsOf_putAll (flatCells (arrL n' f))
            rw [hcl] at this
            rw [Nat.mul_one]; exact this
          cases hx with
          | own hl' hcap hN =>
            rename_i l' cap
            obtain ⟨xs, hrun, hrel, _⟩ := hst.r.loadCells (P := P) hcells hl'
            obtain ⟨ns, rfl, rfl⟩ := bytesOfV_run hs' hrel
            refine ⟨ρ, .string ⟨⟨ns.map fun n => UInt8.ofNat n.toNat⟩⟩, w, ?_, .str _, Stp.refl hr⟩
            rw [run_convert_bytes_string w src dst e _ _ _ hs he hd, run_bytesToString w _ _ _ ns (by simpa using hrun w rfl), foldl_bytes]
            congr 2
        · cases h
      · cases h
    · cases h
  · cases h

end
end Go.Ev
