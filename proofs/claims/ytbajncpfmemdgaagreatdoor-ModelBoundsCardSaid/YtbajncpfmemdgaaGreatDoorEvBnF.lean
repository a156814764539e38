/- What the functions' segments come to: second part. -/
import Derived.Test.YtbajncpfmemdgaaGreatDoorEvBnE
import Derived.Test.YtbajncpfmemdgaaGreatDoorEvFrame
namespace Go.Proofs.YtbajncpfmemdgaaGreatDoor
open Go Go.Ev

/-- A row has just these bytes. -/
def Rep (n : Nat) (f : Nat → V) (L : List UInt8) : Prop := n = L.length ∧ ∀ i, i < n → (f i).cells = [V.int .u8 (byteN L i)]
theorem byteN_get {L : List UInt8} {i : Nat} (h : i < L.length) : byteN L i = (L[i] : UInt8).toNat := by
  unfold byteN
  rw [nth_eq, List.getElem?_eq_getElem h]
theorem bytesOf_map : ∀ L : List UInt8, bytesOfV (L.map fun c => V.int .u8 c.toNat) = some L
  | [] => rfl
  | c :: L => by
    show (bytesOfV (L.map fun c => V.int .u8 c.toNat)).map _ = _
    rw [bytesOf_map L]
    show some (UInt8.ofNat ((c.toNat : Nat) : Int).toNat :: L) = _
    rw [Int.toNat_natCast, UInt8.ofNat_toNat]
theorem flatCells_map : ∀ (es : List V) (us : List V), es.length = us.length → (∀ (i : Nat) (v u : V), es[i]? = some v → us[i]? = some u → v.cells = [u]) → flatCells es = us
  | [], [], _, _ => rfl
  | v :: es, u :: us, hl, h => by
    rw [flatCells_cons, h 0 v u rfl rfl, flatCells_map es us (by simpa using hl) fun i a b ha hb => h (i + 1) a b ha hb]
    rfl
theorem Rep.cells {n : Nat} {f : Nat → V} {L : List UInt8} (h : Rep n f L) : flatCells (arrL n f) = L.map fun c => V.int .u8 c.toNat := by
  refine flatCells_map _ _ (by rw [arrL_length, List.length_map]; exact h.1) fun i v u hv hu => ?_
  have hi : i < n := by
    have := (List.getElem?_eq_some_iff.1 hv).1
    rwa [arrL_length] at this
  rw [arrL_get hi] at hv
  cases hv
  rw [h.2 i hi]
  have hL : i < L.length := by rw [← h.1]; exact hi
  rw [List.getElem?_map, List.getElem?_eq_getElem hL] at hu
  cases hu
  rw [byteN_get hL]
theorem Rep.bytes {n : Nat} {f : Nat → V} {L : List UInt8} (h : Rep n f L) : bytesOfV (flatCells (arrL n f)) = some L := by rw [h.cells, bytesOf_map]
/-- The byte of a number. -/
def byteOf (x : Int) : UInt8 := UInt8.ofNat x.toNat
theorem byteOf_eq {x : Int} (h0 : 0 ≤ x) (h1 : x < 256) : ((byteOf x).toNat : Int) = x := by
  unfold byteOf
  rw [UInt8.toNat_ofNat']
  omega
theorem Rep.snoc {n : Nat} {f : Nat → V} {L : List UInt8} (h : Rep n f L) {g : Nat → V} {x : Int} (h0 : 0 ≤ x) (h1 : x < 256) (hg : (g 0).cells = [V.int .u8 x]) : Rep (n + 1) (catF n f g) (L ++ [byteOf x]) := by
  refine ⟨by rw [List.length_append, h.1]; rfl, fun i hi => ?_⟩
  have e : catF n f g i = Bool.rec (g (i - n)) (f i) (Nat.blt i n) := rfl
  rw [e]
  have hb : Nat.blt i n = decide (i < n) := by
    by_cases hin : i < n
    · rw [decide_eq_true hin]; exact Nat.ble_eq_true_of_le hin
    · rw [decide_eq_false hin]
      cases hbb : Nat.blt i n with
      | false => rfl
      | true => exact absurd (Nat.le_of_ble_eq_true hbb) hin
  rw [hb]
  have hl : i < (L ++ [byteOf x]).length := by rw [List.length_append]; show i < L.length + 1; rw [← h.1]; exact hi
  rw [byteN_get hl]
  by_cases hin : i < n
  · rw [decide_eq_true hin]
    have hL : i < L.length := by rw [← h.1]; exact hin
    rw [show (Bool.rec (g (i - n)) (f i) true : V) = f i from rfl, h.2 i hin, byteN_get hL, List.getElem_append_left hL]
  · rw [decide_eq_false hin]
    have ei : i = n := by omega
    subst ei
    rw [show (Bool.rec (g (i - i)) (f i) false : V) = g (i - i) from rfl, Nat.sub_self, hg]
    have : (L ++ [byteOf x])[i]'hl = byteOf x := by
      rw [List.getElem_append_right (by rw [h.1]; exact Nat.le_refl _)]
      simp
    rw [this, byteOf_eq h0 h1]
theorem Rep.one {g : Nat → V} {x : Int} (h0 : 0 ≤ x) (h1 : x < 256) (hg : (g 0).cells = [V.int .u8 x]) : Rep 1 g [byteOf x] :=
  ⟨rfl, fun i hi => by
    obtain rfl : i = 0 := by omega
    rw [hg, byteN_get (by simp)]
    show _ = [V.int .u8 ((byteOf x).toNat : Int)]
    rw [byteOf_eq h0 h1]⟩
theorem catF_eq (n : Nat) (f g : Nat → V) (j : Nat) : catF n f g j = if j < n then f j else g (j - n) := by
  have e : catF n f g j = Bool.rec (g (j - n)) (f j) (Nat.blt j n) := rfl
  rw [e]
  by_cases h : j < n
  · rw [if_pos h, show Nat.blt j n = true from Nat.ble_eq_true_of_le h]
  · rw [if_neg h]
    have : Nat.blt j n = false := by
      cases hb : Nat.blt j n with
      | false => rfl
      | true => exact absurd (Nat.le_of_ble_eq_true hb) h
    rw [this]
theorem byteN_left {L M : List UInt8} {i : Nat} (h : i < L.length) : byteN (L ++ M) i = byteN L i := by
  rw [byteN_get (by rw [List.length_append]; omega), byteN_get h, List.getElem_append_left h]
theorem byteN_right {L M : List UInt8} {i : Nat} (h : L.length ≤ i) (h2 : i < L.length + M.length) : byteN (L ++ M) i = byteN M (i - L.length) := by
  rw [byteN_get (by rw [List.length_append]; omega), byteN_get (by omega), List.getElem_append_right h]
theorem Rep.append {n m : Nat} {f g : Nat → V} {L M : List UInt8} (h : Rep n f L) (k : Rep m g M) : Rep (n + m) (catF n f g) (L ++ M) := by
  refine ⟨by rw [List.length_append, h.1, k.1], fun i hi => ?_⟩
  have hl := h.1
  have km := k.1
  rw [catF_eq]
  by_cases hin : i < n
  · rw [if_pos hin, h.2 i hin, byteN_left (by omega)]
  · rw [if_neg hin, k.2 (i - n) (by omega), byteN_right (by omega) (by omega), ← hl]
theorem Rep.lst1 {v : V} {x : Int} (h0 : 0 ≤ x) (h1 : x < 256) (hv : v.cells = [V.int .u8 x]) : Rep 1 (lstF [v]) [byteOf x] := .one h0 h1 hv
theorem Rep.lst2 {v u : V} {x y : Int} (h0 : 0 ≤ x) (h1 : x < 256) (k0 : 0 ≤ y) (k1 : y < 256) (hv : v.cells = [V.int .u8 x]) (hu : u.cells = [V.int .u8 y]) : Rep 2 (lstF [v, u]) ([byteOf x] ++ [byteOf y]) :=
  ⟨rfl, fun i hi => by
    rcases (by omega : i = 0 ∨ i = 1) with rfl | rfl
    · show v.cells = [V.int .u8 ((byteOf x).toNat : Int)]
      rw [hv, byteOf_eq h0 h1]
    · show u.cells = [V.int .u8 ((byteOf y).toNat : Int)]
      rw [hu, byteOf_eq k0 k1]⟩
theorem u8_range (x : Int) : 0 ≤ IntKind.u8.wrap x ∧ IntKind.u8.wrap x < 256 := by
  have : IntKind.u8.wrap x = x % 256 := rfl
  omega
end Go.Proofs.YtbajncpfmemdgaaGreatDoor
namespace Go.Proofs.YtbajncpfmemdgaaGreatDoor
open Go Go.Ev
/-- A byte of a number; the first j of its eight. -/
def octI (x : Int) (m : Nat) : Int := IntKind.u8.wrap (x.fdiv (2 ^ m))
def eightP (x : Int) : Nat → List UInt8
  | 0 => []
  | j + 1 => eightP x j ++ [byteOf (octI x (56 - 8 * j))]
/-- A text with its zeros told. -/
noncomputable def escP (s : List UInt8) : Nat → List UInt8
  | 0 => []
  | n + 1 => escP s n ++ [byteOf (byteN s n)] ++ (if byteN s n = 0 then [byteOf 255] else [])
noncomputable def escL (s : List UInt8) : List UInt8 := escP s s.length ++ [byteOf 0] ++ [byteOf 0]
/-- Reals, whole numbers in the order of their bytes. -/
def keyI (x : Int) : Int := if canonI x < 9223372036854775808 then IntKind.u64.wrap (BitVec.ofInt IntKind.u64.bits (canonI x) ||| BitVec.ofInt IntKind.u64.bits (9223372036854775808 : Int)).toNat
  else IntKind.u64.wrap (BitVec.ofInt IntKind.u64.bits (if IntKind.u64.signed then -1 else IntKind.u64.max) ^^^ BitVec.ofInt IntKind.u64.bits (canonI x)).toNat
def intI (n : Int) : Int := IntKind.u64.wrap (BitVec.ofInt IntKind.u64.bits (IntKind.u64.wrap n) ^^^ BitVec.ofInt IntKind.u64.bits (9223372036854775808 : Int)).toNat
/-- A value's bytes; a row's. -/
noncomputable def valB (v : T46) : List UInt8 :=
  [byteOf (IntKind.u8.wrap v.f0)] ++ (if v.f0 = 1 then [byteOf (IntKind.u8.wrap v.f1)] else if v.f0 = 2 then eightP (intI v.f1) 8 else if v.f0 = 3 then eightP (keyI v.f2) 8 else if v.f0 = 4 ∨ v.f0 = 5 then escL v.f3 else [])
noncomputable def rowE (q : Nat → T46) (n : Nat) : Int := firstE (fun i => valErr (q i)) n
noncomputable def rowB (q : Nat → T46) : Nat → List UInt8
  | 0 => []
  | n + 1 => rowB q n ++ valB (q n)
noncomputable def rowS (q : Nat → T46) (n : Nat) : List UInt8 := if rowE q n = 0 then rowB q n else []
/-- The first loop over a function in a code. -/
noncomputable def rangeIn : Code → Option Code
  | .seq x y => match rangeIn x with
    | some c => some c
    | none => rangeIn y
  | .cond _ x y => match rangeIn x with
    | some c => some c
    | none => rangeIn y
  | .block _ x => rangeIn x
  | .loop x => rangeIn x
  | .scope x => rangeIn x
  | .rangeFunc f ps ac bo => some (.rangeFunc f ps ac bo)
  | _ => none
noncomputable def rg149 : Code := (rangeIn (Tryz.f149.body.getD .skip)).getD .skip
noncomputable def afterR (B nx m : Nat) (g : Nat → V) : St :=
  ⟨Trie.put (Trie.put (Trie.put .leaf B (some (.cells 1 [] (putAll [.own (Nat.add nx 1) m 1] .leaf 0) false false))) nx (some .deferred)) (Nat.add nx 1) (some (.row m g 1 false)), Nat.add nx 2⟩
/-- The loop over a text's bytes: what is to be shown ahead of it, what stands behind. -/
noncomputable def RK149 (fn : FuncId) (ro : Option Nat) (c : Code) (Q : Go.Ev.Post) (a : Go.Ev.Act) (σ : St) : Prop :=
  (c = rg149 ∧ ro = none ∧ fn = 149) ∧ headP 49 [2, 42] a fun vs => match vs with
    | [.ptr B 0, .func (.func 236) [] [.eptr [.str s] 0]] => match σ.heap.get B with
      | some (.cells 1 _ t _ false) => match cellOf 1 [] t 0 with
        | some (.own r n 1) => match σ.heap.get r with
          | some (.row n' f 1 _) => (n' = n ∧ n ≤ 1000000 ∧ s.length ≤ 64 ∧ B < σ.next ∧ r < σ.next) ∧ ∃ L, Rep n f L ∧ ∀ m g, Rep m g (L ++ escL s) → Q .normal ⟨putL [2, 42] vs, 49, [(none, σ.next, [])]⟩ (afterR B σ.next m g)
          | _ => False
        | some (.slice r 0 1 1 false 1) => match σ.heap.get r with
          | some (.cells 1 _ t _ false) => match cellOf 1 [] t 0 with
            | some (.int .u8 x) => ((0 ≤ x ∧ x < 256) ∧ s.length ≤ 64 ∧ B < σ.next ∧ r < σ.next) ∧ ∀ m g, Rep m g ([byteOf x] ++ escL s) → Q .normal ⟨putL [2, 42] vs, 49, [(none, σ.next, [])]⟩ (afterR B σ.next m g)
            | _ => False
          | _ => False
        | _ => False
      | _ => False
    | _ => False
noncomputable def yldY (l₀ : Nat) (Y : St → Int → St → Prop) (l : Nat) (vs : List V) (σ : St) (k : VPost) : Prop :=
  match vs with
  | [.int .u8 c] => l = l₀ ∧ ∃ τ, Y σ c τ ∧ k (.bool true) τ
  | _ => False
/-- An answer that is the whole of a row of bytes. -/
noncomputable def bufP (Q : Nat → (Nat → V) → Prop) (v : V) (τ : St) : Prop := canonV τ (fun s _ => match s with
  | .row n f 1 => Q n f
  | _ => False) v

def live197 : Nat → List Nat := (fun _ => [])
theorem e197 [Env] (A : Nat → List SV → Prop) (Q : V → Prop) (x : Int) : ws Tryz.prog (KF Tryz.prog kn39 0 Tryz.f197.ntmps (live197) A) 197 none 0 (Tryz.f197.body.getD .skip) (retS Tryz.prog Tryz.f197 (fun v _ => Q v)) (actOf Tryz.f197.ntmps [.int .u64 (x)]) Go.Ev.start =
    (((0 ≤ (x) ∧ (x) < 18446744073709551616) ∧ ((.u64 : IntKind) = .u64 ∧ CondP (decide ((IntKind.u64.wrap (BitVec.ofInt IntKind.u64.bits (canonI (x)) &&& BitVec.ofInt IntKind.u64.bits (9223372036854775808 : Int)).toNat) ≠ (0 : Int))) (Q (.int .u64 (IntKind.u64.wrap (BitVec.ofInt IntKind.u64.bits (if IntKind.u64.signed then -1 else IntKind.u64.max) ^^^ BitVec.ofInt IntKind.u64.bits (canonI (x))).toNat))) (Q (.int .u64 (IntKind.u64.wrap (BitVec.ofInt IntKind.u64.bits (canonI (x)) ||| BitVec.ofInt IntKind.u64.bits (9223372036854775808 : Int)).toNat)))))) := by kernel_rfl
def W197 [Env] (vs : List V) (σ : St) (k : VPost) : Prop :=
  match vs with
  | [.int .u64 x] => (0 ≤ x ∧ x < 18446744073709551616) ∧ k (.int .u64 (keyI x)) σ
  | _ => False
def kn40 [Env] (g : FuncId) (vs : List V) (σ : St) (k : VPost) : Prop :=
  match Nat.beq g 197 with
  | true => W197 vs σ k
  | false => kn39 g vs σ k
def live200 : Nat → List Nat := (fun _ => [])
theorem e200 [Env] (A : Nat → List SV → Prop) (Q : V → Prop) (x : Int) : ws Tryz.prog (KF Tryz.prog kn40 0 Tryz.f200.ntmps (live200) A) 200 none 0 (Tryz.f200.body.getD .skip) (retS Tryz.prog Tryz.f200 (fun v _ => Q v)) (actOf Tryz.f200.ntmps [.int .u64 (x)]) Go.Ev.start =
    (((0 ≤ (x) ∧ (x) < 18446744073709551616) ∧ (0 ≤ (63 : Int) ∧ ((.u64 : IntKind) = .u64 ∧ CondP (decide (((canonI (x)).fdiv (2 ^ min (63 : Int).toNat IntKind.u64.bits)) = (0 : Int))) (Q (.int .u64 (IntKind.u64.wrap (BitVec.ofInt IntKind.u64.bits (canonI (x)) ||| BitVec.ofInt IntKind.u64.bits (9223372036854775808 : Int)).toNat))) (Q (.int .u64 (IntKind.u64.wrap (BitVec.ofInt IntKind.u64.bits (if IntKind.u64.signed then -1 else IntKind.u64.max) ^^^ BitVec.ofInt IntKind.u64.bits (canonI (x))).toNat))))))) := by kernel_rfl
def W200 [Env] (vs : List V) (σ : St) (k : VPost) : Prop :=
  match vs with
  | [.int .u64 x] => (0 ≤ x ∧ x < 18446744073709551616) ∧ k (.int .u64 (keyI x)) σ
  | _ => False
def kn41 [Env] (g : FuncId) (vs : List V) (σ : St) (k : VPost) : Prop :=
  match Nat.beq g 200 with
  | true => W200 vs σ k
  | false => kn40 g vs σ k
def live199 : Nat → List Nat := (fun i => match i with | 0 => [0, 3, 4] | _ => [])
theorem e199 [Env] (A : Nat → List SV → Prop) (Q : V → Prop) (x : Int) : ws Tryz.prog (KF Tryz.prog kn41 0 Tryz.f199.ntmps (live199) A) 199 none 0 (Tryz.f199.body.getD .skip) (retS Tryz.prog Tryz.f199 (fun v _ => Q v)) (actOf Tryz.f199.ntmps [.int .u64 (x)]) Go.Ev.start =
    (A 0 [.val (.int .u64 (x)), .val (.nilslice), .val (.int .i64 (0 : Int))]) := by kernel_rfl
theorem r199n [Env] (A : Nat → List SV → Prop) (Q : V → Prop) (x i : Int) : ws Tryz.prog (KF Tryz.prog kn41 0 Tryz.f199.ntmps (live199) A) 199 none (Nat.add 0 1) (lp (Tryz.f199.body.getD .skip) 0) (seqQ (fun a σ => canonP 0 Tryz.f199.ntmps (live199 0) a σ (A 0)) (behind Tryz.prog (KF Tryz.prog kn41 0 Tryz.f199.ntmps (live199) A) 199 (Tryz.f199.body.getD .skip) 0 0 (retS Tryz.prog Tryz.f199 (fun v _ => Q v)))) (mkA Tryz.f199.ntmps (live199 0) [.val (.int .u64 (x)), .val (.nilslice), .val (.int .i64 (i))]) (mkS [.val (.int .u64 (x)), .val (.nilslice), .val (.int .i64 (i))]) =
    (((.i64 : IntKind) = .i64 ∧ CondP (decide ((i) < (8 : Int))) ((0 ≤ (IntKind.u64.wrap (IntKind.i64.wrap ((56 : Int) - (IntKind.i64.wrap ((8 : Int) * (i)))))) ∧ (((1 : Nat) = 1 ∧ (1 : Nat) = 1 ∧ 1 * 1 = 1 * 1) ∧ A 0 [.val (.int .u64 (x)), .row 1 (fun _ => .agg [.int .u8 (IntKind.u8.wrap ((x).fdiv (2 ^ min (IntKind.u64.wrap (IntKind.i64.wrap ((56 : Int) - (IntKind.i64.wrap ((8 : Int) * (i)))))).toNat IntKind.u64.bits)))]) 1, .val (.int .i64 (IntKind.i64.wrap ((i) + (1 : Int))))]))) (Q (.str ([]))))) := by kernel_rfl
theorem r199o [Env] (A : Nat → List SV → Prop) (Q : V → Prop) (x : Int) (n : Nat) (f : Nat → V) (i : Int) : ws Tryz.prog (KF Tryz.prog kn41 0 Tryz.f199.ntmps (live199) A) 199 none (Nat.add 0 1) (lp (Tryz.f199.body.getD .skip) 0) (seqQ (fun a σ => canonP 0 Tryz.f199.ntmps (live199 0) a σ (A 0)) (behind Tryz.prog (KF Tryz.prog kn41 0 Tryz.f199.ntmps (live199) A) 199 (Tryz.f199.body.getD .skip) 0 0 (retS Tryz.prog Tryz.f199 (fun v _ => Q v)))) (mkA Tryz.f199.ntmps (live199 0) [.val (.int .u64 (x)), .row (n) f 1, .val (.int .i64 (i))]) (mkS [.val (.int .u64 (x)), .row (n) f 1, .val (.int .i64 (i))]) =
    (((.i64 : IntKind) = .i64 ∧ CondP (decide ((i) < (8 : Int))) ((0 ≤ (IntKind.u64.wrap (IntKind.i64.wrap ((56 : Int) - (IntKind.i64.wrap ((8 : Int) * (i)))))) ∧ (((n) = (n) ∧ ((n) + 1) * 1 ≤ 1099511627776) ∧ ((((n) + 1) = ((n) + 1) ∧ 1 = 1) ∧ A 0 [.val (.int .u64 (x)), .row ((n) + 1) (catF (n) f (lstF [.int .u8 (IntKind.u8.wrap ((x).fdiv (2 ^ min (IntKind.u64.wrap (IntKind.i64.wrap ((56 : Int) - (IntKind.i64.wrap ((8 : Int) * (i)))))).toNat IntKind.u64.bits)))])) 1, .val (.int .i64 (IntKind.i64.wrap ((i) + (1 : Int))))])))) (((n) = (n) ∧ ∃ s1, bytesOfV (flatCells (arrL (n) f)) = some s1 ∧ Q (.str (s1)))))) := by kernel_rfl
def W199 [Env] (vs : List V) (σ : St) (k : VPost) : Prop :=
  match vs with
  | [.int .u64 x] => k (.str (eightP x 8)) σ
  | _ => False
def kn42 [Env] (g : FuncId) (vs : List V) (σ : St) (k : VPost) : Prop :=
  match Nat.beq g 199 with
  | true => W199 vs σ k
  | false => kn41 g vs σ k
def live201 : Nat → List Nat := (fun i => match i with | 0 => [0, 3, 4] | _ => [])
theorem e201 [Env] (A : Nat → List SV → Prop) (Q : V → Prop) (s : List UInt8) : ws Tryz.prog (KF Tryz.prog kn42 0 Tryz.f201.ntmps (live201) A) 201 none 0 (Tryz.f201.body.getD .skip) (retS Tryz.prog Tryz.f201 (fun v _ => Q v)) (actOf Tryz.f201.ntmps [.str (s)]) Go.Ev.start =
    (A 0 [.val (.str (s)), .val (.nilslice), .val (.int .i64 (0 : Int))]) := by kernel_rfl
theorem r201n [Env] (A : Nat → List SV → Prop) (Q : V → Prop) (s : List UInt8) (i : Int) : ws Tryz.prog (KF Tryz.prog kn42 0 Tryz.f201.ntmps (live201) A) 201 none (Nat.add 0 1) (lp (Tryz.f201.body.getD .skip) 0) (seqQ (fun a σ => canonP 0 Tryz.f201.ntmps (live201 0) a σ (A 0)) (behind Tryz.prog (KF Tryz.prog kn42 0 Tryz.f201.ntmps (live201) A) 201 (Tryz.f201.body.getD .skip) 0 0 (retS Tryz.prog Tryz.f201 (fun v _ => Q v)))) (mkA Tryz.f201.ntmps (live201 0) [.val (.str (s)), .val (.nilslice), .val (.int .i64 (i))]) (mkS [.val (.str (s)), .val (.nilslice), .val (.int .i64 (i))]) =
    (((.i64 : IntKind) = .i64 ∧ CondP (decide ((i) < (((len (s) : Nat) : Int)))) (((0 ≤ (i) ∧ (i) < ((len (s) : Nat) : Int)) ∧ ((0 ≤ (i) ∧ (i) < ((len (s) : Nat) : Int)) ∧ ((.u8 : IntKind) = .u8 ∧ CondP (decide ((byteAt (s) (i)) = (0 : Int))) ((((2 : Nat) = 2 ∧ 2 = 2 * 1) ∧ A 0 [.val (.str (s)), .row 2 (lstF [.agg [.int .u8 (byteAt (s) (i))], .agg [.int .u8 (255 : Int)]]) 1, .val (.int .i64 (IntKind.i64.wrap ((i) + (1 : Int))))])) ((((1 : Nat) = 1 ∧ (1 : Nat) = 1 ∧ 1 * 1 = 1 * 1) ∧ A 0 [.val (.str (s)), .row 1 (fun _ => .agg [.int .u8 (byteAt (s) (i))]) 1, .val (.int .i64 (IntKind.i64.wrap ((i) + (1 : Int))))])))))) (Q (.str ([UInt8.ofNat (0 : Int).toNat, UInt8.ofNat (0 : Int).toNat]))))) := by kernel_rfl
theorem r201o [Env] (A : Nat → List SV → Prop) (Q : V → Prop) (s : List UInt8) (n : Nat) (f : Nat → V) (i : Int) : ws Tryz.prog (KF Tryz.prog kn42 0 Tryz.f201.ntmps (live201) A) 201 none (Nat.add 0 1) (lp (Tryz.f201.body.getD .skip) 0) (seqQ (fun a σ => canonP 0 Tryz.f201.ntmps (live201 0) a σ (A 0)) (behind Tryz.prog (KF Tryz.prog kn42 0 Tryz.f201.ntmps (live201) A) 201 (Tryz.f201.body.getD .skip) 0 0 (retS Tryz.prog Tryz.f201 (fun v _ => Q v)))) (mkA Tryz.f201.ntmps (live201 0) [.val (.str (s)), .row (n) f 1, .val (.int .i64 (i))]) (mkS [.val (.str (s)), .row (n) f 1, .val (.int .i64 (i))]) =
    (((.i64 : IntKind) = .i64 ∧ CondP (decide ((i) < (((len (s) : Nat) : Int)))) (((0 ≤ (i) ∧ (i) < ((len (s) : Nat) : Int)) ∧ (((n) = (n) ∧ ((n) + 1) * 1 ≤ 1099511627776) ∧ ((0 ≤ (i) ∧ (i) < ((len (s) : Nat) : Int)) ∧ ((.u8 : IntKind) = .u8 ∧ CondP (decide ((byteAt (s) (i)) = (0 : Int))) (((((n) + 1) = ((n) + 1) ∧ (((n) + 1) + 1) * 1 ≤ 1099511627776) ∧ (((((n) + 1) + 1) = (((n) + 1) + 1) ∧ 1 = 1) ∧ A 0 [.val (.str (s)), .row (((n) + 1) + 1) (catF ((n) + 1) (catF (n) f (lstF [.int .u8 (byteAt (s) (i))])) (lstF [.int .u8 (255 : Int)])) 1, .val (.int .i64 (IntKind.i64.wrap ((i) + (1 : Int))))]))) (((((n) + 1) = ((n) + 1) ∧ 1 = 1) ∧ A 0 [.val (.str (s)), .row ((n) + 1) (catF (n) f (lstF [.int .u8 (byteAt (s) (i))])) 1, .val (.int .i64 (IntKind.i64.wrap ((i) + (1 : Int))))]))))))) ((((n) = (n) ∧ ((n) + 2) * 1 ≤ 1099511627776) ∧ (((n) + 2) = ((n) + 2) ∧ ∃ s2, bytesOfV (flatCells (arrL ((n) + 2) (catF (n) f (lstF [.int .u8 (0 : Int), .int .u8 (0 : Int)])))) = some s2 ∧ Q (.str (s2))))))) := by kernel_rfl
def W201 [Env] (vs : List V) (σ : St) (k : VPost) : Prop :=
  match vs with
  | [.str s] => s.length ≤ 64 ∧ k (.str (escL s)) σ
  | _ => False
def kn43 [Env] (g : FuncId) (vs : List V) (σ : St) (k : VPost) : Prop :=
  match Nat.beq g 201 with
  | true => W201 vs σ k
  | false => kn42 g vs σ k
def live151 : Nat → List Nat := (fun _ => [])
theorem e151 [Env] (A : Nat → List SV → Prop) (Q : V → Prop) (e : T46) : ws Tryz.prog (KF Tryz.prog kn43 0 Tryz.f151.ntmps (live151) A) 151 none 0 (Tryz.f151.body.getD .skip) (retS Tryz.prog Tryz.f151 (fun v _ => Q v)) (actOf Tryz.f151.ntmps [T46.enc (e)]) Go.Ev.start =
    (((0 ≤ ((e).f2) ∧ ((e).f2) < 18446744073709551616) ∧ ((.i64 : IntKind) = .i64 ∧ CondP (decide ((valErr ⟨((e).f0), ((e).f1), ((e).f2), (e).f3⟩) ≠ (0 : Int))) (Q (.tuple [.str ([]), .int .i64 (valErr ⟨((e).f0), ((e).f1), ((e).f2), (e).f3⟩)])) (((.i64 : IntKind) = .i64 ∧ CondP (decide (((e).f0) = (1 : Int))) ((([UInt8.ofNat (IntKind.u8.wrap ((e).f0)).toNat]).length + ([UInt8.ofNat (IntKind.u8.wrap ((e).f1)).toNat]).length ≤ 9223372036854775807 ∧ Q (.tuple [.str (([UInt8.ofNat (IntKind.u8.wrap ((e).f0)).toNat]) ++ ([UInt8.ofNat (IntKind.u8.wrap ((e).f1)).toNat])), .int .i64 (0 : Int)]))) (((.i64 : IntKind) = .i64 ∧ CondP (decide (((e).f0) = (2 : Int))) ((([UInt8.ofNat (IntKind.u8.wrap ((e).f0)).toNat]).length + (eightP (IntKind.u64.wrap (BitVec.ofInt IntKind.u64.bits (IntKind.u64.wrap ((e).f1)) ^^^ BitVec.ofInt IntKind.u64.bits (9223372036854775808 : Int)).toNat) 8).length ≤ 9223372036854775807 ∧ Q (.tuple [.str (([UInt8.ofNat (IntKind.u8.wrap ((e).f0)).toNat]) ++ (eightP (IntKind.u64.wrap (BitVec.ofInt IntKind.u64.bits (IntKind.u64.wrap ((e).f1)) ^^^ BitVec.ofInt IntKind.u64.bits (9223372036854775808 : Int)).toNat) 8)), .int .i64 (0 : Int)]))) (((.i64 : IntKind) = .i64 ∧ CondP (decide (((e).f0) = (3 : Int))) (((0 ≤ ((e).f2) ∧ ((e).f2) < 18446744073709551616) ∧ (([UInt8.ofNat (IntKind.u8.wrap ((e).f0)).toNat]).length + (eightP (keyI ((e).f2)) 8).length ≤ 9223372036854775807 ∧ Q (.tuple [.str (([UInt8.ofNat (IntKind.u8.wrap ((e).f0)).toNat]) ++ (eightP (keyI ((e).f2)) 8)), .int .i64 (0 : Int)])))) (((.i64 : IntKind) = .i64 ∧ CondP (decide (((e).f0) = (4 : Int))) ((((e).f3).length ≤ 64 ∧ (([UInt8.ofNat (IntKind.u8.wrap ((e).f0)).toNat]).length + (escL ((e).f3)).length ≤ 9223372036854775807 ∧ Q (.tuple [.str (([UInt8.ofNat (IntKind.u8.wrap ((e).f0)).toNat]) ++ (escL ((e).f3))), .int .i64 (0 : Int)])))) (((.i64 : IntKind) = .i64 ∧ CondP (decide (((e).f0) = (5 : Int))) ((((e).f3).length ≤ 64 ∧ (([UInt8.ofNat (IntKind.u8.wrap ((e).f0)).toNat]).length + (escL ((e).f3)).length ≤ 9223372036854775807 ∧ Q (.tuple [.str (([UInt8.ofNat (IntKind.u8.wrap ((e).f0)).toNat]) ++ (escL ((e).f3))), .int .i64 (0 : Int)])))) (Q (.tuple [.str ([UInt8.ofNat (IntKind.u8.wrap ((e).f0)).toNat]), .int .i64 (0 : Int)]))))))))))))))) := by kernel_rfl
def W151 [Env] (vs : List V) (σ : St) (k : VPost) : Prop :=
  match vs with
  | [.agg [.int .i64 a, .int .i64 b, .int .u64 c, .str s]] => (0 ≤ c ∧ c < 18446744073709551616) ∧ k (.tuple [.str (if valErr ⟨a, b, c, s⟩ = 0 then valB ⟨a, b, c, s⟩ else []), .int .i64 (valErr ⟨a, b, c, s⟩)]) σ
  | _ => False
def kn44 [Env] (g : FuncId) (vs : List V) (σ : St) (k : VPost) : Prop :=
  match Nat.beq g 151 with
  | true => W151 vs σ k
  | false => kn43 g vs σ k
def live105 : Nat → List Nat := (fun i => match i with | 0 => [0, 4, 5] | _ => [])
theorem e105 [Env] (A : Nat → List SV → Prop) (Q : V → Prop) (n : Nat) (g : Nat → T46) : ws Tryz.prog (KF Tryz.prog kn44 0 Tryz.f105.ntmps (live105) A) 105 none 0 (Tryz.f105.body.getD .skip) (retS Tryz.prog Tryz.f105 (fun v _ => Q v)) (actOf Tryz.f105.ntmps [V.arr (n) (fun i => T46.enc (g i)) 4 false false]) Go.Ev.start =
    (A 0 [.val (V.arr (n) (fun i => T46.enc (g i)) 4 false false), .val (.str ([])), .val (.int .i64 (0 : Int))]) := by kernel_rfl
theorem r105 [Env] (A : Nat → List SV → Prop) (Q : V → Prop) (n : Nat) (g : Nat → T46) (s : List UInt8) (i : Int) : ws Tryz.prog (KF Tryz.prog kn44 0 Tryz.f105.ntmps (live105) A) 105 none (Nat.add 0 1) (lp (Tryz.f105.body.getD .skip) 0) (seqQ (fun a σ => canonP 0 Tryz.f105.ntmps (live105 0) a σ (A 0)) (behind Tryz.prog (KF Tryz.prog kn44 0 Tryz.f105.ntmps (live105) A) 105 (Tryz.f105.body.getD .skip) 0 0 (retS Tryz.prog Tryz.f105 (fun v _ => Q v)))) (mkA Tryz.f105.ntmps (live105 0) [.val (V.arr (n) (fun i => T46.enc (g i)) 4 false false), .val (.str (s)), .val (.int .i64 (i))]) (mkS [.val (V.arr (n) (fun i => T46.enc (g i)) 4 false false), .val (.str (s)), .val (.int .i64 (i))]) =
    (((.i64 : IntKind) = .i64 ∧ CondP (decide ((i) < (((n : Nat) : Int)))) (((0 ≤ (i) ∧ (i) < ((n : Nat) : Int)) ∧ ((0 ≤ ((g (i).toNat).f2) ∧ ((g (i).toNat).f2) < 18446744073709551616) ∧ ((.i64 : IntKind) = .i64 ∧ CondP (decide ((valErr ⟨((g (i).toNat).f0), ((g (i).toNat).f1), ((g (i).toNat).f2), (g (i).toNat).f3⟩) ≠ (0 : Int))) (Q (.tuple [.str ([]), .int .i64 (valErr ⟨((g (i).toNat).f0), ((g (i).toNat).f1), ((g (i).toNat).f2), (g (i).toNat).f3⟩)])) (((s).length + (if valErr ⟨((g (i).toNat).f0), ((g (i).toNat).f1), ((g (i).toNat).f2), (g (i).toNat).f3⟩ = 0 then valB ⟨((g (i).toNat).f0), ((g (i).toNat).f1), ((g (i).toNat).f2), (g (i).toNat).f3⟩ else []).length ≤ 9223372036854775807 ∧ A 0 [.val (V.arr (n) (fun i => T46.enc (g i)) 4 false false), .val (.str ((s) ++ (if valErr ⟨((g (i).toNat).f0), ((g (i).toNat).f1), ((g (i).toNat).f2), (g (i).toNat).f3⟩ = 0 then valB ⟨((g (i).toNat).f0), ((g (i).toNat).f1), ((g (i).toNat).f2), (g (i).toNat).f3⟩ else []))), .val (.int .i64 (IntKind.i64.wrap ((i) + (1 : Int))))])))))) (Q (.tuple [.str (s), .int .i64 (0 : Int)])))) := by kernel_rfl
def W105 [Env] (vs : List V) (σ : St) (k : VPost) : Prop :=
  match vs with
  | [.arr n f 4 false false] => ∃ q : Nat → T46, f = (fun i => T46.enc (q i)) ∧ (n ≤ 1000 ∧ ∀ i, i < n → ok46 (q i)) ∧ k (.tuple [.str (rowS q n), .int .i64 (rowE q n)]) σ
  | _ => False
def kn45 [Env] (g : FuncId) (vs : List V) (σ : St) (k : VPost) : Prop :=
  match Nat.beq g 105 with
  | true => W105 vs σ k
  | false => kn44 g vs σ k
end Go.Proofs.YtbajncpfmemdgaaGreatDoor
namespace Go.Proofs.YtbajncpfmemdgaaGreatDoor
open Go Go.Ev
def live196 : Nat → List Nat := (fun i => match i with | 0 => [0, 1, 5] | _ => [])
theorem e196 [Env] (A : Nat → List SV → Prop) (Q : Nat → (Nat → V) → Prop) (n : Nat) (f : Nat → V) (x : Int) : ws Tryz.prog (KF Tryz.prog kn45 0 Tryz.f196.ntmps (live196) A) 196 none 0 (Tryz.f196.body.getD .skip) (retS Tryz.prog Tryz.f196 (bufP Q)) (actOf Tryz.f196.ntmps [.own 0 (n) 1, .int .u64 (x)]) (mkS [.row (n) f 1]) =
    ((((n) = (n) ∧ 1 = 1) ∧ A 0 [.row (n) f 1, .val (.int .u64 (x)), .val (.int .i64 (56 : Int))])) := by kernel_rfl
theorem r196 [Env] (A : Nat → List SV → Prop) (Q : Nat → (Nat → V) → Prop) (n : Nat) (f : Nat → V) (x i : Int) : ws Tryz.prog (KF Tryz.prog kn45 0 Tryz.f196.ntmps (live196) A) 196 none (Nat.add 0 1) (lp (Tryz.f196.body.getD .skip) 0) (seqQ (fun a σ => canonP 0 Tryz.f196.ntmps (live196 0) a σ (A 0)) (behind Tryz.prog (KF Tryz.prog kn45 0 Tryz.f196.ntmps (live196) A) 196 (Tryz.f196.body.getD .skip) 0 0 (retS Tryz.prog Tryz.f196 (bufP Q)))) (mkA Tryz.f196.ntmps (live196 0) [.row (n) f 1, .val (.int .u64 (x)), .val (.int .i64 (i))]) (mkS [.row (n) f 1, .val (.int .u64 (x)), .val (.int .i64 (i))]) =
    (((.i64 : IntKind) = .i64 ∧ CondP (decide ((i) ≥ (0 : Int))) ((0 ≤ (i) ∧ (((n) = (n) ∧ ((n) + 1) * 1 ≤ 1099511627776) ∧ ((((n) + 1) = ((n) + 1) ∧ 1 = 1) ∧ A 0 [.row ((n) + 1) (catF (n) f (lstF [.int .u8 (IntKind.u8.wrap ((x).fdiv (2 ^ min (i).toNat IntKind.u64.bits)))])) 1, .val (.int .u64 (x)), .val (.int .i64 (IntKind.i64.wrap ((i) - (8 : Int))))])))) ((((n) = (n) ∧ 1 = 1) ∧ Q (n) f)))) := by kernel_rfl
def W196 [Env] (vs : List V) (σ : St) (k : VPost) : Prop :=
  match vs with
  | [.own b n 1, .int .u64 x] => match σ.heap.get b with
    | some (.row n' f 1 _) => (n' = n ∧ n ≤ 1000000) ∧ ∃ L, Rep n f L ∧ ∀ m g, Rep m g (L ++ eightP x 8) → k (.own σ.next m 1) ((σ.kill b).new σ.next (.row m g 1 false))
    | _ => False
  | [.slice b 0 1 1 false 1, .int .u64 x] => match σ.heap.get b with
    | some (.cells 1 _ t _ false) => match cellOf 1 [] t 0 with
      | some (.int .u8 y) => (0 ≤ y ∧ y < 256) ∧ ∀ m g, Rep m g ([byteOf y] ++ eightP x 8) → k (.own σ.next m 1) ((σ.kill b).new σ.next (.row m g 1 false))
      | _ => False
    | _ => False
  | _ => False
def kn46 [Env] (g : FuncId) (vs : List V) (σ : St) (k : VPost) : Prop :=
  match Nat.beq g 196 with
  | true => W196 vs σ k
  | false => kn45 g vs σ k
def live198 : Nat → List Nat := (fun _ => [])
theorem e198 [Env] (A : Nat → List SV → Prop) (Q : V → St → Prop) (s : List UInt8) : ws Tryz.prog (KF Tryz.prog kn46 0 Tryz.f198.ntmps (live198) A) 198 none 0 (Tryz.f198.body.getD .skip) (retS Tryz.prog Tryz.f198 (Q)) (actOf Tryz.f198.ntmps [.str (s)]) Go.Ev.start =
    (Q (.func (.func 236) [] [.ptr 0 0]) ⟨(St.new Go.Ev.start 0 (.cells 1 [] (putAll [.str (s)] .leaf 0) true false)).heap, 1⟩) := by kernel_rfl
def W198 [Env] (vs : List V) (σ : St) (k : VPost) : Prop :=
  match vs with
  | [.str s] => k (.func (.func 236) [] [.eptr [.str s] 0]) σ
  | _ => False
def kn47 [Env] (g : FuncId) (vs : List V) (σ : St) (k : VPost) : Prop :=
  match Nat.beq g 198 with
  | true => W198 vs σ k
  | false => kn46 g vs σ k
def live236 : Nat → List Nat := (fun i => match i with | 0 => [0, 1, 5, 6] | _ => [])
theorem e236 [Env] (A : Nat → List V → St → Prop) (Q : V → St → Prop) (l : Nat) (Y : St → Int → St → Prop) (σ : St) (s : List UInt8) : ws Tryz.prog (KH Tryz.prog kn47 (yldY l Y) Tryz.f236.ntmps live236 A) 236 none 0 (Tryz.f236.body.getD .skip) (retS Tryz.prog Tryz.f236 Q) (actOf Tryz.f236.ntmps [.func (.yield l) [] [], .eptr [.str (s)] 0]) σ =
    (A 0 [.func (.yield l) [] [], .eptr [.str (s)] 0, .int .i64 (((len (s) : Nat) : Int)), .int .i64 (0 : Int)] σ) := by kernel_rfl
theorem r236 [Env] (A : Nat → List V → St → Prop) (Q : V → St → Prop) (l : Nat) (Y : St → Int → St → Prop) (σ : St) (s : List UInt8) (m i : Int) : ws Tryz.prog (KH Tryz.prog kn47 (yldY l Y) Tryz.f236.ntmps live236 A) 236 none (Nat.add 0 1) (lp (Tryz.f236.body.getD .skip) 0) (seqQ (fun a σ' => headP Tryz.f236.ntmps (live236 0) a fun vs => A 0 vs σ') (behind Tryz.prog (KH Tryz.prog kn47 (yldY l Y) Tryz.f236.ntmps live236 A) 236 (Tryz.f236.body.getD .skip) 0 0 (retS Tryz.prog Tryz.f236 Q))) (mkV Tryz.f236.ntmps (live236 0) [.func (.yield l) [] [], .eptr [.str (s)] 0, .int .i64 (m), .int .i64 (i)]) σ =
    (((.i64 : IntKind) = .i64 ∧ CondP (decide ((i) < (m))) (((0 ≤ (i) ∧ (i) < ((len (s) : Nat) : Int)) ∧ (l = l ∧ ∃ τ24, Y σ (byteAt (s) (i)) τ24 ∧ ((0 ≤ (i) ∧ (i) < ((len (s) : Nat) : Int)) ∧ ((.u8 : IntKind) = .u8 ∧ CondP (decide ((byteAt (s) (i)) = (0 : Int))) ((l = l ∧ ∃ τ25, Y τ24 (255 : Int) τ25 ∧ A 0 [.func (.yield l) [] [], .eptr [.str (s)] 0, .int .i64 (m), .int .i64 (IntKind.i64.wrap ((i) + (1 : Int)))] τ25)) (A 0 [.func (.yield l) [] [], .eptr [.str (s)] 0, .int .i64 (m), .int .i64 (IntKind.i64.wrap ((i) + (1 : Int)))] τ24)))))) ((l = l ∧ ∃ τ26, Y σ (0 : Int) τ26 ∧ (l = l ∧ ∃ τ27, Y τ26 (0 : Int) τ27 ∧ Q (.tuple []) τ27))))) := by kernel_rfl
theorem e149n [Env] (A : Nat → List SV → Prop) (Q : Nat → (Nat → V) → Prop) (e : T46) : ws Tryz.prog (KR Tryz.prog kn47 Tryz.f149.ntmps (fun _ => []) A RK149) 149 none 0 (Tryz.f149.body.getD .skip) (retS Tryz.prog Tryz.f149 (bufP Q)) (actOf Tryz.f149.ntmps [.nilslice, T46.enc (e)]) Go.Ev.start =
    (((.i64 : IntKind) = .i64 ∧ CondP (decide (((e).f0) = (1 : Int))) ((((2 : Nat) = 2 ∧ 2 = 2 * 1) ∧ Q 2 (lstF [.agg [.int .u8 (IntKind.u8.wrap ((e).f0))], .agg [.int .u8 (IntKind.u8.wrap ((e).f1))]]))) (((.i64 : IntKind) = .i64 ∧ CondP (decide (((e).f0) = (2 : Int))) (((0 ≤ (IntKind.u8.wrap ((e).f0)) ∧ (IntKind.u8.wrap ((e).f0)) < 256) ∧ ∀ (n28 : Nat) (g29 : Nat → V), Rep n28 g29 ([byteOf (IntKind.u8.wrap ((e).f0))] ++ eightP (IntKind.u64.wrap (BitVec.ofInt IntKind.u64.bits (IntKind.u64.wrap ((e).f1)) ^^^ BitVec.ofInt IntKind.u64.bits (9223372036854775808 : Int)).toNat) 8) → (((n28) = (n28) ∧ 1 = 1) ∧ Q (n28) g29))) (((.i64 : IntKind) = .i64 ∧ CondP (decide (((e).f0) = (3 : Int))) (((0 ≤ ((e).f2) ∧ ((e).f2) < 18446744073709551616) ∧ CondP (V.beq (.slice 2 0 (1) (1) false 1) (.slice 2 0 (1) (1) false 1) && true) (((0 ≤ (IntKind.u8.wrap ((e).f0)) ∧ (IntKind.u8.wrap ((e).f0)) < 256) ∧ ∀ (n31 : Nat) (g32 : Nat → V), Rep n31 g32 ([byteOf (IntKind.u8.wrap ((e).f0))] ++ eightP (keyI ((e).f2)) 8) → (((n31) = (n31) ∧ 1 = 1) ∧ Q (n31) g32))) False)) (((.i64 : IntKind) = .i64 ∧ CondP (decide (((e).f0) = (4 : Int))) (((rg149 = rg149 ∧ (none : Option Nat) = none ∧ (149 : Nat) = 149) ∧ ((0 ≤ (IntKind.u8.wrap ((e).f0)) ∧ (IntKind.u8.wrap ((e).f0)) < 256) ∧ ((e).f3).length ≤ 64 ∧ (0 : Nat) < 3 ∧ (2 : Nat) < 3) ∧ ∀ (n34 : Nat) (g35 : Nat → V), Rep n34 g35 ([byteOf (IntKind.u8.wrap ((e).f0))] ++ escL ((e).f3)) → TaskS Tryz.prog (.leave Tryz.f149 ⟨(Slots.put (Slots.put (putL [2, 42] [.ptr 0 0, .func (.func 236) [] [.eptr [.str ((e).f3)] 0]]) 48 (.own 4 (n34) 1)) 4 (.own 4 (n34) 1)), 49, [(none, 3, [])]⟩) (valP (bufP Q)) (afterR 0 3 n34 g35))) (((.i64 : IntKind) = .i64 ∧ CondP (decide (((e).f0) = (5 : Int))) (((rg149 = rg149 ∧ (none : Option Nat) = none ∧ (149 : Nat) = 149) ∧ ((0 ≤ (IntKind.u8.wrap ((e).f0)) ∧ (IntKind.u8.wrap ((e).f0)) < 256) ∧ ((e).f3).length ≤ 64 ∧ (0 : Nat) < 3 ∧ (2 : Nat) < 3) ∧ ∀ (n37 : Nat) (g38 : Nat → V), Rep n37 g38 ([byteOf (IntKind.u8.wrap ((e).f0))] ++ escL ((e).f3)) → TaskS Tryz.prog (.leave Tryz.f149 ⟨(Slots.put (Slots.put (putL [2, 42] [.ptr 0 0, .func (.func 236) [] [.eptr [.str ((e).f3)] 0]]) 48 (.own 4 (n37) 1)) 4 (.own 4 (n37) 1)), 49, [(none, 3, [])]⟩) (valP (bufP Q)) (afterR 0 3 n37 g38))) ((((1 : Nat) = 1 ∧ (1 : Nat) = 1 ∧ 1 * 1 = 1 * 1) ∧ Q 1 (fun _ => .agg [.int .u8 (IntKind.u8.wrap ((e).f0))]))))))))))))) := by kernel_rfl
theorem e149o [Env] (A : Nat → List SV → Prop) (Q : Nat → (Nat → V) → Prop) (n : Nat) (f : Nat → V) (e : T46) : ws Tryz.prog (KR Tryz.prog kn47 Tryz.f149.ntmps (fun _ => []) A RK149) 149 none 0 (Tryz.f149.body.getD .skip) (retS Tryz.prog Tryz.f149 (bufP Q)) (actOf Tryz.f149.ntmps [.own 0 (n) 1, T46.enc (e)]) (mkS [.row (n) f 1]) =
    ((((n) = (n) ∧ ((n) + 1) * 1 ≤ 1099511627776) ∧ ((.i64 : IntKind) = .i64 ∧ CondP (decide (((e).f0) = (1 : Int))) (((((n) + 1) = ((n) + 1) ∧ (((n) + 1) + 1) * 1 ≤ 1099511627776) ∧ (((((n) + 1) + 1) = (((n) + 1) + 1) ∧ 1 = 1) ∧ Q (((n) + 1) + 1) (catF ((n) + 1) (catF (n) f (lstF [.int .u8 (IntKind.u8.wrap ((e).f0))])) (lstF [.int .u8 (IntKind.u8.wrap ((e).f1))]))))) (((.i64 : IntKind) = .i64 ∧ CondP (decide (((e).f0) = (2 : Int))) (((((n) + 1) = ((n) + 1) ∧ ((n) + 1) ≤ 1000000) ∧ ∃ s42, Rep ((n) + 1) (catF (n) f (lstF [.int .u8 (IntKind.u8.wrap ((e).f0))])) s42 ∧ ∀ (n40 : Nat) (g41 : Nat → V), Rep n40 g41 (s42 ++ eightP (IntKind.u64.wrap (BitVec.ofInt IntKind.u64.bits (IntKind.u64.wrap ((e).f1)) ^^^ BitVec.ofInt IntKind.u64.bits (9223372036854775808 : Int)).toNat) 8) → (((n40) = (n40) ∧ 1 = 1) ∧ Q (n40) g41))) (((.i64 : IntKind) = .i64 ∧ CondP (decide (((e).f0) = (3 : Int))) (((0 ≤ ((e).f2) ∧ ((e).f2) < 18446744073709551616) ∧ CondP (V.beq (.own 3 ((n) + 1) 1) (.own 3 ((n) + 1) 1) && true) (((((n) + 1) = ((n) + 1) ∧ ((n) + 1) ≤ 1000000) ∧ ∃ s45, Rep ((n) + 1) (catF (n) f (lstF [.int .u8 (IntKind.u8.wrap ((e).f0))])) s45 ∧ ∀ (n43 : Nat) (g44 : Nat → V), Rep n43 g44 (s45 ++ eightP (keyI ((e).f2)) 8) → (((n43) = (n43) ∧ 1 = 1) ∧ Q (n43) g44))) False)) (((.i64 : IntKind) = .i64 ∧ CondP (decide (((e).f0) = (4 : Int))) (((rg149 = rg149 ∧ (none : Option Nat) = none ∧ (149 : Nat) = 149) ∧ (((n) + 1) = ((n) + 1) ∧ ((n) + 1) ≤ 1000000 ∧ ((e).f3).length ≤ 64 ∧ (1 : Nat) < 4 ∧ (3 : Nat) < 4) ∧ ∃ s48, Rep ((n) + 1) (catF (n) f (lstF [.int .u8 (IntKind.u8.wrap ((e).f0))])) s48 ∧ ∀ (n46 : Nat) (g47 : Nat → V), Rep n46 g47 (s48 ++ escL ((e).f3)) → TaskS Tryz.prog (.leave Tryz.f149 ⟨(Slots.put (Slots.put (putL [2, 42] [.ptr 1 0, .func (.func 236) [] [.eptr [.str ((e).f3)] 0]]) 48 (.own 5 (n46) 1)) 4 (.own 5 (n46) 1)), 49, [(none, 4, [])]⟩) (valP (bufP Q)) (afterR 1 4 n46 g47))) (((.i64 : IntKind) = .i64 ∧ CondP (decide (((e).f0) = (5 : Int))) (((rg149 = rg149 ∧ (none : Option Nat) = none ∧ (149 : Nat) = 149) ∧ (((n) + 1) = ((n) + 1) ∧ ((n) + 1) ≤ 1000000 ∧ ((e).f3).length ≤ 64 ∧ (1 : Nat) < 4 ∧ (3 : Nat) < 4) ∧ ∃ s51, Rep ((n) + 1) (catF (n) f (lstF [.int .u8 (IntKind.u8.wrap ((e).f0))])) s51 ∧ ∀ (n49 : Nat) (g50 : Nat → V), Rep n49 g50 (s51 ++ escL ((e).f3)) → TaskS Tryz.prog (.leave Tryz.f149 ⟨(Slots.put (Slots.put (putL [2, 42] [.ptr 1 0, .func (.func 236) [] [.eptr [.str ((e).f3)] 0]]) 48 (.own 5 (n49) 1)) 4 (.own 5 (n49) 1)), 49, [(none, 4, [])]⟩) (valP (bufP Q)) (afterR 1 4 n49 g50))) (((((n) + 1) = ((n) + 1) ∧ 1 = 1) ∧ Q ((n) + 1) (catF (n) f (lstF [.int .u8 (IntKind.u8.wrap ((e).f0))]))))))))))))))) := by kernel_rfl
def W149 [Env] (vs : List V) (σ : St) (k : VPost) : Prop :=
  match vs with
  | [.nilslice, .agg [.int .i64 a, .int .i64 b, .int .u64 c, .str s]] => ((0 ≤ c ∧ c < 18446744073709551616) ∧ valErr ⟨a, b, c, s⟩ = 0) ∧ ∀ m g, Rep m g (valB ⟨a, b, c, s⟩) → k (.own σ.next m 1) (σ.new σ.next (.row m g 1 false))
  | [.own w n 1, .agg [.int .i64 a, .int .i64 b, .int .u64 c, .str s]] => match σ.heap.get w with
    | some (.row n' f 1 _) => (n' = n ∧ n ≤ 500000 ∧ (0 ≤ c ∧ c < 18446744073709551616) ∧ valErr ⟨a, b, c, s⟩ = 0) ∧ ∃ L, Rep n f L ∧ ∀ m g, Rep m g (L ++ valB ⟨a, b, c, s⟩) → k (.own σ.next m 1) ((σ.kill w).new σ.next (.row m g 1 false))
    | _ => False
  | _ => False
def kn48 [Env] (g : FuncId) (vs : List V) (σ : St) (k : VPost) : Prop :=
  match Nat.beq g 149 with
  | true => W149 vs σ k
  | false => kn47 g vs σ k
end Go.Proofs.YtbajncpfmemdgaaGreatDoor
namespace Go.Proofs.YtbajncpfmemdgaaGreatDoor
open Go Go.Ev
def live103 : Nat → List Nat := (fun i => match i with | 0 => [4, 8, 9, 10] | _ => [])
theorem e103 [Env] (A : Nat → List SV → Prop) (Q : V → Prop) (n : Nat) (g : Nat → T46) : ws Tryz.prog (KF Tryz.prog kn48 0 Tryz.f103.ntmps (live103) A) 103 none 0 (Tryz.f103.body.getD .skip) (retS Tryz.prog Tryz.f103 (fun v _ => Q v)) (actOf Tryz.f103.ntmps [V.arr (n) (fun i => T46.enc (g i)) 4 false false]) Go.Ev.start =
    (A 0 [.val (.nilslice), .val (V.arr (n) (fun i => T46.enc (g i)) 4 false false), .val (.int .i64 (((n : Nat) : Int))), .val (.int .i64 (0 : Int))]) := by kernel_rfl
theorem r103n [Env] (A : Nat → List SV → Prop) (Q : V → Prop) (n : Nat) (g : Nat → T46) (m i : Int) : ws Tryz.prog (KF Tryz.prog kn48 0 Tryz.f103.ntmps (live103) A) 103 none (Nat.add 0 1) (lp (Tryz.f103.body.getD .skip) 0) (seqQ (fun a σ => canonP 0 Tryz.f103.ntmps (live103 0) a σ (A 0)) (behind Tryz.prog (KF Tryz.prog kn48 0 Tryz.f103.ntmps (live103) A) 103 (Tryz.f103.body.getD .skip) 0 0 (retS Tryz.prog Tryz.f103 (fun v _ => Q v)))) (mkA Tryz.f103.ntmps (live103 0) [.val (.nilslice), .val (V.arr (n) (fun i => T46.enc (g i)) 4 false false), .val (.int .i64 (m)), .val (.int .i64 (i))]) (mkS [.val (.nilslice), .val (V.arr (n) (fun i => T46.enc (g i)) 4 false false), .val (.int .i64 (m)), .val (.int .i64 (i))]) =
    (((.i64 : IntKind) = .i64 ∧ CondP (decide ((i) < (m))) (((0 ≤ (i) ∧ (i) < ((n : Nat) : Int)) ∧ ((0 ≤ ((g (i).toNat).f2) ∧ ((g (i).toNat).f2) < 18446744073709551616) ∧ ((.i64 : IntKind) = .i64 ∧ CondP (decide ((valErr ⟨((g (i).toNat).f0), ((g (i).toNat).f1), ((g (i).toNat).f2), (g (i).toNat).f3⟩) ≠ (0 : Int))) (Q (.tuple [.str ([]), .int .i64 (valErr ⟨((g (i).toNat).f0), ((g (i).toNat).f1), ((g (i).toNat).f2), (g (i).toNat).f3⟩)])) ((((0 ≤ ((g (i).toNat).f2) ∧ ((g (i).toNat).f2) < 18446744073709551616) ∧ valErr ⟨((g (i).toNat).f0), ((g (i).toNat).f1), ((g (i).toNat).f2), (g (i).toNat).f3⟩ = 0) ∧ ∀ (n52 : Nat) (g53 : Nat → V), Rep n52 g53 (valB ⟨((g (i).toNat).f0), ((g (i).toNat).f1), ((g (i).toNat).f2), (g (i).toNat).f3⟩) → (((n52) = (n52) ∧ 1 = 1) ∧ A 0 [.row (n52) g53 1, .val (V.arr (n) (fun i => T46.enc (g i)) 4 false false), .val (.int .i64 (m)), .val (.int .i64 (IntKind.i64.wrap ((i) + (1 : Int))))]))))))) (Q (.tuple [.str ([]), .int .i64 (0 : Int)])))) := by kernel_rfl
theorem r103o [Env] (A : Nat → List SV → Prop) (Q : V → Prop) (n : Nat) (g : Nat → T46) (w : Nat) (f : Nat → V) (m i : Int) : ws Tryz.prog (KF Tryz.prog kn48 0 Tryz.f103.ntmps (live103) A) 103 none (Nat.add 0 1) (lp (Tryz.f103.body.getD .skip) 0) (seqQ (fun a σ => canonP 0 Tryz.f103.ntmps (live103 0) a σ (A 0)) (behind Tryz.prog (KF Tryz.prog kn48 0 Tryz.f103.ntmps (live103) A) 103 (Tryz.f103.body.getD .skip) 0 0 (retS Tryz.prog Tryz.f103 (fun v _ => Q v)))) (mkA Tryz.f103.ntmps (live103 0) [.row (w) f 1, .val (V.arr (n) (fun i => T46.enc (g i)) 4 false false), .val (.int .i64 (m)), .val (.int .i64 (i))]) (mkS [.row (w) f 1, .val (V.arr (n) (fun i => T46.enc (g i)) 4 false false), .val (.int .i64 (m)), .val (.int .i64 (i))]) =
    (((.i64 : IntKind) = .i64 ∧ CondP (decide ((i) < (m))) (((0 ≤ (i) ∧ (i) < ((n : Nat) : Int)) ∧ ((0 ≤ ((g (i).toNat).f2) ∧ ((g (i).toNat).f2) < 18446744073709551616) ∧ ((.i64 : IntKind) = .i64 ∧ CondP (decide ((valErr ⟨((g (i).toNat).f0), ((g (i).toNat).f1), ((g (i).toNat).f2), (g (i).toNat).f3⟩) ≠ (0 : Int))) (Q (.tuple [.str ([]), .int .i64 (valErr ⟨((g (i).toNat).f0), ((g (i).toNat).f1), ((g (i).toNat).f2), (g (i).toNat).f3⟩)])) ((((w) = (w) ∧ (w) ≤ 500000 ∧ (0 ≤ ((g (i).toNat).f2) ∧ ((g (i).toNat).f2) < 18446744073709551616) ∧ valErr ⟨((g (i).toNat).f0), ((g (i).toNat).f1), ((g (i).toNat).f2), (g (i).toNat).f3⟩ = 0) ∧ ∃ s57, Rep (w) f s57 ∧ ∀ (n55 : Nat) (g56 : Nat → V), Rep n55 g56 (s57 ++ valB ⟨((g (i).toNat).f0), ((g (i).toNat).f1), ((g (i).toNat).f2), (g (i).toNat).f3⟩) → (((n55) = (n55) ∧ 1 = 1) ∧ A 0 [.row (n55) g56 1, .val (V.arr (n) (fun i => T46.enc (g i)) 4 false false), .val (.int .i64 (m)), .val (.int .i64 (IntKind.i64.wrap ((i) + (1 : Int))))]))))))) (((w) = (w) ∧ ∃ s3, bytesOfV (flatCells (arrL (w) f)) = some s3 ∧ Q (.tuple [.str (s3), .int .i64 (0 : Int)]))))) := by kernel_rfl
def W103 [Env] (vs : List V) (σ : St) (k : VPost) : Prop :=
  match vs with
  | [.arr n f 4 false false] => ∃ q : Nat → T46, f = (fun i => T46.enc (q i)) ∧ (n ≤ 1000 ∧ ∀ i, i < n → ok46 (q i)) ∧ k (.tuple [.str (rowS q n), .int .i64 (rowE q n)]) σ
  | _ => False
def kn49 [Env] (g : FuncId) (vs : List V) (σ : St) (k : VPost) : Prop :=
  match Nat.beq g 103 with
  | true => W103 vs σ k
  | false => kn48 g vs σ k
end Go.Proofs.YtbajncpfmemdgaaGreatDoor
namespace Go.Proofs.YtbajncpfmemdgaaGreatDoor
open Go Go.Ev
/-- api.Change: Kind, Table, Other, To, Also, Name, Type, Names, Col, Def -/
structure T53 where
  f0 : Int
  f1 : (List UInt8)
  f2 : (List UInt8)
  f3 : (List UInt8)
  f4 : (List UInt8)
  f5 : (List UInt8)
  f6 : Int
  f7 : (List (List UInt8))
  f8 : T48
  f9 : T51
  deriving Inhabited
def T53.cells (e : T53) : List V := [.int .i64 (e.f0), .str (e.f1), .str (e.f2), .str (e.f3), .str (e.f4), .str (e.f5), .int .i64 (e.f6), arrOf V.str 1 (e.f7), .str (e.f8.f0), .int .i64 (e.f8.f1), .bool e.f8.f2, .int .i64 (e.f8.f3.f0), .int .i64 (e.f8.f3.f1), .int .u64 (e.f8.f3.f2), .str (e.f8.f3.f3), .str (e.f9.f0), .int .i64 (e.f9.f1), arrOf T48.enc 7 (e.f9.f2)]
def T53.enc (e : T53) : V := .agg e.cells
theorem T53.clean [Env] (e : T53) : ∀ u ∈ e.cells, Go.Ev.Clean u := cl_cons (Go.Ev.Clean.int _ _) (cl_cons (Go.Ev.Clean.str _) (cl_cons (Go.Ev.Clean.str _) (cl_cons (Go.Ev.Clean.str _) (cl_cons (Go.Ev.Clean.str _) (cl_cons (Go.Ev.Clean.str _) (cl_cons (Go.Ev.Clean.int _ _) (cl_cons (arrOf_clean (enc := V.str) fun _ _ => cl_cons (Go.Ev.Clean.str _) cl_nil) (cl_cons (Go.Ev.Clean.str _) (cl_cons (Go.Ev.Clean.int _ _) (cl_cons (Go.Ev.Clean.bool _) (cl_cons (Go.Ev.Clean.int _ _) (cl_cons (Go.Ev.Clean.int _ _) (cl_cons (Go.Ev.Clean.int _ _) (cl_cons (Go.Ev.Clean.str _) (cl_cons (Go.Ev.Clean.str _) (cl_cons (Go.Ev.Clean.int _ _) (cl_cons (arrOf_clean (enc := T48.enc) fun x _ => T48.clean x) (cl_nil))))))))))))))))))
theorem T53.size (e : T53) : e.cells.length = 18 := rfl
/-- api.Op: Kind, Table, Row, Lo, Hi, Max, Change -/
structure T71 where
  f0 : Int
  f1 : (List UInt8)
  f2 : (List T46)
  f3 : (List T46)
  f4 : (List T46)
  f5 : Int
  f6 : T53
  deriving Inhabited
def T71.cells (e : T71) : List V := [.int .i64 (e.f0), .str (e.f1), arrOf T46.enc 4 (e.f2), arrOf T46.enc 4 (e.f3), arrOf T46.enc 4 (e.f4), .int .i64 (e.f5), .int .i64 (e.f6.f0), .str (e.f6.f1), .str (e.f6.f2), .str (e.f6.f3), .str (e.f6.f4), .str (e.f6.f5), .int .i64 (e.f6.f6), arrOf V.str 1 (e.f6.f7), .str (e.f6.f8.f0), .int .i64 (e.f6.f8.f1), .bool e.f6.f8.f2, .int .i64 (e.f6.f8.f3.f0), .int .i64 (e.f6.f8.f3.f1), .int .u64 (e.f6.f8.f3.f2), .str (e.f6.f8.f3.f3), .str (e.f6.f9.f0), .int .i64 (e.f6.f9.f1), arrOf T48.enc 7 (e.f6.f9.f2)]
def T71.enc (e : T71) : V := .agg e.cells
theorem T71.clean [Env] (e : T71) : ∀ u ∈ e.cells, Go.Ev.Clean u := cl_cons (Go.Ev.Clean.int _ _) (cl_cons (Go.Ev.Clean.str _) (cl_cons (arrOf_clean (enc := T46.enc) fun x _ => T46.clean x) (cl_cons (arrOf_clean (enc := T46.enc) fun x _ => T46.clean x) (cl_cons (arrOf_clean (enc := T46.enc) fun x _ => T46.clean x) (cl_cons (Go.Ev.Clean.int _ _) (cl_cons (Go.Ev.Clean.int _ _) (cl_cons (Go.Ev.Clean.str _) (cl_cons (Go.Ev.Clean.str _) (cl_cons (Go.Ev.Clean.str _) (cl_cons (Go.Ev.Clean.str _) (cl_cons (Go.Ev.Clean.str _) (cl_cons (Go.Ev.Clean.int _ _) (cl_cons (arrOf_clean (enc := V.str) fun _ _ => cl_cons (Go.Ev.Clean.str _) cl_nil) (cl_cons (Go.Ev.Clean.str _) (cl_cons (Go.Ev.Clean.int _ _) (cl_cons (Go.Ev.Clean.bool _) (cl_cons (Go.Ev.Clean.int _ _) (cl_cons (Go.Ev.Clean.int _ _) (cl_cons (Go.Ev.Clean.int _ _) (cl_cons (Go.Ev.Clean.str _) (cl_cons (Go.Ev.Clean.str _) (cl_cons (Go.Ev.Clean.int _ _) (cl_cons (arrOf_clean (enc := T48.enc) fun x _ => T48.clean x) (cl_nil))))))))))))))))))))))))
theorem T71.size (e : T71) : e.cells.length = 24 := rfl
/-- Some answer, 0 or 1. -/
def tot (p : Prop) (σ : St) (k : VPost) : Prop := p ∧ k (.int .i64 0) σ ∧ k (.int .i64 1) σ
/-- From where a scan goes, ahead of what, or why not. -/
def loQ (o : T71) (i : Nat) : T46 := o.f3.getD i default
def hiQ (o : T71) (i : Nat) : T46 := o.f4.getD i default
def okO (o : T71) : Prop := (∀ v ∈ o.f3, ok46 v) ∧ ∀ v ∈ o.f4, ok46 v
noncomputable def bErr (e : T51) (o : T71) : Int := if keyErr e (loQ o) o.f3.length ≠ 0 then keyErr e (loQ o) o.f3.length else keyErr e (hiQ o) o.f4.length
noncomputable def bLo (e : T51) (o : T71) : List UInt8 := if bErr e o = 0 then rowS (loQ o) o.f3.length else []
noncomputable def bHi (e : T51) (o : T71) : List UInt8 := if bErr e o = 0 then rowS (hiQ o) o.f4.length else []

def live69 : Nat → List Nat := (fun _ => [])
theorem e69 [Env] (A : Nat → List SV → Prop) (Q : V → Prop) (e : T46) : ws Tryz.prog (KF Tryz.prog kn49 0 Tryz.f69.ntmps (live69) A) 69 none 0 (Tryz.f69.body.getD .skip) (retS Tryz.prog Tryz.f69 (fun v _ => Q v)) (actOf Tryz.f69.ntmps [T46.enc (e)]) Go.Ev.start =
    (((.i64 : IntKind) = .i64 ∧ CondP (decide ((((len ((e).f3) : Nat) : Int)) > (2000 : Int))) (Q (.int .i64 (0 : Int))) (Q (.int .i64 (1 : Int))))) := by kernel_rfl
def W69 [Env] (vs : List V) (σ : St) (k : VPost) : Prop :=
  tot (∃ e : T46, vs = [T46.enc e]) σ k
def kn50 [Env] (g : FuncId) (vs : List V) (σ : St) (k : VPost) : Prop :=
  match Nat.beq g 69 with
  | true => W69 vs σ k
  | false => kn49 g vs σ k
def live86 : Nat → List Nat := (fun i => match i with | 0 => [0, 3] | _ => [])
theorem e86 [Env] (A : Nat → List SV → Prop) (Q : V → Prop) (l : List T46) : ws Tryz.prog (KF Tryz.prog kn50 0 Tryz.f86.ntmps (live86) A) 86 none 0 (Tryz.f86.body.getD .skip) (retS Tryz.prog Tryz.f86 (fun v _ => Q v)) (actOf Tryz.f86.ntmps [arrOf T46.enc 4 (l)]) Go.Ev.start =
    (((.i64 : IntKind) = .i64 ∧ CondP (decide (((((l).length : Nat) : Int)) > (30 : Int))) (Q (.int .i64 (0 : Int))) (A 0 [.val (arrOf T46.enc 4 (l)), .val (.int .i64 (0 : Int))]))) := by kernel_rfl
theorem r86 [Env] (A : Nat → List SV → Prop) (Q : V → Prop) (l : List T46) (i : Int) : ws Tryz.prog (KF Tryz.prog kn50 0 Tryz.f86.ntmps (live86) A) 86 none (Nat.add 0 1) (lp (Tryz.f86.body.getD .skip) 0) (seqQ (fun a σ => canonP 0 Tryz.f86.ntmps (live86 0) a σ (A 0)) (behind Tryz.prog (KF Tryz.prog kn50 0 Tryz.f86.ntmps (live86) A) 86 (Tryz.f86.body.getD .skip) 0 0 (retS Tryz.prog Tryz.f86 (fun v _ => Q v)))) (mkA Tryz.f86.ntmps (live86 0) [.val (arrOf T46.enc 4 (l)), .val (.int .i64 (i))]) (mkS [.val (arrOf T46.enc 4 (l)), .val (.int .i64 (i))]) =
    (((.i64 : IntKind) = .i64 ∧ CondP (decide ((i) < ((((l).length : Nat) : Int)))) (((0 ≤ (i) ∧ (i) < (((l).length : Nat) : Int)) ∧ ((∃ q58 : T46, [T46.enc ((l).getD (i).toNat default)] = [T46.enc q58]) ∧ ((.i64 : IntKind) = .i64 ∧ Q (.int .i64 (0 : Int))) ∧ ((.i64 : IntKind) = .i64 ∧ A 0 [.val (arrOf T46.enc 4 (l)), .val (.int .i64 (IntKind.i64.wrap ((i) + (1 : Int))))])))) (Q (.int .i64 (1 : Int))))) := by kernel_rfl
def W86 [Env] (vs : List V) (σ : St) (k : VPost) : Prop :=
  tot (∃ l : List T46, vs = [arrOf T46.enc 4 l]) σ k
def kn51 [Env] (g : FuncId) (vs : List V) (σ : St) (k : VPost) : Prop :=
  match Nat.beq g 86 with
  | true => W86 vs σ k
  | false => kn50 g vs σ k
def live68 : Nat → List Nat := (fun i => match i with | 0 => [0, 3] | _ => [])
theorem e68 [Env] (A : Nat → List SV → Prop) (Q : V → Prop) (l : List (List UInt8)) : ws Tryz.prog (KF Tryz.prog kn51 0 Tryz.f68.ntmps (live68) A) 68 none 0 (Tryz.f68.body.getD .skip) (retS Tryz.prog Tryz.f68 (fun v _ => Q v)) (actOf Tryz.f68.ntmps [arrOf V.str 1 (l)]) Go.Ev.start =
    (((.i64 : IntKind) = .i64 ∧ CondP (decide (((((l).length : Nat) : Int)) > (60 : Int))) (Q (.int .i64 (0 : Int))) (A 0 [.val (arrOf V.str 1 (l)), .val (.int .i64 (0 : Int))]))) := by kernel_rfl
theorem r68 [Env] (A : Nat → List SV → Prop) (Q : V → Prop) (l : List (List UInt8)) (i : Int) : ws Tryz.prog (KF Tryz.prog kn51 0 Tryz.f68.ntmps (live68) A) 68 none (Nat.add 0 1) (lp (Tryz.f68.body.getD .skip) 0) (seqQ (fun a σ => canonP 0 Tryz.f68.ntmps (live68 0) a σ (A 0)) (behind Tryz.prog (KF Tryz.prog kn51 0 Tryz.f68.ntmps (live68) A) 68 (Tryz.f68.body.getD .skip) 0 0 (retS Tryz.prog Tryz.f68 (fun v _ => Q v)))) (mkA Tryz.f68.ntmps (live68 0) [.val (arrOf V.str 1 (l)), .val (.int .i64 (i))]) (mkS [.val (arrOf V.str 1 (l)), .val (.int .i64 (i))]) =
    (((.i64 : IntKind) = .i64 ∧ CondP (decide ((i) < ((((l).length : Nat) : Int)))) (((0 ≤ (i) ∧ (i) < (((l).length : Nat) : Int)) ∧ ((.i64 : IntKind) = .i64 ∧ CondP (decide ((((len (((l).getD (i).toNat default)) : Nat) : Int)) > (500 : Int))) (Q (.int .i64 (0 : Int))) (A 0 [.val (arrOf V.str 1 (l)), .val (.int .i64 (IntKind.i64.wrap ((i) + (1 : Int))))])))) (Q (.int .i64 (1 : Int))))) := by kernel_rfl
def W68 [Env] (vs : List V) (σ : St) (k : VPost) : Prop :=
  tot (∃ l : List (List UInt8), FrzL σ vs [arrOf V.str 1 l]) σ k
def kn52 [Env] (g : FuncId) (vs : List V) (σ : St) (k : VPost) : Prop :=
  match Nat.beq g 68 with
  | true => W68 vs σ k
  | false => kn51 g vs σ k
def live52 : Nat → List Nat := (fun i => match i with | 0 => [1, 3] | _ => [])
theorem e52 [Env] (A : Nat → List SV → Prop) (Q : V → Prop) (e : T51) : ws Tryz.prog (KF Tryz.prog kn52 0 Tryz.f52.ntmps (live52) A) 52 none 0 (Tryz.f52.body.getD .skip) (retS Tryz.prog Tryz.f52 (fun v _ => Q v)) (actOf Tryz.f52.ntmps [T51.enc (e)]) Go.Ev.start =
    (((.i64 : IntKind) = .i64 ∧ CondP (decide ((((((e).f2).length : Nat) : Int)) > (20 : Int))) (Q (.int .i64 (0 : Int))) (((.i64 : IntKind) = .i64 ∧ CondP (decide ((((len ((e).f0) : Nat) : Int)) > (500 : Int))) (Q (.int .i64 (0 : Int))) (A 0 [.box [.str ((e).f0), .int .i64 ((e).f1), arrOf T48.enc 7 ((e).f2)], .val (.int .i64 (0 : Int))]))))) := by kernel_rfl
theorem r52 [Env] (A : Nat → List SV → Prop) (Q : V → Prop) (e : T51) (i : Int) : ws Tryz.prog (KF Tryz.prog kn52 0 Tryz.f52.ntmps (live52) A) 52 none (Nat.add 0 1) (lp (Tryz.f52.body.getD .skip) 0) (seqQ (fun a σ => canonP 0 Tryz.f52.ntmps (live52 0) a σ (A 0)) (behind Tryz.prog (KF Tryz.prog kn52 0 Tryz.f52.ntmps (live52) A) 52 (Tryz.f52.body.getD .skip) 0 0 (retS Tryz.prog Tryz.f52 (fun v _ => Q v)))) (mkA Tryz.f52.ntmps (live52 0) [.box [.str (e.f0), .int .i64 (e.f1), arrOf T48.enc 7 (e.f2)], .val (.int .i64 (i))]) (mkS [.box [.str (e.f0), .int .i64 (e.f1), arrOf T48.enc 7 (e.f2)], .val (.int .i64 (i))]) =
    (((.i64 : IntKind) = .i64 ∧ CondP (decide ((i) < ((((e.f2).length : Nat) : Int)))) (((0 ≤ (i) ∧ (i) < (((e.f2).length : Nat) : Int)) ∧ ((.i64 : IntKind) = .i64 ∧ CondP (decide ((((len (((e.f2).getD (i).toNat default).f0) : Nat) : Int)) > (500 : Int))) (Q (.int .i64 (0 : Int))) (((0 ≤ (i) ∧ (i) < (((e.f2).length : Nat) : Int)) ∧ ((∃ q59 : T46, [.agg [.int .i64 (((e.f2).getD (i).toNat default).f3.f0), .int .i64 (((e.f2).getD (i).toNat default).f3.f1), .int .u64 (((e.f2).getD (i).toNat default).f3.f2), .str (((e.f2).getD (i).toNat default).f3.f3)]] = [T46.enc q59]) ∧ ((.i64 : IntKind) = .i64 ∧ Q (.int .i64 (0 : Int))) ∧ ((.i64 : IntKind) = .i64 ∧ A 0 [.box [.str (e.f0), .int .i64 (e.f1), arrOf T48.enc 7 (e.f2)], .val (.int .i64 (IntKind.i64.wrap ((i) + (1 : Int))))]))))))) (Q (.int .i64 (1 : Int))))) := by kernel_rfl
def W52 [Env] (vs : List V) (σ : St) (k : VPost) : Prop :=
  tot (∃ e : T51, vs = [T51.enc e]) σ k
def kn53 [Env] (g : FuncId) (vs : List V) (σ : St) (k : VPost) : Prop :=
  match Nat.beq g 52 with
  | true => W52 vs σ k
  | false => kn52 g vs σ k
def live28 : Nat → List Nat := (fun _ => [])
theorem e28 [Env] (A : Nat → List SV → Prop) (Q : V → Prop) (e : T53) : ws Tryz.prog (KF Tryz.prog kn53 0 Tryz.f28.ntmps (live28) A) 28 none 0 (Tryz.f28.body.getD .skip) (retS Tryz.prog Tryz.f28 (fun v _ => Q v)) (actOf Tryz.f28.ntmps [T53.enc (e)]) Go.Ev.start =
    (((∃ q60 : List (List UInt8), FrzL ⟨(St.new (St.new Go.Ev.start 0 (.cells 18 [] (putAll [.int .i64 ((e).f0), .str ((e).f1), .str ((e).f2), .str ((e).f3), .str ((e).f4), .str ((e).f5), .int .i64 ((e).f6), arrOf V.str 1 ((e).f7), .str ((e).f8.f0), .int .i64 ((e).f8.f1), .bool (e).f8.f2, .int .i64 ((e).f8.f3.f0), .int .i64 ((e).f8.f3.f1), .int .u64 ((e).f8.f3.f2), .str ((e).f8.f3.f3), .str ((e).f9.f0), .int .i64 ((e).f9.f1), arrOf T48.enc 7 ((e).f9.f2)] .leaf 0) true false)) 1 (.cells 6 [] (putAll [.str ((e).f1), .str ((e).f2), .str ((e).f3), .str ((e).f4), .str ((e).f5), .str ((e).f8.f0)] .leaf 0) true false)).heap, 2⟩ [arrOf V.str 1 ((e).f7)] [arrOf V.str 1 q60]) ∧ ((.i64 : IntKind) = .i64 ∧ Q (.int .i64 (0 : Int))) ∧ ((.i64 : IntKind) = .i64 ∧ ((∃ q61 : List (List UInt8), FrzL ⟨(St.new (St.new Go.Ev.start 0 (.cells 18 [] (putAll [.int .i64 ((e).f0), .str ((e).f1), .str ((e).f2), .str ((e).f3), .str ((e).f4), .str ((e).f5), .int .i64 ((e).f6), arrOf V.str 1 ((e).f7), .str ((e).f8.f0), .int .i64 ((e).f8.f1), .bool (e).f8.f2, .int .i64 ((e).f8.f3.f0), .int .i64 ((e).f8.f3.f1), .int .u64 ((e).f8.f3.f2), .str ((e).f8.f3.f3), .str ((e).f9.f0), .int .i64 ((e).f9.f1), arrOf T48.enc 7 ((e).f9.f2)] .leaf 0) true false)) 1 (.cells 6 [] (putAll [.str ((e).f1), .str ((e).f2), .str ((e).f3), .str ((e).f4), .str ((e).f5), .str ((e).f8.f0)] .leaf 0) true false)).heap, 2⟩ [.slice 1 0 (6) (6) true 1] [arrOf V.str 1 q61]) ∧ ((.i64 : IntKind) = .i64 ∧ Q (.int .i64 (0 : Int))) ∧ ((.i64 : IntKind) = .i64 ∧ ((∃ q62 : T51, [.agg [.str ((e).f9.f0), .int .i64 ((e).f9.f1), arrOf T48.enc 7 ((e).f9.f2)]] = [T51.enc q62]) ∧ ((.i64 : IntKind) = .i64 ∧ Q (.int .i64 (0 : Int))) ∧ ((.i64 : IntKind) = .i64 ∧ ((∃ q63 : T46, [.agg [.int .i64 ((e).f8.f3.f0), .int .i64 ((e).f8.f3.f1), .int .u64 ((e).f8.f3.f2), .str ((e).f8.f3.f3)]] = [T46.enc q63]) ∧ ((.i64 : IntKind) = .i64 ∧ Q (.int .i64 (0 : Int))) ∧ ((.i64 : IntKind) = .i64 ∧ Q (.int .i64 (1 : Int))))))))))) := by kernel_rfl
def W28 [Env] (vs : List V) (σ : St) (k : VPost) : Prop :=
  tot (∃ e : T53, vs = [T53.enc e]) σ k
def kn54 [Env] (g : FuncId) (vs : List V) (σ : St) (k : VPost) : Prop :=
  match Nat.beq g 28 with
  | true => W28 vs σ k
  | false => kn53 g vs σ k
def live44 : Nat → List Nat := (fun _ => [])
theorem e44 [Env] (A : Nat → List SV → Prop) (Q : V → Prop) (e : T71) : ws Tryz.prog (KF Tryz.prog kn54 0 Tryz.f44.ntmps (live44) A) 44 none 0 (Tryz.f44.body.getD .skip) (retS Tryz.prog Tryz.f44 (fun v _ => Q v)) (actOf Tryz.f44.ntmps [T71.enc (e)]) Go.Ev.start =
    (((.i64 : IntKind) = .i64 ∧ CondP (decide ((((len ((e).f1) : Nat) : Int)) > (500 : Int))) (Q (.int .i64 (0 : Int))) (((∃ q64 : List T46, [arrOf T46.enc 4 ((e).f2)] = [arrOf T46.enc 4 q64]) ∧ ((.i64 : IntKind) = .i64 ∧ Q (.int .i64 (0 : Int))) ∧ ((.i64 : IntKind) = .i64 ∧ ((∃ q65 : List T46, [arrOf T46.enc 4 ((e).f3)] = [arrOf T46.enc 4 q65]) ∧ ((.i64 : IntKind) = .i64 ∧ Q (.int .i64 (0 : Int))) ∧ ((.i64 : IntKind) = .i64 ∧ ((∃ q66 : List T46, [arrOf T46.enc 4 ((e).f4)] = [arrOf T46.enc 4 q66]) ∧ ((.i64 : IntKind) = .i64 ∧ Q (.int .i64 (0 : Int))) ∧ ((.i64 : IntKind) = .i64 ∧ ((∃ q67 : T53, [.agg [.int .i64 ((e).f6.f0), .str ((e).f6.f1), .str ((e).f6.f2), .str ((e).f6.f3), .str ((e).f6.f4), .str ((e).f6.f5), .int .i64 ((e).f6.f6), arrOf V.str 1 ((e).f6.f7), .str ((e).f6.f8.f0), .int .i64 ((e).f6.f8.f1), .bool (e).f6.f8.f2, .int .i64 ((e).f6.f8.f3.f0), .int .i64 ((e).f6.f8.f3.f1), .int .u64 ((e).f6.f8.f3.f2), .str ((e).f6.f8.f3.f3), .str ((e).f6.f9.f0), .int .i64 ((e).f6.f9.f1), arrOf T48.enc 7 ((e).f6.f9.f2)]] = [T53.enc q67]) ∧ ((.i64 : IntKind) = .i64 ∧ Q (.int .i64 (0 : Int))) ∧ ((.i64 : IntKind) = .i64 ∧ Q (.int .i64 (1 : Int))))))))))))) := by kernel_rfl
def W44 [Env] (vs : List V) (σ : St) (k : VPost) : Prop :=
  tot (∃ e : T71, vs = [T71.enc e]) σ k
def kn55 [Env] (g : FuncId) (vs : List V) (σ : St) (k : VPost) : Prop :=
  match Nat.beq g 44 with
  | true => W44 vs σ k
  | false => kn54 g vs σ k
end Go.Proofs.YtbajncpfmemdgaaGreatDoor
namespace Go.Proofs.YtbajncpfmemdgaaGreatDoor
open Go Go.Ev
def live53 : Nat → List Nat := (fun i => match i with | 0 => [2, 7, 15, 16] | _ => [])
theorem e53 [Env] (A : Nat → List SV → Prop) (Q : V → Prop) (e : T51) (o : T71) : ws Tryz.prog (KF Tryz.prog kn55 0 Tryz.f53.ntmps (live53) A) 53 none 0 (Tryz.f53.body.getD .skip) (retS Tryz.prog Tryz.f53 (fun v _ => Q v)) (actOf Tryz.f53.ntmps [T51.enc (e), T71.enc (o)]) Go.Ev.start =
    (A 0 [.box [.str ((e).f0), .int .i64 ((e).f1), arrOf T48.enc 7 ((e).f2)], .box [.str ([]), .str ([])], .val (.agg [arrOf T46.enc 4 ((o).f3), arrOf T46.enc 4 ((o).f4)]), .val (.int .i64 (0 : Int))]) := by kernel_rfl
theorem r53_0 [Env] (A : Nat → List SV → Prop) (Q : V → Prop) (e : T51) (a b : List UInt8) (l m : List T46) : ws Tryz.prog (KF Tryz.prog kn55 0 Tryz.f53.ntmps (live53) A) 53 none (Nat.add 0 1) (lp (Tryz.f53.body.getD .skip) 0) (seqQ (fun a σ => canonP 0 Tryz.f53.ntmps (live53 0) a σ (A 0)) (behind Tryz.prog (KF Tryz.prog kn55 0 Tryz.f53.ntmps (live53) A) 53 (Tryz.f53.body.getD .skip) 0 0 (retS Tryz.prog Tryz.f53 (fun v _ => Q v)))) (mkA Tryz.f53.ntmps (live53 0) [.box [.str (e.f0), .int .i64 (e.f1), arrOf T48.enc 7 (e.f2)], .box [.str (a), .str (b)], .val (.agg [arrOf T46.enc 4 (l), arrOf T46.enc 4 (m)]), .val (.int .i64 (0 : Int))]) (mkS [.box [.str (e.f0), .int .i64 (e.f1), arrOf T48.enc 7 (e.f2)], .box [.str (a), .str (b)], .val (.agg [arrOf T46.enc 4 (l), arrOf T46.enc 4 (m)]), .val (.int .i64 (0 : Int))]) =
    (((.i64 : IntKind) = .i64 ∧ (∃ (q68 : T51) (n69 : Nat) (g70 : Nat → T46), [.agg [.str (e.f0), .int .i64 (e.f1), arrOf T48.enc 7 (e.f2)], arrOf T46.enc 4 (l), .bool false] = [T51.enc q68, .arr n69 (fun i => T46.enc (g70 i)) 4 false false, .bool false] ∧ (ok51 q68 ∧ ∀ i, i < n69 → ok46 (g70 i)) ∧ ((.i64 : IntKind) = .i64 ∧ CondP (decide ((keyErr q68 g70 n69) ≠ (0 : Int))) (Q (.tuple [.str ([]), .str ([]), .int .i64 (keyErr q68 g70 n69)])) ((∃ q71 : Nat → T46, (fun i => T46.enc ((l).getD i default)) = (fun i => T46.enc (q71 i)) ∧ ((l).length ≤ 1000 ∧ ∀ i, i < (l).length → ok46 (q71 i)) ∧ A 0 [.box [.str (e.f0), .int .i64 (e.f1), arrOf T48.enc 7 (e.f2)], .box [.str (rowS q71 ((l).length)), .str (b)], .val (.agg [arrOf T46.enc 4 (l), arrOf T46.enc 4 (m)]), .val (.int .i64 (IntKind.i64.wrap ((0 : Int) + (1 : Int))))])))))) := by kernel_rfl
theorem r53_1 [Env] (A : Nat → List SV → Prop) (Q : V → Prop) (e : T51) (a b : List UInt8) (l m : List T46) : ws Tryz.prog (KF Tryz.prog kn55 0 Tryz.f53.ntmps (live53) A) 53 none (Nat.add 0 1) (lp (Tryz.f53.body.getD .skip) 0) (seqQ (fun a σ => canonP 0 Tryz.f53.ntmps (live53 0) a σ (A 0)) (behind Tryz.prog (KF Tryz.prog kn55 0 Tryz.f53.ntmps (live53) A) 53 (Tryz.f53.body.getD .skip) 0 0 (retS Tryz.prog Tryz.f53 (fun v _ => Q v)))) (mkA Tryz.f53.ntmps (live53 0) [.box [.str (e.f0), .int .i64 (e.f1), arrOf T48.enc 7 (e.f2)], .box [.str (a), .str (b)], .val (.agg [arrOf T46.enc 4 (l), arrOf T46.enc 4 (m)]), .val (.int .i64 (1 : Int))]) (mkS [.box [.str (e.f0), .int .i64 (e.f1), arrOf T48.enc 7 (e.f2)], .box [.str (a), .str (b)], .val (.agg [arrOf T46.enc 4 (l), arrOf T46.enc 4 (m)]), .val (.int .i64 (1 : Int))]) =
    (((.i64 : IntKind) = .i64 ∧ (∃ (q72 : T51) (n73 : Nat) (g74 : Nat → T46), [.agg [.str (e.f0), .int .i64 (e.f1), arrOf T48.enc 7 (e.f2)], arrOf T46.enc 4 (m), .bool false] = [T51.enc q72, .arr n73 (fun i => T46.enc (g74 i)) 4 false false, .bool false] ∧ (ok51 q72 ∧ ∀ i, i < n73 → ok46 (g74 i)) ∧ ((.i64 : IntKind) = .i64 ∧ CondP (decide ((keyErr q72 g74 n73) ≠ (0 : Int))) (Q (.tuple [.str ([]), .str ([]), .int .i64 (keyErr q72 g74 n73)])) ((∃ q75 : Nat → T46, (fun i => T46.enc ((m).getD i default)) = (fun i => T46.enc (q75 i)) ∧ ((m).length ≤ 1000 ∧ ∀ i, i < (m).length → ok46 (q75 i)) ∧ A 0 [.box [.str (e.f0), .int .i64 (e.f1), arrOf T48.enc 7 (e.f2)], .box [.str (a), .str (rowS q75 ((m).length))], .val (.agg [arrOf T46.enc 4 (l), arrOf T46.enc 4 (m)]), .val (.int .i64 (IntKind.i64.wrap ((1 : Int) + (1 : Int))))])))))) := by kernel_rfl
theorem r53_2 [Env] (A : Nat → List SV → Prop) (Q : V → Prop) (e : T51) (a b : List UInt8) (l m : List T46) : ws Tryz.prog (KF Tryz.prog kn55 0 Tryz.f53.ntmps (live53) A) 53 none (Nat.add 0 1) (lp (Tryz.f53.body.getD .skip) 0) (seqQ (fun a σ => canonP 0 Tryz.f53.ntmps (live53 0) a σ (A 0)) (behind Tryz.prog (KF Tryz.prog kn55 0 Tryz.f53.ntmps (live53) A) 53 (Tryz.f53.body.getD .skip) 0 0 (retS Tryz.prog Tryz.f53 (fun v _ => Q v)))) (mkA Tryz.f53.ntmps (live53 0) [.box [.str (e.f0), .int .i64 (e.f1), arrOf T48.enc 7 (e.f2)], .box [.str (a), .str (b)], .val (.agg [arrOf T46.enc 4 (l), arrOf T46.enc 4 (m)]), .val (.int .i64 (2 : Int))]) (mkS [.box [.str (e.f0), .int .i64 (e.f1), arrOf T48.enc 7 (e.f2)], .box [.str (a), .str (b)], .val (.agg [arrOf T46.enc 4 (l), arrOf T46.enc 4 (m)]), .val (.int .i64 (2 : Int))]) =
    (((.i64 : IntKind) = .i64 ∧ CondP (V.beq (.str (b)) (.str (b)) && true) (Q (.tuple [.str (a), .str (b), .int .i64 (0 : Int)])) False)) := by kernel_rfl
def W53 [Env] (vs : List V) (σ : St) (k : VPost) : Prop :=
  ∃ (e : T51) (o : T71), vs = [T51.enc e, T71.enc o] ∧ (ok51 e ∧ okO o) ∧ k (.tuple [.str (bLo e o), .str (bHi e o), .int .i64 (bErr e o)]) σ
def kn56 [Env] (g : FuncId) (vs : List V) (σ : St) (k : VPost) : Prop :=
  match Nat.beq g 53 with
  | true => W53 vs σ k
  | false => kn55 g vs σ k
def live54 : Nat → List Nat := (fun _ => [])
theorem e54 [Env] (A : Nat → List SV → Prop) (Q : V → Prop) (e : T51) (o : T71) : ws Tryz.prog (KF Tryz.prog kn56 0 Tryz.f54.ntmps (live54) A) 54 none 0 (Tryz.f54.body.getD .skip) (retS Tryz.prog Tryz.f54 (fun v _ => Q v)) (actOf Tryz.f54.ntmps [T51.enc (e), T71.enc (o)]) Go.Ev.start =
    ((∃ (q76 : T51) (n77 : Nat) (g78 : Nat → T46), [.agg [.str ((e).f0), .int .i64 ((e).f1), arrOf T48.enc 7 ((e).f2)], arrOf T46.enc 4 ((o).f3), .bool false] = [T51.enc q76, .arr n77 (fun i => T46.enc (g78 i)) 4 false false, .bool false] ∧ (ok51 q76 ∧ ∀ i, i < n77 → ok46 (g78 i)) ∧ ((.i64 : IntKind) = .i64 ∧ CondP (decide ((keyErr q76 g78 n77) ≠ (0 : Int))) (Q (.tuple [.str ([]), .str ([]), .int .i64 (keyErr q76 g78 n77)])) ((∃ (q79 : T51) (n80 : Nat) (g81 : Nat → T46), [.agg [.str ((e).f0), .int .i64 ((e).f1), arrOf T48.enc 7 ((e).f2)], arrOf T46.enc 4 ((o).f4), .bool false] = [T51.enc q79, .arr n80 (fun i => T46.enc (g81 i)) 4 false false, .bool false] ∧ (ok51 q79 ∧ ∀ i, i < n80 → ok46 (g81 i)) ∧ ((.i64 : IntKind) = .i64 ∧ CondP (decide ((keyErr q79 g81 n80) ≠ (0 : Int))) (Q (.tuple [.str ([]), .str ([]), .int .i64 (keyErr q79 g81 n80)])) ((∃ q82 : Nat → T46, (fun i => T46.enc (((o).f3).getD i default)) = (fun i => T46.enc (q82 i)) ∧ (((o).f3).length ≤ 1000 ∧ ∀ i, i < ((o).f3).length → ok46 (q82 i)) ∧ (∃ q83 : Nat → T46, (fun i => T46.enc (((o).f4).getD i default)) = (fun i => T46.enc (q83 i)) ∧ (((o).f4).length ≤ 1000 ∧ ∀ i, i < ((o).f4).length → ok46 (q83 i)) ∧ Q (.tuple [.str (rowS q82 (((o).f3).length)), .str (rowS q83 (((o).f4).length)), .int .i64 (0 : Int)])))))))))) := by kernel_rfl
def W54 [Env] (vs : List V) (σ : St) (k : VPost) : Prop :=
  ∃ (e : T51) (o : T71), vs = [T51.enc e, T71.enc o] ∧ (ok51 e ∧ okO o) ∧ k (.tuple [.str (bLo e o), .str (bHi e o), .int .i64 (bErr e o)]) σ
def kn57 [Env] (g : FuncId) (vs : List V) (σ : St) (k : VPost) : Prop :=
  match Nat.beq g 54 with
  | true => W54 vs σ k
  | false => kn56 g vs σ k
def W46 [Env] (vs : List V) (σ : St) (k : VPost) : Prop :=
  vs = [] ∧ k (.bool true) σ
def kn58 [Env] (g : FuncId) (vs : List V) (σ : St) (k : VPost) : Prop :=
  match Nat.beq g 46 with
  | true => W46 vs σ k
  | false => kn57 g vs σ k
def live10 : Nat → List Nat := (fun _ => [])
theorem e10 [Env] (A : Nat → List SV → Prop) (Q : V → Prop) (e : T51) (o : T71) : ws Tryz.prog (KF Tryz.prog kn58 0 Tryz.f10.ntmps (live10) A) 10 none 0 (Tryz.f10.body.getD .skip) (retS Tryz.prog Tryz.f10 (fun v _ => Q v)) (actOf Tryz.f10.ntmps [T51.enc (e), T71.enc (o)]) Go.Ev.start =
    (((∃ q84 : T51, [.agg [.str ((e).f0), .int .i64 ((e).f1), arrOf T48.enc 7 ((e).f2)]] = [T51.enc q84]) ∧ ((.i64 : IntKind) = .i64 ∧ (([] : List V) = [] ∧ Q (.bool true))) ∧ ((.i64 : IntKind) = .i64 ∧ ((∃ q85 : T71, [.agg [.int .i64 ((o).f0), .str ((o).f1), arrOf T46.enc 4 ((o).f2), arrOf T46.enc 4 ((o).f3), arrOf T46.enc 4 ((o).f4), .int .i64 ((o).f5), .int .i64 ((o).f6.f0), .str ((o).f6.f1), .str ((o).f6.f2), .str ((o).f6.f3), .str ((o).f6.f4), .str ((o).f6.f5), .int .i64 ((o).f6.f6), arrOf V.str 1 ((o).f6.f7), .str ((o).f6.f8.f0), .int .i64 ((o).f6.f8.f1), .bool (o).f6.f8.f2, .int .i64 ((o).f6.f8.f3.f0), .int .i64 ((o).f6.f8.f3.f1), .int .u64 ((o).f6.f8.f3.f2), .str ((o).f6.f8.f3.f3), .str ((o).f6.f9.f0), .int .i64 ((o).f6.f9.f1), arrOf T48.enc 7 ((o).f6.f9.f2)]] = [T71.enc q85]) ∧ ((.i64 : IntKind) = .i64 ∧ (([] : List V) = [] ∧ Q (.bool true))) ∧ ((.i64 : IntKind) = .i64 ∧ (∃ (q86 : T51) (q87 : T71), [.agg [.str ((e).f0), .int .i64 ((e).f1), arrOf T48.enc 7 ((e).f2)], .agg [.int .i64 ((o).f0), .str ((o).f1), arrOf T46.enc 4 ((o).f2), arrOf T46.enc 4 ((o).f3), arrOf T46.enc 4 ((o).f4), .int .i64 ((o).f5), .int .i64 ((o).f6.f0), .str ((o).f6.f1), .str ((o).f6.f2), .str ((o).f6.f3), .str ((o).f6.f4), .str ((o).f6.f5), .int .i64 ((o).f6.f6), arrOf V.str 1 ((o).f6.f7), .str ((o).f6.f8.f0), .int .i64 ((o).f6.f8.f1), .bool (o).f6.f8.f2, .int .i64 ((o).f6.f8.f3.f0), .int .i64 ((o).f6.f8.f3.f1), .int .u64 ((o).f6.f8.f3.f2), .str ((o).f6.f8.f3.f3), .str ((o).f6.f9.f0), .int .i64 ((o).f6.f9.f1), arrOf T48.enc 7 ((o).f6.f9.f2)]] = [T51.enc q86, T71.enc q87] ∧ (ok51 q86 ∧ okO q87) ∧ (∃ (q88 : T51) (q89 : T71), [.agg [.str ((e).f0), .int .i64 ((e).f1), arrOf T48.enc 7 ((e).f2)], .agg [.int .i64 ((o).f0), .str ((o).f1), arrOf T46.enc 4 ((o).f2), arrOf T46.enc 4 ((o).f3), arrOf T46.enc 4 ((o).f4), .int .i64 ((o).f5), .int .i64 ((o).f6.f0), .str ((o).f6.f1), .str ((o).f6.f2), .str ((o).f6.f3), .str ((o).f6.f4), .str ((o).f6.f5), .int .i64 ((o).f6.f6), arrOf V.str 1 ((o).f6.f7), .str ((o).f6.f8.f0), .int .i64 ((o).f6.f8.f1), .bool (o).f6.f8.f2, .int .i64 ((o).f6.f8.f3.f0), .int .i64 ((o).f6.f8.f3.f1), .int .u64 ((o).f6.f8.f3.f2), .str ((o).f6.f8.f3.f3), .str ((o).f6.f9.f0), .int .i64 ((o).f6.f9.f1), arrOf T48.enc 7 ((o).f6.f9.f2)]] = [T51.enc q88, T71.enc q89] ∧ (ok51 q88 ∧ okO q89) ∧ CondP (decide (bLo q86 q87 = bLo q88 q89)) (CondP (decide (bHi q86 q87 = bHi q88 q89)) (((.i64 : IntKind) = .i64 ∧ CondP (decide ((bErr q86 q87) = (bErr q88 q89))) ((([] : List V) = [] ∧ Q (.bool true))) (Q (.bool false)))) (Q (.bool false))) (Q (.bool false))))))))) := by kernel_rfl
end Go.Proofs.YtbajncpfmemdgaaGreatDoor
