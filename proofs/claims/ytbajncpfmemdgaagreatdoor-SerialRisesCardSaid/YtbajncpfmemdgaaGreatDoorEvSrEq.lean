/- What the functions' segments come to, for whatever arguments: reckoned by the kernel. -/
import Derived.Test.YtbajncpfmemdgaaGreatDoorProg
import Derived.Test.YtbajncpfmemdgaaGreatDoorEvPure
import Derived.Test.YtbajncpfmemdgaaGreatDoorEvSorts
import Derived.ProofKit
namespace Go.Proofs.YtbajncpfmemdgaaGreatDoor
open Go Go.Ev
/-- api.Value: Kind, N, Bits, S -/
structure T46 where
  f0 : Int
  f1 : Int
  f2 : Int
  f3 : (List UInt8)
  deriving Inhabited
def T46.cells (e : T46) : List V := [.int .i64 (e.f0), .int .i64 (e.f1), .int .u64 (e.f2), .str (e.f3)]
def T46.enc (e : T46) : V := .agg e.cells
theorem T46.clean [Env] (e : T46) : ∀ u ∈ e.cells, Go.Ev.Clean u := cl_cons (Go.Ev.Clean.int _ _) (cl_cons (Go.Ev.Clean.int _ _) (cl_cons (Go.Ev.Clean.int _ _) (cl_cons (Go.Ev.Clean.str _) (cl_nil))))
theorem T46.size (e : T46) : e.cells.length = 4 := rfl
/-- api.Col: Name, Kind, Null, Default -/
structure T48 where
  f0 : (List UInt8)
  f1 : Int
  f2 : Bool
  f3 : T46
  deriving Inhabited
def T48.cells (e : T48) : List V := [.str (e.f0), .int .i64 (e.f1), .bool e.f2, .int .i64 (e.f3.f0), .int .i64 (e.f3.f1), .int .u64 (e.f3.f2), .str (e.f3.f3)]
def T48.enc (e : T48) : V := .agg e.cells
theorem T48.clean [Env] (e : T48) : ∀ u ∈ e.cells, Go.Ev.Clean u := cl_cons (Go.Ev.Clean.str _) (cl_cons (Go.Ev.Clean.int _ _) (cl_cons (Go.Ev.Clean.bool _) (cl_cons (Go.Ev.Clean.int _ _) (cl_cons (Go.Ev.Clean.int _ _) (cl_cons (Go.Ev.Clean.int _ _) (cl_cons (Go.Ev.Clean.str _) (cl_nil)))))))
theorem T48.size (e : T48) : e.cells.length = 7 := rfl
/-- api.Table: Name, Keys, Cols -/
structure T51 where
  f0 : (List UInt8)
  f1 : Int
  f2 : (List T48)
  deriving Inhabited
def T51.cells (e : T51) : List V := [.str (e.f0), .int .i64 (e.f1), arrOf T48.enc 7 (e.f2)]
def T51.enc (e : T51) : V := .agg e.cells
theorem T51.clean [Env] (e : T51) : ∀ u ∈ e.cells, Go.Ev.Clean u := cl_cons (Go.Ev.Clean.str _) (cl_cons (Go.Ev.Clean.int _ _) (cl_cons (arrOf_clean (enc := T48.enc) fun x _ => T48.clean x) (cl_nil)))
theorem T51.size (e : T51) : e.cells.length = 3 := rfl
/-- api.Change: Kind, Table, Other, To, Also, Name, Type, Names, Col, Def -/
structure T53 where
  f0 : Int
  f1 : (List UInt8)
  f2 : (List UInt8)
  f3 : (List UInt8)
  f4 : (List UInt8)
  f5 : (List UInt8)
  f6 : Int
  f7 : (List (List UInt8))
  f8 : T48
  f9 : T51
  deriving Inhabited
def T53.cells (e : T53) : List V := [.int .i64 (e.f0), .str (e.f1), .str (e.f2), .str (e.f3), .str (e.f4), .str (e.f5), .int .i64 (e.f6), arrOf V.str 1 (e.f7), .str (e.f8.f0), .int .i64 (e.f8.f1), .bool e.f8.f2, .int .i64 (e.f8.f3.f0), .int .i64 (e.f8.f3.f1), .int .u64 (e.f8.f3.f2), .str (e.f8.f3.f3), .str (e.f9.f0), .int .i64 (e.f9.f1), arrOf T48.enc 7 (e.f9.f2)]
def T53.enc (e : T53) : V := .agg e.cells
theorem T53.clean [Env] (e : T53) : ∀ u ∈ e.cells, Go.Ev.Clean u := cl_cons (Go.Ev.Clean.int _ _) (cl_cons (Go.Ev.Clean.str _) (cl_cons (Go.Ev.Clean.str _) (cl_cons (Go.Ev.Clean.str _) (cl_cons (Go.Ev.Clean.str _) (cl_cons (Go.Ev.Clean.str _) (cl_cons (Go.Ev.Clean.int _ _) (cl_cons (arrOf_clean (enc := V.str) fun _ _ => cl_cons (Go.Ev.Clean.str _) cl_nil) (cl_cons (Go.Ev.Clean.str _) (cl_cons (Go.Ev.Clean.int _ _) (cl_cons (Go.Ev.Clean.bool _) (cl_cons (Go.Ev.Clean.int _ _) (cl_cons (Go.Ev.Clean.int _ _) (cl_cons (Go.Ev.Clean.int _ _) (cl_cons (Go.Ev.Clean.str _) (cl_cons (Go.Ev.Clean.str _) (cl_cons (Go.Ev.Clean.int _ _) (cl_cons (arrOf_clean (enc := T48.enc) fun x _ => T48.clean x) (cl_nil))))))))))))))))))
theorem T53.size (e : T53) : e.cells.length = 18 := rfl
/-- api.Op: Kind, Table, Row, Lo, Hi, Max, Change -/
structure T71 where
  f0 : Int
  f1 : (List UInt8)
  f2 : (List T46)
  f3 : (List T46)
  f4 : (List T46)
  f5 : Int
  f6 : T53
  deriving Inhabited
def T71.cells (e : T71) : List V := [.int .i64 (e.f0), .str (e.f1), arrOf T46.enc 4 (e.f2), arrOf T46.enc 4 (e.f3), arrOf T46.enc 4 (e.f4), .int .i64 (e.f5), .int .i64 (e.f6.f0), .str (e.f6.f1), .str (e.f6.f2), .str (e.f6.f3), .str (e.f6.f4), .str (e.f6.f5), .int .i64 (e.f6.f6), arrOf V.str 1 (e.f6.f7), .str (e.f6.f8.f0), .int .i64 (e.f6.f8.f1), .bool e.f6.f8.f2, .int .i64 (e.f6.f8.f3.f0), .int .i64 (e.f6.f8.f3.f1), .int .u64 (e.f6.f8.f3.f2), .str (e.f6.f8.f3.f3), .str (e.f6.f9.f0), .int .i64 (e.f6.f9.f1), arrOf T48.enc 7 (e.f6.f9.f2)]
def T71.enc (e : T71) : V := .agg e.cells
theorem T71.clean [Env] (e : T71) : ∀ u ∈ e.cells, Go.Ev.Clean u := cl_cons (Go.Ev.Clean.int _ _) (cl_cons (Go.Ev.Clean.str _) (cl_cons (arrOf_clean (enc := T46.enc) fun x _ => T46.clean x) (cl_cons (arrOf_clean (enc := T46.enc) fun x _ => T46.clean x) (cl_cons (arrOf_clean (enc := T46.enc) fun x _ => T46.clean x) (cl_cons (Go.Ev.Clean.int _ _) (cl_cons (Go.Ev.Clean.int _ _) (cl_cons (Go.Ev.Clean.str _) (cl_cons (Go.Ev.Clean.str _) (cl_cons (Go.Ev.Clean.str _) (cl_cons (Go.Ev.Clean.str _) (cl_cons (Go.Ev.Clean.str _) (cl_cons (Go.Ev.Clean.int _ _) (cl_cons (arrOf_clean (enc := V.str) fun _ _ => cl_cons (Go.Ev.Clean.str _) cl_nil) (cl_cons (Go.Ev.Clean.str _) (cl_cons (Go.Ev.Clean.int _ _) (cl_cons (Go.Ev.Clean.bool _) (cl_cons (Go.Ev.Clean.int _ _) (cl_cons (Go.Ev.Clean.int _ _) (cl_cons (Go.Ev.Clean.int _ _) (cl_cons (Go.Ev.Clean.str _) (cl_cons (Go.Ev.Clean.str _) (cl_cons (Go.Ev.Clean.int _ _) (cl_cons (arrOf_clean (enc := T48.enc) fun x _ => T48.clean x) (cl_nil))))))))))))))))))))))))
theorem T71.size (e : T71) : e.cells.length = 24 := rfl
/-- api.Reply: Err, Rows -/
structure T76 where
  f0 : Int
  f1 : (List (List T46))
  deriving Inhabited
def T76.cells (e : T76) : List V := [.int .i64 (e.f0), arrOf (arrOf T46.enc 4) 1 (e.f1)]
def T76.enc (e : T76) : V := .agg e.cells
theorem T76.clean [Env] (e : T76) : ∀ u ∈ e.cells, Go.Ev.Clean u := cl_cons (Go.Ev.Clean.int _ _) (cl_cons (arrOf_clean (enc := (arrOf T46.enc 4)) fun _ _ => cl_cons (arrOf_clean (enc := T46.enc) fun x _ => T46.clean x) cl_nil) (cl_nil))
theorem T76.size (e : T76) : e.cells.length = 2 := rfl
/-- api.Event: Who, Begin, End, Word, Ops, Replies -/
structure T30 where
  f0 : Int
  f1 : Int
  f2 : Int
  f3 : Int
  f4 : (List T71)
  f5 : (List T76)
  deriving Inhabited
def T30.cells (e : T30) : List V := [.int .i64 (e.f0), .int .i64 (e.f1), .int .i64 (e.f2), .int .i64 (e.f3), arrOf T71.enc 24 (e.f4), arrOf T76.enc 2 (e.f5)]
def T30.enc (e : T30) : V := .agg e.cells
theorem T30.clean [Env] (e : T30) : ∀ u ∈ e.cells, Go.Ev.Clean u := cl_cons (Go.Ev.Clean.int _ _) (cl_cons (Go.Ev.Clean.int _ _) (cl_cons (Go.Ev.Clean.int _ _) (cl_cons (Go.Ev.Clean.int _ _) (cl_cons (arrOf_clean (enc := T71.enc) fun x _ => T71.clean x) (cl_cons (arrOf_clean (enc := T76.enc) fun x _ => T76.clean x) (cl_nil))))))
theorem T30.size (e : T30) : e.cells.length = 6 := rfl
def cmpI (x y : Int) : Int := if x < y then -1 else if x > y then 1 else 0
def epo (x : Int) : Int := x.fdiv 8388608 % 1048576
def seqn (x : Int) : Int := x.fdiv 8 % 1048576
def key (x : Int) : Int := epo x * 1048576 + seqn x
def orI (x y : Int) : Int := if x ≠ 0 then x else y
def bitsI (x n : Int) : Int := x.fdiv (2 ^ n.toNat) % 1048576
def tot (p : Prop) (σ : St) (k : VPost) : Prop := p ∧ k (.int .i64 0) σ ∧ k (.int .i64 1) σ
def rowT (n : Nat) (g : Nat → T30) : SV := .row n (fun i => T30.enc (g i)) 6
def k30 (e : T30) : Int := key e.f3
open Go.Ev.Sorts
def Pre264 (n : Nat) (_ : Nat → T30) (a b c : Int) : Prop := n ≤ 30 ∧ 0 ≤ a ∧ 0 ≤ c ∧ a + c ≤ b ∧ b + c ≤ n
structure Rel264 (n : Nat) (g h : Nat → T30) (a b c : Int) : Prop where
  lo : ∀ i : Nat, (i : Int) < c → h (a.toNat + i) = g (b.toNat + i)
  hi : ∀ i : Nat, (i : Int) < c → h (b.toNat + i) = g (a.toNat + i)
  out : ∀ k : Nat, ((k : Int) < a ∨ a + c ≤ k) → ((k : Int) < b ∨ b + c ≤ k) → h k = g k
def Pre239 (n : Nat) (_ : Nat → T30) (a m b : Int) : Prop := n ≤ 30 ∧ 0 ≤ a ∧ a < m ∧ m < b ∧ b ≤ n
def Rel239 (_ : Nat) (g h : Nat → T30) (a m b : Int) : Prop := Turned a.toNat m.toNat b.toNat g h
def Pre205 (n : Nat) (g : Nat → T30) (a m b : Int) : Prop := n ≤ 30 ∧ 0 ≤ a ∧ a < m ∧ m < b ∧ b ≤ n ∧ Sorted k30 a.toNat m.toNat g ∧ Sorted k30 m.toNat b.toNat g
def Rel205 (_ : Nat) (g h : Nat → T30) (a _ b : Int) : Prop := Mix a.toNat b.toNat g h ∧ Sorted k30 a.toNat b.toNat h
def Pre204 (n : Nat) (_ : Nat → T30) (a b : Int) : Prop := n ≤ 30 ∧ 0 ≤ a ∧ a ≤ b ∧ b ≤ n
def Rel204 (_ : Nat) (g h : Nat → T30) (a b : Int) : Prop := Mix a.toNat b.toNat g h ∧ Sorted k30 a.toNat b.toNat h
def Pre157 (n : Nat) (_ : Nat → T30) (m : Int) : Prop := n ≤ 30 ∧ m = n
def Rel157 (n : Nat) (g h : Nat → T30) (_ : Int) : Prop := Mix 0 n g h ∧ Sorted k30 0 n h
def Pre117 (n : Nat) (_ : Nat → T30) : Prop := n ≤ 30
def Rel117 (n : Nat) (g h : Nat → T30) : Prop := Mix 0 n g h ∧ Sorted k30 0 n h
def Uniq (n : Nat) (q : Nat → T30) : Prop := ∃ o, Mix 0 n q o ∧ ∀ i j, i < j → j < n → k30 (o i) < k30 (o j)
def RealP (n : Nat) (q : Nat → T30) : Prop := ∀ i j, i < n → j < n → (q i).f2 < (q j).f1 → k30 (q i) < k30 (q j)
def kn0 [Env] (g : FuncId) (vs : List V) (σ : St) (k : VPost) : Prop := False
def live206 : Nat → List Nat := (fun _ => [])
theorem e206 [Env] (A : Nat → List SV → Prop) (Q : V → Prop) (x : Int) : ws Tryz.prog (KF Tryz.prog kn0 0 Tryz.f206.ntmps (live206) A) 206 none 0 (Tryz.f206.body.getD .skip) (retS Tryz.prog Tryz.f206 (fun v _ => Q v)) (actOf Tryz.f206.ntmps [.int .i64 (x)]) Go.Ev.start =
    (((.i64 : IntKind) = .i64 ∧ CondP (decide ((x) ≠ (x))) (Q (.bool true)) (Q (.bool false)))) := by kernel_rfl
def W206 (vs : List V) (σ : St) (k : VPost) : Prop :=
  match vs with
  | [.int .i64 _] => k (.bool false) σ
  | _ => False
def kn1 [Env] (g : FuncId) (vs : List V) (σ : St) (k : VPost) : Prop :=
  match Nat.beq g 206 with
  | true => W206 vs σ k
  | false => kn0 g vs σ k
def live159 : Nat → List Nat := (fun _ => [])
theorem e159 [Env] (A : Nat → List SV → Prop) (Q : V → Prop) (x y : Int) : ws Tryz.prog (KF Tryz.prog kn1 0 Tryz.f159.ntmps (live159) A) 159 none 0 (Tryz.f159.body.getD .skip) (retS Tryz.prog Tryz.f159 (fun v _ => Q v)) (actOf Tryz.f159.ntmps [.int .i64 (x), .int .i64 (y)]) Go.Ev.start =
    (((.i64 : IntKind) = .i64 ∧ CondP (decide ((x) < (y))) (Q (.int .i64 (-1 : Int))) (((.i64 : IntKind) = .i64 ∧ CondP (decide ((x) > (y))) (Q (.int .i64 (1 : Int))) (Q (.int .i64 (0 : Int))))))) := by kernel_rfl
def W159 (vs : List V) (σ : St) (k : VPost) : Prop :=
  match vs with
  | [.int .i64 x, .int .i64 y] => k (.int .i64 (cmpI x y)) σ
  | _ => False
def kn2 [Env] (g : FuncId) (vs : List V) (σ : St) (k : VPost) : Prop :=
  match Nat.beq g 159 with
  | true => W159 vs σ k
  | false => kn1 g vs σ k
def live160 : Nat → List Nat := (fun _ => [])
theorem e160 [Env] (A : Nat → List SV → Prop) (Q : V → Prop) (x : Int) : ws Tryz.prog (KF Tryz.prog kn2 0 Tryz.f160.ntmps (live160) A) 160 none 0 (Tryz.f160.body.getD .skip) (retS Tryz.prog Tryz.f160 (fun v _ => Q v)) (actOf Tryz.f160.ntmps [.int .i64 (x)]) Go.Ev.start =
    ((0 ≤ (23 : Int) ∧ Q (.int .i64 (IntKind.i64.wrap (BitVec.ofInt IntKind.i64.bits ((x).fdiv (2 ^ min (23 : Int).toNat IntKind.i64.bits)) &&& BitVec.ofInt IntKind.i64.bits (1048575 : Int)).toNat)))) := by kernel_rfl
def W160 (vs : List V) (σ : St) (k : VPost) : Prop :=
  match vs with
  | [.int .i64 x] => k (.int .i64 (epo x)) σ
  | _ => False
def kn3 [Env] (g : FuncId) (vs : List V) (σ : St) (k : VPost) : Prop :=
  match Nat.beq g 160 with
  | true => W160 vs σ k
  | false => kn2 g vs σ k
def live161 : Nat → List Nat := (fun _ => [])
theorem e161 [Env] (A : Nat → List SV → Prop) (Q : V → Prop) (x : Int) : ws Tryz.prog (KF Tryz.prog kn3 0 Tryz.f161.ntmps (live161) A) 161 none 0 (Tryz.f161.body.getD .skip) (retS Tryz.prog Tryz.f161 (fun v _ => Q v)) (actOf Tryz.f161.ntmps [.int .i64 (x)]) Go.Ev.start =
    ((0 ≤ (3 : Int) ∧ Q (.int .i64 (IntKind.i64.wrap (BitVec.ofInt IntKind.i64.bits ((x).fdiv (2 ^ min (3 : Int).toNat IntKind.i64.bits)) &&& BitVec.ofInt IntKind.i64.bits (1048575 : Int)).toNat)))) := by kernel_rfl
def W161 (vs : List V) (σ : St) (k : VPost) : Prop :=
  match vs with
  | [.int .i64 x] => k (.int .i64 (seqn x)) σ
  | _ => False
def kn4 [Env] (g : FuncId) (vs : List V) (σ : St) (k : VPost) : Prop :=
  match Nat.beq g 161 with
  | true => W161 vs σ k
  | false => kn3 g vs σ k
def live158 : Nat → List Nat := (fun i => match i with | 0 => [3, 6, 7, 8] | _ => [])
theorem e158 [Env] (A : Nat → List SV → Prop) (Q : V → Prop) (l : List Int) : ws Tryz.prog (KF Tryz.prog kn4 0 Tryz.f158.ntmps (live158) A) 158 none 0 (Tryz.f158.body.getD .skip) (retS Tryz.prog Tryz.f158 (fun v _ => Q v)) (actOf Tryz.f158.ntmps [arrOf (V.int .i64) 1 (l)]) Go.Ev.start =
    (A 0 [.val (.int .i64 (0 : Int)), .val (arrOf (V.int .i64) 1 (l)), .val (.int .i64 ((((l).length : Nat) : Int))), .val (.int .i64 (0 : Int))]) := by kernel_rfl
theorem r158 [Env] (A : Nat → List SV → Prop) (Q : V → Prop) (l : List Int) (n i : Int) : ws Tryz.prog (KF Tryz.prog kn4 0 Tryz.f158.ntmps (live158) A) 158 none (Nat.add 0 1) (lp (Tryz.f158.body.getD .skip) 0) (seqQ (fun a σ => canonP 0 Tryz.f158.ntmps (live158 0) a σ (A 0)) (behind Tryz.prog (KF Tryz.prog kn4 0 Tryz.f158.ntmps (live158) A) 158 (Tryz.f158.body.getD .skip) 0 0 (retS Tryz.prog Tryz.f158 (fun v _ => Q v)))) (mkA Tryz.f158.ntmps (live158 0) [.val (.int .i64 (0 : Int)), .val (arrOf (V.int .i64) 1 (l)), .val (.int .i64 (n)), .val (.int .i64 (i))]) (mkS [.val (.int .i64 (0 : Int)), .val (arrOf (V.int .i64) 1 (l)), .val (.int .i64 (n)), .val (.int .i64 (i))]) =
    (((.i64 : IntKind) = .i64 ∧ CondP (decide ((i) < (n))) (((0 ≤ (i) ∧ (i) < (((l).length : Nat) : Int)) ∧ ((.i64 : IntKind) = .i64 ∧ CondP (decide ((((l).getD (i).toNat default)) ≠ (0 : Int))) (Q (.int .i64 (((l).getD (i).toNat default)))) (A 0 [.val (.int .i64 (0 : Int)), .val (arrOf (V.int .i64) 1 (l)), .val (.int .i64 (n)), .val (.int .i64 (IntKind.i64.wrap ((i) + (1 : Int))))])))) (Q (.int .i64 (0 : Int))))) := by kernel_rfl
def W158 (vs : List V) (σ : St) (k : VPost) : Prop :=
  match vs with
  | [.slice b off 2 _ _ 1] => match σ.cells b off 2 with
    | some [.int .i64 x, .int .i64 y] => k (.int .i64 (orI x y)) σ
    | _ => False
  | _ => False
def kn5 [Env] (g : FuncId) (vs : List V) (σ : St) (k : VPost) : Prop :=
  match Nat.beq g 158 with
  | true => W158 vs σ k
  | false => kn4 g vs σ k
def live118 : Nat → List Nat := (fun _ => [])
theorem e118 [Env] (A : Nat → List SV → Prop) (Q : V → Prop) (x y : Int) : ws Tryz.prog (KF Tryz.prog kn5 0 Tryz.f118.ntmps (live118) A) 118 none 0 (Tryz.f118.body.getD .skip) (retS Tryz.prog Tryz.f118 (fun v _ => Q v)) (actOf Tryz.f118.ntmps [.int .i64 (x), .int .i64 (y)]) Go.Ev.start =
    (Q (.int .i64 (orI (cmpI (epo (x)) (epo (y))) (cmpI (seqn (x)) (seqn (y)))))) := by kernel_rfl
def W118 (vs : List V) (σ : St) (k : VPost) : Prop :=
  match vs with
  | [.int .i64 x, .int .i64 y] => k (.int .i64 (cmpI (key x) (key y))) σ
  | _ => False
def kn6 [Env] (g : FuncId) (vs : List V) (σ : St) (k : VPost) : Prop :=
  match Nat.beq g 118 with
  | true => W118 vs σ k
  | false => kn5 g vs σ k
def live62 : Nat → List Nat := (fun _ => [])
theorem e62 [Env] (A : Nat → List SV → Prop) (Q : V → Prop) (e₁ e₂ : T30) : ws Tryz.prog (KF Tryz.prog kn6 0 Tryz.f62.ntmps (live62) A) 62 none 0 (Tryz.f62.body.getD .skip) (retS Tryz.prog Tryz.f62 (fun v _ => Q v)) (actOf Tryz.f62.ntmps [T30.enc (e₁), T30.enc (e₂)]) Go.Ev.start =
    (Q (.int .i64 (cmpI (key ((e₁).f3)) (key ((e₂).f3))))) := by kernel_rfl
def W62 (vs : List V) (σ : St) (k : VPost) : Prop := (∃ e₁ e₂ : T30, vs = [T30.enc e₁, T30.enc e₂]) ∧
  match vs with
  | [.agg [_, _, _, .int .i64 x, _, _], .agg [_, _, _, .int .i64 y, _, _]] => k (.int .i64 (cmpI (key x) (key y))) σ
  | _ => False
def kn7 [Env] (g : FuncId) (vs : List V) (σ : St) (k : VPost) : Prop :=
  match Nat.beq g 62 with
  | true => W62 vs σ k
  | false => kn6 g vs σ k
def live119 : Nat → List Nat := (fun _ => [])
theorem e119 [Env] (A : Nat → List SV → Prop) (Q : V → Prop) (x n : Int) : ws Tryz.prog (KF Tryz.prog kn7 0 Tryz.f119.ntmps (live119) A) 119 none 0 (Tryz.f119.body.getD .skip) (retS Tryz.prog Tryz.f119 (fun v _ => Q v)) (actOf Tryz.f119.ntmps [.int .i64 (x), .int .i64 (n)]) Go.Ev.start =
    ((0 ≤ (IntKind.u64.wrap (n)) ∧ (((.u64 : IntKind) = .u64 ∧ (1048576 : Int) ≠ 0) ∧ Q (.int .i64 (IntKind.i64.wrap (((IntKind.u64.wrap (x)).fdiv (2 ^ min (IntKind.u64.wrap (n)).toNat IntKind.u64.bits)).tmod (1048576 : Int))))))) := by kernel_rfl
def W119 (vs : List V) (σ : St) (k : VPost) : Prop :=
  match vs with
  | [.int .i64 x, .int .i64 n] => 0 ≤ n ∧ n ≤ 30 ∧ k (.int .i64 (bitsI x n)) σ
  | _ => False
def kn8 [Env] (g : FuncId) (vs : List V) (σ : St) (k : VPost) : Prop :=
  match Nat.beq g 119 with
  | true => W119 vs σ k
  | false => kn7 g vs σ k
def live63 : Nat → List Nat := (fun _ => [])
theorem e63 [Env] (A : Nat → List SV → Prop) (Q : V → Prop) (x : Int) : ws Tryz.prog (KF Tryz.prog kn8 0 Tryz.f63.ntmps (live63) A) 63 none 0 (Tryz.f63.body.getD .skip) (retS Tryz.prog Tryz.f63 (fun v _ => Q v)) (actOf Tryz.f63.ntmps [.int .i64 (x)]) Go.Ev.start =
    ((0 ≤ (23 : Int) ∧ (23 : Int) ≤ 30 ∧ Q (.int .i64 (bitsI (x) (23 : Int))))) := by kernel_rfl
def W63 (vs : List V) (σ : St) (k : VPost) : Prop :=
  match vs with
  | [.int .i64 x] => k (.int .i64 (bitsI x 23)) σ
  | _ => False
def kn9 [Env] (g : FuncId) (vs : List V) (σ : St) (k : VPost) : Prop :=
  match Nat.beq g 63 with
  | true => W63 vs σ k
  | false => kn8 g vs σ k
def live64 : Nat → List Nat := (fun _ => [])
theorem e64 [Env] (A : Nat → List SV → Prop) (Q : V → Prop) (x : Int) : ws Tryz.prog (KF Tryz.prog kn9 0 Tryz.f64.ntmps (live64) A) 64 none 0 (Tryz.f64.body.getD .skip) (retS Tryz.prog Tryz.f64 (fun v _ => Q v)) (actOf Tryz.f64.ntmps [.int .i64 (x)]) Go.Ev.start =
    ((0 ≤ (3 : Int) ∧ (3 : Int) ≤ 30 ∧ Q (.int .i64 (bitsI (x) (3 : Int))))) := by kernel_rfl
def W64 (vs : List V) (σ : St) (k : VPost) : Prop :=
  match vs with
  | [.int .i64 x] => k (.int .i64 (bitsI x 3)) σ
  | _ => False
def kn10 [Env] (g : FuncId) (vs : List V) (σ : St) (k : VPost) : Prop :=
  match Nat.beq g 64 with
  | true => W64 vs σ k
  | false => kn9 g vs σ k
def live18 : Nat → List Nat := (fun _ => [])
theorem e18 [Env] (A : Nat → List SV → Prop) (Q : V → Prop) (x y : Int) : ws Tryz.prog (KF Tryz.prog kn10 0 Tryz.f18.ntmps (live18) A) 18 none 0 (Tryz.f18.body.getD .skip) (retS Tryz.prog Tryz.f18 (fun v _ => Q v)) (actOf Tryz.f18.ntmps [.int .i64 (x), .int .i64 (y)]) Go.Ev.start =
    (((.i64 : IntKind) = .i64 ∧ CondP (decide ((IntKind.i64.wrap ((IntKind.i64.wrap ((bitsI (x) 23) * (1048576 : Int))) + (bitsI (x) 3))) < (IntKind.i64.wrap ((IntKind.i64.wrap ((bitsI (y) 23) * (1048576 : Int))) + (bitsI (y) 3))))) (Q (.int .i64 (-1 : Int))) (((.i64 : IntKind) = .i64 ∧ CondP (decide ((IntKind.i64.wrap ((IntKind.i64.wrap ((bitsI (x) 23) * (1048576 : Int))) + (bitsI (x) 3))) > (IntKind.i64.wrap ((IntKind.i64.wrap ((bitsI (y) 23) * (1048576 : Int))) + (bitsI (y) 3))))) (Q (.int .i64 (1 : Int))) (Q (.int .i64 (0 : Int))))))) := by kernel_rfl
def W18 (vs : List V) (σ : St) (k : VPost) : Prop :=
  match vs with
  | [.int .i64 x, .int .i64 y] => k (.int .i64 (cmpI (key x) (key y))) σ
  | _ => False
def kn11 [Env] (g : FuncId) (vs : List V) (σ : St) (k : VPost) : Prop :=
  match Nat.beq g 18 with
  | true => W18 vs σ k
  | false => kn10 g vs σ k
def live69 : Nat → List Nat := (fun _ => [])
theorem e69 [Env] (A : Nat → List SV → Prop) (Q : V → Prop) (e : T46) : ws Tryz.prog (KF Tryz.prog kn11 0 Tryz.f69.ntmps (live69) A) 69 none 0 (Tryz.f69.body.getD .skip) (retS Tryz.prog Tryz.f69 (fun v _ => Q v)) (actOf Tryz.f69.ntmps [T46.enc (e)]) Go.Ev.start =
    (((.i64 : IntKind) = .i64 ∧ CondP (decide ((((len ((e).f3) : Nat) : Int)) > (2000 : Int))) (Q (.int .i64 (0 : Int))) (Q (.int .i64 (1 : Int))))) := by kernel_rfl
def W69 [Env] (vs : List V) (σ : St) (k : VPost) : Prop := tot (∃ e : T46, vs = [T46.enc e]) σ k
def kn12 [Env] (g : FuncId) (vs : List V) (σ : St) (k : VPost) : Prop :=
  match Nat.beq g 69 with
  | true => W69 vs σ k
  | false => kn11 g vs σ k
def live86 : Nat → List Nat := (fun i => match i with | 0 => [0, 3] | _ => [])
theorem e86 [Env] (A : Nat → List SV → Prop) (Q : V → Prop) (l : List T46) : ws Tryz.prog (KF Tryz.prog kn12 0 Tryz.f86.ntmps (live86) A) 86 none 0 (Tryz.f86.body.getD .skip) (retS Tryz.prog Tryz.f86 (fun v _ => Q v)) (actOf Tryz.f86.ntmps [arrOf T46.enc 4 (l)]) Go.Ev.start =
    (((.i64 : IntKind) = .i64 ∧ CondP (decide (((((l).length : Nat) : Int)) > (30 : Int))) (Q (.int .i64 (0 : Int))) (A 0 [.val (arrOf T46.enc 4 (l)), .val (.int .i64 (0 : Int))]))) := by kernel_rfl
theorem r86 [Env] (A : Nat → List SV → Prop) (Q : V → Prop) (l : List T46) (i : Int) : ws Tryz.prog (KF Tryz.prog kn12 0 Tryz.f86.ntmps (live86) A) 86 none (Nat.add 0 1) (lp (Tryz.f86.body.getD .skip) 0) (seqQ (fun a σ => canonP 0 Tryz.f86.ntmps (live86 0) a σ (A 0)) (behind Tryz.prog (KF Tryz.prog kn12 0 Tryz.f86.ntmps (live86) A) 86 (Tryz.f86.body.getD .skip) 0 0 (retS Tryz.prog Tryz.f86 (fun v _ => Q v)))) (mkA Tryz.f86.ntmps (live86 0) [.val (arrOf T46.enc 4 (l)), .val (.int .i64 (i))]) (mkS [.val (arrOf T46.enc 4 (l)), .val (.int .i64 (i))]) =
    (((.i64 : IntKind) = .i64 ∧ CondP (decide ((i) < ((((l).length : Nat) : Int)))) (((0 ≤ (i) ∧ (i) < (((l).length : Nat) : Int)) ∧ ((∃ q : T46, [T46.enc ((l).getD (i).toNat default)] = [T46.enc q]) ∧ ((.i64 : IntKind) = .i64 ∧ Q (.int .i64 (0 : Int))) ∧ ((.i64 : IntKind) = .i64 ∧ A 0 [.val (arrOf T46.enc 4 (l)), .val (.int .i64 (IntKind.i64.wrap ((i) + (1 : Int))))])))) (Q (.int .i64 (1 : Int))))) := by kernel_rfl
def W86 [Env] (vs : List V) (σ : St) (k : VPost) : Prop := tot (∃ l : List T46, vs = [arrOf T46.enc 4 l]) σ k
def kn13 [Env] (g : FuncId) (vs : List V) (σ : St) (k : VPost) : Prop :=
  match Nat.beq g 86 with
  | true => W86 vs σ k
  | false => kn12 g vs σ k
def live68 : Nat → List Nat := (fun i => match i with | 0 => [0, 3] | _ => [])
theorem e68 [Env] (A : Nat → List SV → Prop) (Q : V → Prop) (l : List (List UInt8)) : ws Tryz.prog (KF Tryz.prog kn13 0 Tryz.f68.ntmps (live68) A) 68 none 0 (Tryz.f68.body.getD .skip) (retS Tryz.prog Tryz.f68 (fun v _ => Q v)) (actOf Tryz.f68.ntmps [arrOf V.str 1 (l)]) Go.Ev.start =
    (((.i64 : IntKind) = .i64 ∧ CondP (decide (((((l).length : Nat) : Int)) > (60 : Int))) (Q (.int .i64 (0 : Int))) (A 0 [.val (arrOf V.str 1 (l)), .val (.int .i64 (0 : Int))]))) := by kernel_rfl
theorem r68 [Env] (A : Nat → List SV → Prop) (Q : V → Prop) (l : List (List UInt8)) (i : Int) : ws Tryz.prog (KF Tryz.prog kn13 0 Tryz.f68.ntmps (live68) A) 68 none (Nat.add 0 1) (lp (Tryz.f68.body.getD .skip) 0) (seqQ (fun a σ => canonP 0 Tryz.f68.ntmps (live68 0) a σ (A 0)) (behind Tryz.prog (KF Tryz.prog kn13 0 Tryz.f68.ntmps (live68) A) 68 (Tryz.f68.body.getD .skip) 0 0 (retS Tryz.prog Tryz.f68 (fun v _ => Q v)))) (mkA Tryz.f68.ntmps (live68 0) [.val (arrOf V.str 1 (l)), .val (.int .i64 (i))]) (mkS [.val (arrOf V.str 1 (l)), .val (.int .i64 (i))]) =
    (((.i64 : IntKind) = .i64 ∧ CondP (decide ((i) < ((((l).length : Nat) : Int)))) (((0 ≤ (i) ∧ (i) < (((l).length : Nat) : Int)) ∧ ((.i64 : IntKind) = .i64 ∧ CondP (decide ((((len (((l).getD (i).toNat default)) : Nat) : Int)) > (500 : Int))) (Q (.int .i64 (0 : Int))) (A 0 [.val (arrOf V.str 1 (l)), .val (.int .i64 (IntKind.i64.wrap ((i) + (1 : Int))))])))) (Q (.int .i64 (1 : Int))))) := by kernel_rfl
def W68 [Env] (vs : List V) (σ : St) (k : VPost) : Prop := tot (∃ l : List (List UInt8), FrzL σ vs [arrOf V.str 1 l]) σ k
def kn14 [Env] (g : FuncId) (vs : List V) (σ : St) (k : VPost) : Prop :=
  match Nat.beq g 68 with
  | true => W68 vs σ k
  | false => kn13 g vs σ k
def live52 : Nat → List Nat := (fun i => match i with | 0 => [1, 3] | _ => [])
theorem e52 [Env] (A : Nat → List SV → Prop) (Q : V → Prop) (e : T51) : ws Tryz.prog (KF Tryz.prog kn14 0 Tryz.f52.ntmps (live52) A) 52 none 0 (Tryz.f52.body.getD .skip) (retS Tryz.prog Tryz.f52 (fun v _ => Q v)) (actOf Tryz.f52.ntmps [T51.enc (e)]) Go.Ev.start =
    (((.i64 : IntKind) = .i64 ∧ CondP (decide ((((((e).f2).length : Nat) : Int)) > (20 : Int))) (Q (.int .i64 (0 : Int))) (((.i64 : IntKind) = .i64 ∧ CondP (decide ((((len ((e).f0) : Nat) : Int)) > (500 : Int))) (Q (.int .i64 (0 : Int))) (A 0 [.box [.str ((e).f0), .int .i64 ((e).f1), arrOf T48.enc 7 ((e).f2)], .val (.int .i64 (0 : Int))]))))) := by kernel_rfl
theorem r52 [Env] (A : Nat → List SV → Prop) (Q : V → Prop) (e : T51) (i : Int) : ws Tryz.prog (KF Tryz.prog kn14 0 Tryz.f52.ntmps (live52) A) 52 none (Nat.add 0 1) (lp (Tryz.f52.body.getD .skip) 0) (seqQ (fun a σ => canonP 0 Tryz.f52.ntmps (live52 0) a σ (A 0)) (behind Tryz.prog (KF Tryz.prog kn14 0 Tryz.f52.ntmps (live52) A) 52 (Tryz.f52.body.getD .skip) 0 0 (retS Tryz.prog Tryz.f52 (fun v _ => Q v)))) (mkA Tryz.f52.ntmps (live52 0) [.box [.str (e.f0), .int .i64 (e.f1), arrOf T48.enc 7 (e.f2)], .val (.int .i64 (i))]) (mkS [.box [.str (e.f0), .int .i64 (e.f1), arrOf T48.enc 7 (e.f2)], .val (.int .i64 (i))]) =
    (((.i64 : IntKind) = .i64 ∧ CondP (decide ((i) < ((((e.f2).length : Nat) : Int)))) (((0 ≤ (i) ∧ (i) < (((e.f2).length : Nat) : Int)) ∧ ((.i64 : IntKind) = .i64 ∧ CondP (decide ((((len (((e.f2).getD (i).toNat default).f0) : Nat) : Int)) > (500 : Int))) (Q (.int .i64 (0 : Int))) (((0 ≤ (i) ∧ (i) < (((e.f2).length : Nat) : Int)) ∧ ((∃ q : T46, [.agg [.int .i64 (((e.f2).getD (i).toNat default).f3.f0), .int .i64 (((e.f2).getD (i).toNat default).f3.f1), .int .u64 (((e.f2).getD (i).toNat default).f3.f2), .str (((e.f2).getD (i).toNat default).f3.f3)]] = [T46.enc q]) ∧ ((.i64 : IntKind) = .i64 ∧ Q (.int .i64 (0 : Int))) ∧ ((.i64 : IntKind) = .i64 ∧ A 0 [.box [.str (e.f0), .int .i64 (e.f1), arrOf T48.enc 7 (e.f2)], .val (.int .i64 (IntKind.i64.wrap ((i) + (1 : Int))))]))))))) (Q (.int .i64 (1 : Int))))) := by kernel_rfl
def W52 [Env] (vs : List V) (σ : St) (k : VPost) : Prop := tot (∃ e : T51, vs = [T51.enc e]) σ k
def kn15 [Env] (g : FuncId) (vs : List V) (σ : St) (k : VPost) : Prop :=
  match Nat.beq g 52 with
  | true => W52 vs σ k
  | false => kn14 g vs σ k
def live28 : Nat → List Nat := (fun _ => [])
theorem e28 [Env] (A : Nat → List SV → Prop) (Q : V → Prop) (e : T53) : ws Tryz.prog (KF Tryz.prog kn15 0 Tryz.f28.ntmps (live28) A) 28 none 0 (Tryz.f28.body.getD .skip) (retS Tryz.prog Tryz.f28 (fun v _ => Q v)) (actOf Tryz.f28.ntmps [T53.enc (e)]) Go.Ev.start =
    (((∃ q : List (List UInt8), FrzL ⟨(St.new (St.new Go.Ev.start 0 (.cells 18 [] (putAll [.int .i64 ((e).f0), .str ((e).f1), .str ((e).f2), .str ((e).f3), .str ((e).f4), .str ((e).f5), .int .i64 ((e).f6), arrOf V.str 1 ((e).f7), .str ((e).f8.f0), .int .i64 ((e).f8.f1), .bool (e).f8.f2, .int .i64 ((e).f8.f3.f0), .int .i64 ((e).f8.f3.f1), .int .u64 ((e).f8.f3.f2), .str ((e).f8.f3.f3), .str ((e).f9.f0), .int .i64 ((e).f9.f1), arrOf T48.enc 7 ((e).f9.f2)] .leaf 0) true false)) 1 (.cells 6 [] (putAll [.str ((e).f1), .str ((e).f2), .str ((e).f3), .str ((e).f4), .str ((e).f5), .str ((e).f8.f0)] .leaf 0) true false)).heap, 2⟩ [arrOf V.str 1 ((e).f7)] [arrOf V.str 1 q]) ∧ ((.i64 : IntKind) = .i64 ∧ Q (.int .i64 (0 : Int))) ∧ ((.i64 : IntKind) = .i64 ∧ ((∃ q : List (List UInt8), FrzL ⟨(St.new (St.new Go.Ev.start 0 (.cells 18 [] (putAll [.int .i64 ((e).f0), .str ((e).f1), .str ((e).f2), .str ((e).f3), .str ((e).f4), .str ((e).f5), .int .i64 ((e).f6), arrOf V.str 1 ((e).f7), .str ((e).f8.f0), .int .i64 ((e).f8.f1), .bool (e).f8.f2, .int .i64 ((e).f8.f3.f0), .int .i64 ((e).f8.f3.f1), .int .u64 ((e).f8.f3.f2), .str ((e).f8.f3.f3), .str ((e).f9.f0), .int .i64 ((e).f9.f1), arrOf T48.enc 7 ((e).f9.f2)] .leaf 0) true false)) 1 (.cells 6 [] (putAll [.str ((e).f1), .str ((e).f2), .str ((e).f3), .str ((e).f4), .str ((e).f5), .str ((e).f8.f0)] .leaf 0) true false)).heap, 2⟩ [.slice 1 0 6 6 true 1] [arrOf V.str 1 q]) ∧ ((.i64 : IntKind) = .i64 ∧ Q (.int .i64 (0 : Int))) ∧ ((.i64 : IntKind) = .i64 ∧ ((∃ q : T51, [.agg [.str ((e).f9.f0), .int .i64 ((e).f9.f1), arrOf T48.enc 7 ((e).f9.f2)]] = [T51.enc q]) ∧ ((.i64 : IntKind) = .i64 ∧ Q (.int .i64 (0 : Int))) ∧ ((.i64 : IntKind) = .i64 ∧ ((∃ q : T46, [.agg [.int .i64 ((e).f8.f3.f0), .int .i64 ((e).f8.f3.f1), .int .u64 ((e).f8.f3.f2), .str ((e).f8.f3.f3)]] = [T46.enc q]) ∧ ((.i64 : IntKind) = .i64 ∧ Q (.int .i64 (0 : Int))) ∧ ((.i64 : IntKind) = .i64 ∧ Q (.int .i64 (1 : Int))))))))))) := by kernel_rfl
def W28 [Env] (vs : List V) (σ : St) (k : VPost) : Prop := tot (∃ e : T53, vs = [T53.enc e]) σ k
def kn16 [Env] (g : FuncId) (vs : List V) (σ : St) (k : VPost) : Prop :=
  match Nat.beq g 28 with
  | true => W28 vs σ k
  | false => kn15 g vs σ k
def live44 : Nat → List Nat := (fun _ => [])
theorem e44 [Env] (A : Nat → List SV → Prop) (Q : V → Prop) (e : T71) : ws Tryz.prog (KF Tryz.prog kn16 0 Tryz.f44.ntmps (live44) A) 44 none 0 (Tryz.f44.body.getD .skip) (retS Tryz.prog Tryz.f44 (fun v _ => Q v)) (actOf Tryz.f44.ntmps [T71.enc (e)]) Go.Ev.start =
    (((.i64 : IntKind) = .i64 ∧ CondP (decide ((((len ((e).f1) : Nat) : Int)) > (500 : Int))) (Q (.int .i64 (0 : Int))) (((∃ q : List T46, [arrOf T46.enc 4 ((e).f2)] = [arrOf T46.enc 4 q]) ∧ ((.i64 : IntKind) = .i64 ∧ Q (.int .i64 (0 : Int))) ∧ ((.i64 : IntKind) = .i64 ∧ ((∃ q : List T46, [arrOf T46.enc 4 ((e).f3)] = [arrOf T46.enc 4 q]) ∧ ((.i64 : IntKind) = .i64 ∧ Q (.int .i64 (0 : Int))) ∧ ((.i64 : IntKind) = .i64 ∧ ((∃ q : List T46, [arrOf T46.enc 4 ((e).f4)] = [arrOf T46.enc 4 q]) ∧ ((.i64 : IntKind) = .i64 ∧ Q (.int .i64 (0 : Int))) ∧ ((.i64 : IntKind) = .i64 ∧ ((∃ q : T53, [.agg [.int .i64 ((e).f6.f0), .str ((e).f6.f1), .str ((e).f6.f2), .str ((e).f6.f3), .str ((e).f6.f4), .str ((e).f6.f5), .int .i64 ((e).f6.f6), arrOf V.str 1 ((e).f6.f7), .str ((e).f6.f8.f0), .int .i64 ((e).f6.f8.f1), .bool (e).f6.f8.f2, .int .i64 ((e).f6.f8.f3.f0), .int .i64 ((e).f6.f8.f3.f1), .int .u64 ((e).f6.f8.f3.f2), .str ((e).f6.f8.f3.f3), .str ((e).f6.f9.f0), .int .i64 ((e).f6.f9.f1), arrOf T48.enc 7 ((e).f6.f9.f2)]] = [T53.enc q]) ∧ ((.i64 : IntKind) = .i64 ∧ Q (.int .i64 (0 : Int))) ∧ ((.i64 : IntKind) = .i64 ∧ Q (.int .i64 (1 : Int))))))))))))) := by kernel_rfl
def W44 [Env] (vs : List V) (σ : St) (k : VPost) : Prop := tot (∃ e : T71, vs = [T71.enc e]) σ k
def kn17 [Env] (g : FuncId) (vs : List V) (σ : St) (k : VPost) : Prop :=
  match Nat.beq g 44 with
  | true => W44 vs σ k
  | false => kn16 g vs σ k
def live21 : Nat → List Nat := (fun i => match i with | 0 => [0, 5] | _ => [])
theorem e21 [Env] (A : Nat → List SV → Prop) (Q : V → Prop) (l : List T71) : ws Tryz.prog (KF Tryz.prog kn17 0 Tryz.f21.ntmps (live21) A) 21 none 0 (Tryz.f21.body.getD .skip) (retS Tryz.prog Tryz.f21 (fun v _ => Q v)) (actOf Tryz.f21.ntmps [arrOf T71.enc 24 (l), .int .i64 (10 : Int)]) Go.Ev.start =
    (((.i64 : IntKind) = .i64 ∧ CondP (decide (((((l).length : Nat) : Int)) > (10 : Int))) (Q (.int .i64 (0 : Int))) (A 0 [.val (arrOf T71.enc 24 (l)), .val (.int .i64 (0 : Int))]))) := by kernel_rfl
theorem r21 [Env] (A : Nat → List SV → Prop) (Q : V → Prop) (l : List T71) (i : Int) : ws Tryz.prog (KF Tryz.prog kn17 0 Tryz.f21.ntmps (live21) A) 21 none (Nat.add 0 1) (lp (Tryz.f21.body.getD .skip) 0) (seqQ (fun a σ => canonP 0 Tryz.f21.ntmps (live21 0) a σ (A 0)) (behind Tryz.prog (KF Tryz.prog kn17 0 Tryz.f21.ntmps (live21) A) 21 (Tryz.f21.body.getD .skip) 0 0 (retS Tryz.prog Tryz.f21 (fun v _ => Q v)))) (mkA Tryz.f21.ntmps (live21 0) [.val (arrOf T71.enc 24 (l)), .val (.int .i64 (i))]) (mkS [.val (arrOf T71.enc 24 (l)), .val (.int .i64 (i))]) =
    (((.i64 : IntKind) = .i64 ∧ CondP (decide ((i) < ((((l).length : Nat) : Int)))) (((0 ≤ (i) ∧ (i) < (((l).length : Nat) : Int)) ∧ ((∃ q : T71, [T71.enc ((l).getD (i).toNat default)] = [T71.enc q]) ∧ ((.i64 : IntKind) = .i64 ∧ Q (.int .i64 (0 : Int))) ∧ ((.i64 : IntKind) = .i64 ∧ A 0 [.val (arrOf T71.enc 24 (l)), .val (.int .i64 (IntKind.i64.wrap ((i) + (1 : Int))))])))) (Q (.int .i64 (1 : Int))))) := by kernel_rfl
def W21 [Env] (vs : List V) (σ : St) (k : VPost) : Prop := tot (∃ l : List T71, vs = [arrOf T71.enc 24 l, .int .i64 10]) σ k
def kn18 [Env] (g : FuncId) (vs : List V) (σ : St) (k : VPost) : Prop :=
  match Nat.beq g 21 with
  | true => W21 vs σ k
  | false => kn17 g vs σ k
def live15 : Nat → List Nat := (fun i => match i with | 0 => [0, 3] | 1 => [0, 3, 4] | _ => [])
theorem e15 [Env] (A : Nat → List SV → Prop) (Q : V → Prop) (n : Nat) (g : Nat → T30) : ws Tryz.prog (KF Tryz.prog kn18 0 Tryz.f15.ntmps (live15) A) 15 none 0 (Tryz.f15.body.getD .skip) (retS Tryz.prog Tryz.f15 (fun v _ => Q v)) (actOf Tryz.f15.ntmps [V.arr (n) (fun i => T30.enc (g i)) 6 false false]) Go.Ev.start =
    (((.i64 : IntKind) = .i64 ∧ CondP (decide ((((n : Nat) : Int)) > (30 : Int))) (Q (.bool false)) (A 0 [.val (V.arr (n) (fun i => T30.enc (g i)) 6 false false), .val (.int .i64 (0 : Int))]))) := by kernel_rfl
theorem r15a [Env] (A : Nat → List SV → Prop) (Q : V → Prop) (n : Nat) (g : Nat → T30) (i : Int) : ws Tryz.prog (KF Tryz.prog kn18 0 Tryz.f15.ntmps (live15) A) 15 none (Nat.add 0 1) (lp (Tryz.f15.body.getD .skip) 0) (seqQ (fun a σ => canonP 0 Tryz.f15.ntmps (live15 0) a σ (A 0)) (behind Tryz.prog (KF Tryz.prog kn18 0 Tryz.f15.ntmps (live15) A) 15 (Tryz.f15.body.getD .skip) 0 0 (retS Tryz.prog Tryz.f15 (fun v _ => Q v)))) (mkA Tryz.f15.ntmps (live15 0) [.val (V.arr (n) (fun i => T30.enc (g i)) 6 false false), .val (.int .i64 (i))]) (mkS [.val (V.arr (n) (fun i => T30.enc (g i)) 6 false false), .val (.int .i64 (i))]) =
    (((.i64 : IntKind) = .i64 ∧ CondP (decide ((i) < (((n : Nat) : Int)))) (((0 ≤ (i) ∧ (i) < ((n : Nat) : Int)) ∧ ((∃ q : List T71, [arrOf T71.enc 24 ((g (i).toNat).f4), .int .i64 (10 : Int)] = [arrOf T71.enc 24 q, .int .i64 10]) ∧ ((.i64 : IntKind) = .i64 ∧ Q (.bool false)) ∧ ((.i64 : IntKind) = .i64 ∧ ((0 ≤ (i) ∧ (i) < ((n : Nat) : Int)) ∧ ((.i64 : IntKind) = .i64 ∧ CondP (decide ((((((g (i).toNat).f5).length : Nat) : Int)) > (20 : Int))) (Q (.bool false)) (A 1 [.val (V.arr (n) (fun i => T30.enc (g i)) 6 false false), .val (.int .i64 (i)), .val (.int .i64 (0 : Int))]))))))) (Q (.bool true)))) := by kernel_rfl
theorem r15b [Env] (A : Nat → List SV → Prop) (Q : V → Prop) (n : Nat) (g : Nat → T30) (i j : Int) : ws Tryz.prog (KF Tryz.prog kn18 0 Tryz.f15.ntmps (live15) A) 15 none (Nat.add 1 1) (lp (Tryz.f15.body.getD .skip) 1) (seqQ (fun a σ => canonP 0 Tryz.f15.ntmps (live15 1) a σ (A 1)) (behind Tryz.prog (KF Tryz.prog kn18 0 Tryz.f15.ntmps (live15) A) 15 (Tryz.f15.body.getD .skip) 0 1 (retS Tryz.prog Tryz.f15 (fun v _ => Q v)))) (mkA Tryz.f15.ntmps (live15 1) [.val (V.arr (n) (fun i => T30.enc (g i)) 6 false false), .val (.int .i64 (i)), .val (.int .i64 (j))]) (mkS [.val (V.arr (n) (fun i => T30.enc (g i)) 6 false false), .val (.int .i64 (i)), .val (.int .i64 (j))]) =
    (((0 ≤ (i) ∧ (i) < ((n : Nat) : Int)) ∧ ((.i64 : IntKind) = .i64 ∧ CondP (decide ((j) < (((((g (i).toNat).f5).length : Nat) : Int)))) (((0 ≤ (i) ∧ (i) < ((n : Nat) : Int)) ∧ ((0 ≤ (j) ∧ (j) < ((((g (i).toNat).f5).length : Nat) : Int)) ∧ ((.i64 : IntKind) = .i64 ∧ CondP (decide ((((((((g (i).toNat).f5).getD (j).toNat default).f1).length : Nat) : Int)) > (70 : Int))) (Q (.bool false)) (A 1 [.val (V.arr (n) (fun i => T30.enc (g i)) 6 false false), .val (.int .i64 (i)), .val (.int .i64 (IntKind.i64.wrap ((j) + (1 : Int))))]))))) (A 0 [.val (V.arr (n) (fun i => T30.enc (g i)) 6 false false), .val (.int .i64 (IntKind.i64.wrap ((i) + (1 : Int))))])))) := by kernel_rfl
def W15 (vs : List V) (σ : St) (k : VPost) : Prop :=
  match vs with
  | [.arr n f 6 _ _] => (∃ q : Nat → T30, f = (fun i => T30.enc (q i))) ∧ (n ≤ 30 → k (.bool true) σ) ∧ k (.bool false) σ
  | _ => False
def kn19 [Env] (g : FuncId) (vs : List V) (σ : St) (k : VPost) : Prop :=
  match Nat.beq g 15 with
  | true => W15 vs σ k
  | false => kn18 g vs σ k
def live264 : Nat → List Nat := (fun i => match i with | 0 => [0, 1, 2, 3, 10] | _ => [])
theorem e264 [Env] (A : Nat → List SV → Prop) (Q : V → St → Prop) (n : Nat) (g : Nat → T30) (a b c : Int) : ws Tryz.prog (KF Tryz.prog kn19 1 Tryz.f264.ntmps (live264) A) 264 none 0 (Tryz.f264.body.getD .skip) (retS Tryz.prog Tryz.f264 (Q)) (actOf Tryz.f264.ntmps [.own 0 (n) 6, .int .i64 (a), .int .i64 (b), .int .i64 (c), .func (.func 62) [] []]) (mkS [rowT (n) (g)]) =
    ((((n) = (n) ∧ 6 = 6) ∧ A 0 [.row (n) (fun i => T30.enc (g i)) 6, .val (.int .i64 (a)), .val (.int .i64 (b)), .val (.int .i64 (c)), .val (.int .i64 (0 : Int))])) := by kernel_rfl
theorem r264 [Env] (A : Nat → List SV → Prop) (Q : V → St → Prop) (n : Nat) (g : Nat → T30) (a b c i : Int) : ws Tryz.prog (KF Tryz.prog kn19 1 Tryz.f264.ntmps (live264) A) 264 none (Nat.add 0 1) (lp (Tryz.f264.body.getD .skip) 0) (seqQ (fun a σ => canonP 1 Tryz.f264.ntmps (live264 0) a σ (A 0)) (behind Tryz.prog (KF Tryz.prog kn19 1 Tryz.f264.ntmps (live264) A) 264 (Tryz.f264.body.getD .skip) 0 0 (retS Tryz.prog Tryz.f264 (Q)))) (mkA Tryz.f264.ntmps (live264 0) [rowT (n) (g), .val (.int .i64 (a)), .val (.int .i64 (b)), .val (.int .i64 (c)), .val (.int .i64 (i))]) (mkS [rowT (n) (g), .val (.int .i64 (a)), .val (.int .i64 (b)), .val (.int .i64 (c)), .val (.int .i64 (i))]) =
    (((.i64 : IntKind) = .i64 ∧ CondP (decide ((i) < (c))) (((0 ≤ (IntKind.i64.wrap ((b) + (i))) ∧ (IntKind.i64.wrap ((b) + (i))) < ((n : Nat) : Int)) ∧ ((IntKind.i64.wrap ((b) + (i))).toNat < n ∧ ((0 ≤ (IntKind.i64.wrap ((a) + (i))) ∧ (IntKind.i64.wrap ((a) + (i))) < ((n : Nat) : Int)) ∧ ((IntKind.i64.wrap ((a) + (i))).toNat < n ∧ ((0 ≤ (IntKind.i64.wrap ((a) + (i))) ∧ (IntKind.i64.wrap ((a) + (i))) < ((n : Nat) : Int)) ∧ ((IntKind.i64.wrap ((a) + (i))).toNat < n ∧ ((0 ≤ (IntKind.i64.wrap ((b) + (i))) ∧ (IntKind.i64.wrap ((b) + (i))) < ((n : Nat) : Int)) ∧ ((IntKind.i64.wrap ((b) + (i))).toNat < n ∧ (((n) = (n) ∧ 6 = 6) ∧ A 0 [.row (n) (updF (updF (fun i => T30.enc (g i)) (IntKind.i64.wrap ((a) + (i))).toNat (T30.enc (g (IntKind.i64.wrap ((b) + (i))).toNat))) (IntKind.i64.wrap ((b) + (i))).toNat (T30.enc (g (IntKind.i64.wrap ((a) + (i))).toNat))) 6, .val (.int .i64 (a)), .val (.int .i64 (b)), .val (.int .i64 (c)), .val (.int .i64 (IntKind.i64.wrap ((i) + (1 : Int))))])))))))))) (Q (.tuple []) ⟨(St.new Go.Ev.start 0 (.row (n) (fun i => T30.enc (g i)) 6 false)).heap, 1⟩))) := by kernel_rfl
def W264 (vs : List V) (σ : St) (k : VPost) : Prop :=
  match vs with
  | [.own b m 6, .int .i64 x0, .int .i64 x1, .int .i64 x2, .func (.func 62) [] []] => match σ.heap.get b with
    | some (.row n f 6 _) => (m = n ∧ σ = mkS [.row n f 6]) ∧ ∃ q : Nat → T30, f = (fun i => T30.enc (q i)) ∧ Pre264 n q x0 x1 x2 ∧ ∀ g : Nat → T30, Rel264 n q g x0 x1 x2 → k (.tuple []) (mkS [rowT n g])
    | _ => False
  | _ => False
def kn20 [Env] (g : FuncId) (vs : List V) (σ : St) (k : VPost) : Prop :=
  match Nat.beq g 264 with
  | true => W264 vs σ k
  | false => kn19 g vs σ k
def live239 : Nat → List Nat := (fun i => match i with | 0 => [0, 2, 4, 10, 11] | _ => [])
theorem e239 [Env] (A : Nat → List SV → Prop) (Q : V → St → Prop) (n : Nat) (g : Nat → T30) (a m b : Int) : ws Tryz.prog (KF Tryz.prog kn20 1 Tryz.f239.ntmps (live239) A) 239 none 0 (Tryz.f239.body.getD .skip) (retS Tryz.prog Tryz.f239 (Q)) (actOf Tryz.f239.ntmps [.own 0 (n) 6, .int .i64 (a), .int .i64 (m), .int .i64 (b), .func (.func 62) [] []]) (mkS [rowT (n) (g)]) =
    ((((n) = (n) ∧ 6 = 6) ∧ A 0 [.row (n) (fun i => T30.enc (g i)) 6, .val (.int .i64 (m)), .val (.func (.func 62) [] []), .val (.int .i64 (IntKind.i64.wrap ((m) - (a)))), .val (.int .i64 (IntKind.i64.wrap ((b) - (m))))])) := by kernel_rfl
theorem r239 [Env] (A : Nat → List SV → Prop) (Q : V → St → Prop) (n : Nat) (g : Nat → T30) (m i j : Int) : ws Tryz.prog (KF Tryz.prog kn20 1 Tryz.f239.ntmps (live239) A) 239 none (Nat.add 0 1) (lp (Tryz.f239.body.getD .skip) 0) (seqQ (fun a σ => canonP 1 Tryz.f239.ntmps (live239 0) a σ (A 0)) (behind Tryz.prog (KF Tryz.prog kn20 1 Tryz.f239.ntmps (live239) A) 239 (Tryz.f239.body.getD .skip) 0 0 (retS Tryz.prog Tryz.f239 (Q)))) (mkA Tryz.f239.ntmps (live239 0) [rowT (n) (g), .val (.int .i64 (m)), .val (.func (.func 62) [] []), .val (.int .i64 (i)), .val (.int .i64 (j))]) (mkS [rowT (n) (g), .val (.int .i64 (m)), .val (.func (.func 62) [] []), .val (.int .i64 (i)), .val (.int .i64 (j))]) =
    (((.i64 : IntKind) = .i64 ∧ CondP (decide ((i) ≠ (j))) (((.i64 : IntKind) = .i64 ∧ CondP (decide ((i) > (j))) ((((n) = (n) ∧ ⟨(St.new Go.Ev.start 0 (.row (n) (fun i => T30.enc (g i)) 6 false)).heap, 1⟩ = mkS [.row (n) (fun i => T30.enc (g i)) 6]) ∧ ∃ q : Nat → T30, (fun i => T30.enc (g i)) = (fun i => T30.enc (q (i))) ∧ Pre264 (n) q (IntKind.i64.wrap ((m) - (i))) (m) (j) ∧ ∀ g1 : Nat → T30, Rel264 (n) q g1 (IntKind.i64.wrap ((m) - (i))) (m) (j) → (((n) = (n) ∧ 6 = 6) ∧ A 0 [.row (n) (fun i => T30.enc (g1 i)) 6, .val (.int .i64 (m)), .val (.func (.func 62) [] []), .val (.int .i64 (IntKind.i64.wrap ((i) - (j)))), .val (.int .i64 (j))]))) ((((n) = (n) ∧ ⟨(St.new Go.Ev.start 0 (.row (n) (fun i => T30.enc (g i)) 6 false)).heap, 1⟩ = mkS [.row (n) (fun i => T30.enc (g i)) 6]) ∧ ∃ q : Nat → T30, (fun i => T30.enc (g i)) = (fun i => T30.enc (q (i))) ∧ Pre264 (n) q (IntKind.i64.wrap ((m) - (i))) (IntKind.i64.wrap ((IntKind.i64.wrap ((m) + (j))) - (i))) (i) ∧ ∀ g2 : Nat → T30, Rel264 (n) q g2 (IntKind.i64.wrap ((m) - (i))) (IntKind.i64.wrap ((IntKind.i64.wrap ((m) + (j))) - (i))) (i) → (((n) = (n) ∧ 6 = 6) ∧ A 0 [.row (n) (fun i => T30.enc (g2 i)) 6, .val (.int .i64 (m)), .val (.func (.func 62) [] []), .val (.int .i64 (i)), .val (.int .i64 (IntKind.i64.wrap ((j) - (i))))]))))) ((((n) = (n) ∧ ⟨(St.new Go.Ev.start 0 (.row (n) (fun i => T30.enc (g i)) 6 false)).heap, 1⟩ = mkS [.row (n) (fun i => T30.enc (g i)) 6]) ∧ ∃ q : Nat → T30, (fun i => T30.enc (g i)) = (fun i => T30.enc (q (i))) ∧ Pre264 (n) q (IntKind.i64.wrap ((m) - (i))) (m) (i) ∧ ∀ g3 : Nat → T30, Rel264 (n) q g3 (IntKind.i64.wrap ((m) - (i))) (m) (i) → Q (.tuple []) ⟨(St.new Go.Ev.start 0 (.row (n) (fun i => T30.enc (g3 i)) 6 false)).heap, 1⟩)))) := by kernel_rfl
def W239 (vs : List V) (σ : St) (k : VPost) : Prop :=
  match vs with
  | [.own b m 6, .int .i64 x0, .int .i64 x1, .int .i64 x2, .func (.func 62) [] []] => match σ.heap.get b with
    | some (.row n f 6 _) => (m = n ∧ σ = mkS [.row n f 6]) ∧ ∃ q : Nat → T30, f = (fun i => T30.enc (q i)) ∧ Pre239 n q x0 x1 x2 ∧ ∀ g : Nat → T30, Rel239 n q g x0 x1 x2 → k (.tuple []) (mkS [rowT n g])
    | _ => False
  | _ => False
def kn21 [Env] (g : FuncId) (vs : List V) (σ : St) (k : VPost) : Prop :=
  match Nat.beq g 239 with
  | true => W239 vs σ k
  | false => kn20 g vs σ k
def W205 (N : Int) (vs : List V) (σ : St) (k : VPost) : Prop :=
  match vs with
  | [.own b m 6, .int .i64 x0, .int .i64 x1, .int .i64 x2, .func (.func 62) [] []] => match σ.heap.get b with
    | some (.row n f 6 _) => (m = n ∧ σ = mkS [.row n f 6]) ∧ ∃ q : Nat → T30, f = (fun i => T30.enc (q i)) ∧ x2 - x0 < N ∧ Pre205 n q x0 x1 x2 ∧ ∀ g : Nat → T30, Rel205 n q g x0 x1 x2 → k (.tuple []) (mkS [rowT n g])
    | _ => False
  | _ => False
def knR [Env] (N : Int) (g : FuncId) (vs : List V) (σ : St) (k : VPost) : Prop :=
  match Nat.beq g 205 with
  | true => W205 N vs σ k
  | false => kn21 g vs σ k
def live205 : Nat → List Nat := (fun i => match i with | 0 => [0, 1, 4, 10, 11] | 1 => [0, 10, 13] | 2 => [0, 2, 4, 14, 15] | 3 => [0, 14, 17] | 4 => [0, 1, 2, 3, 4, 18, 19, 20, 21, 22] | _ => [])
theorem e205 [Env] (A : Nat → List SV → Prop) (Q : V → St → Prop) (N : Int) (n : Nat) (g : Nat → T30) (a m b : Int) : ws Tryz.prog (KF Tryz.prog (knR N) 1 Tryz.f205.ntmps (live205) A) 205 none 0 (Tryz.f205.body.getD .skip) (retS Tryz.prog Tryz.f205 (Q)) (actOf Tryz.f205.ntmps [.own 0 (n) 6, .int .i64 (a), .int .i64 (m), .int .i64 (b), .func (.func 62) [] []]) (mkS [rowT (n) (g)]) =
    (((.i64 : IntKind) = .i64 ∧ CondP (decide ((IntKind.i64.wrap ((m) - (a))) = (1 : Int))) ((((n) = (n) ∧ 6 = 6) ∧ A 0 [.row (n) (fun i => T30.enc (g i)) 6, .val (.int .i64 (a)), .val (.func (.func 62) [] []), .val (.int .i64 (m)), .val (.int .i64 (b))])) (((.i64 : IntKind) = .i64 ∧ CondP (decide ((IntKind.i64.wrap ((b) - (m))) = (1 : Int))) ((((n) = (n) ∧ 6 = 6) ∧ A 2 [.row (n) (fun i => T30.enc (g i)) 6, .val (.int .i64 (m)), .val (.func (.func 62) [] []), .val (.int .i64 (a)), .val (.int .i64 (m))])) ((0 ≤ (1 : Int) ∧ ((.i64 : IntKind) = .i64 ∧ CondP (decide ((m) > (IntKind.i64.wrap ((IntKind.u64.wrap (IntKind.i64.wrap ((a) + (b)))).fdiv (2 ^ min (1 : Int).toNat IntKind.u64.bits))))) ((((n) = (n) ∧ 6 = 6) ∧ A 4 [.row (n) (fun i => T30.enc (g i)) 6, .val (.int .i64 (a)), .val (.int .i64 (m)), .val (.int .i64 (b)), .val (.func (.func 62) [] []), .val (.int .i64 (IntKind.i64.wrap ((IntKind.u64.wrap (IntKind.i64.wrap ((a) + (b)))).fdiv (2 ^ min (1 : Int).toNat IntKind.u64.bits)))), .val (.int .i64 (IntKind.i64.wrap ((IntKind.i64.wrap ((IntKind.u64.wrap (IntKind.i64.wrap ((a) + (b)))).fdiv (2 ^ min (1 : Int).toNat IntKind.u64.bits))) + (m)))), .val (.int .i64 (IntKind.i64.wrap ((IntKind.i64.wrap ((IntKind.i64.wrap ((IntKind.u64.wrap (IntKind.i64.wrap ((a) + (b)))).fdiv (2 ^ min (1 : Int).toNat IntKind.u64.bits))) + (m))) - (b)))), .val (.int .i64 (IntKind.i64.wrap ((IntKind.u64.wrap (IntKind.i64.wrap ((a) + (b)))).fdiv (2 ^ min (1 : Int).toNat IntKind.u64.bits)))), .val (.int .i64 (IntKind.i64.wrap ((IntKind.i64.wrap ((IntKind.i64.wrap ((IntKind.u64.wrap (IntKind.i64.wrap ((a) + (b)))).fdiv (2 ^ min (1 : Int).toNat IntKind.u64.bits))) + (m))) - (1 : Int))))])) ((((n) = (n) ∧ 6 = 6) ∧ A 4 [.row (n) (fun i => T30.enc (g i)) 6, .val (.int .i64 (a)), .val (.int .i64 (m)), .val (.int .i64 (b)), .val (.func (.func 62) [] []), .val (.int .i64 (IntKind.i64.wrap ((IntKind.u64.wrap (IntKind.i64.wrap ((a) + (b)))).fdiv (2 ^ min (1 : Int).toNat IntKind.u64.bits)))), .val (.int .i64 (IntKind.i64.wrap ((IntKind.i64.wrap ((IntKind.u64.wrap (IntKind.i64.wrap ((a) + (b)))).fdiv (2 ^ min (1 : Int).toNat IntKind.u64.bits))) + (m)))), .val (.int .i64 (a)), .val (.int .i64 (m)), .val (.int .i64 (IntKind.i64.wrap ((IntKind.i64.wrap ((IntKind.i64.wrap ((IntKind.u64.wrap (IntKind.i64.wrap ((a) + (b)))).fdiv (2 ^ min (1 : Int).toNat IntKind.u64.bits))) + (m))) - (1 : Int))))]))))))))) := by kernel_rfl
theorem r205a [Env] (A : Nat → List SV → Prop) (Q : V → St → Prop) (N : Int) (n : Nat) (g : Nat → T30) (a i j : Int) : ws Tryz.prog (KF Tryz.prog (knR N) 1 Tryz.f205.ntmps (live205) A) 205 none (Nat.add 0 1) (lp (Tryz.f205.body.getD .skip) 0) (seqQ (fun a σ => canonP 1 Tryz.f205.ntmps (live205 0) a σ (A 0)) (behind Tryz.prog (KF Tryz.prog (knR N) 1 Tryz.f205.ntmps (live205) A) 205 (Tryz.f205.body.getD .skip) 0 0 (retS Tryz.prog Tryz.f205 (Q)))) (mkA Tryz.f205.ntmps (live205 0) [rowT (n) (g), .val (.int .i64 (a)), .val (.func (.func 62) [] []), .val (.int .i64 (i)), .val (.int .i64 (j))]) (mkS [rowT (n) (g), .val (.int .i64 (a)), .val (.func (.func 62) [] []), .val (.int .i64 (i)), .val (.int .i64 (j))]) =
    (((.i64 : IntKind) = .i64 ∧ CondP (decide ((i) < (j))) ((0 ≤ (1 : Int) ∧ ((0 ≤ (IntKind.i64.wrap ((IntKind.u64.wrap (IntKind.i64.wrap ((i) + (j)))).fdiv (2 ^ min (1 : Int).toNat IntKind.u64.bits))) ∧ (IntKind.i64.wrap ((IntKind.u64.wrap (IntKind.i64.wrap ((i) + (j)))).fdiv (2 ^ min (1 : Int).toNat IntKind.u64.bits))) < ((n : Nat) : Int)) ∧ ((IntKind.i64.wrap ((IntKind.u64.wrap (IntKind.i64.wrap ((i) + (j)))).fdiv (2 ^ min (1 : Int).toNat IntKind.u64.bits))).toNat < n ∧ ((0 ≤ (a) ∧ (a) < ((n : Nat) : Int)) ∧ ((a).toNat < n ∧ ((∃ q₁ q₂ : T30, [T30.enc (g (IntKind.i64.wrap ((IntKind.u64.wrap (IntKind.i64.wrap ((i) + (j)))).fdiv (2 ^ min (1 : Int).toNat IntKind.u64.bits))).toNat), T30.enc (g (a).toNat)] = [T30.enc q₁, T30.enc q₂]) ∧ ((.i64 : IntKind) = .i64 ∧ CondP (decide ((cmpI (key ((g (IntKind.i64.wrap ((IntKind.u64.wrap (IntKind.i64.wrap ((i) + (j)))).fdiv (2 ^ min (1 : Int).toNat IntKind.u64.bits))).toNat).f3)) (key ((g (a).toNat).f3))) < (0 : Int))) ((((n) = (n) ∧ 6 = 6) ∧ A 0 [.row (n) (fun i => T30.enc (g i)) 6, .val (.int .i64 (a)), .val (.func (.func 62) [] []), .val (.int .i64 (IntKind.i64.wrap ((IntKind.i64.wrap ((IntKind.u64.wrap (IntKind.i64.wrap ((i) + (j)))).fdiv (2 ^ min (1 : Int).toNat IntKind.u64.bits))) + (1 : Int)))), .val (.int .i64 (j))])) ((((n) = (n) ∧ 6 = 6) ∧ A 0 [.row (n) (fun i => T30.enc (g i)) 6, .val (.int .i64 (a)), .val (.func (.func 62) [] []), .val (.int .i64 (i)), .val (.int .i64 (IntKind.i64.wrap ((IntKind.u64.wrap (IntKind.i64.wrap ((i) + (j)))).fdiv (2 ^ min (1 : Int).toNat IntKind.u64.bits))))])))))))))) ((((n) = (n) ∧ 6 = 6) ∧ A 1 [.row (n) (fun i => T30.enc (g i)) 6, .val (.int .i64 (i)), .val (.int .i64 (a))])))) := by kernel_rfl
theorem r205b [Env] (A : Nat → List SV → Prop) (Q : V → St → Prop) (N : Int) (n : Nat) (g : Nat → T30) (i k : Int) : ws Tryz.prog (KF Tryz.prog (knR N) 1 Tryz.f205.ntmps (live205) A) 205 none (Nat.add 1 1) (lp (Tryz.f205.body.getD .skip) 1) (seqQ (fun a σ => canonP 1 Tryz.f205.ntmps (live205 1) a σ (A 1)) (behind Tryz.prog (KF Tryz.prog (knR N) 1 Tryz.f205.ntmps (live205) A) 205 (Tryz.f205.body.getD .skip) 0 1 (retS Tryz.prog Tryz.f205 (Q)))) (mkA Tryz.f205.ntmps (live205 1) [rowT (n) (g), .val (.int .i64 (i)), .val (.int .i64 (k))]) (mkS [rowT (n) (g), .val (.int .i64 (i)), .val (.int .i64 (k))]) =
    (((.i64 : IntKind) = .i64 ∧ CondP (decide ((k) < (IntKind.i64.wrap ((i) - (1 : Int))))) (((0 ≤ (IntKind.i64.wrap ((k) + (1 : Int))) ∧ (IntKind.i64.wrap ((k) + (1 : Int))) < ((n : Nat) : Int)) ∧ ((IntKind.i64.wrap ((k) + (1 : Int))).toNat < n ∧ ((0 ≤ (k) ∧ (k) < ((n : Nat) : Int)) ∧ ((k).toNat < n ∧ ((0 ≤ (k) ∧ (k) < ((n : Nat) : Int)) ∧ ((k).toNat < n ∧ ((0 ≤ (IntKind.i64.wrap ((k) + (1 : Int))) ∧ (IntKind.i64.wrap ((k) + (1 : Int))) < ((n : Nat) : Int)) ∧ ((IntKind.i64.wrap ((k) + (1 : Int))).toNat < n ∧ (((n) = (n) ∧ 6 = 6) ∧ A 1 [.row (n) (updF (updF (fun i => T30.enc (g i)) (k).toNat (T30.enc (g (IntKind.i64.wrap ((k) + (1 : Int))).toNat))) (IntKind.i64.wrap ((k) + (1 : Int))).toNat (T30.enc (g (k).toNat))) 6, .val (.int .i64 (i)), .val (.int .i64 (IntKind.i64.wrap ((k) + (1 : Int))))])))))))))) (Q (.tuple []) ⟨(St.new Go.Ev.start 0 (.row (n) (fun i => T30.enc (g i)) 6 false)).heap, 1⟩))) := by kernel_rfl
theorem r205c [Env] (A : Nat → List SV → Prop) (Q : V → St → Prop) (N : Int) (n : Nat) (g : Nat → T30) (m i j : Int) : ws Tryz.prog (KF Tryz.prog (knR N) 1 Tryz.f205.ntmps (live205) A) 205 none (Nat.add 2 1) (lp (Tryz.f205.body.getD .skip) 2) (seqQ (fun a σ => canonP 1 Tryz.f205.ntmps (live205 2) a σ (A 2)) (behind Tryz.prog (KF Tryz.prog (knR N) 1 Tryz.f205.ntmps (live205) A) 205 (Tryz.f205.body.getD .skip) 0 2 (retS Tryz.prog Tryz.f205 (Q)))) (mkA Tryz.f205.ntmps (live205 2) [rowT (n) (g), .val (.int .i64 (m)), .val (.func (.func 62) [] []), .val (.int .i64 (i)), .val (.int .i64 (j))]) (mkS [rowT (n) (g), .val (.int .i64 (m)), .val (.func (.func 62) [] []), .val (.int .i64 (i)), .val (.int .i64 (j))]) =
    (((.i64 : IntKind) = .i64 ∧ CondP (decide ((i) < (j))) ((0 ≤ (1 : Int) ∧ ((0 ≤ (m) ∧ (m) < ((n : Nat) : Int)) ∧ ((m).toNat < n ∧ ((0 ≤ (IntKind.i64.wrap ((IntKind.u64.wrap (IntKind.i64.wrap ((i) + (j)))).fdiv (2 ^ min (1 : Int).toNat IntKind.u64.bits))) ∧ (IntKind.i64.wrap ((IntKind.u64.wrap (IntKind.i64.wrap ((i) + (j)))).fdiv (2 ^ min (1 : Int).toNat IntKind.u64.bits))) < ((n : Nat) : Int)) ∧ ((IntKind.i64.wrap ((IntKind.u64.wrap (IntKind.i64.wrap ((i) + (j)))).fdiv (2 ^ min (1 : Int).toNat IntKind.u64.bits))).toNat < n ∧ ((∃ q₁ q₂ : T30, [T30.enc (g (m).toNat), T30.enc (g (IntKind.i64.wrap ((IntKind.u64.wrap (IntKind.i64.wrap ((i) + (j)))).fdiv (2 ^ min (1 : Int).toNat IntKind.u64.bits))).toNat)] = [T30.enc q₁, T30.enc q₂]) ∧ ((.i64 : IntKind) = .i64 ∧ CondP (decide ((cmpI (key ((g (m).toNat).f3)) (key ((g (IntKind.i64.wrap ((IntKind.u64.wrap (IntKind.i64.wrap ((i) + (j)))).fdiv (2 ^ min (1 : Int).toNat IntKind.u64.bits))).toNat).f3))) < (0 : Int))) ((((n) = (n) ∧ 6 = 6) ∧ A 2 [.row (n) (fun i => T30.enc (g i)) 6, .val (.int .i64 (m)), .val (.func (.func 62) [] []), .val (.int .i64 (i)), .val (.int .i64 (IntKind.i64.wrap ((IntKind.u64.wrap (IntKind.i64.wrap ((i) + (j)))).fdiv (2 ^ min (1 : Int).toNat IntKind.u64.bits))))])) ((((n) = (n) ∧ 6 = 6) ∧ A 2 [.row (n) (fun i => T30.enc (g i)) 6, .val (.int .i64 (m)), .val (.func (.func 62) [] []), .val (.int .i64 (IntKind.i64.wrap ((IntKind.i64.wrap ((IntKind.u64.wrap (IntKind.i64.wrap ((i) + (j)))).fdiv (2 ^ min (1 : Int).toNat IntKind.u64.bits))) + (1 : Int)))), .val (.int .i64 (j))])))))))))) ((((n) = (n) ∧ 6 = 6) ∧ A 3 [.row (n) (fun i => T30.enc (g i)) 6, .val (.int .i64 (i)), .val (.int .i64 (m))])))) := by kernel_rfl
theorem r205d [Env] (A : Nat → List SV → Prop) (Q : V → St → Prop) (N : Int) (n : Nat) (g : Nat → T30) (i k : Int) : ws Tryz.prog (KF Tryz.prog (knR N) 1 Tryz.f205.ntmps (live205) A) 205 none (Nat.add 3 1) (lp (Tryz.f205.body.getD .skip) 3) (seqQ (fun a σ => canonP 1 Tryz.f205.ntmps (live205 3) a σ (A 3)) (behind Tryz.prog (KF Tryz.prog (knR N) 1 Tryz.f205.ntmps (live205) A) 205 (Tryz.f205.body.getD .skip) 0 3 (retS Tryz.prog Tryz.f205 (Q)))) (mkA Tryz.f205.ntmps (live205 3) [rowT (n) (g), .val (.int .i64 (i)), .val (.int .i64 (k))]) (mkS [rowT (n) (g), .val (.int .i64 (i)), .val (.int .i64 (k))]) =
    (((.i64 : IntKind) = .i64 ∧ CondP (decide ((k) > (i))) (((0 ≤ (IntKind.i64.wrap ((k) - (1 : Int))) ∧ (IntKind.i64.wrap ((k) - (1 : Int))) < ((n : Nat) : Int)) ∧ ((IntKind.i64.wrap ((k) - (1 : Int))).toNat < n ∧ ((0 ≤ (k) ∧ (k) < ((n : Nat) : Int)) ∧ ((k).toNat < n ∧ ((0 ≤ (k) ∧ (k) < ((n : Nat) : Int)) ∧ ((k).toNat < n ∧ ((0 ≤ (IntKind.i64.wrap ((k) - (1 : Int))) ∧ (IntKind.i64.wrap ((k) - (1 : Int))) < ((n : Nat) : Int)) ∧ ((IntKind.i64.wrap ((k) - (1 : Int))).toNat < n ∧ (((n) = (n) ∧ 6 = 6) ∧ A 3 [.row (n) (updF (updF (fun i => T30.enc (g i)) (k).toNat (T30.enc (g (IntKind.i64.wrap ((k) - (1 : Int))).toNat))) (IntKind.i64.wrap ((k) - (1 : Int))).toNat (T30.enc (g (k).toNat))) 6, .val (.int .i64 (i)), .val (.int .i64 (IntKind.i64.wrap ((k) - (1 : Int))))])))))))))) (Q (.tuple []) ⟨(St.new Go.Ev.start 0 (.row (n) (fun i => T30.enc (g i)) 6 false)).heap, 1⟩))) := by kernel_rfl
theorem r205e [Env] (A : Nat → List SV → Prop) (Q : V → St → Prop) (N : Int) (n : Nat) (g : Nat → T30) (a m b mid nn s r p : Int) : ws Tryz.prog (KF Tryz.prog (knR N) 1 Tryz.f205.ntmps (live205) A) 205 none (Nat.add 4 1) (lp (Tryz.f205.body.getD .skip) 4) (seqQ (fun a σ => canonP 1 Tryz.f205.ntmps (live205 4) a σ (A 4)) (behind Tryz.prog (KF Tryz.prog (knR N) 1 Tryz.f205.ntmps (live205) A) 205 (Tryz.f205.body.getD .skip) 0 4 (retS Tryz.prog Tryz.f205 (Q)))) (mkA Tryz.f205.ntmps (live205 4) [rowT (n) (g), .val (.int .i64 (a)), .val (.int .i64 (m)), .val (.int .i64 (b)), .val (.func (.func 62) [] []), .val (.int .i64 (mid)), .val (.int .i64 (nn)), .val (.int .i64 (s)), .val (.int .i64 (r)), .val (.int .i64 (p))]) (mkS [rowT (n) (g), .val (.int .i64 (a)), .val (.int .i64 (m)), .val (.int .i64 (b)), .val (.func (.func 62) [] []), .val (.int .i64 (mid)), .val (.int .i64 (nn)), .val (.int .i64 (s)), .val (.int .i64 (r)), .val (.int .i64 (p))]) =
    (((.i64 : IntKind) = .i64 ∧ CondP (decide ((s) < (r))) ((0 ≤ (1 : Int) ∧ ((0 ≤ (IntKind.i64.wrap ((p) - (IntKind.i64.wrap ((IntKind.u64.wrap (IntKind.i64.wrap ((s) + (r)))).fdiv (2 ^ min (1 : Int).toNat IntKind.u64.bits))))) ∧ (IntKind.i64.wrap ((p) - (IntKind.i64.wrap ((IntKind.u64.wrap (IntKind.i64.wrap ((s) + (r)))).fdiv (2 ^ min (1 : Int).toNat IntKind.u64.bits))))) < ((n : Nat) : Int)) ∧ ((IntKind.i64.wrap ((p) - (IntKind.i64.wrap ((IntKind.u64.wrap (IntKind.i64.wrap ((s) + (r)))).fdiv (2 ^ min (1 : Int).toNat IntKind.u64.bits))))).toNat < n ∧ ((0 ≤ (IntKind.i64.wrap ((IntKind.u64.wrap (IntKind.i64.wrap ((s) + (r)))).fdiv (2 ^ min (1 : Int).toNat IntKind.u64.bits))) ∧ (IntKind.i64.wrap ((IntKind.u64.wrap (IntKind.i64.wrap ((s) + (r)))).fdiv (2 ^ min (1 : Int).toNat IntKind.u64.bits))) < ((n : Nat) : Int)) ∧ ((IntKind.i64.wrap ((IntKind.u64.wrap (IntKind.i64.wrap ((s) + (r)))).fdiv (2 ^ min (1 : Int).toNat IntKind.u64.bits))).toNat < n ∧ ((∃ q₁ q₂ : T30, [T30.enc (g (IntKind.i64.wrap ((p) - (IntKind.i64.wrap ((IntKind.u64.wrap (IntKind.i64.wrap ((s) + (r)))).fdiv (2 ^ min (1 : Int).toNat IntKind.u64.bits))))).toNat), T30.enc (g (IntKind.i64.wrap ((IntKind.u64.wrap (IntKind.i64.wrap ((s) + (r)))).fdiv (2 ^ min (1 : Int).toNat IntKind.u64.bits))).toNat)] = [T30.enc q₁, T30.enc q₂]) ∧ ((.i64 : IntKind) = .i64 ∧ CondP (decide ((cmpI (key ((g (IntKind.i64.wrap ((p) - (IntKind.i64.wrap ((IntKind.u64.wrap (IntKind.i64.wrap ((s) + (r)))).fdiv (2 ^ min (1 : Int).toNat IntKind.u64.bits))))).toNat).f3)) (key ((g (IntKind.i64.wrap ((IntKind.u64.wrap (IntKind.i64.wrap ((s) + (r)))).fdiv (2 ^ min (1 : Int).toNat IntKind.u64.bits))).toNat).f3))) < (0 : Int))) ((((n) = (n) ∧ 6 = 6) ∧ A 4 [.row (n) (fun i => T30.enc (g i)) 6, .val (.int .i64 (a)), .val (.int .i64 (m)), .val (.int .i64 (b)), .val (.func (.func 62) [] []), .val (.int .i64 (mid)), .val (.int .i64 (nn)), .val (.int .i64 (s)), .val (.int .i64 (IntKind.i64.wrap ((IntKind.u64.wrap (IntKind.i64.wrap ((s) + (r)))).fdiv (2 ^ min (1 : Int).toNat IntKind.u64.bits)))), .val (.int .i64 (p))])) ((((n) = (n) ∧ 6 = 6) ∧ A 4 [.row (n) (fun i => T30.enc (g i)) 6, .val (.int .i64 (a)), .val (.int .i64 (m)), .val (.int .i64 (b)), .val (.func (.func 62) [] []), .val (.int .i64 (mid)), .val (.int .i64 (nn)), .val (.int .i64 (IntKind.i64.wrap ((IntKind.i64.wrap ((IntKind.u64.wrap (IntKind.i64.wrap ((s) + (r)))).fdiv (2 ^ min (1 : Int).toNat IntKind.u64.bits))) + (1 : Int)))), .val (.int .i64 (r)), .val (.int .i64 (p))])))))))))) (((.i64 : IntKind) = .i64 ∧ CondP (decide ((s) < (m))) (((.i64 : IntKind) = .i64 ∧ CondP (decide ((m) < (IntKind.i64.wrap ((nn) - (s))))) ((((n) = (n) ∧ ⟨(St.new Go.Ev.start 0 (.row (n) (fun i => T30.enc (g i)) 6 false)).heap, 1⟩ = mkS [.row (n) (fun i => T30.enc (g i)) 6]) ∧ ∃ q : Nat → T30, (fun i => T30.enc (g i)) = (fun i => T30.enc (q (i))) ∧ Pre239 (n) q (s) (m) (IntKind.i64.wrap ((nn) - (s))) ∧ ∀ g4 : Nat → T30, Rel239 (n) q g4 (s) (m) (IntKind.i64.wrap ((nn) - (s))) → ((.i64 : IntKind) = .i64 ∧ CondP (decide ((a) < (s))) (((.i64 : IntKind) = .i64 ∧ CondP (decide ((s) < (mid))) ((((n) = (n) ∧ ⟨(St.new Go.Ev.start 0 (.row (n) (fun i => T30.enc (g4 i)) 6 false)).heap, 1⟩ = mkS [.row (n) (fun i => T30.enc (g4 i)) 6]) ∧ ∃ q : Nat → T30, (fun i => T30.enc (g4 i)) = (fun i => T30.enc (q (i))) ∧ (mid) - (a) < N ∧ Pre205 (n) q (a) (s) (mid) ∧ ∀ g5 : Nat → T30, Rel205 (n) q g5 (a) (s) (mid) → ((.i64 : IntKind) = .i64 ∧ CondP (decide ((mid) < (IntKind.i64.wrap ((nn) - (s))))) (((.i64 : IntKind) = .i64 ∧ CondP (decide ((IntKind.i64.wrap ((nn) - (s))) < (b))) ((((n) = (n) ∧ ⟨(St.new Go.Ev.start 0 (.row (n) (fun i => T30.enc (g5 i)) 6 false)).heap, 1⟩ = mkS [.row (n) (fun i => T30.enc (g5 i)) 6]) ∧ ∃ q : Nat → T30, (fun i => T30.enc (g5 i)) = (fun i => T30.enc (q (i))) ∧ (b) - (mid) < N ∧ Pre205 (n) q (mid) (IntKind.i64.wrap ((nn) - (s))) (b) ∧ ∀ g6 : Nat → T30, Rel205 (n) q g6 (mid) (IntKind.i64.wrap ((nn) - (s))) (b) → Q (.tuple []) ⟨(St.new Go.Ev.start 0 (.row (n) (fun i => T30.enc (g6 i)) 6 false)).heap, 1⟩)) (Q (.tuple []) ⟨(St.new Go.Ev.start 0 (.row (n) (fun i => T30.enc (g5 i)) 6 false)).heap, 1⟩))) (Q (.tuple []) ⟨(St.new Go.Ev.start 0 (.row (n) (fun i => T30.enc (g5 i)) 6 false)).heap, 1⟩)))) (((.i64 : IntKind) = .i64 ∧ CondP (decide ((mid) < (IntKind.i64.wrap ((nn) - (s))))) (((.i64 : IntKind) = .i64 ∧ CondP (decide ((IntKind.i64.wrap ((nn) - (s))) < (b))) ((((n) = (n) ∧ ⟨(St.new Go.Ev.start 0 (.row (n) (fun i => T30.enc (g4 i)) 6 false)).heap, 1⟩ = mkS [.row (n) (fun i => T30.enc (g4 i)) 6]) ∧ ∃ q : Nat → T30, (fun i => T30.enc (g4 i)) = (fun i => T30.enc (q (i))) ∧ (b) - (mid) < N ∧ Pre205 (n) q (mid) (IntKind.i64.wrap ((nn) - (s))) (b) ∧ ∀ g7 : Nat → T30, Rel205 (n) q g7 (mid) (IntKind.i64.wrap ((nn) - (s))) (b) → Q (.tuple []) ⟨(St.new Go.Ev.start 0 (.row (n) (fun i => T30.enc (g7 i)) 6 false)).heap, 1⟩)) (Q (.tuple []) ⟨(St.new Go.Ev.start 0 (.row (n) (fun i => T30.enc (g4 i)) 6 false)).heap, 1⟩))) (Q (.tuple []) ⟨(St.new Go.Ev.start 0 (.row (n) (fun i => T30.enc (g4 i)) 6 false)).heap, 1⟩))))) (((.i64 : IntKind) = .i64 ∧ CondP (decide ((mid) < (IntKind.i64.wrap ((nn) - (s))))) (((.i64 : IntKind) = .i64 ∧ CondP (decide ((IntKind.i64.wrap ((nn) - (s))) < (b))) ((((n) = (n) ∧ ⟨(St.new Go.Ev.start 0 (.row (n) (fun i => T30.enc (g4 i)) 6 false)).heap, 1⟩ = mkS [.row (n) (fun i => T30.enc (g4 i)) 6]) ∧ ∃ q : Nat → T30, (fun i => T30.enc (g4 i)) = (fun i => T30.enc (q (i))) ∧ (b) - (mid) < N ∧ Pre205 (n) q (mid) (IntKind.i64.wrap ((nn) - (s))) (b) ∧ ∀ g8 : Nat → T30, Rel205 (n) q g8 (mid) (IntKind.i64.wrap ((nn) - (s))) (b) → Q (.tuple []) ⟨(St.new Go.Ev.start 0 (.row (n) (fun i => T30.enc (g8 i)) 6 false)).heap, 1⟩)) (Q (.tuple []) ⟨(St.new Go.Ev.start 0 (.row (n) (fun i => T30.enc (g4 i)) 6 false)).heap, 1⟩))) (Q (.tuple []) ⟨(St.new Go.Ev.start 0 (.row (n) (fun i => T30.enc (g4 i)) 6 false)).heap, 1⟩)))))) (((.i64 : IntKind) = .i64 ∧ CondP (decide ((a) < (s))) (((.i64 : IntKind) = .i64 ∧ CondP (decide ((s) < (mid))) ((((n) = (n) ∧ ⟨(St.new Go.Ev.start 0 (.row (n) (fun i => T30.enc (g i)) 6 false)).heap, 1⟩ = mkS [.row (n) (fun i => T30.enc (g i)) 6]) ∧ ∃ q : Nat → T30, (fun i => T30.enc (g i)) = (fun i => T30.enc (q (i))) ∧ (mid) - (a) < N ∧ Pre205 (n) q (a) (s) (mid) ∧ ∀ g9 : Nat → T30, Rel205 (n) q g9 (a) (s) (mid) → ((.i64 : IntKind) = .i64 ∧ CondP (decide ((mid) < (IntKind.i64.wrap ((nn) - (s))))) (((.i64 : IntKind) = .i64 ∧ CondP (decide ((IntKind.i64.wrap ((nn) - (s))) < (b))) ((((n) = (n) ∧ ⟨(St.new Go.Ev.start 0 (.row (n) (fun i => T30.enc (g9 i)) 6 false)).heap, 1⟩ = mkS [.row (n) (fun i => T30.enc (g9 i)) 6]) ∧ ∃ q : Nat → T30, (fun i => T30.enc (g9 i)) = (fun i => T30.enc (q (i))) ∧ (b) - (mid) < N ∧ Pre205 (n) q (mid) (IntKind.i64.wrap ((nn) - (s))) (b) ∧ ∀ g10 : Nat → T30, Rel205 (n) q g10 (mid) (IntKind.i64.wrap ((nn) - (s))) (b) → Q (.tuple []) ⟨(St.new Go.Ev.start 0 (.row (n) (fun i => T30.enc (g10 i)) 6 false)).heap, 1⟩)) (Q (.tuple []) ⟨(St.new Go.Ev.start 0 (.row (n) (fun i => T30.enc (g9 i)) 6 false)).heap, 1⟩))) (Q (.tuple []) ⟨(St.new Go.Ev.start 0 (.row (n) (fun i => T30.enc (g9 i)) 6 false)).heap, 1⟩)))) (((.i64 : IntKind) = .i64 ∧ CondP (decide ((mid) < (IntKind.i64.wrap ((nn) - (s))))) (((.i64 : IntKind) = .i64 ∧ CondP (decide ((IntKind.i64.wrap ((nn) - (s))) < (b))) ((((n) = (n) ∧ ⟨(St.new Go.Ev.start 0 (.row (n) (fun i => T30.enc (g i)) 6 false)).heap, 1⟩ = mkS [.row (n) (fun i => T30.enc (g i)) 6]) ∧ ∃ q : Nat → T30, (fun i => T30.enc (g i)) = (fun i => T30.enc (q (i))) ∧ (b) - (mid) < N ∧ Pre205 (n) q (mid) (IntKind.i64.wrap ((nn) - (s))) (b) ∧ ∀ g11 : Nat → T30, Rel205 (n) q g11 (mid) (IntKind.i64.wrap ((nn) - (s))) (b) → Q (.tuple []) ⟨(St.new Go.Ev.start 0 (.row (n) (fun i => T30.enc (g11 i)) 6 false)).heap, 1⟩)) (Q (.tuple []) ⟨(St.new Go.Ev.start 0 (.row (n) (fun i => T30.enc (g i)) 6 false)).heap, 1⟩))) (Q (.tuple []) ⟨(St.new Go.Ev.start 0 (.row (n) (fun i => T30.enc (g i)) 6 false)).heap, 1⟩))))) (((.i64 : IntKind) = .i64 ∧ CondP (decide ((mid) < (IntKind.i64.wrap ((nn) - (s))))) (((.i64 : IntKind) = .i64 ∧ CondP (decide ((IntKind.i64.wrap ((nn) - (s))) < (b))) ((((n) = (n) ∧ ⟨(St.new Go.Ev.start 0 (.row (n) (fun i => T30.enc (g i)) 6 false)).heap, 1⟩ = mkS [.row (n) (fun i => T30.enc (g i)) 6]) ∧ ∃ q : Nat → T30, (fun i => T30.enc (g i)) = (fun i => T30.enc (q (i))) ∧ (b) - (mid) < N ∧ Pre205 (n) q (mid) (IntKind.i64.wrap ((nn) - (s))) (b) ∧ ∀ g12 : Nat → T30, Rel205 (n) q g12 (mid) (IntKind.i64.wrap ((nn) - (s))) (b) → Q (.tuple []) ⟨(St.new Go.Ev.start 0 (.row (n) (fun i => T30.enc (g12 i)) 6 false)).heap, 1⟩)) (Q (.tuple []) ⟨(St.new Go.Ev.start 0 (.row (n) (fun i => T30.enc (g i)) 6 false)).heap, 1⟩))) (Q (.tuple []) ⟨(St.new Go.Ev.start 0 (.row (n) (fun i => T30.enc (g i)) 6 false)).heap, 1⟩))))))) (((.i64 : IntKind) = .i64 ∧ CondP (decide ((a) < (s))) (((.i64 : IntKind) = .i64 ∧ CondP (decide ((s) < (mid))) ((((n) = (n) ∧ ⟨(St.new Go.Ev.start 0 (.row (n) (fun i => T30.enc (g i)) 6 false)).heap, 1⟩ = mkS [.row (n) (fun i => T30.enc (g i)) 6]) ∧ ∃ q : Nat → T30, (fun i => T30.enc (g i)) = (fun i => T30.enc (q (i))) ∧ (mid) - (a) < N ∧ Pre205 (n) q (a) (s) (mid) ∧ ∀ g13 : Nat → T30, Rel205 (n) q g13 (a) (s) (mid) → ((.i64 : IntKind) = .i64 ∧ CondP (decide ((mid) < (IntKind.i64.wrap ((nn) - (s))))) (((.i64 : IntKind) = .i64 ∧ CondP (decide ((IntKind.i64.wrap ((nn) - (s))) < (b))) ((((n) = (n) ∧ ⟨(St.new Go.Ev.start 0 (.row (n) (fun i => T30.enc (g13 i)) 6 false)).heap, 1⟩ = mkS [.row (n) (fun i => T30.enc (g13 i)) 6]) ∧ ∃ q : Nat → T30, (fun i => T30.enc (g13 i)) = (fun i => T30.enc (q (i))) ∧ (b) - (mid) < N ∧ Pre205 (n) q (mid) (IntKind.i64.wrap ((nn) - (s))) (b) ∧ ∀ g14 : Nat → T30, Rel205 (n) q g14 (mid) (IntKind.i64.wrap ((nn) - (s))) (b) → Q (.tuple []) ⟨(St.new Go.Ev.start 0 (.row (n) (fun i => T30.enc (g14 i)) 6 false)).heap, 1⟩)) (Q (.tuple []) ⟨(St.new Go.Ev.start 0 (.row (n) (fun i => T30.enc (g13 i)) 6 false)).heap, 1⟩))) (Q (.tuple []) ⟨(St.new Go.Ev.start 0 (.row (n) (fun i => T30.enc (g13 i)) 6 false)).heap, 1⟩)))) (((.i64 : IntKind) = .i64 ∧ CondP (decide ((mid) < (IntKind.i64.wrap ((nn) - (s))))) (((.i64 : IntKind) = .i64 ∧ CondP (decide ((IntKind.i64.wrap ((nn) - (s))) < (b))) ((((n) = (n) ∧ ⟨(St.new Go.Ev.start 0 (.row (n) (fun i => T30.enc (g i)) 6 false)).heap, 1⟩ = mkS [.row (n) (fun i => T30.enc (g i)) 6]) ∧ ∃ q : Nat → T30, (fun i => T30.enc (g i)) = (fun i => T30.enc (q (i))) ∧ (b) - (mid) < N ∧ Pre205 (n) q (mid) (IntKind.i64.wrap ((nn) - (s))) (b) ∧ ∀ g15 : Nat → T30, Rel205 (n) q g15 (mid) (IntKind.i64.wrap ((nn) - (s))) (b) → Q (.tuple []) ⟨(St.new Go.Ev.start 0 (.row (n) (fun i => T30.enc (g15 i)) 6 false)).heap, 1⟩)) (Q (.tuple []) ⟨(St.new Go.Ev.start 0 (.row (n) (fun i => T30.enc (g i)) 6 false)).heap, 1⟩))) (Q (.tuple []) ⟨(St.new Go.Ev.start 0 (.row (n) (fun i => T30.enc (g i)) 6 false)).heap, 1⟩))))) (((.i64 : IntKind) = .i64 ∧ CondP (decide ((mid) < (IntKind.i64.wrap ((nn) - (s))))) (((.i64 : IntKind) = .i64 ∧ CondP (decide ((IntKind.i64.wrap ((nn) - (s))) < (b))) ((((n) = (n) ∧ ⟨(St.new Go.Ev.start 0 (.row (n) (fun i => T30.enc (g i)) 6 false)).heap, 1⟩ = mkS [.row (n) (fun i => T30.enc (g i)) 6]) ∧ ∃ q : Nat → T30, (fun i => T30.enc (g i)) = (fun i => T30.enc (q (i))) ∧ (b) - (mid) < N ∧ Pre205 (n) q (mid) (IntKind.i64.wrap ((nn) - (s))) (b) ∧ ∀ g16 : Nat → T30, Rel205 (n) q g16 (mid) (IntKind.i64.wrap ((nn) - (s))) (b) → Q (.tuple []) ⟨(St.new Go.Ev.start 0 (.row (n) (fun i => T30.enc (g16 i)) 6 false)).heap, 1⟩)) (Q (.tuple []) ⟨(St.new Go.Ev.start 0 (.row (n) (fun i => T30.enc (g i)) 6 false)).heap, 1⟩))) (Q (.tuple []) ⟨(St.new Go.Ev.start 0 (.row (n) (fun i => T30.enc (g i)) 6 false)).heap, 1⟩))))))))) := by kernel_rfl
def kn22 [Env] (g : FuncId) (vs : List V) (σ : St) (k : VPost) : Prop := knR 1000 g vs σ k
def live204 : Nat → List Nat := (fun i => match i with | 0 => [0, 1, 2, 3, 8] | 1 => [0, 1, 2, 3, 8, 9] | _ => [])
theorem e204 [Env] (A : Nat → List SV → Prop) (Q : V → St → Prop) (n : Nat) (g : Nat → T30) (a b : Int) : ws Tryz.prog (KF Tryz.prog kn22 1 Tryz.f204.ntmps (live204) A) 204 none 0 (Tryz.f204.body.getD .skip) (retS Tryz.prog Tryz.f204 (Q)) (actOf Tryz.f204.ntmps [.own 0 (n) 6, .int .i64 (a), .int .i64 (b), .func (.func 62) [] []]) (mkS [rowT (n) (g)]) =
    ((((n) = (n) ∧ 6 = 6) ∧ A 0 [.row (n) (fun i => T30.enc (g i)) 6, .val (.int .i64 (a)), .val (.int .i64 (b)), .val (.func (.func 62) [] []), .val (.int .i64 (IntKind.i64.wrap ((a) + (1 : Int))))])) := by kernel_rfl
theorem r204a [Env] (A : Nat → List SV → Prop) (Q : V → St → Prop) (n : Nat) (g : Nat → T30) (a b i : Int) : ws Tryz.prog (KF Tryz.prog kn22 1 Tryz.f204.ntmps (live204) A) 204 none (Nat.add 0 1) (lp (Tryz.f204.body.getD .skip) 0) (seqQ (fun a σ => canonP 1 Tryz.f204.ntmps (live204 0) a σ (A 0)) (behind Tryz.prog (KF Tryz.prog kn22 1 Tryz.f204.ntmps (live204) A) 204 (Tryz.f204.body.getD .skip) 0 0 (retS Tryz.prog Tryz.f204 (Q)))) (mkA Tryz.f204.ntmps (live204 0) [rowT (n) (g), .val (.int .i64 (a)), .val (.int .i64 (b)), .val (.func (.func 62) [] []), .val (.int .i64 (i))]) (mkS [rowT (n) (g), .val (.int .i64 (a)), .val (.int .i64 (b)), .val (.func (.func 62) [] []), .val (.int .i64 (i))]) =
    (((.i64 : IntKind) = .i64 ∧ CondP (decide ((i) < (b))) ((((n) = (n) ∧ 6 = 6) ∧ A 1 [.row (n) (fun i => T30.enc (g i)) 6, .val (.int .i64 (a)), .val (.int .i64 (b)), .val (.func (.func 62) [] []), .val (.int .i64 (i)), .val (.int .i64 (i))])) (Q (.tuple []) ⟨(St.new Go.Ev.start 0 (.row (n) (fun i => T30.enc (g i)) 6 false)).heap, 1⟩))) := by kernel_rfl
theorem r204b [Env] (A : Nat → List SV → Prop) (Q : V → St → Prop) (n : Nat) (g : Nat → T30) (a b i j : Int) : ws Tryz.prog (KF Tryz.prog kn22 1 Tryz.f204.ntmps (live204) A) 204 none (Nat.add 1 1) (lp (Tryz.f204.body.getD .skip) 1) (seqQ (fun a σ => canonP 1 Tryz.f204.ntmps (live204 1) a σ (A 1)) (behind Tryz.prog (KF Tryz.prog kn22 1 Tryz.f204.ntmps (live204) A) 204 (Tryz.f204.body.getD .skip) 0 1 (retS Tryz.prog Tryz.f204 (Q)))) (mkA Tryz.f204.ntmps (live204 1) [rowT (n) (g), .val (.int .i64 (a)), .val (.int .i64 (b)), .val (.func (.func 62) [] []), .val (.int .i64 (i)), .val (.int .i64 (j))]) (mkS [rowT (n) (g), .val (.int .i64 (a)), .val (.int .i64 (b)), .val (.func (.func 62) [] []), .val (.int .i64 (i)), .val (.int .i64 (j))]) =
    (((.i64 : IntKind) = .i64 ∧ CondP (decide ((j) > (a))) (((0 ≤ (j) ∧ (j) < ((n : Nat) : Int)) ∧ ((j).toNat < n ∧ ((0 ≤ (IntKind.i64.wrap ((j) - (1 : Int))) ∧ (IntKind.i64.wrap ((j) - (1 : Int))) < ((n : Nat) : Int)) ∧ ((IntKind.i64.wrap ((j) - (1 : Int))).toNat < n ∧ ((∃ q₁ q₂ : T30, [T30.enc (g (j).toNat), T30.enc (g (IntKind.i64.wrap ((j) - (1 : Int))).toNat)] = [T30.enc q₁, T30.enc q₂]) ∧ ((.i64 : IntKind) = .i64 ∧ CondP (decide ((cmpI (key ((g (j).toNat).f3)) (key ((g (IntKind.i64.wrap ((j) - (1 : Int))).toNat).f3))) < (0 : Int))) (((0 ≤ (IntKind.i64.wrap ((j) - (1 : Int))) ∧ (IntKind.i64.wrap ((j) - (1 : Int))) < ((n : Nat) : Int)) ∧ ((IntKind.i64.wrap ((j) - (1 : Int))).toNat < n ∧ ((0 ≤ (j) ∧ (j) < ((n : Nat) : Int)) ∧ ((j).toNat < n ∧ ((0 ≤ (j) ∧ (j) < ((n : Nat) : Int)) ∧ ((j).toNat < n ∧ ((0 ≤ (IntKind.i64.wrap ((j) - (1 : Int))) ∧ (IntKind.i64.wrap ((j) - (1 : Int))) < ((n : Nat) : Int)) ∧ ((IntKind.i64.wrap ((j) - (1 : Int))).toNat < n ∧ (((n) = (n) ∧ 6 = 6) ∧ A 1 [.row (n) (updF (updF (fun i => T30.enc (g i)) (j).toNat (T30.enc (g (IntKind.i64.wrap ((j) - (1 : Int))).toNat))) (IntKind.i64.wrap ((j) - (1 : Int))).toNat (T30.enc (g (j).toNat))) 6, .val (.int .i64 (a)), .val (.int .i64 (b)), .val (.func (.func 62) [] []), .val (.int .i64 (i)), .val (.int .i64 (IntKind.i64.wrap ((j) - (1 : Int))))])))))))))) ((((n) = (n) ∧ 6 = 6) ∧ A 0 [.row (n) (fun i => T30.enc (g i)) 6, .val (.int .i64 (a)), .val (.int .i64 (b)), .val (.func (.func 62) [] []), .val (.int .i64 (IntKind.i64.wrap ((i) + (1 : Int))))]))))))))) ((((n) = (n) ∧ 6 = 6) ∧ A 0 [.row (n) (fun i => T30.enc (g i)) 6, .val (.int .i64 (a)), .val (.int .i64 (b)), .val (.func (.func 62) [] []), .val (.int .i64 (IntKind.i64.wrap ((i) + (1 : Int))))])))) := by kernel_rfl
def W204 (vs : List V) (σ : St) (k : VPost) : Prop :=
  match vs with
  | [.own b m 6, .int .i64 x0, .int .i64 x1, .func (.func 62) [] []] => match σ.heap.get b with
    | some (.row n f 6 _) => (m = n ∧ σ = mkS [.row n f 6]) ∧ ∃ q : Nat → T30, f = (fun i => T30.enc (q i)) ∧ Pre204 n q x0 x1 ∧ ∀ g : Nat → T30, Rel204 n q g x0 x1 → k (.tuple []) (mkS [rowT n g])
    | _ => False
  | _ => False
def kn23 [Env] (g : FuncId) (vs : List V) (σ : St) (k : VPost) : Prop :=
  match Nat.beq g 204 with
  | true => W204 vs σ k
  | false => kn22 g vs σ k
def live157 : Nat → List Nat := (fun i => match i with | 0 => [0, 1, 2, 6, 7, 8] | 1 => [0, 1, 2, 6] | 2 => [0, 1, 2, 6, 7, 8] | _ => [])
theorem e157 [Env] (A : Nat → List SV → Prop) (Q : V → St → Prop) (n : Nat) (g : Nat → T30) (m : Int) : ws Tryz.prog (KF Tryz.prog kn23 1 Tryz.f157.ntmps (live157) A) 157 none 0 (Tryz.f157.body.getD .skip) (retS Tryz.prog Tryz.f157 (Q)) (actOf Tryz.f157.ntmps [.own 0 (n) 6, .int .i64 (m), .func (.func 62) [] []]) (mkS [rowT (n) (g)]) =
    ((((n) = (n) ∧ 6 = 6) ∧ A 0 [.row (n) (fun i => T30.enc (g i)) 6, .val (.int .i64 (m)), .val (.func (.func 62) [] []), .val (.int .i64 (20 : Int)), .val (.int .i64 (0 : Int)), .val (.int .i64 (20 : Int))])) := by kernel_rfl
theorem r157a [Env] (A : Nat → List SV → Prop) (Q : V → St → Prop) (n : Nat) (g : Nat → T30) (m s a b : Int) : ws Tryz.prog (KF Tryz.prog kn23 1 Tryz.f157.ntmps (live157) A) 157 none (Nat.add 0 1) (lp (Tryz.f157.body.getD .skip) 0) (seqQ (fun a σ => canonP 1 Tryz.f157.ntmps (live157 0) a σ (A 0)) (behind Tryz.prog (KF Tryz.prog kn23 1 Tryz.f157.ntmps (live157) A) 157 (Tryz.f157.body.getD .skip) 0 0 (retS Tryz.prog Tryz.f157 (Q)))) (mkA Tryz.f157.ntmps (live157 0) [rowT (n) (g), .val (.int .i64 (m)), .val (.func (.func 62) [] []), .val (.int .i64 (s)), .val (.int .i64 (a)), .val (.int .i64 (b))]) (mkS [rowT (n) (g), .val (.int .i64 (m)), .val (.func (.func 62) [] []), .val (.int .i64 (s)), .val (.int .i64 (a)), .val (.int .i64 (b))]) =
    (((.i64 : IntKind) = .i64 ∧ CondP (decide ((b) ≤ (m))) ((((n) = (n) ∧ ⟨(St.new Go.Ev.start 0 (.row (n) (fun i => T30.enc (g i)) 6 false)).heap, 1⟩ = mkS [.row (n) (fun i => T30.enc (g i)) 6]) ∧ ∃ q : Nat → T30, (fun i => T30.enc (g i)) = (fun i => T30.enc (q (i))) ∧ Pre204 (n) q (a) (b) ∧ ∀ g17 : Nat → T30, Rel204 (n) q g17 (a) (b) → (((n) = (n) ∧ 6 = 6) ∧ A 0 [.row (n) (fun i => T30.enc (g17 i)) 6, .val (.int .i64 (m)), .val (.func (.func 62) [] []), .val (.int .i64 (s)), .val (.int .i64 (b)), .val (.int .i64 (IntKind.i64.wrap ((b) + (s))))]))) ((((n) = (n) ∧ ⟨(St.new Go.Ev.start 0 (.row (n) (fun i => T30.enc (g i)) 6 false)).heap, 1⟩ = mkS [.row (n) (fun i => T30.enc (g i)) 6]) ∧ ∃ q : Nat → T30, (fun i => T30.enc (g i)) = (fun i => T30.enc (q (i))) ∧ Pre204 (n) q (a) (m) ∧ ∀ g18 : Nat → T30, Rel204 (n) q g18 (a) (m) → (((n) = (n) ∧ 6 = 6) ∧ A 1 [.row (n) (fun i => T30.enc (g18 i)) 6, .val (.int .i64 (m)), .val (.func (.func 62) [] []), .val (.int .i64 (s))]))))) := by kernel_rfl
theorem r157b [Env] (A : Nat → List SV → Prop) (Q : V → St → Prop) (n : Nat) (g : Nat → T30) (m s : Int) : ws Tryz.prog (KF Tryz.prog kn23 1 Tryz.f157.ntmps (live157) A) 157 none (Nat.add 1 1) (lp (Tryz.f157.body.getD .skip) 1) (seqQ (fun a σ => canonP 1 Tryz.f157.ntmps (live157 1) a σ (A 1)) (behind Tryz.prog (KF Tryz.prog kn23 1 Tryz.f157.ntmps (live157) A) 157 (Tryz.f157.body.getD .skip) 0 1 (retS Tryz.prog Tryz.f157 (Q)))) (mkA Tryz.f157.ntmps (live157 1) [rowT (n) (g), .val (.int .i64 (m)), .val (.func (.func 62) [] []), .val (.int .i64 (s))]) (mkS [rowT (n) (g), .val (.int .i64 (m)), .val (.func (.func 62) [] []), .val (.int .i64 (s))]) =
    (((.i64 : IntKind) = .i64 ∧ CondP (decide ((s) < (m))) ((((n) = (n) ∧ 6 = 6) ∧ A 2 [.row (n) (fun i => T30.enc (g i)) 6, .val (.int .i64 (m)), .val (.func (.func 62) [] []), .val (.int .i64 (s)), .val (.int .i64 (0 : Int)), .val (.int .i64 (IntKind.i64.wrap ((2 : Int) * (s))))])) (Q (.tuple []) ⟨(St.new Go.Ev.start 0 (.row (n) (fun i => T30.enc (g i)) 6 false)).heap, 1⟩))) := by kernel_rfl
theorem r157c [Env] (A : Nat → List SV → Prop) (Q : V → St → Prop) (n : Nat) (g : Nat → T30) (m s a b : Int) : ws Tryz.prog (KF Tryz.prog kn23 1 Tryz.f157.ntmps (live157) A) 157 none (Nat.add 2 1) (lp (Tryz.f157.body.getD .skip) 2) (seqQ (fun a σ => canonP 1 Tryz.f157.ntmps (live157 2) a σ (A 2)) (behind Tryz.prog (KF Tryz.prog kn23 1 Tryz.f157.ntmps (live157) A) 157 (Tryz.f157.body.getD .skip) 0 2 (retS Tryz.prog Tryz.f157 (Q)))) (mkA Tryz.f157.ntmps (live157 2) [rowT (n) (g), .val (.int .i64 (m)), .val (.func (.func 62) [] []), .val (.int .i64 (s)), .val (.int .i64 (a)), .val (.int .i64 (b))]) (mkS [rowT (n) (g), .val (.int .i64 (m)), .val (.func (.func 62) [] []), .val (.int .i64 (s)), .val (.int .i64 (a)), .val (.int .i64 (b))]) =
    (((.i64 : IntKind) = .i64 ∧ CondP (decide ((b) ≤ (m))) ((((n) = (n) ∧ ⟨(St.new Go.Ev.start 0 (.row (n) (fun i => T30.enc (g i)) 6 false)).heap, 1⟩ = mkS [.row (n) (fun i => T30.enc (g i)) 6]) ∧ ∃ q : Nat → T30, (fun i => T30.enc (g i)) = (fun i => T30.enc (q (i))) ∧ (b) - (a) < 1000 ∧ Pre205 (n) q (a) (IntKind.i64.wrap ((a) + (s))) (b) ∧ ∀ g19 : Nat → T30, Rel205 (n) q g19 (a) (IntKind.i64.wrap ((a) + (s))) (b) → (((n) = (n) ∧ 6 = 6) ∧ A 2 [.row (n) (fun i => T30.enc (g19 i)) 6, .val (.int .i64 (m)), .val (.func (.func 62) [] []), .val (.int .i64 (s)), .val (.int .i64 (b)), .val (.int .i64 (IntKind.i64.wrap ((b) + (IntKind.i64.wrap ((2 : Int) * (s))))))]))) (((.i64 : IntKind) = .i64 ∧ CondP (decide ((IntKind.i64.wrap ((a) + (s))) < (m))) ((((n) = (n) ∧ ⟨(St.new Go.Ev.start 0 (.row (n) (fun i => T30.enc (g i)) 6 false)).heap, 1⟩ = mkS [.row (n) (fun i => T30.enc (g i)) 6]) ∧ ∃ q : Nat → T30, (fun i => T30.enc (g i)) = (fun i => T30.enc (q (i))) ∧ (m) - (a) < 1000 ∧ Pre205 (n) q (a) (IntKind.i64.wrap ((a) + (s))) (m) ∧ ∀ g20 : Nat → T30, Rel205 (n) q g20 (a) (IntKind.i64.wrap ((a) + (s))) (m) → (((n) = (n) ∧ 6 = 6) ∧ A 1 [.row (n) (fun i => T30.enc (g20 i)) 6, .val (.int .i64 (m)), .val (.func (.func 62) [] []), .val (.int .i64 (IntKind.i64.wrap ((s) * (2 : Int))))]))) ((((n) = (n) ∧ 6 = 6) ∧ A 1 [.row (n) (fun i => T30.enc (g i)) 6, .val (.int .i64 (m)), .val (.func (.func 62) [] []), .val (.int .i64 (IntKind.i64.wrap ((s) * (2 : Int))))])))))) := by kernel_rfl
def W157 (vs : List V) (σ : St) (k : VPost) : Prop :=
  match vs with
  | [.own b m 6, .int .i64 x0, .func (.func 62) [] []] => match σ.heap.get b with
    | some (.row n f 6 _) => (m = n ∧ σ = mkS [.row n f 6]) ∧ ∃ q : Nat → T30, f = (fun i => T30.enc (q i)) ∧ Pre157 n q x0 ∧ ∀ g : Nat → T30, Rel157 n q g x0 → k (.tuple []) (mkS [rowT n g])
    | _ => False
  | _ => False
def kn24 [Env] (g : FuncId) (vs : List V) (σ : St) (k : VPost) : Prop :=
  match Nat.beq g 157 with
  | true => W157 vs σ k
  | false => kn23 g vs σ k
def live117 : Nat → List Nat := (fun _ => [])
theorem e117 [Env] (A : Nat → List SV → Prop) (Q : V → St → Prop) (n : Nat) (g : Nat → T30) : ws Tryz.prog (KF Tryz.prog kn24 1 Tryz.f117.ntmps (live117) A) 117 none 0 (Tryz.f117.body.getD .skip) (retS Tryz.prog Tryz.f117 (Q)) (actOf Tryz.f117.ntmps [.own 0 (n) 6, .func (.func 62) [] []]) (mkS [rowT (n) (g)]) =
    ((((n) = (n) ∧ ⟨(St.new Go.Ev.start 0 (.row (n) (fun i => T30.enc (g i)) 6 false)).heap, 1⟩ = mkS [.row (n) (fun i => T30.enc (g i)) 6]) ∧ ∃ q : Nat → T30, (fun i => T30.enc (g i)) = (fun i => T30.enc (q (i))) ∧ Pre157 (n) q (((n : Nat) : Int)) ∧ ∀ g21 : Nat → T30, Rel157 (n) q g21 (((n : Nat) : Int)) → Q (.tuple []) ⟨(St.new Go.Ev.start 0 (.row (n) (fun i => T30.enc (g21 i)) 6 false)).heap, 1⟩)) := by kernel_rfl
def W117 (vs : List V) (σ : St) (k : VPost) : Prop :=
  match vs with
  | [.own b m 6, .func (.func 62) [] []] => match σ.heap.get b with
    | some (.row n f 6 _) => (m = n ∧ σ = mkS [.row n f 6]) ∧ ∃ q : Nat → T30, f = (fun i => T30.enc (q i)) ∧ Pre117 n q  ∧ ∀ g : Nat → T30, Rel117 n q g  → k (.tuple []) (mkS [rowT n g])
    | _ => False
  | _ => False
def kn25 [Env] (g : FuncId) (vs : List V) (σ : St) (k : VPost) : Prop :=
  match Nat.beq g 117 with
  | true => W117 vs σ k
  | false => kn24 g vs σ k
def live116 : Nat → List Nat := (fun _ => [])
theorem e116 [Env] (A : Nat → List SV → Prop) (Q : V → St → Prop) (n : Nat) (g : Nat → T30) : ws Tryz.prog (KF Tryz.prog kn25 0 Tryz.f116.ntmps (live116) A) 116 none 0 (Tryz.f116.body.getD .skip) (retS Tryz.prog Tryz.f116 (Q)) (actOf Tryz.f116.ntmps [V.arr (n) (fun i => T30.enc (g i)) 6 false true]) Go.Ev.start =
    (CondP (decide (n = 0)) (Q (.slice 0 0 0 0 true 6) ⟨(St.new Go.Ev.start 0 (.cells 0 [] (putAll [] .leaf 0) true false)).heap, 1⟩) (n * 80 ≤ 1099511627776 ∧ Q (.own 1 (n) 6) ⟨(St.new (St.new Go.Ev.start 0 (.cells 0 [] (putAll [] .leaf 0) true false)) 1 (.row (n) (fun i => T30.enc (g i)) 6 true)).heap, 2⟩)) := by kernel_rfl
def W116 (vs : List V) (σ : St) (k : VPost) : Prop :=
  match vs with
  | [.arr n f 6 false true] => (∃ q : Nat → T30, f = (fun i => T30.enc (q i))) ∧ (n ≠ 0 ∧ n ≤ 30 ∧ σ = Go.Ev.start) ∧ k (.own 0 n 6) (mkS [.row n f 6])
  | _ => False
def kn26 [Env] (g : FuncId) (vs : List V) (σ : St) (k : VPost) : Prop :=
  match Nat.beq g 116 with
  | true => W116 vs σ k
  | false => kn25 g vs σ k
def live61 : Nat → List Nat := (fun _ => [])
theorem e61 [Env] (A : Nat → List SV → Prop) (Q : V → St → Prop) (n : Nat) (g : Nat → T30) : ws Tryz.prog (KF Tryz.prog kn26 0 Tryz.f61.ntmps (live61) A) 61 none 0 (Tryz.f61.body.getD .skip) (retS Tryz.prog Tryz.f61 (Q)) (actOf Tryz.f61.ntmps [V.arr (n) (fun i => T30.enc (g i)) 6 false true, .func (.func 62) [] []]) Go.Ev.start =
    (((∃ q : Nat → T30, (fun i => T30.enc (g i)) = (fun i => T30.enc (q (i)))) ∧ (n ≠ 0 ∧ n ≤ 30 ∧ ⟨Go.Ev.start.heap, 0⟩ = Go.Ev.start) ∧ (((n) = (n) ∧ ⟨(St.new Go.Ev.start 0 (.row (n) (fun i => T30.enc (g i)) 6 false)).heap, 1⟩ = mkS [.row (n) (fun i => T30.enc (g i)) 6]) ∧ ∃ q : Nat → T30, (fun i => T30.enc (g i)) = (fun i => T30.enc (q (i))) ∧ Pre117 (n) q  ∧ ∀ g22 : Nat → T30, Rel117 (n) q g22  → Q (.own 0 (n) 6) ⟨(St.new Go.Ev.start 0 (.row (n) (fun i => T30.enc (g22 i)) 6 false)).heap, 1⟩))) := by kernel_rfl
def W61 (vs : List V) (σ : St) (k : VPost) : Prop :=
  match vs with
  | [.arr n f 6 false true, .func (.func 62) [] []] => ∃ q : Nat → T30, f = (fun i => T30.enc (q i)) ∧ (n ≠ 0 ∧ n ≤ 30) ∧ ∀ g : Nat → T30, Mix 0 n q g → Sorted k30 0 n g → k (.arr n (fun i => T30.enc (g i)) 6 false false) σ
  | _ => False
def kn27 [Env] (g : FuncId) (vs : List V) (σ : St) (k : VPost) : Prop :=
  match Nat.beq g 61 with
  | true => W61 vs σ k
  | false => kn26 g vs σ k
def live17 : Nat → List Nat := (fun _ => [])
theorem e17 [Env] (A : Nat → List SV → Prop) (Q : V → Prop) (n : Nat) (g : Nat → T30) : ws Tryz.prog (KF Tryz.prog kn27 0 Tryz.f17.ntmps (live17) A) 17 none 0 (Tryz.f17.body.getD .skip) (retS Tryz.prog Tryz.f17 (fun v _ => Q v)) (actOf Tryz.f17.ntmps [V.arr (n) (fun i => T30.enc (g i)) 6 false true]) Go.Ev.start =
    ((∃ q : Nat → T30, (fun i => T30.enc (g i)) = (fun i => T30.enc (q (i))) ∧ (n ≠ 0 ∧ n ≤ 30) ∧ ∀ o23 : Nat → T30, Mix 0 (n) q o23 → Sorted k30 0 (n) o23 → Q (V.arr (n) (fun i => T30.enc (o23 i)) 6 false false))) := by kernel_rfl
def W17 (vs : List V) (σ : St) (k : VPost) : Prop :=
  match vs with
  | [.arr n f 6 false false] => ∃ q : Nat → T30, f = (fun i => T30.enc (q i)) ∧ n ≤ 30 ∧ ∀ g : Nat → T30, Mix 0 n q g → Sorted k30 0 n g → k (.arr n (fun i => T30.enc (g i)) 6 false false) σ
  | _ => False
def kn28 [Env] (g : FuncId) (vs : List V) (σ : St) (k : VPost) : Prop :=
  match Nat.beq g 17 with
  | true => W17 vs σ k
  | false => kn27 g vs σ k
def live19 : Nat → List Nat := (fun i => match i with | 0 => [3, 8, 9] | _ => [])
theorem e19 [Env] (A : Nat → List SV → Prop) (Q : V → Prop) (n : Nat) (g : Nat → T30) : ws Tryz.prog (KF Tryz.prog kn28 0 Tryz.f19.ntmps (live19) A) 19 none 0 (Tryz.f19.body.getD .skip) (retS Tryz.prog Tryz.f19 (fun v _ => Q v)) (actOf Tryz.f19.ntmps [V.arr (n) (fun i => T30.enc (g i)) 6 false false]) Go.Ev.start =
    ((∃ q : Nat → T30, (fun i => T30.enc (g i)) = (fun i => T30.enc (q (i))) ∧ n ≤ 30 ∧ ∀ o24 : Nat → T30, Mix 0 (n) q o24 → Sorted k30 0 (n) o24 → A 0 [.val (V.arr (n) (fun i => T30.enc (o24 i)) 6 false false), .val (.int .i64 (((n : Nat) : Int))), .val (.int .i64 (0 : Int))])) := by kernel_rfl
theorem r19 [Env] (A : Nat → List SV → Prop) (Q : V → Prop) (n : Nat) (g : Nat → T30) (m i : Int) : ws Tryz.prog (KF Tryz.prog kn28 0 Tryz.f19.ntmps (live19) A) 19 none (Nat.add 0 1) (lp (Tryz.f19.body.getD .skip) 0) (seqQ (fun a σ => canonP 0 Tryz.f19.ntmps (live19 0) a σ (A 0)) (behind Tryz.prog (KF Tryz.prog kn28 0 Tryz.f19.ntmps (live19) A) 19 (Tryz.f19.body.getD .skip) 0 0 (retS Tryz.prog Tryz.f19 (fun v _ => Q v)))) (mkA Tryz.f19.ntmps (live19 0) [.val (V.arr (n) (fun i => T30.enc (g i)) 6 false false), .val (.int .i64 (m)), .val (.int .i64 (i))]) (mkS [.val (V.arr (n) (fun i => T30.enc (g i)) 6 false false), .val (.int .i64 (m)), .val (.int .i64 (i))]) =
    (((.i64 : IntKind) = .i64 ∧ CondP (decide ((i) < (m))) (((.i64 : IntKind) = .i64 ∧ CondP (decide ((i) > (0 : Int))) (((0 ≤ (IntKind.i64.wrap ((i) - (1 : Int))) ∧ (IntKind.i64.wrap ((i) - (1 : Int))) < ((n : Nat) : Int)) ∧ ((0 ≤ (i) ∧ (i) < ((n : Nat) : Int)) ∧ ((∃ q₁ q₂ : T30, [T30.enc (g (IntKind.i64.wrap ((i) - (1 : Int))).toNat), T30.enc (g (i).toNat)] = [T30.enc q₁, T30.enc q₂]) ∧ ((.i64 : IntKind) = .i64 ∧ CondP (decide ((cmpI (key ((g (IntKind.i64.wrap ((i) - (1 : Int))).toNat).f3)) (key ((g (i).toNat).f3))) = (0 : Int))) (Q (.bool false)) (A 0 [.val (V.arr (n) (fun i => T30.enc (g i)) 6 false false), .val (.int .i64 (m)), .val (.int .i64 (IntKind.i64.wrap ((i) + (1 : Int))))])))))) (A 0 [.val (V.arr (n) (fun i => T30.enc (g i)) 6 false false), .val (.int .i64 (m)), .val (.int .i64 (IntKind.i64.wrap ((i) + (1 : Int))))]))) (Q (.bool true)))) := by kernel_rfl
def W19 (vs : List V) (σ : St) (k : VPost) : Prop :=
  match vs with
  | [.arr n f 6 false false] => ∃ q : Nat → T30, f = (fun i => T30.enc (q i)) ∧ n ≤ 30 ∧ ((Uniq n q → k (.bool true) σ) ∧ k (.bool false) σ)
  | _ => False
def kn29 [Env] (g : FuncId) (vs : List V) (σ : St) (k : VPost) : Prop :=
  match Nat.beq g 19 with
  | true => W19 vs σ k
  | false => kn28 g vs σ k
def live20 : Nat → List Nat := (fun i => match i with | 0 => [0, 7, 8, 9] | 1 => [0, 7, 8, 9, 4, 13, 14, 15] | _ => [])
theorem e20 [Env] (A : Nat → List SV → Prop) (Q : V → Prop) (n : Nat) (g : Nat → T30) : ws Tryz.prog (KF Tryz.prog kn29 0 Tryz.f20.ntmps (live20) A) 20 none 0 (Tryz.f20.body.getD .skip) (retS Tryz.prog Tryz.f20 (fun v _ => Q v)) (actOf Tryz.f20.ntmps [V.arr (n) (fun i => T30.enc (g i)) 6 false false]) Go.Ev.start =
    (A 0 [.val (V.arr (n) (fun i => T30.enc (g i)) 6 false false), .val (V.arr (n) (fun i => T30.enc (g i)) 6 false false), .val (.int .i64 (((n : Nat) : Int))), .val (.int .i64 (0 : Int))]) := by kernel_rfl
theorem r20a [Env] (A : Nat → List SV → Prop) (Q : V → Prop) (n : Nat) (g : Nat → T30) (m i : Int) : ws Tryz.prog (KF Tryz.prog kn29 0 Tryz.f20.ntmps (live20) A) 20 none (Nat.add 0 1) (lp (Tryz.f20.body.getD .skip) 0) (seqQ (fun a σ => canonP 0 Tryz.f20.ntmps (live20 0) a σ (A 0)) (behind Tryz.prog (KF Tryz.prog kn29 0 Tryz.f20.ntmps (live20) A) 20 (Tryz.f20.body.getD .skip) 0 0 (retS Tryz.prog Tryz.f20 (fun v _ => Q v)))) (mkA Tryz.f20.ntmps (live20 0) [.val (V.arr (n) (fun i => T30.enc (g i)) 6 false false), .val (V.arr (n) (fun i => T30.enc (g i)) 6 false false), .val (.int .i64 (m)), .val (.int .i64 (i))]) (mkS [.val (V.arr (n) (fun i => T30.enc (g i)) 6 false false), .val (V.arr (n) (fun i => T30.enc (g i)) 6 false false), .val (.int .i64 (m)), .val (.int .i64 (i))]) =
    (((.i64 : IntKind) = .i64 ∧ CondP (decide ((i) < (m))) (((0 ≤ (i) ∧ (i) < ((n : Nat) : Int)) ∧ A 1 [.val (V.arr (n) (fun i => T30.enc (g i)) 6 false false), .val (V.arr (n) (fun i => T30.enc (g i)) 6 false false), .val (.int .i64 (m)), .val (.int .i64 (i)), .box [.int .i64 ((g (i).toNat).f0), .int .i64 ((g (i).toNat).f1), .int .i64 ((g (i).toNat).f2), .int .i64 ((g (i).toNat).f3), arrOf T71.enc 24 ((g (i).toNat).f4), arrOf T76.enc 2 ((g (i).toNat).f5)], .val (V.arr (n) (fun i => T30.enc (g i)) 6 false false), .val (.int .i64 (((n : Nat) : Int))), .val (.int .i64 (0 : Int))])) (Q (.bool true)))) := by kernel_rfl
theorem r20b [Env] (A : Nat → List SV → Prop) (Q : V → Prop) (n : Nat) (g : Nat → T30) (e : T30) (m i k j : Int) : ws Tryz.prog (KF Tryz.prog kn29 0 Tryz.f20.ntmps (live20) A) 20 none (Nat.add 1 1) (lp (Tryz.f20.body.getD .skip) 1) (seqQ (fun a σ => canonP 0 Tryz.f20.ntmps (live20 1) a σ (A 1)) (behind Tryz.prog (KF Tryz.prog kn29 0 Tryz.f20.ntmps (live20) A) 20 (Tryz.f20.body.getD .skip) 0 1 (retS Tryz.prog Tryz.f20 (fun v _ => Q v)))) (mkA Tryz.f20.ntmps (live20 1) [.val (V.arr (n) (fun i => T30.enc (g i)) 6 false false), .val (V.arr (n) (fun i => T30.enc (g i)) 6 false false), .val (.int .i64 (m)), .val (.int .i64 (i)), .box [.int .i64 (e.f0), .int .i64 (e.f1), .int .i64 (e.f2), .int .i64 (e.f3), arrOf T71.enc 24 (e.f4), arrOf T76.enc 2 (e.f5)], .val (V.arr (n) (fun i => T30.enc (g i)) 6 false false), .val (.int .i64 (k)), .val (.int .i64 (j))]) (mkS [.val (V.arr (n) (fun i => T30.enc (g i)) 6 false false), .val (V.arr (n) (fun i => T30.enc (g i)) 6 false false), .val (.int .i64 (m)), .val (.int .i64 (i)), .box [.int .i64 (e.f0), .int .i64 (e.f1), .int .i64 (e.f2), .int .i64 (e.f3), arrOf T71.enc 24 (e.f4), arrOf T76.enc 2 (e.f5)], .val (V.arr (n) (fun i => T30.enc (g i)) 6 false false), .val (.int .i64 (k)), .val (.int .i64 (j))]) =
    (((.i64 : IntKind) = .i64 ∧ CondP (decide ((j) < (k))) (((0 ≤ (j) ∧ (j) < ((n : Nat) : Int)) ∧ ((.i64 : IntKind) = .i64 ∧ CondP (decide ((e.f2) < ((g (j).toNat).f1))) (((∃ q₁ q₂ : T30, [.agg [.int .i64 (e.f0), .int .i64 (e.f1), .int .i64 (e.f2), .int .i64 (e.f3), arrOf T71.enc 24 (e.f4), arrOf T76.enc 2 (e.f5)], .agg [.int .i64 ((g (j).toNat).f0), .int .i64 ((g (j).toNat).f1), .int .i64 ((g (j).toNat).f2), .int .i64 ((g (j).toNat).f3), arrOf T71.enc 24 ((g (j).toNat).f4), arrOf T76.enc 2 ((g (j).toNat).f5)]] = [T30.enc q₁, T30.enc q₂]) ∧ ((.i64 : IntKind) = .i64 ∧ CondP (decide ((cmpI (key (e.f3)) (key ((g (j).toNat).f3))) ≥ (0 : Int))) (Q (.bool false)) (A 1 [.val (V.arr (n) (fun i => T30.enc (g i)) 6 false false), .val (V.arr (n) (fun i => T30.enc (g i)) 6 false false), .val (.int .i64 (m)), .val (.int .i64 (i)), .box [.int .i64 (e.f0), .int .i64 (e.f1), .int .i64 (e.f2), .int .i64 (e.f3), arrOf T71.enc 24 (e.f4), arrOf T76.enc 2 (e.f5)], .val (V.arr (n) (fun i => T30.enc (g i)) 6 false false), .val (.int .i64 (k)), .val (.int .i64 (IntKind.i64.wrap ((j) + (1 : Int))))])))) (A 1 [.val (V.arr (n) (fun i => T30.enc (g i)) 6 false false), .val (V.arr (n) (fun i => T30.enc (g i)) 6 false false), .val (.int .i64 (m)), .val (.int .i64 (i)), .box [.int .i64 (e.f0), .int .i64 (e.f1), .int .i64 (e.f2), .int .i64 (e.f3), arrOf T71.enc 24 (e.f4), arrOf T76.enc 2 (e.f5)], .val (V.arr (n) (fun i => T30.enc (g i)) 6 false false), .val (.int .i64 (k)), .val (.int .i64 (IntKind.i64.wrap ((j) + (1 : Int))))])))) (A 0 [.val (V.arr (n) (fun i => T30.enc (g i)) 6 false false), .val (V.arr (n) (fun i => T30.enc (g i)) 6 false false), .val (.int .i64 (m)), .val (.int .i64 (IntKind.i64.wrap ((i) + (1 : Int))))]))) := by kernel_rfl
def W20 (vs : List V) (σ : St) (k : VPost) : Prop :=
  match vs with
  | [.arr n f 6 false false] => ∃ q : Nat → T30, f = (fun i => T30.enc (q i)) ∧ n ≤ 30 ∧ (k (.bool true) σ ∧ (¬ RealP n q → k (.bool false) σ))
  | _ => False
def kn30 [Env] (g : FuncId) (vs : List V) (σ : St) (k : VPost) : Prop :=
  match Nat.beq g 20 with
  | true => W20 vs σ k
  | false => kn29 g vs σ k
def W16 (vs : List V) (σ : St) (k : VPost) : Prop :=
  match vs with
  | [] => k (.bool true) σ
  | _ => False
def kn31 [Env] (g : FuncId) (vs : List V) (σ : St) (k : VPost) : Prop :=
  match Nat.beq g 16 with
  | true => W16 vs σ k
  | false => kn30 g vs σ k
def live3 : Nat → List Nat := (fun i => match i with | 0 => [0, 3, 4, 5] | _ => [])
theorem e3 [Env] (A : Nat → List SV → Prop) (Q : V → Prop) (n : Nat) (g : Nat → T30) : ws Tryz.prog (KF Tryz.prog kn31 0 Tryz.f3.ntmps (live3) A) 3 none 0 (Tryz.f3.body.getD .skip) (retS Tryz.prog Tryz.f3 (fun v _ => Q v)) (actOf Tryz.f3.ntmps [V.arr (n) (fun i => T30.enc (g i)) 6 false false]) Go.Ev.start =
    (((∃ q : Nat → T30, (fun i => T30.enc (g i)) = (fun i => T30.enc (q (i)))) ∧ (n ≤ 30 → (∃ q : Nat → T30, (fun i => T30.enc (g i)) = (fun i => T30.enc (q (i))) ∧ n ≤ 30 ∧ ∀ o25 : Nat → T30, Mix 0 (n) q o25 → Sorted k30 0 (n) o25 → ((.i64 : IntKind) = .i64 ∧ CondP (decide ((((n : Nat) : Int)) ≠ (((n : Nat) : Int)))) (Q (.bool false)) (A 0 [.val (V.arr (n) (fun i => T30.enc (g i)) 6 false false), .val (V.arr (n) (fun i => T30.enc (o25 i)) 6 false false), .val (.bool true), .val (.int .i64 (1 : Int))])))) ∧ Q (.bool true))) := by kernel_rfl
theorem r3t [Env] (A : Nat → List SV → Prop) (Q : V → Prop) (n : Nat) (g : Nat → T30) (o : Nat → T30) (i : Int) : ws Tryz.prog (KF Tryz.prog kn31 0 Tryz.f3.ntmps (live3) A) 3 none (Nat.add 0 1) (lp (Tryz.f3.body.getD .skip) 0) (seqQ (fun a σ => canonP 0 Tryz.f3.ntmps (live3 0) a σ (A 0)) (behind Tryz.prog (KF Tryz.prog kn31 0 Tryz.f3.ntmps (live3) A) 3 (Tryz.f3.body.getD .skip) 0 0 (retS Tryz.prog Tryz.f3 (fun v _ => Q v)))) (mkA Tryz.f3.ntmps (live3 0) [.val (V.arr (n) (fun i => T30.enc (g i)) 6 false false), .val (V.arr (n) (fun i => T30.enc (o i)) 6 false false), .val (.bool true), .val (.int .i64 (i))]) (mkS [.val (V.arr (n) (fun i => T30.enc (g i)) 6 false false), .val (V.arr (n) (fun i => T30.enc (o i)) 6 false false), .val (.bool true), .val (.int .i64 (i))]) =
    (((.i64 : IntKind) = .i64 ∧ CondP (decide ((i) < (((n : Nat) : Int)))) (((0 ≤ (IntKind.i64.wrap ((i) - (1 : Int))) ∧ (IntKind.i64.wrap ((i) - (1 : Int))) < ((n : Nat) : Int)) ∧ ((0 ≤ (i) ∧ (i) < ((n : Nat) : Int)) ∧ ((.i64 : IntKind) = .i64 ∧ CondP (decide ((cmpI (key ((o (IntKind.i64.wrap ((i) - (1 : Int))).toNat).f3)) (key ((o (i).toNat).f3))) > (0 : Int))) (Q (.bool false)) (((0 ≤ (IntKind.i64.wrap ((i) - (1 : Int))) ∧ (IntKind.i64.wrap ((i) - (1 : Int))) < ((n : Nat) : Int)) ∧ ((0 ≤ (i) ∧ (i) < ((n : Nat) : Int)) ∧ ((.i64 : IntKind) = .i64 ∧ CondP (decide (((o (IntKind.i64.wrap ((i) - (1 : Int))).toNat).f2) < ((o (i).toNat).f1))) (((0 ≤ (IntKind.i64.wrap ((i) - (1 : Int))) ∧ (IntKind.i64.wrap ((i) - (1 : Int))) < ((n : Nat) : Int)) ∧ ((0 ≤ (IntKind.i64.wrap ((i) - (1 : Int))) ∧ (IntKind.i64.wrap ((i) - (1 : Int))) < ((n : Nat) : Int)) ∧ ((.i64 : IntKind) = .i64 ∧ CondP (decide (((o (IntKind.i64.wrap ((i) - (1 : Int))).toNat).f1) ≤ ((o (IntKind.i64.wrap ((i) - (1 : Int))).toNat).f2))) (A 0 [.val (V.arr (n) (fun i => T30.enc (g i)) 6 false false), .val (V.arr (n) (fun i => T30.enc (o i)) 6 false false), .val (.bool true), .val (.int .i64 (IntKind.i64.wrap ((i) + (1 : Int))))]) (A 0 [.val (V.arr (n) (fun i => T30.enc (g i)) 6 false false), .val (V.arr (n) (fun i => T30.enc (o i)) 6 false false), .val (.bool false), .val (.int .i64 (IntKind.i64.wrap ((i) + (1 : Int))))]))))) (A 0 [.val (V.arr (n) (fun i => T30.enc (g i)) 6 false false), .val (V.arr (n) (fun i => T30.enc (o i)) 6 false false), .val (.bool false), .val (.int .i64 (IntKind.i64.wrap ((i) + (1 : Int))))]))))))))) ((∃ q : Nat → T30, (fun i => T30.enc (g i)) = (fun i => T30.enc (q (i))) ∧ n ≤ 30 ∧ ((Uniq (n) q → ((.i64 : IntKind) = .i64 ∧ CondP (decide ((((n : Nat) : Int)) > (0 : Int))) (((0 ≤ (IntKind.i64.wrap ((((n : Nat) : Int)) - (1 : Int))) ∧ (IntKind.i64.wrap ((((n : Nat) : Int)) - (1 : Int))) < ((n : Nat) : Int)) ∧ ((0 ≤ (IntKind.i64.wrap ((((n : Nat) : Int)) - (1 : Int))) ∧ (IntKind.i64.wrap ((((n : Nat) : Int)) - (1 : Int))) < ((n : Nat) : Int)) ∧ ((.i64 : IntKind) = .i64 ∧ CondP (decide (((o (IntKind.i64.wrap ((((n : Nat) : Int)) - (1 : Int))).toNat).f1) > ((o (IntKind.i64.wrap ((((n : Nat) : Int)) - (1 : Int))).toNat).f2))) (Q (.bool true)) ((∃ q : Nat → T30, (fun i => T30.enc (g i)) = (fun i => T30.enc (q (i))) ∧ n ≤ 30 ∧ (Q (.bool true) ∧ (¬ RealP (n) q → Q (.bool false))))))))) ((∃ q : Nat → T30, (fun i => T30.enc (g i)) = (fun i => T30.enc (q (i))) ∧ n ≤ 30 ∧ (Q (.bool true) ∧ (¬ RealP (n) q → Q (.bool false))))))) ∧ Q (.bool true)))))) := by kernel_rfl
theorem r3f [Env] (A : Nat → List SV → Prop) (Q : V → Prop) (n : Nat) (g : Nat → T30) (o : Nat → T30) (i : Int) : ws Tryz.prog (KF Tryz.prog kn31 0 Tryz.f3.ntmps (live3) A) 3 none (Nat.add 0 1) (lp (Tryz.f3.body.getD .skip) 0) (seqQ (fun a σ => canonP 0 Tryz.f3.ntmps (live3 0) a σ (A 0)) (behind Tryz.prog (KF Tryz.prog kn31 0 Tryz.f3.ntmps (live3) A) 3 (Tryz.f3.body.getD .skip) 0 0 (retS Tryz.prog Tryz.f3 (fun v _ => Q v)))) (mkA Tryz.f3.ntmps (live3 0) [.val (V.arr (n) (fun i => T30.enc (g i)) 6 false false), .val (V.arr (n) (fun i => T30.enc (o i)) 6 false false), .val (.bool false), .val (.int .i64 (i))]) (mkS [.val (V.arr (n) (fun i => T30.enc (g i)) 6 false false), .val (V.arr (n) (fun i => T30.enc (o i)) 6 false false), .val (.bool false), .val (.int .i64 (i))]) =
    (((.i64 : IntKind) = .i64 ∧ CondP (decide ((i) < (((n : Nat) : Int)))) (((0 ≤ (IntKind.i64.wrap ((i) - (1 : Int))) ∧ (IntKind.i64.wrap ((i) - (1 : Int))) < ((n : Nat) : Int)) ∧ ((0 ≤ (i) ∧ (i) < ((n : Nat) : Int)) ∧ ((.i64 : IntKind) = .i64 ∧ CondP (decide ((cmpI (key ((o (IntKind.i64.wrap ((i) - (1 : Int))).toNat).f3)) (key ((o (i).toNat).f3))) > (0 : Int))) (Q (.bool false)) (A 0 [.val (V.arr (n) (fun i => T30.enc (g i)) 6 false false), .val (V.arr (n) (fun i => T30.enc (o i)) 6 false false), .val (.bool false), .val (.int .i64 (IntKind.i64.wrap ((i) + (1 : Int))))]))))) (Q (.bool true)))) := by kernel_rfl
end Go.Proofs.YtbajncpfmemdgaaGreatDoor
