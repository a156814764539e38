/- What the functions' segments come to, for whatever arguments: reckoned by the kernel. First part. -/
import Derived.Test.YtbajncpfmemdgaaGreatDoorEvBnA
import Derived.ProofKit
namespace Go.Proofs.YtbajncpfmemdgaaGreatDoor
open Go Go.Ev
/-- api.Value: Kind, N, Bits, S -/
structure T46 where
  f0 : Int
  f1 : Int
  f2 : Int
  f3 : (List UInt8)
  deriving Inhabited
def T46.cells (e : T46) : List V := [.int .i64 (e.f0), .int .i64 (e.f1), .int .u64 (e.f2), .str (e.f3)]
def T46.enc (e : T46) : V := .agg e.cells
theorem T46.clean [Env] (e : T46) : ∀ u ∈ e.cells, Go.Ev.Clean u := cl_cons (Go.Ev.Clean.int _ _) (cl_cons (Go.Ev.Clean.int _ _) (cl_cons (Go.Ev.Clean.int _ _) (cl_cons (Go.Ev.Clean.str _) (cl_nil))))
theorem T46.size (e : T46) : e.cells.length = 4 := rfl
/-- api.Col: Name, Kind, Null, Default -/
structure T48 where
  f0 : (List UInt8)
  f1 : Int
  f2 : Bool
  f3 : T46
  deriving Inhabited
def T48.cells (e : T48) : List V := [.str (e.f0), .int .i64 (e.f1), .bool e.f2, .int .i64 (e.f3.f0), .int .i64 (e.f3.f1), .int .u64 (e.f3.f2), .str (e.f3.f3)]
def T48.enc (e : T48) : V := .agg e.cells
theorem T48.clean [Env] (e : T48) : ∀ u ∈ e.cells, Go.Ev.Clean u := cl_cons (Go.Ev.Clean.str _) (cl_cons (Go.Ev.Clean.int _ _) (cl_cons (Go.Ev.Clean.bool _) (cl_cons (Go.Ev.Clean.int _ _) (cl_cons (Go.Ev.Clean.int _ _) (cl_cons (Go.Ev.Clean.int _ _) (cl_cons (Go.Ev.Clean.str _) (cl_nil)))))))
theorem T48.size (e : T48) : e.cells.length = 7 := rfl
/-- api.Table: Name, Keys, Cols -/
structure T51 where
  f0 : (List UInt8)
  f1 : Int
  f2 : (List T48)
  deriving Inhabited
def T51.cells (e : T51) : List V := [.str (e.f0), .int .i64 (e.f1), arrOf T48.enc 7 (e.f2)]
def T51.enc (e : T51) : V := .agg e.cells
theorem T51.clean [Env] (e : T51) : ∀ u ∈ e.cells, Go.Ev.Clean u := cl_cons (Go.Ev.Clean.str _) (cl_cons (Go.Ev.Clean.int _ _) (cl_cons (arrOf_clean (enc := T48.enc) fun x _ => T48.clean x) (cl_nil)))
theorem T51.size (e : T51) : e.cells.length = 3 := rfl
/-- What a character's first byte tells: how many bytes; from where to where the second one may be. -/
def utw (c : Int) : Int := if c < 128 then 1 else if c < 194 ∨ c > 244 then 0 else if c < 224 then 2 else if c < 240 then 3 else 4
def utlo (c : Int) : Int := if c < 194 ∨ c > 244 then 0 else if c = 224 then 160 else if c = 240 then 144 else 128
def uthi (c : Int) : Int := if c < 194 ∨ c > 244 then 0 else if c = 237 then 159 else if c = 244 then 143 else 191
/-- k further bytes from i on, the first of them from lo to hi. -/
noncomputable def contB (s : List UInt8) : Int → Int → Nat → Nat → Bool
  | _, _, 0, _ => true
  | lo, hi, k + 1, i => decide (i < s.length ∧ lo ≤ byteN s i ∧ byteN s i ≤ hi) && contB s 128 191 k (i + 1)
/-- How many bytes the first character has; 0: there is none. -/
noncomputable def nextI (s : List UInt8) : Int := if s.length = 0 then 0 else if contB s (utlo (byteN s 0)) (uthi (byteN s 0)) ((utw (byteN s 0)).toNat - 1) 1 then utw (byteN s 0) else 0
/-- Are there characters alone? -/
noncomputable def utfB : Nat → List UInt8 → Bool
  | 0, s => decide (s.length = 0)
  | n + 1, s => if s.length = 0 then true else if nextI s = 0 then false else utfB n (s.drop (nextI s).toNat)
def ledw (c : Int) : Int := if c < 128 then 1 else if 192 ≤ c ∧ c < 224 then 2 else if 224 ≤ c ∧ c < 240 then 3 else if 240 ≤ c ∧ c < 248 then 4 else 0
def ledb (c : Int) : Int := if c < 128 then c else if 192 ≤ c ∧ c < 224 then c - 192 else if 224 ≤ c ∧ c < 240 then c - 224 else if 240 ≤ c ∧ c < 248 then c - 240 else 0
def amongB (x y w : Int) : Bool :=
  decide (¬ ((if (if w = 2 then 128 else if w = 3 then 2048 else if w = 4 then 65536 else 0) > x then (if w = 2 then 128 else if w = 3 then 2048 else if w = 4 then 65536 else 0) else x) >
      (if (if w = 2 then 2047 else if w = 3 then 65535 else if w = 4 then 1114111 else 127) < y then (if w = 2 then 2047 else if w = 3 then 65535 else if w = 4 then 1114111 else 127) else y)) ∧
    ((if (if w = 2 then 128 else if w = 3 then 2048 else if w = 4 then 65536 else 0) > x then (if w = 2 then 128 else if w = 3 then 2048 else if w = 4 then 65536 else 0) else x) < (55296 : Int) ∨
      (if (if w = 2 then 2047 else if w = 3 then 65535 else if w = 4 then 1114111 else 127) < y then (if w = 2 then 2047 else if w = 3 then 65535 else if w = 4 then 1114111 else 127) else y) > (57343 : Int)))
/-- A float's bits: no number? -/
def expoI (x : Int) : Int := x / 4503599627370496 % 2048
def fracI (x : Int) : Int := x % 4503599627370496
def nanP (x : Int) : Prop := expoI x = 2047 ∧ fracI x ≠ 0
instance (x : Int) : Decidable (nanP x) := inferInstanceAs (Decidable (_ ∧ _))
def canonI (x : Int) : Int := if nanP x then 9221120237041090560 else x
/-- A value's fields that its kind has. -/
def onlyV (v : T46) : T46 :=
  if v.f0 = 1 ∨ v.f0 = 2 then ⟨v.f0, v.f1, 0, []⟩ else if v.f0 = 3 then ⟨v.f0, 0, v.f2, []⟩ else if v.f0 = 4 ∨ v.f0 = 5 then ⟨v.f0, 0, 0, v.f3⟩ else ⟨v.f0, 0, 0, []⟩
/-- Has a value no fields but its kind's? -/
def onlyOk (v : T46) : Prop := (v.f1 = 0 ∨ v.f0 = 1 ∨ v.f0 = 2) ∧ (v.f2 = 0 ∨ v.f0 = 3) ∧ (v.f3 = [] ∨ v.f0 = 4 ∨ v.f0 = 5)
instance (v : T46) : Decidable (onlyOk v) := inferInstanceAs (Decidable (_ ∧ _))
/-- Why a value may not be. -/
noncomputable def valErr (v : T46) : Int :=
  if v.f0 < 0 ∨ v.f0 ≥ 6 then 5 else if ¬ onlyOk v then 4 else if v.f0 = 1 ∧ v.f1 ≠ 0 ∧ v.f1 ≠ 1 then 6
  else if canonI v.f2 ≠ v.f2 then 4 else if v.f3.length > 64 then 2 else if v.f0 = 5 ∧ utfB v.f3.length v.f3 = false then 7 else 0
def letB (c : Int) : Bool := decide (97 ≤ c ∧ c ≤ 122)
def digB (c : Int) : Bool := decide (48 ≤ c ∧ c ≤ 57 ∨ c = 95)
noncomputable def nameB (s : List UInt8) : Nat → Bool
  | 0 => true
  | n + 1 => nameB s n && (letB (byteN s n) || (decide (n ≠ 0) && digB (byteN s n)))
/-- Why a name is none. -/
noncomputable def nameErr (s : List UInt8) : Int := if s.length = 0 ∨ s.length > 16 then 8 else if nameB s s.length = true then 0 else 8
def cntN (s : List UInt8) (q : Nat → List UInt8) : Nat → Int
  | 0 => 0
  | n + 1 => cntN s q n + if q n = s then 1 else 0
def findN (s : List UInt8) (q : Nat → List UInt8) : Nat → Int
  | 0 => -1
  | n + 1 => if findN s q n ≠ -1 then findN s q n else if q n = s then n else -1
def uniqB (q : Nat → List UInt8) : Nat → Bool
  | 0 => true
  | n + 1 => uniqB q n && decide (findN (q n) q n = -1)
def anyNull (q : Nat → T48) : Nat → Bool
  | 0 => false
  | n + 1 => anyNull q n || (q n).f2
/-- Why a column, a table may not be. -/
noncomputable def colErr (c : T48) : Int :=
  if nameErr c.f0 ≠ 0 then nameErr c.f0 else if c.f1 < 1 ∨ c.f1 > 5 then 5 else if valErr c.f3 ≠ 0 then valErr c.f3 else if c.f3.f0 ≠ 0 ∧ c.f3.f0 ≠ c.f1 then 11 else 0
/-- The first error of some. -/
def firstE (f : Nat → Int) : Nat → Int
  | 0 => 0
  | n + 1 => if firstE f n ≠ 0 then firstE f n else f n
noncomputable def tabErr (t : T51) : Int :=
  if nameErr t.f0 ≠ 0 then nameErr t.f0 else if t.f2.length < 1 ∨ t.f2.length > 8 then 2 else if t.f1 < 1 ∨ t.f1 > 3 ∨ t.f1 > t.f2.length then 1
  else if firstE (fun i => colErr (t.f2.getD i default)) t.f2.length ≠ 0 then firstE (fun i => colErr (t.f2.getD i default)) t.f2.length
  else if uniqB (fun i => (t.f2.getD i default).f0) t.f2.length = false then 12 else if anyNull (fun i => t.f2.getD i default) t.f1.toNat = true then 11 else 0
noncomputable def fit1 (c : T48) (v : T46) : Int := if valErr v ≠ 0 then valErr v else if v.f0 ≠ c.f1 ∧ (v.f0 ≠ 0 ∨ c.f2 = false) then 11 else 0
noncomputable def fitsErr (l : List T48) (q : Nat → T46) (n : Nat) : Int := firstE (fun i => fit1 (l.getD i default) (q i)) n
noncomputable def keyErr (t : T51) (q : Nat → T46) (n : Nat) : Int := if tabErr t ≠ 0 then tabErr t else if (n : Int) > t.f1 then 11 else fitsErr t.f2 q n
/-- Numbers that are bits of 64. -/
def ok46 (v : T46) : Prop := 0 ≤ v.f2 ∧ v.f2 < 18446744073709551616
def ok48 (c : T48) : Prop := ok46 c.f3
def ok51 (t : T51) : Prop := ∀ c ∈ t.f2, ok48 c

def kn0 [Env] (g : FuncId) (vs : List V) (σ : St) (k : VPost) : Prop := False
def live273 : Nat → List Nat := (fun _ => [])
theorem e273 [Env] (A : Nat → List SV → Prop) (Q : V → Prop) (c : Int) : ws Tryz.prog (KF Tryz.prog kn0 0 Tryz.f273.ntmps (live273) A) 273 none 0 (Tryz.f273.body.getD .skip) (retS Tryz.prog Tryz.f273 (fun v _ => Q v)) (actOf Tryz.f273.ntmps [.int .u8 (c)]) Go.Ev.start =
    (((.u8 : IntKind) = .u8 ∧ CondP (decide ((c) < (128 : Int))) (Q (.tuple [.int .i64 (1 : Int), .int .i64 (IntKind.i64.wrap (c)), .int .u8 (0 : Int), .int .u8 (0 : Int)])) (((.u8 : IntKind) = .u8 ∧ CondP (decide ((c) < (194 : Int))) (Q (.tuple [.int .i64 (0 : Int), .int .i64 (0 : Int), .int .u8 (0 : Int), .int .u8 (0 : Int)])) (((.u8 : IntKind) = .u8 ∧ CondP (decide ((c) > (244 : Int))) (Q (.tuple [.int .i64 (0 : Int), .int .i64 (0 : Int), .int .u8 (0 : Int), .int .u8 (0 : Int)])) (((.u8 : IntKind) = .u8 ∧ CondP (decide ((c) < (224 : Int))) (Q (.tuple [.int .i64 (2 : Int), .int .i64 (IntKind.i64.wrap (IntKind.u8.wrap (BitVec.ofInt IntKind.u8.bits (c) &&& BitVec.ofInt IntKind.u8.bits (31 : Int)).toNat)), .int .u8 (128 : Int), .int .u8 (191 : Int)])) (((.u8 : IntKind) = .u8 ∧ CondP (decide ((c) = (224 : Int))) (Q (.tuple [.int .i64 (3 : Int), .int .i64 (0 : Int), .int .u8 (160 : Int), .int .u8 (191 : Int)])) (((.u8 : IntKind) = .u8 ∧ CondP (decide ((c) = (237 : Int))) (Q (.tuple [.int .i64 (3 : Int), .int .i64 (IntKind.i64.wrap (IntKind.u8.wrap (BitVec.ofInt IntKind.u8.bits (c) &&& BitVec.ofInt IntKind.u8.bits (15 : Int)).toNat)), .int .u8 (128 : Int), .int .u8 (159 : Int)])) (((.u8 : IntKind) = .u8 ∧ CondP (decide ((c) < (240 : Int))) (Q (.tuple [.int .i64 (3 : Int), .int .i64 (IntKind.i64.wrap (IntKind.u8.wrap (BitVec.ofInt IntKind.u8.bits (c) &&& BitVec.ofInt IntKind.u8.bits (15 : Int)).toNat)), .int .u8 (128 : Int), .int .u8 (191 : Int)])) (((.u8 : IntKind) = .u8 ∧ CondP (decide ((c) = (240 : Int))) (Q (.tuple [.int .i64 (4 : Int), .int .i64 (0 : Int), .int .u8 (144 : Int), .int .u8 (191 : Int)])) (((.u8 : IntKind) = .u8 ∧ CondP (decide ((c) = (244 : Int))) (Q (.tuple [.int .i64 (4 : Int), .int .i64 (4 : Int), .int .u8 (128 : Int), .int .u8 (143 : Int)])) (Q (.tuple [.int .i64 (4 : Int), .int .i64 (IntKind.i64.wrap (IntKind.u8.wrap (BitVec.ofInt IntKind.u8.bits (c) &&& BitVec.ofInt IntKind.u8.bits (7 : Int)).toNat)), .int .u8 (128 : Int), .int .u8 (191 : Int)])))))))))))))))))))) := by kernel_rfl
def W273 [Env] (vs : List V) (σ : St) (k : VPost) : Prop :=
  match vs with
  | [.int .u8 c] => (0 ≤ c ∧ c < 256) ∧ ∀ r : Int, k (.tuple [.int .i64 (utw c), .int .i64 r, .int .u8 (utlo c), .int .u8 (uthi c)]) σ
  | _ => False
def kn1 [Env] (g : FuncId) (vs : List V) (σ : St) (k : VPost) : Prop :=
  match Nat.beq g 273 with
  | true => W273 vs σ k
  | false => kn0 g vs σ k
def live260 : Nat → List Nat := (fun i => match i with | 0 => [0, 5, 6, 7, 8, 9, 10] | _ => [])
theorem e260 [Env] (A : Nat → List SV → Prop) (Q : V → Prop) (s : List UInt8) : ws Tryz.prog (KF Tryz.prog kn1 0 Tryz.f260.ntmps (live260) A) 260 none 0 (Tryz.f260.body.getD .skip) (retS Tryz.prog Tryz.f260 (fun v _ => Q v)) (actOf Tryz.f260.ntmps [.str (s)]) Go.Ev.start =
    (CondP (decide (s = [])) (Q (.tuple [.int .i64 (0 : Int), .int .i64 (0 : Int), .int .i64 (3 : Int)])) (((0 ≤ (0 : Int) ∧ (0 : Int) < ((len (s) : Nat) : Int)) ∧ ((0 ≤ (byteAt (s) (0 : Int)) ∧ (byteAt (s) (0 : Int)) < 256) ∧ ∀ r1 : Int, ((.i64 : IntKind) = .i64 ∧ CondP (decide ((utw (byteAt (s) (0 : Int))) = (0 : Int))) (Q (.tuple [.int .i64 (0 : Int), .int .i64 (0 : Int), .int .i64 (7 : Int)])) (A 0 [.val (.str (s)), .val (.int .i64 (utw (byteAt (s) (0 : Int)))), .val (.int .i64 (r1)), .val (.int .u8 (utlo (byteAt (s) (0 : Int)))), .val (.int .u8 (uthi (byteAt (s) (0 : Int)))), .val (.int .i64 (0 : Int)), .val (.int .i64 (1 : Int))])))))) := by kernel_rfl
theorem r260 [Env] (A : Nat → List SV → Prop) (Q : V → Prop) (s : List UInt8) (w r lo hi i : Int) : ws Tryz.prog (KF Tryz.prog kn1 0 Tryz.f260.ntmps (live260) A) 260 none (Nat.add 0 1) (lp (Tryz.f260.body.getD .skip) 0) (seqQ (fun a σ => canonP 0 Tryz.f260.ntmps (live260 0) a σ (A 0)) (behind Tryz.prog (KF Tryz.prog kn1 0 Tryz.f260.ntmps (live260) A) 260 (Tryz.f260.body.getD .skip) 0 0 (retS Tryz.prog Tryz.f260 (fun v _ => Q v)))) (mkA Tryz.f260.ntmps (live260 0) [.val (.str (s)), .val (.int .i64 (w)), .val (.int .i64 (r)), .val (.int .u8 (lo)), .val (.int .u8 (hi)), .val (.int .i64 (0 : Int)), .val (.int .i64 (i))]) (mkS [.val (.str (s)), .val (.int .i64 (w)), .val (.int .i64 (r)), .val (.int .u8 (lo)), .val (.int .u8 (hi)), .val (.int .i64 (0 : Int)), .val (.int .i64 (i))]) =
    (((.i64 : IntKind) = .i64 ∧ CondP (decide ((i) < (w))) (((.i64 : IntKind) = .i64 ∧ CondP (decide ((i) ≥ (((len (s) : Nat) : Int)))) (((.i64 : IntKind) = .i64 ∧ Q (.tuple [.int .i64 (0 : Int), .int .i64 (0 : Int), .int .i64 (3 : Int)]))) (((0 ≤ (i) ∧ (i) < ((len (s) : Nat) : Int)) ∧ ((.u8 : IntKind) = .u8 ∧ CondP (decide ((byteAt (s) (i)) < (lo))) (((.i64 : IntKind) = .i64 ∧ Q (.tuple [.int .i64 (0 : Int), .int .i64 (0 : Int), .int .i64 (7 : Int)]))) (((0 ≤ (i) ∧ (i) < ((len (s) : Nat) : Int)) ∧ ((.u8 : IntKind) = .u8 ∧ CondP (decide ((byteAt (s) (i)) > (hi))) (((.i64 : IntKind) = .i64 ∧ Q (.tuple [.int .i64 (0 : Int), .int .i64 (0 : Int), .int .i64 (7 : Int)]))) ((0 ≤ (6 : Int) ∧ ((0 ≤ (i) ∧ (i) < ((len (s) : Nat) : Int)) ∧ A 0 [.val (.str (s)), .val (.int .i64 (w)), .val (.int .i64 (IntKind.i64.wrap (BitVec.ofInt IntKind.i64.bits (IntKind.i64.wrap ((r) * 2 ^ min (6 : Int).toNat IntKind.i64.bits)) ||| BitVec.ofInt IntKind.i64.bits (IntKind.i64.wrap (IntKind.u8.wrap (BitVec.ofInt IntKind.u8.bits (byteAt (s) (i)) &&& BitVec.ofInt IntKind.u8.bits (63 : Int)).toNat))).toNat)), .val (.int .u8 (128 : Int)), .val (.int .u8 (191 : Int)), .val (.int .i64 (0 : Int)), .val (.int .i64 (IntKind.i64.wrap ((i) + (1 : Int))))]))))))))))) (((.i64 : IntKind) = .i64 ∧ Q (.tuple [.int .i64 (r), .int .i64 (w), .int .i64 (0 : Int)]))))) := by kernel_rfl
def W260 [Env] (vs : List V) (σ : St) (k : VPost) : Prop :=
  match vs with
  | [.str s] => (nextI s ≠ 0 → ∀ r : Int, k (.tuple [.int .i64 r, .int .i64 (nextI s), .int .i64 0]) σ) ∧ (nextI s = 0 → ∀ e : Int, e ≠ 0 → k (.tuple [.int .i64 0, .int .i64 0, .int .i64 e]) σ)
  | _ => False
def kn2 [Env] (g : FuncId) (vs : List V) (σ : St) (k : VPost) : Prop :=
  match Nat.beq g 260 with
  | true => W260 vs σ k
  | false => kn1 g vs σ k
def live235 : Nat → List Nat := (fun i => match i with | 0 => [0, 3] | _ => [])
theorem e235 [Env] (A : Nat → List SV → Prop) (Q : V → Prop) (s : List UInt8) : ws Tryz.prog (KF Tryz.prog kn2 0 Tryz.f235.ntmps (live235) A) 235 none 0 (Tryz.f235.body.getD .skip) (retS Tryz.prog Tryz.f235 (fun v _ => Q v)) (actOf Tryz.f235.ntmps [.str (s)]) Go.Ev.start =
    (A 0 [.val (.str (s)), .val (.int .i64 (0 : Int))]) := by kernel_rfl
theorem r235 [Env] (A : Nat → List SV → Prop) (Q : V → Prop) (s : List UInt8) (i : Int) : ws Tryz.prog (KF Tryz.prog kn2 0 Tryz.f235.ntmps (live235) A) 235 none (Nat.add 0 1) (lp (Tryz.f235.body.getD .skip) 0) (seqQ (fun a σ => canonP 0 Tryz.f235.ntmps (live235 0) a σ (A 0)) (behind Tryz.prog (KF Tryz.prog kn2 0 Tryz.f235.ntmps (live235) A) 235 (Tryz.f235.body.getD .skip) 0 0 (retS Tryz.prog Tryz.f235 (fun v _ => Q v)))) (mkA Tryz.f235.ntmps (live235 0) [.val (.str (s)), .val (.int .i64 (i))]) (mkS [.val (.str (s)), .val (.int .i64 (i))]) =
    (CondP (decide (s ≠ [])) (((nextI (s) ≠ 0 → ∀ r2 : Int, ((.i64 : IntKind) = .i64 ∧ ((0 ≤ (nextI (s)) ∧ (nextI (s)) ≤ ((len (s) : Nat) : Int) ∧ ((len (s) : Nat) : Int) ≤ ((len (s) : Nat) : Int)) ∧ A 0 [.val (.str (dropOf (nextI (s)).toNat (takeOf (s) ((len (s) : Nat) : Int).toNat))), .val (.int .i64 (IntKind.i64.wrap ((i) + (1 : Int))))]))) ∧ (nextI (s) = 0 → ∀ e3 : Int, e3 ≠ 0 → ((.i64 : IntKind) = .i64 ∧ CondP (decide ((e3) ≠ (0 : Int))) (Q (.int .i64 (-1 : Int))) (((0 ≤ (0 : Int) ∧ (0 : Int) ≤ ((len (s) : Nat) : Int) ∧ ((len (s) : Nat) : Int) ≤ ((len (s) : Nat) : Int)) ∧ A 0 [.val (.str (dropOf (0 : Int).toNat (takeOf (s) ((len (s) : Nat) : Int).toNat))), .val (.int .i64 (IntKind.i64.wrap ((i) + (1 : Int))))])))))) (Q (.int .i64 (i)))) := by kernel_rfl
def W235 [Env] (vs : List V) (σ : St) (k : VPost) : Prop :=
  match vs with
  | [.str s] => s.length ≤ 64 ∧ ∀ c : Int, (0 ≤ c ↔ utfB s.length s = true) → k (.int .i64 c) σ
  | _ => False
def kn3 [Env] (g : FuncId) (vs : List V) (σ : St) (k : VPost) : Prop :=
  match Nat.beq g 235 with
  | true => W235 vs σ k
  | false => kn2 g vs σ k
def live195 : Nat → List Nat := (fun _ => [])
theorem e195 [Env] (A : Nat → List SV → Prop) (Q : V → Prop) (s : List UInt8) : ws Tryz.prog (KF Tryz.prog kn3 0 Tryz.f195.ntmps (live195) A) 195 none 0 (Tryz.f195.body.getD .skip) (retS Tryz.prog Tryz.f195 (fun v _ => Q v)) (actOf Tryz.f195.ntmps [.str (s)]) Go.Ev.start =
    (((s).length ≤ 64 ∧ ∀ c4 : Int, (0 ≤ c4 ↔ utfB (s).length (s) = true) → ((.i64 : IntKind) = .i64 ∧ CondP (decide ((c4) ≥ (0 : Int))) (Q (.bool true)) (Q (.bool false))))) := by kernel_rfl
def W195 [Env] (vs : List V) (σ : St) (k : VPost) : Prop :=
  match vs with
  | [.str s] => s.length ≤ 64 ∧ k (.bool (utfB s.length s)) σ
  | _ => False
def kn4 [Env] (g : FuncId) (vs : List V) (σ : St) (k : VPost) : Prop :=
  match Nat.beq g 195 with
  | true => W195 vs σ k
  | false => kn3 g vs σ k
def live274 : Nat → List Nat := (fun _ => [])
theorem e274 [Env] (A : Nat → List SV → Prop) (Q : V → Prop) (c : Int) : ws Tryz.prog (KF Tryz.prog kn4 0 Tryz.f274.ntmps (live274) A) 274 none 0 (Tryz.f274.body.getD .skip) (retS Tryz.prog Tryz.f274 (fun v _ => Q v)) (actOf Tryz.f274.ntmps [.int .i64 (c)]) Go.Ev.start =
    (((.i64 : IntKind) = .i64 ∧ CondP (decide ((c) < (128 : Int))) (Q (.tuple [.int .i64 (1 : Int), .int .i64 (c)])) (((.i64 : IntKind) = .i64 ∧ CondP (decide ((c) ≥ (192 : Int))) (((.i64 : IntKind) = .i64 ∧ CondP (decide ((c) < (224 : Int))) (Q (.tuple [.int .i64 (2 : Int), .int .i64 (IntKind.i64.wrap ((c) - (192 : Int)))])) (((.i64 : IntKind) = .i64 ∧ CondP (decide ((c) ≥ (224 : Int))) (((.i64 : IntKind) = .i64 ∧ CondP (decide ((c) < (240 : Int))) (Q (.tuple [.int .i64 (3 : Int), .int .i64 (IntKind.i64.wrap ((c) - (224 : Int)))])) (((.i64 : IntKind) = .i64 ∧ CondP (decide ((c) ≥ (240 : Int))) (((.i64 : IntKind) = .i64 ∧ CondP (decide ((c) < (248 : Int))) (Q (.tuple [.int .i64 (4 : Int), .int .i64 (IntKind.i64.wrap ((c) - (240 : Int)))])) (Q (.tuple [.int .i64 (0 : Int), .int .i64 (0 : Int)])))) (Q (.tuple [.int .i64 (0 : Int), .int .i64 (0 : Int)])))))) (((.i64 : IntKind) = .i64 ∧ CondP (decide ((c) ≥ (240 : Int))) (((.i64 : IntKind) = .i64 ∧ CondP (decide ((c) < (248 : Int))) (Q (.tuple [.int .i64 (4 : Int), .int .i64 (IntKind.i64.wrap ((c) - (240 : Int)))])) (Q (.tuple [.int .i64 (0 : Int), .int .i64 (0 : Int)])))) (Q (.tuple [.int .i64 (0 : Int), .int .i64 (0 : Int)])))))))) (((.i64 : IntKind) = .i64 ∧ CondP (decide ((c) ≥ (224 : Int))) (((.i64 : IntKind) = .i64 ∧ CondP (decide ((c) < (240 : Int))) (Q (.tuple [.int .i64 (3 : Int), .int .i64 (IntKind.i64.wrap ((c) - (224 : Int)))])) (((.i64 : IntKind) = .i64 ∧ CondP (decide ((c) ≥ (240 : Int))) (((.i64 : IntKind) = .i64 ∧ CondP (decide ((c) < (248 : Int))) (Q (.tuple [.int .i64 (4 : Int), .int .i64 (IntKind.i64.wrap ((c) - (240 : Int)))])) (Q (.tuple [.int .i64 (0 : Int), .int .i64 (0 : Int)])))) (Q (.tuple [.int .i64 (0 : Int), .int .i64 (0 : Int)])))))) (((.i64 : IntKind) = .i64 ∧ CondP (decide ((c) ≥ (240 : Int))) (((.i64 : IntKind) = .i64 ∧ CondP (decide ((c) < (248 : Int))) (Q (.tuple [.int .i64 (4 : Int), .int .i64 (IntKind.i64.wrap ((c) - (240 : Int)))])) (Q (.tuple [.int .i64 (0 : Int), .int .i64 (0 : Int)])))) (Q (.tuple [.int .i64 (0 : Int), .int .i64 (0 : Int)])))))))))) := by kernel_rfl
def W274 [Env] (vs : List V) (σ : St) (k : VPost) : Prop :=
  match vs with
  | [.int .i64 c] => k (.tuple [.int .i64 (ledw c), .int .i64 (ledb c)]) σ
  | _ => False
def kn5 [Env] (g : FuncId) (vs : List V) (σ : St) (k : VPost) : Prop :=
  match Nat.beq g 274 with
  | true => W274 vs σ k
  | false => kn4 g vs σ k
def live275 : Nat → List Nat := (fun _ => [])
theorem e275 [Env] (A : Nat → List SV → Prop) (Q : V → Prop) (x y w : Int) : ws Tryz.prog (KF Tryz.prog kn5 0 Tryz.f275.ntmps (live275) A) 275 none 0 (Tryz.f275.body.getD .skip) (retS Tryz.prog Tryz.f275 (fun v _ => Q v)) (actOf Tryz.f275.ntmps [.int .i64 (x), .int .i64 (y), .int .i64 (w)]) Go.Ev.start =
    ((fun R0 : Prop => (fun R1 : Prop => (fun R2 : Prop => ((.i64 : IntKind) = .i64 ∧ CondP (decide ((w) = (2 : Int))) (((.i64 : IntKind) = .i64 ∧ CondP (decide ((w) = (3 : Int))) (R2) (((.i64 : IntKind) = .i64 ∧ CondP (decide ((w) = (4 : Int))) (((.i64 : IntKind) = .i64 ∧ CondP (decide (((if (65536 : Int) > (x) then (65536 : Int) else (x))) > ((if (1114111 : Int) < (y) then (1114111 : Int) else (y))))) (Q (.bool false)) (R1))) (((.i64 : IntKind) = .i64 ∧ CondP (decide (((if (128 : Int) > (x) then (128 : Int) else (x))) > ((if (2047 : Int) < (y) then (2047 : Int) else (y))))) (Q (.bool false)) (((.i64 : IntKind) = .i64 ∧ CondP (decide (((if (128 : Int) > (x) then (128 : Int) else (x))) < (55296 : Int))) (Q (.bool true)) (((.i64 : IntKind) = .i64 ∧ CondP (decide (((if (2047 : Int) < (y) then (2047 : Int) else (y))) > (57343 : Int))) (Q (.bool true)) (Q (.bool false)))))))))))) (((.i64 : IntKind) = .i64 ∧ CondP (decide ((w) = (3 : Int))) (R2) (((.i64 : IntKind) = .i64 ∧ CondP (decide ((w) = (4 : Int))) (((.i64 : IntKind) = .i64 ∧ CondP (decide (((if (65536 : Int) > (x) then (65536 : Int) else (x))) > ((if (1114111 : Int) < (y) then (1114111 : Int) else (y))))) (Q (.bool false)) (R1))) (((.i64 : IntKind) = .i64 ∧ CondP (decide (((if (0 : Int) > (x) then (0 : Int) else (x))) > ((if (127 : Int) < (y) then (127 : Int) else (y))))) (Q (.bool false)) (((.i64 : IntKind) = .i64 ∧ CondP (decide (((if (0 : Int) > (x) then (0 : Int) else (x))) < (55296 : Int))) (Q (.bool true)) (((.i64 : IntKind) = .i64 ∧ CondP (decide (((if (127 : Int) < (y) then (127 : Int) else (y))) > (57343 : Int))) (Q (.bool true)) (Q (.bool false)))))))))))))) ((.i64 : IntKind) = .i64 ∧ CondP (decide ((w) = (4 : Int))) (((.i64 : IntKind) = .i64 ∧ CondP (decide (((if (65536 : Int) > (x) then (65536 : Int) else (x))) > ((if (1114111 : Int) < (y) then (1114111 : Int) else (y))))) (Q (.bool false)) (R1))) (((.i64 : IntKind) = .i64 ∧ CondP (decide (((if (2048 : Int) > (x) then (2048 : Int) else (x))) > ((if (65535 : Int) < (y) then (65535 : Int) else (y))))) (Q (.bool false)) (R0))))) ((.i64 : IntKind) = .i64 ∧ CondP (decide (((if (65536 : Int) > (x) then (65536 : Int) else (x))) < (55296 : Int))) (Q (.bool true)) (((.i64 : IntKind) = .i64 ∧ CondP (decide (((if (1114111 : Int) < (y) then (1114111 : Int) else (y))) > (57343 : Int))) (Q (.bool true)) (Q (.bool false)))))) ((.i64 : IntKind) = .i64 ∧ CondP (decide (((if (2048 : Int) > (x) then (2048 : Int) else (x))) < (55296 : Int))) (Q (.bool true)) (((.i64 : IntKind) = .i64 ∧ CondP (decide (((if (65535 : Int) < (y) then (65535 : Int) else (y))) > (57343 : Int))) (Q (.bool true)) (Q (.bool false)))))) := by kernel_rfl
def W275 [Env] (vs : List V) (σ : St) (k : VPost) : Prop :=
  match vs with
  | [.int .i64 x, .int .i64 y, .int .i64 w] => k (.bool (amongB x y w)) σ
  | _ => False
def kn6 [Env] (g : FuncId) (vs : List V) (σ : St) (k : VPost) : Prop :=
  match Nat.beq g 275 with
  | true => W275 vs σ k
  | false => kn5 g vs σ k
def live263 : Nat → List Nat := (fun i => match i with | 0 => [0, 5, 6, 7, 8] | 1 => [0, 5, 6, 7, 9] | _ => [])
theorem e263 [Env] (A : Nat → List SV → Prop) (Q : V → Prop) (s : List UInt8) : ws Tryz.prog (KF Tryz.prog kn6 0 Tryz.f263.ntmps (live263) A) 263 none 0 (Tryz.f263.body.getD .skip) (retS Tryz.prog Tryz.f263 (fun v _ => Q v)) (actOf Tryz.f263.ntmps [.str (s)]) Go.Ev.start =
    (((.i64 : IntKind) = .i64 ∧ CondP (decide ((((len (s) : Nat) : Int)) = (0 : Int))) (Q (.tuple [.int .i64 (0 : Int), .int .i64 (0 : Int), .int .i64 (3 : Int)])) (((0 ≤ (0 : Int) ∧ (0 : Int) < ((len (s) : Nat) : Int)) ∧ ((.i64 : IntKind) = .i64 ∧ CondP (decide ((ledw (IntKind.i64.wrap (byteAt (s) (0 : Int)))) = (0 : Int))) (Q (.tuple [.int .i64 (0 : Int), .int .i64 (0 : Int), .int .i64 (7 : Int)])) (A 0 [.val (.str (s)), .val (.int .i64 (ledw (IntKind.i64.wrap (byteAt (s) (0 : Int))))), .val (.int .i64 (ledb (IntKind.i64.wrap (byteAt (s) (0 : Int))))), .val (.int .i64 (1 : Int)), .val (.int .i64 (1 : Int))])))))) := by kernel_rfl
theorem r263a [Env] (A : Nat → List SV → Prop) (Q : V → Prop) (s : List UInt8) (w r q i : Int) : ws Tryz.prog (KF Tryz.prog kn6 0 Tryz.f263.ntmps (live263) A) 263 none (Nat.add 0 1) (lp (Tryz.f263.body.getD .skip) 0) (seqQ (fun a σ => canonP 0 Tryz.f263.ntmps (live263 0) a σ (A 0)) (behind Tryz.prog (KF Tryz.prog kn6 0 Tryz.f263.ntmps (live263) A) 263 (Tryz.f263.body.getD .skip) 0 0 (retS Tryz.prog Tryz.f263 (fun v _ => Q v)))) (mkA Tryz.f263.ntmps (live263 0) [.val (.str (s)), .val (.int .i64 (w)), .val (.int .i64 (r)), .val (.int .i64 (q)), .val (.int .i64 (i))]) (mkS [.val (.str (s)), .val (.int .i64 (w)), .val (.int .i64 (r)), .val (.int .i64 (q)), .val (.int .i64 (i))]) =
    (((.i64 : IntKind) = .i64 ∧ CondP (decide ((i) < (w))) (A 0 [.val (.str (s)), .val (.int .i64 (w)), .val (.int .i64 (r)), .val (.int .i64 (IntKind.i64.wrap ((q) * (64 : Int)))), .val (.int .i64 (IntKind.i64.wrap ((i) + (1 : Int))))]) (CondP ((!(amongB (IntKind.i64.wrap ((r) * (q))) (IntKind.i64.wrap ((IntKind.i64.wrap ((IntKind.i64.wrap ((r) * (q))) + (q))) - (1 : Int))) (w)))) (Q (.tuple [.int .i64 (0 : Int), .int .i64 (0 : Int), .int .i64 (7 : Int)])) (A 1 [.val (.str (s)), .val (.int .i64 (w)), .val (.int .i64 (r)), .val (.int .i64 (q)), .val (.int .i64 (1 : Int))])))) := by kernel_rfl
theorem r263b [Env] (A : Nat → List SV → Prop) (Q : V → Prop) (s : List UInt8) (w r q i : Int) : ws Tryz.prog (KF Tryz.prog kn6 0 Tryz.f263.ntmps (live263) A) 263 none (Nat.add 1 1) (lp (Tryz.f263.body.getD .skip) 1) (seqQ (fun a σ => canonP 0 Tryz.f263.ntmps (live263 1) a σ (A 1)) (behind Tryz.prog (KF Tryz.prog kn6 0 Tryz.f263.ntmps (live263) A) 263 (Tryz.f263.body.getD .skip) 0 1 (retS Tryz.prog Tryz.f263 (fun v _ => Q v)))) (mkA Tryz.f263.ntmps (live263 1) [.val (.str (s)), .val (.int .i64 (w)), .val (.int .i64 (r)), .val (.int .i64 (q)), .val (.int .i64 (i))]) (mkS [.val (.str (s)), .val (.int .i64 (w)), .val (.int .i64 (r)), .val (.int .i64 (q)), .val (.int .i64 (i))]) =
    (((.i64 : IntKind) = .i64 ∧ CondP (decide ((i) < (w))) (((.i64 : IntKind) = .i64 ∧ CondP (decide ((i) ≥ (((len (s) : Nat) : Int)))) (Q (.tuple [.int .i64 (0 : Int), .int .i64 (0 : Int), .int .i64 (3 : Int)])) (((0 ≤ (i) ∧ (i) < ((len (s) : Nat) : Int)) ∧ ((.i64 : IntKind) = .i64 ∧ CondP (decide ((IntKind.i64.wrap (byteAt (s) (i))) < (128 : Int))) (Q (.tuple [.int .i64 (0 : Int), .int .i64 (0 : Int), .int .i64 (7 : Int)])) (((.i64 : IntKind) = .i64 ∧ CondP (decide ((IntKind.i64.wrap (byteAt (s) (i))) > (191 : Int))) (Q (.tuple [.int .i64 (0 : Int), .int .i64 (0 : Int), .int .i64 (7 : Int)])) ((((.i64 : IntKind) = .i64 ∧ (64 : Int) ≠ 0) ∧ CondP ((!(amongB (IntKind.i64.wrap ((IntKind.i64.wrap ((IntKind.i64.wrap ((IntKind.i64.wrap ((r) * (64 : Int))) + (IntKind.i64.wrap (byteAt (s) (i))))) - (128 : Int))) * (IntKind.i64.wrap ((q).tdiv (64 : Int))))) (IntKind.i64.wrap ((IntKind.i64.wrap ((IntKind.i64.wrap ((IntKind.i64.wrap ((IntKind.i64.wrap ((IntKind.i64.wrap ((r) * (64 : Int))) + (IntKind.i64.wrap (byteAt (s) (i))))) - (128 : Int))) * (IntKind.i64.wrap ((q).tdiv (64 : Int))))) + (IntKind.i64.wrap ((q).tdiv (64 : Int))))) - (1 : Int))) (w)))) (Q (.tuple [.int .i64 (0 : Int), .int .i64 (0 : Int), .int .i64 (7 : Int)])) (A 1 [.val (.str (s)), .val (.int .i64 (w)), .val (.int .i64 (IntKind.i64.wrap ((IntKind.i64.wrap ((IntKind.i64.wrap ((r) * (64 : Int))) + (IntKind.i64.wrap (byteAt (s) (i))))) - (128 : Int)))), .val (.int .i64 (IntKind.i64.wrap ((q).tdiv (64 : Int)))), .val (.int .i64 (IntKind.i64.wrap ((i) + (1 : Int))))])))))))))) (Q (.tuple [.int .i64 (r), .int .i64 (w), .int .i64 (0 : Int)])))) := by kernel_rfl
def W263 [Env] (vs : List V) (σ : St) (k : VPost) : Prop :=
  match vs with
  | [.str s] => (nextI s ≠ 0 → ∀ r : Int, k (.tuple [.int .i64 r, .int .i64 (nextI s), .int .i64 0]) σ) ∧ (nextI s = 0 → ∀ e : Int, e ≠ 0 → k (.tuple [.int .i64 0, .int .i64 0, .int .i64 e]) σ)
  | _ => False
def kn7 [Env] (g : FuncId) (vs : List V) (σ : St) (k : VPost) : Prop :=
  match Nat.beq g 263 with
  | true => W263 vs σ k
  | false => kn6 g vs σ k
def live238 : Nat → List Nat := (fun i => match i with | 0 => [0, 3, 4] | _ => [])
theorem e238 [Env] (A : Nat → List SV → Prop) (Q : V → Prop) (s : List UInt8) : ws Tryz.prog (KF Tryz.prog kn7 0 Tryz.f238.ntmps (live238) A) 238 none 0 (Tryz.f238.body.getD .skip) (retS Tryz.prog Tryz.f238 (fun v _ => Q v)) (actOf Tryz.f238.ntmps [.str (s)]) Go.Ev.start =
    (A 0 [.val (.str (s)), .val (.int .i64 (0 : Int)), .val (.int .i64 (0 : Int))]) := by kernel_rfl
theorem r238 [Env] (A : Nat → List SV → Prop) (Q : V → Prop) (s : List UInt8) (i j : Int) : ws Tryz.prog (KF Tryz.prog kn7 0 Tryz.f238.ntmps (live238) A) 238 none (Nat.add 0 1) (lp (Tryz.f238.body.getD .skip) 0) (seqQ (fun a σ => canonP 0 Tryz.f238.ntmps (live238 0) a σ (A 0)) (behind Tryz.prog (KF Tryz.prog kn7 0 Tryz.f238.ntmps (live238) A) 238 (Tryz.f238.body.getD .skip) 0 0 (retS Tryz.prog Tryz.f238 (fun v _ => Q v)))) (mkA Tryz.f238.ntmps (live238 0) [.val (.str (s)), .val (.int .i64 (i)), .val (.int .i64 (j))]) (mkS [.val (.str (s)), .val (.int .i64 (i)), .val (.int .i64 (j))]) =
    (((.i64 : IntKind) = .i64 ∧ CondP (decide ((j) < (((len (s) : Nat) : Int)))) (((0 ≤ (j) ∧ (j) ≤ ((len (s) : Nat) : Int) ∧ ((len (s) : Nat) : Int) ≤ ((len (s) : Nat) : Int)) ∧ ((nextI (dropOf (j).toNat (takeOf (s) ((len (s) : Nat) : Int).toNat)) ≠ 0 → ∀ r5 : Int, ((.i64 : IntKind) = .i64 ∧ A 0 [.val (.str (s)), .val (.int .i64 (IntKind.i64.wrap ((i) + (1 : Int)))), .val (.int .i64 (IntKind.i64.wrap ((j) + (nextI (dropOf (j).toNat (takeOf (s) ((len (s) : Nat) : Int).toNat))))))])) ∧ (nextI (dropOf (j).toNat (takeOf (s) ((len (s) : Nat) : Int).toNat)) = 0 → ∀ e6 : Int, e6 ≠ 0 → ((.i64 : IntKind) = .i64 ∧ CondP (decide ((e6) ≠ (0 : Int))) (Q (.int .i64 (-1 : Int))) (A 0 [.val (.str (s)), .val (.int .i64 (IntKind.i64.wrap ((i) + (1 : Int)))), .val (.int .i64 (IntKind.i64.wrap ((j) + (0 : Int))))])))))) (Q (.int .i64 (i))))) := by kernel_rfl
def W238 [Env] (vs : List V) (σ : St) (k : VPost) : Prop :=
  match vs with
  | [.str s] => s.length ≤ 64 ∧ ∀ c : Int, (0 ≤ c ↔ utfB s.length s = true) → k (.int .i64 c) σ
  | _ => False
def kn8 [Env] (g : FuncId) (vs : List V) (σ : St) (k : VPost) : Prop :=
  match Nat.beq g 238 with
  | true => W238 vs σ k
  | false => kn7 g vs σ k
def live203 : Nat → List Nat := (fun _ => [])
theorem e203 [Env] (A : Nat → List SV → Prop) (Q : V → Prop) (s : List UInt8) : ws Tryz.prog (KF Tryz.prog kn8 0 Tryz.f203.ntmps (live203) A) 203 none 0 (Tryz.f203.body.getD .skip) (retS Tryz.prog Tryz.f203 (fun v _ => Q v)) (actOf Tryz.f203.ntmps [.str (s)]) Go.Ev.start =
    (((s).length ≤ 64 ∧ ∀ c7 : Int, (0 ≤ c7 ↔ utfB (s).length (s) = true) → ((.i64 : IntKind) = .i64 ∧ CondP (decide ((c7) ≥ (0 : Int))) (Q (.bool true)) (Q (.bool false))))) := by kernel_rfl
def W203 [Env] (vs : List V) (σ : St) (k : VPost) : Prop :=
  match vs with
  | [.str s] => s.length ≤ 64 ∧ k (.bool (utfB s.length s)) σ
  | _ => False
def kn9 [Env] (g : FuncId) (vs : List V) (σ : St) (k : VPost) : Prop :=
  match Nat.beq g 203 with
  | true => W203 vs σ k
  | false => kn8 g vs σ k
end Go.Proofs.YtbajncpfmemdgaaGreatDoor
namespace Go.Proofs.YtbajncpfmemdgaaGreatDoor
open Go Go.Ev
def live194 : Nat → List Nat := (fun _ => [])
theorem e194 [Env] (A : Nat → List SV → Prop) (Q : V → Prop) (x : Int) : ws Tryz.prog (KF Tryz.prog kn9 0 Tryz.f194.ntmps (live194) A) 194 none 0 (Tryz.f194.body.getD .skip) (retS Tryz.prog Tryz.f194 (fun v _ => Q v)) (actOf Tryz.f194.ntmps [.int .u64 (x)]) Go.Ev.start =
    (CondP ((FloatKind.f64.format.order ((x).toNat) ((x).toNat) != some .eq)) (Q (.int .u64 (9221120237041090560 : Int))) (Q (.int .u64 (x)))) := by kernel_rfl
def W194 [Env] (vs : List V) (σ : St) (k : VPost) : Prop :=
  match vs with
  | [.int .u64 x] => (0 ≤ x ∧ x < 18446744073709551616) ∧ k (.int .u64 (canonI x)) σ
  | _ => False
def kn10 [Env] (g : FuncId) (vs : List V) (σ : St) (k : VPost) : Prop :=
  match Nat.beq g 194 with
  | true => W194 vs σ k
  | false => kn9 g vs σ k
def live261 : Nat → List Nat := (fun _ => [])
theorem e261 [Env] (A : Nat → List SV → Prop) (Q : V → Prop) (x : Int) : ws Tryz.prog (KF Tryz.prog kn10 0 Tryz.f261.ntmps (live261) A) 261 none 0 (Tryz.f261.body.getD .skip) (retS Tryz.prog Tryz.f261 (fun v _ => Q v)) (actOf Tryz.f261.ntmps [.int .u64 (x)]) Go.Ev.start =
    ((0 ≤ (52 : Int) ∧ Q (.int .i64 (IntKind.i64.wrap (IntKind.u64.wrap (BitVec.ofInt IntKind.u64.bits ((x).fdiv (2 ^ min (52 : Int).toNat IntKind.u64.bits)) &&& BitVec.ofInt IntKind.u64.bits (2047 : Int)).toNat))))) := by kernel_rfl
def W261 [Env] (vs : List V) (σ : St) (k : VPost) : Prop :=
  match vs with
  | [.int .u64 x] => (0 ≤ x ∧ x < 18446744073709551616) ∧ k (.int .i64 (expoI x)) σ
  | _ => False
def kn11 [Env] (g : FuncId) (vs : List V) (σ : St) (k : VPost) : Prop :=
  match Nat.beq g 261 with
  | true => W261 vs σ k
  | false => kn10 g vs σ k
def live262 : Nat → List Nat := (fun _ => [])
theorem e262 [Env] (A : Nat → List SV → Prop) (Q : V → Prop) (x : Int) : ws Tryz.prog (KF Tryz.prog kn11 0 Tryz.f262.ntmps (live262) A) 262 none 0 (Tryz.f262.body.getD .skip) (retS Tryz.prog Tryz.f262 (fun v _ => Q v)) (actOf Tryz.f262.ntmps [.int .u64 (x)]) Go.Ev.start =
    (Q (.int .u64 (IntKind.u64.wrap (BitVec.ofInt IntKind.u64.bits (x) &&& BitVec.ofInt IntKind.u64.bits (4503599627370495 : Int)).toNat))) := by kernel_rfl
def W262 [Env] (vs : List V) (σ : St) (k : VPost) : Prop :=
  match vs with
  | [.int .u64 x] => (0 ≤ x ∧ x < 18446744073709551616) ∧ k (.int .u64 (fracI x)) σ
  | _ => False
def kn12 [Env] (g : FuncId) (vs : List V) (σ : St) (k : VPost) : Prop :=
  match Nat.beq g 262 with
  | true => W262 vs σ k
  | false => kn11 g vs σ k
def live237 : Nat → List Nat := (fun _ => [])
theorem e237 [Env] (A : Nat → List SV → Prop) (Q : V → Prop) (x : Int) : ws Tryz.prog (KF Tryz.prog kn12 0 Tryz.f237.ntmps (live237) A) 237 none 0 (Tryz.f237.body.getD .skip) (retS Tryz.prog Tryz.f237 (fun v _ => Q v)) (actOf Tryz.f237.ntmps [.int .u64 (x)]) Go.Ev.start =
    (((0 ≤ (x) ∧ (x) < 18446744073709551616) ∧ ((.i64 : IntKind) = .i64 ∧ CondP (decide ((expoI (x)) = (2047 : Int))) (((0 ≤ (x) ∧ (x) < 18446744073709551616) ∧ ((.u64 : IntKind) = .u64 ∧ CondP (decide ((fracI (x)) ≠ (0 : Int))) (Q (.int .i64 (1 : Int))) (((0 ≤ (x) ∧ (x) < 18446744073709551616) ∧ ((.i64 : IntKind) = .i64 ∧ CondP (decide ((expoI (x)) = (2047 : Int))) (Q (.int .i64 (2 : Int))) (((0 ≤ (x) ∧ (x) < 18446744073709551616) ∧ ((.i64 : IntKind) = .i64 ∧ CondP (decide ((expoI (x)) = (0 : Int))) (((0 ≤ (x) ∧ (x) < 18446744073709551616) ∧ ((.u64 : IntKind) = .u64 ∧ CondP (decide ((fracI (x)) = (0 : Int))) (Q (.int .i64 (3 : Int))) (((0 ≤ (x) ∧ (x) < 18446744073709551616) ∧ ((.i64 : IntKind) = .i64 ∧ CondP (decide ((expoI (x)) = (0 : Int))) (Q (.int .i64 (4 : Int))) (Q (.int .i64 (5 : Int))))))))) (((0 ≤ (x) ∧ (x) < 18446744073709551616) ∧ ((.i64 : IntKind) = .i64 ∧ CondP (decide ((expoI (x)) = (0 : Int))) (Q (.int .i64 (4 : Int))) (Q (.int .i64 (5 : Int))))))))))))))) (((0 ≤ (x) ∧ (x) < 18446744073709551616) ∧ ((.i64 : IntKind) = .i64 ∧ CondP (decide ((expoI (x)) = (2047 : Int))) (Q (.int .i64 (2 : Int))) (((0 ≤ (x) ∧ (x) < 18446744073709551616) ∧ ((.i64 : IntKind) = .i64 ∧ CondP (decide ((expoI (x)) = (0 : Int))) (((0 ≤ (x) ∧ (x) < 18446744073709551616) ∧ ((.u64 : IntKind) = .u64 ∧ CondP (decide ((fracI (x)) = (0 : Int))) (Q (.int .i64 (3 : Int))) (((0 ≤ (x) ∧ (x) < 18446744073709551616) ∧ ((.i64 : IntKind) = .i64 ∧ CondP (decide ((expoI (x)) = (0 : Int))) (Q (.int .i64 (4 : Int))) (Q (.int .i64 (5 : Int))))))))) (((0 ≤ (x) ∧ (x) < 18446744073709551616) ∧ ((.i64 : IntKind) = .i64 ∧ CondP (decide ((expoI (x)) = (0 : Int))) (Q (.int .i64 (4 : Int))) (Q (.int .i64 (5 : Int))))))))))))))) := by kernel_rfl
def W237 [Env] (vs : List V) (σ : St) (k : VPost) : Prop :=
  match vs with
  | [.int .u64 x] => (0 ≤ x ∧ x < 18446744073709551616) ∧ ∀ c : Int, (c = 1 ↔ nanP x) → k (.int .i64 c) σ
  | _ => False
def kn13 [Env] (g : FuncId) (vs : List V) (σ : St) (k : VPost) : Prop :=
  match Nat.beq g 237 with
  | true => W237 vs σ k
  | false => kn12 g vs σ k
def live202 : Nat → List Nat := (fun _ => [])
theorem e202 [Env] (A : Nat → List SV → Prop) (Q : V → Prop) (x : Int) : ws Tryz.prog (KF Tryz.prog kn13 0 Tryz.f202.ntmps (live202) A) 202 none 0 (Tryz.f202.body.getD .skip) (retS Tryz.prog Tryz.f202 (fun v _ => Q v)) (actOf Tryz.f202.ntmps [.int .u64 (x)]) Go.Ev.start =
    (((0 ≤ (x) ∧ (x) < 18446744073709551616) ∧ ∀ c8 : Int, (c8 = 1 ↔ nanP (x)) → ((.i64 : IntKind) = .i64 ∧ CondP (decide ((c8) = (1 : Int))) (Q (.int .u64 (9221120237041090560 : Int))) (Q (.int .u64 (x)))))) := by kernel_rfl
def W202 [Env] (vs : List V) (σ : St) (k : VPost) : Prop :=
  match vs with
  | [.int .u64 x] => (0 ≤ x ∧ x < 18446744073709551616) ∧ k (.int .u64 (canonI x)) σ
  | _ => False
def kn14 [Env] (g : FuncId) (vs : List V) (σ : St) (k : VPost) : Prop :=
  match Nat.beq g 202 with
  | true => W202 vs σ k
  | false => kn13 g vs σ k
def live193 : Nat → List Nat := (fun _ => [])
theorem e193 [Env] (A : Nat → List SV → Prop) (Q : V → Prop) (e : T46) : ws Tryz.prog (KF Tryz.prog kn14 0 Tryz.f193.ntmps (live193) A) 193 none 0 (Tryz.f193.body.getD .skip) (retS Tryz.prog Tryz.f193 (fun v _ => Q v)) (actOf Tryz.f193.ntmps [T46.enc (e)]) Go.Ev.start =
    (((.i64 : IntKind) = .i64 ∧ CondP (decide (((e).f0) = (1 : Int))) (Q (.agg [.int .i64 ((e).f0), .int .i64 ((e).f1), .int .u64 (0 : Int), .str ([])])) (((.i64 : IntKind) = .i64 ∧ CondP (decide (((e).f0) = (2 : Int))) (Q (.agg [.int .i64 ((e).f0), .int .i64 ((e).f1), .int .u64 (0 : Int), .str ([])])) (((.i64 : IntKind) = .i64 ∧ CondP (decide (((e).f0) = (3 : Int))) (Q (.agg [.int .i64 ((e).f0), .int .i64 (0 : Int), .int .u64 ((e).f2), .str ([])])) (((.i64 : IntKind) = .i64 ∧ CondP (decide (((e).f0) = (4 : Int))) (Q (.agg [.int .i64 ((e).f0), .int .i64 (0 : Int), .int .u64 (0 : Int), .str ((e).f3)])) (((.i64 : IntKind) = .i64 ∧ CondP (decide (((e).f0) = (5 : Int))) (Q (.agg [.int .i64 ((e).f0), .int .i64 (0 : Int), .int .u64 (0 : Int), .str ((e).f3)])) (Q (.agg [.int .i64 ((e).f0), .int .i64 (0 : Int), .int .u64 (0 : Int), .str ([])])))))))))))) := by kernel_rfl
def W193 [Env] (vs : List V) (σ : St) (k : VPost) : Prop :=
  match vs with
  | [.agg [.int .i64 a, .int .i64 b, .int .u64 c, .str s]] => k (T46.enc (onlyV ⟨a, b, c, s⟩)) σ
  | _ => False
def kn15 [Env] (g : FuncId) (vs : List V) (σ : St) (k : VPost) : Prop :=
  match Nat.beq g 193 with
  | true => W193 vs σ k
  | false => kn14 g vs σ k
def live148 : Nat → List Nat := (fun _ => [])
theorem e148 [Env] (A : Nat → List SV → Prop) (Q : V → Prop) (e : T46) : ws Tryz.prog (KF Tryz.prog kn15 0 Tryz.f148.ntmps (live148) A) 148 none 0 (Tryz.f148.body.getD .skip) (retS Tryz.prog Tryz.f148 (fun v _ => Q v)) (actOf Tryz.f148.ntmps [T46.enc (e)]) Go.Ev.start =
    (((.i64 : IntKind) = .i64 ∧ CondP (decide (((e).f0) < (0 : Int))) (Q (.int .i64 (5 : Int))) (((.i64 : IntKind) = .i64 ∧ CondP (decide (((e).f0) ≥ (6 : Int))) (Q (.int .i64 (5 : Int))) (CondP (V.beq (.agg [.int .i64 ((e).f0), .int .i64 ((e).f1), .int .u64 ((e).f2), .str ((e).f3)]) (.agg [.int .i64 ((e).f0), .int .i64 ((e).f1), .int .u64 ((e).f2), .str ((e).f3)]) && true) (((.i64 : IntKind) = .i64 ∧ CondP (decide (((onlyV ⟨((e).f0), ((e).f1), ((e).f2), (e).f3⟩).f0) = ((e).f0))) (((.i64 : IntKind) = .i64 ∧ CondP (decide (((onlyV ⟨((e).f0), ((e).f1), ((e).f2), (e).f3⟩).f1) = ((e).f1))) (((.u64 : IntKind) = .u64 ∧ CondP (decide (((onlyV ⟨((e).f0), ((e).f1), ((e).f2), (e).f3⟩).f2) = ((e).f2))) (CondP (decide (((onlyV ⟨((e).f0), ((e).f1), ((e).f2), (e).f3⟩).f3) = ((e).f3))) (((.i64 : IntKind) = .i64 ∧ CondP (decide (((e).f0) = (1 : Int))) (((.i64 : IntKind) = .i64 ∧ CondP (decide (((e).f1) ≠ (0 : Int))) (((.i64 : IntKind) = .i64 ∧ CondP (decide (((e).f1) ≠ (1 : Int))) (Q (.int .i64 (6 : Int))) (((0 ≤ ((e).f2) ∧ ((e).f2) < 18446744073709551616) ∧ CondP (V.beq (.int .u64 ((e).f2)) (.int .u64 ((e).f2)) && true) (((.u64 : IntKind) = .u64 ∧ CondP (decide ((canonI ((e).f2)) ≠ ((e).f2))) (Q (.int .i64 (4 : Int))) (((.i64 : IntKind) = .i64 ∧ CondP (decide ((((len ((e).f3) : Nat) : Int)) > (64 : Int))) (Q (.int .i64 (2 : Int))) (((.i64 : IntKind) = .i64 ∧ CondP (decide (((e).f0) = (5 : Int))) ((((e).f3).length ≤ 64 ∧ CondP ((!(utfB ((e).f3).length ((e).f3)))) (Q (.int .i64 (7 : Int))) (Q (.int .i64 (0 : Int))))) (Q (.int .i64 (0 : Int))))))))) False)))) (((0 ≤ ((e).f2) ∧ ((e).f2) < 18446744073709551616) ∧ CondP (V.beq (.int .u64 ((e).f2)) (.int .u64 ((e).f2)) && true) (((.u64 : IntKind) = .u64 ∧ CondP (decide ((canonI ((e).f2)) ≠ ((e).f2))) (Q (.int .i64 (4 : Int))) (((.i64 : IntKind) = .i64 ∧ CondP (decide ((((len ((e).f3) : Nat) : Int)) > (64 : Int))) (Q (.int .i64 (2 : Int))) (((.i64 : IntKind) = .i64 ∧ CondP (decide (((e).f0) = (5 : Int))) ((((e).f3).length ≤ 64 ∧ CondP ((!(utfB ((e).f3).length ((e).f3)))) (Q (.int .i64 (7 : Int))) (Q (.int .i64 (0 : Int))))) (Q (.int .i64 (0 : Int))))))))) False)))) (((0 ≤ ((e).f2) ∧ ((e).f2) < 18446744073709551616) ∧ CondP (V.beq (.int .u64 ((e).f2)) (.int .u64 ((e).f2)) && true) (((.u64 : IntKind) = .u64 ∧ CondP (decide ((canonI ((e).f2)) ≠ ((e).f2))) (Q (.int .i64 (4 : Int))) (((.i64 : IntKind) = .i64 ∧ CondP (decide ((((len ((e).f3) : Nat) : Int)) > (64 : Int))) (Q (.int .i64 (2 : Int))) (((.i64 : IntKind) = .i64 ∧ CondP (decide (((e).f0) = (5 : Int))) ((((e).f3).length ≤ 64 ∧ CondP ((!(utfB ((e).f3).length ((e).f3)))) (Q (.int .i64 (7 : Int))) (Q (.int .i64 (0 : Int))))) (Q (.int .i64 (0 : Int))))))))) False)))) (Q (.int .i64 (4 : Int)))) (Q (.int .i64 (4 : Int))))) (Q (.int .i64 (4 : Int))))) (Q (.int .i64 (4 : Int))))) False))))) := by kernel_rfl
def W148 [Env] (vs : List V) (σ : St) (k : VPost) : Prop :=
  match vs with
  | [.agg [.int .i64 a, .int .i64 b, .int .u64 c, .str s]] => (0 ≤ c ∧ c < 18446744073709551616) ∧ k (.int .i64 (valErr ⟨a, b, c, s⟩)) σ
  | _ => False
def kn16 [Env] (g : FuncId) (vs : List V) (σ : St) (k : VPost) : Prop :=
  match Nat.beq g 148 with
  | true => W148 vs σ k
  | false => kn15 g vs σ k
def live153 : Nat → List Nat := (fun _ => [])
theorem e153 [Env] (A : Nat → List SV → Prop) (Q : V → Prop) (e : T46) : ws Tryz.prog (KF Tryz.prog kn16 0 Tryz.f153.ntmps (live153) A) 153 none 0 (Tryz.f153.body.getD .skip) (retS Tryz.prog Tryz.f153 (fun v _ => Q v)) (actOf Tryz.f153.ntmps [T46.enc (e)]) Go.Ev.start =
    ((fun R0 : Prop => (fun R1 : Prop => (fun R2 : Prop => (fun R3 : Prop => (fun R4 : Prop => (fun R5 : Prop => (fun R6 : Prop => (fun R7 : Prop => (fun R8 : Prop => ((.i64 : IntKind) = .i64 ∧ CondP (decide (((e).f0) = (1 : Int))) (R8) (((.i64 : IntKind) = .i64 ∧ CondP (decide (((e).f0) = (2 : Int))) (R8) (((.i64 : IntKind) = .i64 ∧ CondP (decide (((e).f0) = (4 : Int))) (((.i64 : IntKind) = .i64 ∧ CondP (decide (((e).f0) < (0 : Int))) (Q (.int .i64 (5 : Int))) (((.i64 : IntKind) = .i64 ∧ CondP (decide (((e).f0) > (5 : Int))) (Q (.int .i64 (5 : Int))) (R4))))) (((.i64 : IntKind) = .i64 ∧ CondP (decide (((e).f0) = (5 : Int))) (((.i64 : IntKind) = .i64 ∧ CondP (decide (((e).f0) < (0 : Int))) (Q (.int .i64 (5 : Int))) (((.i64 : IntKind) = .i64 ∧ CondP (decide (((e).f0) > (5 : Int))) (Q (.int .i64 (5 : Int))) (R4))))) (((.i64 : IntKind) = .i64 ∧ CondP (decide (((e).f0) < (0 : Int))) (Q (.int .i64 (5 : Int))) (((.i64 : IntKind) = .i64 ∧ CondP (decide (((e).f0) > (5 : Int))) (Q (.int .i64 (5 : Int))) (((.i64 : IntKind) = .i64 ∧ CondP (decide (((e).f1) ≠ (0 : Int))) (Q (.int .i64 (4 : Int))) (((.u64 : IntKind) = .u64 ∧ CondP (decide (((e).f2) ≠ (0 : Int))) (((.i64 : IntKind) = .i64 ∧ CondP (decide (((e).f0) ≠ (3 : Int))) (Q (.int .i64 (4 : Int))) R2)) R2)))))))))))))))) ((.i64 : IntKind) = .i64 ∧ CondP (decide (((e).f0) = (4 : Int))) (((.i64 : IntKind) = .i64 ∧ CondP (decide (((e).f0) < (0 : Int))) (Q (.int .i64 (5 : Int))) (((.i64 : IntKind) = .i64 ∧ CondP (decide (((e).f0) > (5 : Int))) (Q (.int .i64 (5 : Int))) (R6))))) (R7))) ((.i64 : IntKind) = .i64 ∧ CondP (decide (((e).f0) = (5 : Int))) (((.i64 : IntKind) = .i64 ∧ CondP (decide (((e).f0) < (0 : Int))) (Q (.int .i64 (5 : Int))) (((.i64 : IntKind) = .i64 ∧ CondP (decide (((e).f0) > (5 : Int))) (Q (.int .i64 (5 : Int))) (R6))))) (((.i64 : IntKind) = .i64 ∧ CondP (decide (((e).f0) < (0 : Int))) (Q (.int .i64 (5 : Int))) (((.i64 : IntKind) = .i64 ∧ CondP (decide (((e).f0) > (5 : Int))) (Q (.int .i64 (5 : Int))) (R5))))))) ((.i64 : IntKind) = .i64 ∧ CondP (decide (((e).f1) ≠ (0 : Int))) (((.u64 : IntKind) = .u64 ∧ CondP (decide (((e).f2) ≠ (0 : Int))) (((.i64 : IntKind) = .i64 ∧ CondP (decide (((e).f0) ≠ (3 : Int))) (Q (.int .i64 (4 : Int))) R3)) R3)) (((.u64 : IntKind) = .u64 ∧ CondP (decide (((e).f2) ≠ (0 : Int))) (((.i64 : IntKind) = .i64 ∧ CondP (decide (((e).f0) ≠ (3 : Int))) (Q (.int .i64 (4 : Int))) R3)) R3)))) ((.i64 : IntKind) = .i64 ∧ CondP (decide (((e).f1) ≠ (0 : Int))) (((.u64 : IntKind) = .u64 ∧ CondP (decide (((e).f2) ≠ (0 : Int))) (((.i64 : IntKind) = .i64 ∧ CondP (decide (((e).f0) ≠ (3 : Int))) (Q (.int .i64 (4 : Int))) R2)) R2)) (((.u64 : IntKind) = .u64 ∧ CondP (decide (((e).f2) ≠ (0 : Int))) (((.i64 : IntKind) = .i64 ∧ CondP (decide (((e).f0) ≠ (3 : Int))) (Q (.int .i64 (4 : Int))) R2)) R2)))) ((.i64 : IntKind) = .i64 ∧ CondP (decide (((e).f1) ≠ (0 : Int))) (Q (.int .i64 (4 : Int))) (((.u64 : IntKind) = .u64 ∧ CondP (decide (((e).f2) ≠ (0 : Int))) (((.i64 : IntKind) = .i64 ∧ CondP (decide (((e).f0) ≠ (3 : Int))) (Q (.int .i64 (4 : Int))) R3)) R3)))) (CondP (decide ((e).f3 ≠ [])) (((.i64 : IntKind) = .i64 ∧ CondP (decide (((e).f0) = (1 : Int))) (((.i64 : IntKind) = .i64 ∧ CondP (decide (((e).f1) ≠ (0 : Int))) (((.i64 : IntKind) = .i64 ∧ CondP (decide (((e).f1) ≠ (1 : Int))) (Q (.int .i64 (6 : Int))) (R1))) (R1))) (R1))) (((.i64 : IntKind) = .i64 ∧ CondP (decide (((e).f0) = (1 : Int))) (((.i64 : IntKind) = .i64 ∧ CondP (decide (((e).f1) ≠ (0 : Int))) (((.i64 : IntKind) = .i64 ∧ CondP (decide (((e).f1) ≠ (1 : Int))) (Q (.int .i64 (6 : Int))) (R1))) (R1))) (R1))))) (CondP (decide ((e).f3 ≠ [])) (Q (.int .i64 (4 : Int))) (((.i64 : IntKind) = .i64 ∧ CondP (decide (((e).f0) = (1 : Int))) (((.i64 : IntKind) = .i64 ∧ CondP (decide (((e).f1) ≠ (0 : Int))) (((.i64 : IntKind) = .i64 ∧ CondP (decide (((e).f1) ≠ (1 : Int))) (Q (.int .i64 (6 : Int))) (R1))) (R1))) (R1))))) ((.i64 : IntKind) = .i64 ∧ CondP (decide (((e).f0) = (3 : Int))) (((0 ≤ ((e).f2) ∧ ((e).f2) < 18446744073709551616) ∧ CondP (V.beq (.int .u64 ((e).f2)) (.int .u64 ((e).f2)) && true) (((.u64 : IntKind) = .u64 ∧ CondP (decide ((canonI ((e).f2)) ≠ ((e).f2))) (Q (.int .i64 (4 : Int))) (R0))) False)) (R0))) ((.i64 : IntKind) = .i64 ∧ CondP (decide ((((len ((e).f3) : Nat) : Int)) > (64 : Int))) (Q (.int .i64 (2 : Int))) (((.i64 : IntKind) = .i64 ∧ CondP (decide (((e).f0) = (5 : Int))) ((((e).f3).length ≤ 64 ∧ CondP ((!(utfB ((e).f3).length ((e).f3)))) (Q (.int .i64 (7 : Int))) (Q (.int .i64 (0 : Int))))) (Q (.int .i64 (0 : Int))))))) := by kernel_rfl
def W153 [Env] (vs : List V) (σ : St) (k : VPost) : Prop :=
  match vs with
  | [.agg [.int .i64 a, .int .i64 b, .int .u64 c, .str s]] => (0 ≤ c ∧ c < 18446744073709551616) ∧ k (.int .i64 (valErr ⟨a, b, c, s⟩)) σ
  | _ => False
def kn17 [Env] (g : FuncId) (vs : List V) (σ : St) (k : VPost) : Prop :=
  match Nat.beq g 153 with
  | true => W153 vs σ k
  | false => kn16 g vs σ k
def live176 : Nat → List Nat := (fun i => match i with | 0 => [15, 16, 17] | _ => [])
theorem e176 [Env] (A : Nat → List SV → Prop) (Q : V → Prop) (s : List UInt8) : ws Tryz.prog (KF Tryz.prog kn17 0 Tryz.f176.ntmps (live176) A) 176 none 0 (Tryz.f176.body.getD .skip) (retS Tryz.prog Tryz.f176 (fun v _ => Q v)) (actOf Tryz.f176.ntmps [.str (s)]) Go.Ev.start =
    (CondP (decide (s = [])) (Q (.int .i64 (8 : Int))) (((.i64 : IntKind) = .i64 ∧ CondP (decide ((((len (s) : Nat) : Int)) > (16 : Int))) (Q (.int .i64 (8 : Int))) ((len (s) ≤ 1099511627776 ∧ (((len (s)) = (len (s)) ∧ 1 = 1) ∧ A 0 [.row (len (s)) (byteF (s)) 1, .val (.int .i64 (((len (s) : Nat) : Int))), .val (.int .i64 (0 : Int))])))))) := by kernel_rfl
theorem r176 [Env] (A : Nat → List SV → Prop) (Q : V → Prop) (s : List UInt8) (n i : Int) : ws Tryz.prog (KF Tryz.prog kn17 0 Tryz.f176.ntmps (live176) A) 176 none (Nat.add 0 1) (lp (Tryz.f176.body.getD .skip) 0) (seqQ (fun a σ => canonP 0 Tryz.f176.ntmps (live176 0) a σ (A 0)) (behind Tryz.prog (KF Tryz.prog kn17 0 Tryz.f176.ntmps (live176) A) 176 (Tryz.f176.body.getD .skip) 0 0 (retS Tryz.prog Tryz.f176 (fun v _ => Q v)))) (mkA Tryz.f176.ntmps (live176 0) [.row (len (s)) (byteF (s)) 1, .val (.int .i64 (n)), .val (.int .i64 (i))]) (mkS [.row (len (s)) (byteF (s)) 1, .val (.int .i64 (n)), .val (.int .i64 (i))]) =
    (((.i64 : IntKind) = .i64 ∧ CondP (decide ((i) < (n))) (((0 ≤ (i) ∧ (i) < ((len (s) : Nat) : Int)) ∧ ((i).toNat < len (s) ∧ ((.u8 : IntKind) = .u8 ∧ CondP (decide ((byteN (s) (i).toNat) ≥ (97 : Int))) (((.u8 : IntKind) = .u8 ∧ CondP (decide ((byteN (s) (i).toNat) ≤ (122 : Int))) (((.u8 : IntKind) = .u8 ∧ CondP (decide ((byteN (s) (i).toNat) ≥ (48 : Int))) (((.u8 : IntKind) = .u8 ∧ CondP (decide ((byteN (s) (i).toNat) ≤ (57 : Int))) ((((len (s)) = (len (s)) ∧ 1 = 1) ∧ A 0 [.row (len (s)) (byteF (s)) 1, .val (.int .i64 (n)), .val (.int .i64 (IntKind.i64.wrap ((i) + (1 : Int))))])) (((.u8 : IntKind) = .u8 ∧ CondP (decide ((byteN (s) (i).toNat) = (95 : Int))) ((((len (s)) = (len (s)) ∧ 1 = 1) ∧ A 0 [.row (len (s)) (byteF (s)) 1, .val (.int .i64 (n)), .val (.int .i64 (IntKind.i64.wrap ((i) + (1 : Int))))])) ((((len (s)) = (len (s)) ∧ 1 = 1) ∧ A 0 [.row (len (s)) (byteF (s)) 1, .val (.int .i64 (n)), .val (.int .i64 (IntKind.i64.wrap ((i) + (1 : Int))))])))))) (((.u8 : IntKind) = .u8 ∧ CondP (decide ((byteN (s) (i).toNat) = (95 : Int))) ((((len (s)) = (len (s)) ∧ 1 = 1) ∧ A 0 [.row (len (s)) (byteF (s)) 1, .val (.int .i64 (n)), .val (.int .i64 (IntKind.i64.wrap ((i) + (1 : Int))))])) ((((len (s)) = (len (s)) ∧ 1 = 1) ∧ A 0 [.row (len (s)) (byteF (s)) 1, .val (.int .i64 (n)), .val (.int .i64 (IntKind.i64.wrap ((i) + (1 : Int))))])))))) (((.u8 : IntKind) = .u8 ∧ CondP (decide ((byteN (s) (i).toNat) ≥ (48 : Int))) (((.u8 : IntKind) = .u8 ∧ CondP (decide ((byteN (s) (i).toNat) ≤ (57 : Int))) (((.i64 : IntKind) = .i64 ∧ CondP (decide ((i) = (0 : Int))) (Q (.int .i64 (8 : Int))) ((((len (s)) = (len (s)) ∧ 1 = 1) ∧ A 0 [.row (len (s)) (byteF (s)) 1, .val (.int .i64 (n)), .val (.int .i64 (IntKind.i64.wrap ((i) + (1 : Int))))])))) (((.u8 : IntKind) = .u8 ∧ CondP (decide ((byteN (s) (i).toNat) = (95 : Int))) (((.i64 : IntKind) = .i64 ∧ CondP (decide ((i) = (0 : Int))) (Q (.int .i64 (8 : Int))) ((((len (s)) = (len (s)) ∧ 1 = 1) ∧ A 0 [.row (len (s)) (byteF (s)) 1, .val (.int .i64 (n)), .val (.int .i64 (IntKind.i64.wrap ((i) + (1 : Int))))])))) (((.i64 : IntKind) = .i64 ∧ CondP (decide ((i) = (0 : Int))) (Q (.int .i64 (8 : Int))) (Q (.int .i64 (8 : Int))))))))) (((.u8 : IntKind) = .u8 ∧ CondP (decide ((byteN (s) (i).toNat) = (95 : Int))) (((.i64 : IntKind) = .i64 ∧ CondP (decide ((i) = (0 : Int))) (Q (.int .i64 (8 : Int))) ((((len (s)) = (len (s)) ∧ 1 = 1) ∧ A 0 [.row (len (s)) (byteF (s)) 1, .val (.int .i64 (n)), .val (.int .i64 (IntKind.i64.wrap ((i) + (1 : Int))))])))) (((.i64 : IntKind) = .i64 ∧ CondP (decide ((i) = (0 : Int))) (Q (.int .i64 (8 : Int))) (Q (.int .i64 (8 : Int))))))))))) (((.u8 : IntKind) = .u8 ∧ CondP (decide ((byteN (s) (i).toNat) ≥ (48 : Int))) (((.u8 : IntKind) = .u8 ∧ CondP (decide ((byteN (s) (i).toNat) ≤ (57 : Int))) (((.i64 : IntKind) = .i64 ∧ CondP (decide ((i) = (0 : Int))) (Q (.int .i64 (8 : Int))) ((((len (s)) = (len (s)) ∧ 1 = 1) ∧ A 0 [.row (len (s)) (byteF (s)) 1, .val (.int .i64 (n)), .val (.int .i64 (IntKind.i64.wrap ((i) + (1 : Int))))])))) (((.u8 : IntKind) = .u8 ∧ CondP (decide ((byteN (s) (i).toNat) = (95 : Int))) (((.i64 : IntKind) = .i64 ∧ CondP (decide ((i) = (0 : Int))) (Q (.int .i64 (8 : Int))) ((((len (s)) = (len (s)) ∧ 1 = 1) ∧ A 0 [.row (len (s)) (byteF (s)) 1, .val (.int .i64 (n)), .val (.int .i64 (IntKind.i64.wrap ((i) + (1 : Int))))])))) (((.i64 : IntKind) = .i64 ∧ CondP (decide ((i) = (0 : Int))) (Q (.int .i64 (8 : Int))) (Q (.int .i64 (8 : Int))))))))) (((.u8 : IntKind) = .u8 ∧ CondP (decide ((byteN (s) (i).toNat) = (95 : Int))) (((.i64 : IntKind) = .i64 ∧ CondP (decide ((i) = (0 : Int))) (Q (.int .i64 (8 : Int))) ((((len (s)) = (len (s)) ∧ 1 = 1) ∧ A 0 [.row (len (s)) (byteF (s)) 1, .val (.int .i64 (n)), .val (.int .i64 (IntKind.i64.wrap ((i) + (1 : Int))))])))) (((.i64 : IntKind) = .i64 ∧ CondP (decide ((i) = (0 : Int))) (Q (.int .i64 (8 : Int))) (Q (.int .i64 (8 : Int))))))))))))) (Q (.int .i64 (0 : Int))))) := by kernel_rfl
def W176 [Env] (vs : List V) (σ : St) (k : VPost) : Prop :=
  match vs with
  | [.str s] => k (.int .i64 (nameErr s)) σ
  | _ => False
def kn18 [Env] (g : FuncId) (vs : List V) (σ : St) (k : VPost) : Prop :=
  match Nat.beq g 176 with
  | true => W176 vs σ k
  | false => kn17 g vs σ k
def live152 : Nat → List Nat := (fun _ => [])
theorem e152 [Env] (A : Nat → List SV → Prop) (Q : V → Prop) (c : Int) : ws Tryz.prog (KF Tryz.prog kn18 0 Tryz.f152.ntmps (live152) A) 152 none 0 (Tryz.f152.body.getD .skip) (retS Tryz.prog Tryz.f152 (fun v _ => Q v)) (actOf Tryz.f152.ntmps [.int .u8 (c)]) Go.Ev.start =
    (((.u8 : IntKind) = .u8 ∧ CondP (decide ((c) ≥ (97 : Int))) (((.u8 : IntKind) = .u8 ∧ CondP (decide ((c) ≤ (122 : Int))) (Q (.bool true)) (Q (.bool false)))) (Q (.bool false)))) := by kernel_rfl
def W152 [Env] (vs : List V) (σ : St) (k : VPost) : Prop :=
  match vs with
  | [.int .u8 c] => k (.bool (letB c)) σ
  | _ => False
def kn19 [Env] (g : FuncId) (vs : List V) (σ : St) (k : VPost) : Prop :=
  match Nat.beq g 152 with
  | true => W152 vs σ k
  | false => kn18 g vs σ k
def live106 : Nat → List Nat := (fun i => match i with | 0 => [0, 3] | _ => [])
theorem e106 [Env] (A : Nat → List SV → Prop) (Q : V → Prop) (s : List UInt8) : ws Tryz.prog (KF Tryz.prog kn19 0 Tryz.f106.ntmps (live106) A) 106 none 0 (Tryz.f106.body.getD .skip) (retS Tryz.prog Tryz.f106 (fun v _ => Q v)) (actOf Tryz.f106.ntmps [.str (s)]) Go.Ev.start =
    (((.i64 : IntKind) = .i64 ∧ CondP (decide ((((len (s) : Nat) : Int)) < (1 : Int))) (Q (.int .i64 (8 : Int))) (((.i64 : IntKind) = .i64 ∧ CondP (decide ((((len (s) : Nat) : Int)) > (16 : Int))) (Q (.int .i64 (8 : Int))) (((0 ≤ (0 : Int) ∧ (0 : Int) < ((len (s) : Nat) : Int)) ∧ CondP ((!(letB (byteAt (s) (0 : Int))))) (Q (.int .i64 (8 : Int))) (A 0 [.val (.str (s)), .val (.int .i64 (1 : Int))]))))))) := by kernel_rfl
theorem r106 [Env] (A : Nat → List SV → Prop) (Q : V → Prop) (s : List UInt8) (i : Int) : ws Tryz.prog (KF Tryz.prog kn19 0 Tryz.f106.ntmps (live106) A) 106 none (Nat.add 0 1) (lp (Tryz.f106.body.getD .skip) 0) (seqQ (fun a σ => canonP 0 Tryz.f106.ntmps (live106 0) a σ (A 0)) (behind Tryz.prog (KF Tryz.prog kn19 0 Tryz.f106.ntmps (live106) A) 106 (Tryz.f106.body.getD .skip) 0 0 (retS Tryz.prog Tryz.f106 (fun v _ => Q v)))) (mkA Tryz.f106.ntmps (live106 0) [.val (.str (s)), .val (.int .i64 (i))]) (mkS [.val (.str (s)), .val (.int .i64 (i))]) =
    (((.i64 : IntKind) = .i64 ∧ CondP (decide ((i) < (((len (s) : Nat) : Int)))) (((0 ≤ (i) ∧ (i) < ((len (s) : Nat) : Int)) ∧ CondP ((!(letB (byteAt (s) (i)))) == true) (CondP ((!(letB (byteAt (s) (i)))) == true) (CondP ((!(letB (byteAt (s) (i)))) == true) (((0 ≤ (i) ∧ (i) < ((len (s) : Nat) : Int)) ∧ CondP ((!(letB (byteAt (s) (i)))) == true) (((.u8 : IntKind) = .u8 ∧ CondP (decide ((byteAt (s) (i)) ≠ (95 : Int))) (CondP (!(letB (byteAt (s) (i)))) (((0 ≤ (i) ∧ (i) < ((len (s) : Nat) : Int)) ∧ ((.u8 : IntKind) = .u8 ∧ CondP (decide ((byteAt (s) (i)) < (48 : Int))) (Q (.int .i64 (8 : Int))) (((0 ≤ (i) ∧ (i) < ((len (s) : Nat) : Int)) ∧ ((.u8 : IntKind) = .u8 ∧ CondP (decide ((byteAt (s) (i)) > (57 : Int))) (Q (.int .i64 (8 : Int))) (A 0 [.val (.str (s)), .val (.int .i64 (IntKind.i64.wrap ((i) + (1 : Int))))]))))))) (A 0 [.val (.str (s)), .val (.int .i64 (IntKind.i64.wrap ((i) + (1 : Int))))])) (CondP (!(letB (byteAt (s) (i)))) (A 0 [.val (.str (s)), .val (.int .i64 (IntKind.i64.wrap ((i) + (1 : Int))))]) (A 0 [.val (.str (s)), .val (.int .i64 (IntKind.i64.wrap ((i) + (1 : Int))))])))) (CondP (!(letB (byteAt (s) (i)))) (False) (A 0 [.val (.str (s)), .val (.int .i64 (IntKind.i64.wrap ((i) + (1 : Int))))])))) (CondP ((!(letB (byteAt (s) (i)))) == true) (False) (CondP (!(letB (byteAt (s) (i)))) (False) (A 0 [.val (.str (s)), .val (.int .i64 (IntKind.i64.wrap ((i) + (1 : Int))))])))) (CondP ((!(letB (byteAt (s) (i)))) == true) (False) (CondP ((!(letB (byteAt (s) (i)))) == true) (False) (CondP (!(letB (byteAt (s) (i)))) (False) (A 0 [.val (.str (s)), .val (.int .i64 (IntKind.i64.wrap ((i) + (1 : Int))))]))))) (CondP ((!(letB (byteAt (s) (i)))) == true) (CondP ((!(letB (byteAt (s) (i)))) == true) (False) (CondP ((!(letB (byteAt (s) (i)))) == true) (False) (CondP (!(letB (byteAt (s) (i)))) (False) (A 0 [.val (.str (s)), .val (.int .i64 (IntKind.i64.wrap ((i) + (1 : Int))))])))) (CondP ((!(letB (byteAt (s) (i)))) == true) (False) (CondP ((!(letB (byteAt (s) (i)))) == true) (False) (CondP (!(letB (byteAt (s) (i)))) (False) (A 0 [.val (.str (s)), .val (.int .i64 (IntKind.i64.wrap ((i) + (1 : Int))))]))))))) (Q (.int .i64 (0 : Int))))) := by kernel_rfl
def W106 [Env] (vs : List V) (σ : St) (k : VPost) : Prop :=
  match vs with
  | [.str s] => k (.int .i64 (nameErr s)) σ
  | _ => False
def kn20 [Env] (g : FuncId) (vs : List V) (σ : St) (k : VPost) : Prop :=
  match Nat.beq g 106 with
  | true => W106 vs σ k
  | false => kn19 g vs σ k
def live222 : Nat → List Nat := (fun i => match i with | 0 => [0, 5, 8, 9, 10] | _ => [])
theorem e222 [Env] (A : Nat → List SV → Prop) (Q : V → Prop) (s : List UInt8) (n : Nat) (h : Nat → List UInt8) : ws Tryz.prog (KF Tryz.prog kn20 0 Tryz.f222.ntmps (live222) A) 222 none 0 (Tryz.f222.body.getD .skip) (retS Tryz.prog Tryz.f222 (fun v _ => Q v)) (actOf Tryz.f222.ntmps [.str (s), V.arr (n) (fun i => V.str (h i)) 1 false false]) Go.Ev.start =
    (A 0 [.val (.str (s)), .val (.int .i64 (0 : Int)), .val (V.arr (n) (fun i => V.str (h i)) 1 false false), .val (.int .i64 (((n : Nat) : Int))), .val (.int .i64 (0 : Int))]) := by kernel_rfl
theorem r222 [Env] (A : Nat → List SV → Prop) (Q : V → Prop) (s : List UInt8) (n : Nat) (h : Nat → List UInt8) (c m i : Int) : ws Tryz.prog (KF Tryz.prog kn20 0 Tryz.f222.ntmps (live222) A) 222 none (Nat.add 0 1) (lp (Tryz.f222.body.getD .skip) 0) (seqQ (fun a σ => canonP 0 Tryz.f222.ntmps (live222 0) a σ (A 0)) (behind Tryz.prog (KF Tryz.prog kn20 0 Tryz.f222.ntmps (live222) A) 222 (Tryz.f222.body.getD .skip) 0 0 (retS Tryz.prog Tryz.f222 (fun v _ => Q v)))) (mkA Tryz.f222.ntmps (live222 0) [.val (.str (s)), .val (.int .i64 (c)), .val (V.arr (n) (fun i => V.str (h i)) 1 false false), .val (.int .i64 (m)), .val (.int .i64 (i))]) (mkS [.val (.str (s)), .val (.int .i64 (c)), .val (V.arr (n) (fun i => V.str (h i)) 1 false false), .val (.int .i64 (m)), .val (.int .i64 (i))]) =
    (((.i64 : IntKind) = .i64 ∧ CondP (decide ((i) < (m))) (((0 ≤ (i) ∧ (i) < ((n : Nat) : Int)) ∧ CondP (decide ((h (i).toNat) = s)) (A 0 [.val (.str (s)), .val (.int .i64 (IntKind.i64.wrap ((c) + (1 : Int)))), .val (V.arr (n) (fun i => V.str (h i)) 1 false false), .val (.int .i64 (m)), .val (.int .i64 (IntKind.i64.wrap ((i) + (1 : Int))))]) (A 0 [.val (.str (s)), .val (.int .i64 (c)), .val (V.arr (n) (fun i => V.str (h i)) 1 false false), .val (.int .i64 (m)), .val (.int .i64 (IntKind.i64.wrap ((i) + (1 : Int))))]))) (Q (.int .i64 (c))))) := by kernel_rfl
def W222 [Env] (vs : List V) (σ : St) (k : VPost) : Prop :=
  match vs with
  | [.str s, .arr n f 1 false false] => ∃ q : Nat → List UInt8, f = (fun i => V.str (q i)) ∧ n ≤ 1000000 ∧ k (.int .i64 (cntN s q n)) σ
  | _ => False
def kn21 [Env] (g : FuncId) (vs : List V) (σ : St) (k : VPost) : Prop :=
  match Nat.beq g 222 with
  | true => W222 vs σ k
  | false => kn20 g vs σ k
def live178 : Nat → List Nat := (fun i => match i with | 0 => [0, 5, 6, 7] | _ => [])
theorem e178 [Env] (A : Nat → List SV → Prop) (Q : V → Prop) (n : Nat) (h : Nat → List UInt8) : ws Tryz.prog (KF Tryz.prog kn21 0 Tryz.f178.ntmps (live178) A) 178 none 0 (Tryz.f178.body.getD .skip) (retS Tryz.prog Tryz.f178 (fun v _ => Q v)) (actOf Tryz.f178.ntmps [V.arr (n) (fun i => V.str (h i)) 1 false false]) Go.Ev.start =
    (A 0 [.val (V.arr (n) (fun i => V.str (h i)) 1 false false), .val (V.arr (n) (fun i => V.str (h i)) 1 false false), .val (.int .i64 (((n : Nat) : Int))), .val (.int .i64 (0 : Int))]) := by kernel_rfl
theorem r178 [Env] (A : Nat → List SV → Prop) (Q : V → Prop) (n : Nat) (h : Nat → List UInt8) (m i : Int) : ws Tryz.prog (KF Tryz.prog kn21 0 Tryz.f178.ntmps (live178) A) 178 none (Nat.add 0 1) (lp (Tryz.f178.body.getD .skip) 0) (seqQ (fun a σ => canonP 0 Tryz.f178.ntmps (live178 0) a σ (A 0)) (behind Tryz.prog (KF Tryz.prog kn21 0 Tryz.f178.ntmps (live178) A) 178 (Tryz.f178.body.getD .skip) 0 0 (retS Tryz.prog Tryz.f178 (fun v _ => Q v)))) (mkA Tryz.f178.ntmps (live178 0) [.val (V.arr (n) (fun i => V.str (h i)) 1 false false), .val (V.arr (n) (fun i => V.str (h i)) 1 false false), .val (.int .i64 (m)), .val (.int .i64 (i))]) (mkS [.val (V.arr (n) (fun i => V.str (h i)) 1 false false), .val (V.arr (n) (fun i => V.str (h i)) 1 false false), .val (.int .i64 (m)), .val (.int .i64 (i))]) =
    (((.i64 : IntKind) = .i64 ∧ CondP (decide ((i) < (m))) (((0 ≤ (i) ∧ (i) < ((n : Nat) : Int)) ∧ (∃ q : Nat → List UInt8, (fun i => V.str (h i)) = (fun i => V.str (q i)) ∧ n ≤ 1000000 ∧ ((.i64 : IntKind) = .i64 ∧ CondP (decide ((cntN ((h (i).toNat)) q (n)) > (1 : Int))) (Q (.bool false)) (A 0 [.val (V.arr (n) (fun i => V.str (h i)) 1 false false), .val (V.arr (n) (fun i => V.str (h i)) 1 false false), .val (.int .i64 (m)), .val (.int .i64 (IntKind.i64.wrap ((i) + (1 : Int))))]))))) (Q (.bool true)))) := by kernel_rfl
def W178 [Env] (vs : List V) (σ : St) (k : VPost) : Prop :=
  match vs with
  | [.arr n f 1 false false] => ∃ q : Nat → List UInt8, f = (fun i => V.str (q i)) ∧ n ≤ 1000000 ∧ k (.bool (uniqB q n)) σ
  | _ => False
def kn22 [Env] (g : FuncId) (vs : List V) (σ : St) (k : VPost) : Prop :=
  match Nat.beq g 178 with
  | true => W178 vs σ k
  | false => kn21 g vs σ k
def live42 : Nat → List Nat := (fun i => match i with | 0 => [0, 1, 5] | _ => [])
theorem e42 [Env] (A : Nat → List SV → Prop) (Q : V → Prop) (n : Nat) (h : Nat → List UInt8) (s : List UInt8) : ws Tryz.prog (KF Tryz.prog kn22 0 Tryz.f42.ntmps (live42) A) 42 none 0 (Tryz.f42.body.getD .skip) (retS Tryz.prog Tryz.f42 (fun v _ => Q v)) (actOf Tryz.f42.ntmps [V.arr (n) (fun i => V.str (h i)) 1 false false, .str (s)]) Go.Ev.start =
    (A 0 [.val (V.arr (n) (fun i => V.str (h i)) 1 false false), .val (.str (s)), .val (.int .i64 (0 : Int))]) := by kernel_rfl
theorem r42 [Env] (A : Nat → List SV → Prop) (Q : V → Prop) (n : Nat) (h : Nat → List UInt8) (s : List UInt8) (i : Int) : ws Tryz.prog (KF Tryz.prog kn22 0 Tryz.f42.ntmps (live42) A) 42 none (Nat.add 0 1) (lp (Tryz.f42.body.getD .skip) 0) (seqQ (fun a σ => canonP 0 Tryz.f42.ntmps (live42 0) a σ (A 0)) (behind Tryz.prog (KF Tryz.prog kn22 0 Tryz.f42.ntmps (live42) A) 42 (Tryz.f42.body.getD .skip) 0 0 (retS Tryz.prog Tryz.f42 (fun v _ => Q v)))) (mkA Tryz.f42.ntmps (live42 0) [.val (V.arr (n) (fun i => V.str (h i)) 1 false false), .val (.str (s)), .val (.int .i64 (i))]) (mkS [.val (V.arr (n) (fun i => V.str (h i)) 1 false false), .val (.str (s)), .val (.int .i64 (i))]) =
    (((.i64 : IntKind) = .i64 ∧ CondP (decide ((i) < (((n : Nat) : Int)))) (((0 ≤ (i) ∧ (i) < ((n : Nat) : Int)) ∧ CondP (decide ((h (i).toNat) = s)) (Q (.int .i64 (i))) (A 0 [.val (V.arr (n) (fun i => V.str (h i)) 1 false false), .val (.str (s)), .val (.int .i64 (IntKind.i64.wrap ((i) + (1 : Int))))]))) (Q (.int .i64 (-1 : Int))))) := by kernel_rfl
def W42 [Env] (vs : List V) (σ : St) (k : VPost) : Prop :=
  match vs with
  | [.arr n f 1 false false, .str s] => ∃ q : Nat → List UInt8, f = (fun i => V.str (q i)) ∧ n ≤ 1000000 ∧ k (.int .i64 (findN s q n)) σ
  | _ => False
def kn23 [Env] (g : FuncId) (vs : List V) (σ : St) (k : VPost) : Prop :=
  match Nat.beq g 42 with
  | true => W42 vs σ k
  | false => kn22 g vs σ k
def live108 : Nat → List Nat := (fun i => match i with | 0 => [0, 3] | _ => [])
theorem e108 [Env] (A : Nat → List SV → Prop) (Q : V → Prop) (n : Nat) (h : Nat → List UInt8) : ws Tryz.prog (KF Tryz.prog kn23 0 Tryz.f108.ntmps (live108) A) 108 none 0 (Tryz.f108.body.getD .skip) (retS Tryz.prog Tryz.f108 (fun v _ => Q v)) (actOf Tryz.f108.ntmps [V.arr (n) (fun i => V.str (h i)) 1 false false]) Go.Ev.start =
    (A 0 [.val (V.arr (n) (fun i => V.str (h i)) 1 false false), .val (.int .i64 (0 : Int))]) := by kernel_rfl
theorem r108 [Env] (A : Nat → List SV → Prop) (Q : V → Prop) (n : Nat) (h : Nat → List UInt8) (i : Int) : ws Tryz.prog (KF Tryz.prog kn23 0 Tryz.f108.ntmps (live108) A) 108 none (Nat.add 0 1) (lp (Tryz.f108.body.getD .skip) 0) (seqQ (fun a σ => canonP 0 Tryz.f108.ntmps (live108 0) a σ (A 0)) (behind Tryz.prog (KF Tryz.prog kn23 0 Tryz.f108.ntmps (live108) A) 108 (Tryz.f108.body.getD .skip) 0 0 (retS Tryz.prog Tryz.f108 (fun v _ => Q v)))) (mkA Tryz.f108.ntmps (live108 0) [.val (V.arr (n) (fun i => V.str (h i)) 1 false false), .val (.int .i64 (i))]) (mkS [.val (V.arr (n) (fun i => V.str (h i)) 1 false false), .val (.int .i64 (i))]) =
    (((.i64 : IntKind) = .i64 ∧ CondP (decide ((i) < (((n : Nat) : Int)))) (((0 ≤ (i) ∧ (i) < ((n : Nat) : Int)) ∧ (∃ q : Nat → List UInt8, (fun i => V.str (h i)) = (fun i => V.str (q i)) ∧ n ≤ 1000000 ∧ ((.i64 : IntKind) = .i64 ∧ CondP (decide ((findN ((h (i).toNat)) q (n)) ≠ (i))) (Q (.bool false)) (A 0 [.val (V.arr (n) (fun i => V.str (h i)) 1 false false), .val (.int .i64 (IntKind.i64.wrap ((i) + (1 : Int))))]))))) (Q (.bool true)))) := by kernel_rfl
def W108 [Env] (vs : List V) (σ : St) (k : VPost) : Prop :=
  match vs with
  | [.arr n f 1 false false] => ∃ q : Nat → List UInt8, f = (fun i => V.str (q i)) ∧ n ≤ 1000000 ∧ k (.bool (uniqB q n)) σ
  | _ => False
def kn24 [Env] (g : FuncId) (vs : List V) (σ : St) (k : VPost) : Prop :=
  match Nat.beq g 108 with
  | true => W108 vs σ k
  | false => kn23 g vs σ k
end Go.Proofs.YtbajncpfmemdgaaGreatDoor
namespace Go.Proofs.YtbajncpfmemdgaaGreatDoor
open Go Go.Ev
def live179 : Nat → List Nat := (fun i => match i with | 0 => [3, 9, 10, 11] | _ => [])
theorem e179 [Env] (A : Nat → List SV → Prop) (Q : V → St → Prop) (n : Nat) (g : Nat → T48) : ws Tryz.prog (KF Tryz.prog kn24 0 Tryz.f179.ntmps (live179) A) 179 none 0 (Tryz.f179.body.getD .skip) (retS Tryz.prog Tryz.f179 (Q)) (actOf Tryz.f179.ntmps [V.arr (n) (fun i => T48.enc (g i)) 7 false false]) Go.Ev.start =
    (((0 ≤ (((n : Nat) : Int)) ∧ (((n : Nat) : Int)) ≤ (((n : Nat) : Int)) ∧ (((n : Nat) : Int)).toNat * 16 ≤ 1099511627776 ∧ (((n : Nat) : Int)) ≤ 1099511627776) ∧ (((((n : Nat) : Int)).toNat ≤ (((n : Nat) : Int)).toNat ∧ (((n : Nat) : Int)).toNat * 1 = (((n : Nat) : Int)).toNat * 1) ∧ A 0 [.row ((((n : Nat) : Int)).toNat) (fun _ => .agg [.str ([])]) 1, .val (V.arr (n) (fun i => T48.enc (g i)) 7 false false), .val (.int .i64 (((n : Nat) : Int))), .val (.int .i64 (0 : Int))]))) := by kernel_rfl
theorem r179 [Env] (A : Nat → List SV → Prop) (Q : V → St → Prop) (n : Nat) (g : Nat → T48) (f : Nat → V) (m i : Int) : ws Tryz.prog (KF Tryz.prog kn24 0 Tryz.f179.ntmps (live179) A) 179 none (Nat.add 0 1) (lp (Tryz.f179.body.getD .skip) 0) (seqQ (fun a σ => canonP 0 Tryz.f179.ntmps (live179 0) a σ (A 0)) (behind Tryz.prog (KF Tryz.prog kn24 0 Tryz.f179.ntmps (live179) A) 179 (Tryz.f179.body.getD .skip) 0 0 (retS Tryz.prog Tryz.f179 (Q)))) (mkA Tryz.f179.ntmps (live179 0) [.row (n) f 1, .val (V.arr (n) (fun i => T48.enc (g i)) 7 false false), .val (.int .i64 (m)), .val (.int .i64 (i))]) (mkS [.row (n) f 1, .val (V.arr (n) (fun i => T48.enc (g i)) 7 false false), .val (.int .i64 (m)), .val (.int .i64 (i))]) =
    (((.i64 : IntKind) = .i64 ∧ CondP (decide ((i) < (m))) (((0 ≤ (i) ∧ (i) < ((n : Nat) : Int)) ∧ ((0 ≤ (i) ∧ (i) < ((n : Nat) : Int)) ∧ ((i).toNat < n ∧ (((n) = (n) ∧ 1 = 1) ∧ A 0 [.row (n) (updF f (i).toNat (.str ((g (i).toNat).f0))) 1, .val (V.arr (n) (fun i => T48.enc (g i)) 7 false false), .val (.int .i64 (m)), .val (.int .i64 (IntKind.i64.wrap ((i) + (1 : Int))))]))))) (Q (.own 0 (n) 1) ⟨(St.new Go.Ev.start 0 (.row (n) f 1 false)).heap, 1⟩))) := by kernel_rfl
def W179 [Env] (vs : List V) (σ : St) (k : VPost) : Prop :=
  match vs with
  | [.arr n f 7 false false] => ∃ q : Nat → T48, f = (fun i => T48.enc (q i)) ∧ n ≤ 1000 ∧ k (.arr n (fun i => V.str (q i).f0) 1 false false) σ
  | _ => False
def kn25 [Env] (g : FuncId) (vs : List V) (σ : St) (k : VPost) : Prop :=
  match Nat.beq g 179 with
  | true => W179 vs σ k
  | false => kn24 g vs σ k
def live109 : Nat → List Nat := (fun i => match i with | 0 => [0, 3, 4] | _ => [])
theorem e109 [Env] (A : Nat → List SV → Prop) (Q : V → St → Prop) (n : Nat) (g : Nat → T48) : ws Tryz.prog (KF Tryz.prog kn25 0 Tryz.f109.ntmps (live109) A) 109 none 0 (Tryz.f109.body.getD .skip) (retS Tryz.prog Tryz.f109 (Q)) (actOf Tryz.f109.ntmps [V.arr (n) (fun i => T48.enc (g i)) 7 false false]) Go.Ev.start =
    (A 0 [.val (V.arr (n) (fun i => T48.enc (g i)) 7 false false), .val (.nilslice), .val (.int .i64 (0 : Int))]) := by kernel_rfl
theorem r109n [Env] (A : Nat → List SV → Prop) (Q : V → St → Prop) (n : Nat) (g : Nat → T48) (i : Int) : ws Tryz.prog (KF Tryz.prog kn25 0 Tryz.f109.ntmps (live109) A) 109 none (Nat.add 0 1) (lp (Tryz.f109.body.getD .skip) 0) (seqQ (fun a σ => canonP 0 Tryz.f109.ntmps (live109 0) a σ (A 0)) (behind Tryz.prog (KF Tryz.prog kn25 0 Tryz.f109.ntmps (live109) A) 109 (Tryz.f109.body.getD .skip) 0 0 (retS Tryz.prog Tryz.f109 (Q)))) (mkA Tryz.f109.ntmps (live109 0) [.val (V.arr (n) (fun i => T48.enc (g i)) 7 false false), .val (.nilslice), .val (.int .i64 (i))]) (mkS [.val (V.arr (n) (fun i => T48.enc (g i)) 7 false false), .val (.nilslice), .val (.int .i64 (i))]) =
    (((.i64 : IntKind) = .i64 ∧ CondP (decide ((i) < (((n : Nat) : Int)))) (((0 ≤ (i) ∧ (i) < ((n : Nat) : Int)) ∧ (((1 : Nat) = 1 ∧ (1 : Nat) = 1 ∧ 1 * 1 = 1 * 1) ∧ A 0 [.val (V.arr (n) (fun i => T48.enc (g i)) 7 false false), .row 1 (fun _ => .agg [.str ((g (i).toNat).f0)]) 1, .val (.int .i64 (IntKind.i64.wrap ((i) + (1 : Int))))]))) (Q (.nilslice) ⟨Go.Ev.start.heap, 0⟩))) := by kernel_rfl
theorem r109o [Env] (A : Nat → List SV → Prop) (Q : V → St → Prop) (n : Nat) (g : Nat → T48) (m : Nat) (f : Nat → V) (i : Int) : ws Tryz.prog (KF Tryz.prog kn25 0 Tryz.f109.ntmps (live109) A) 109 none (Nat.add 0 1) (lp (Tryz.f109.body.getD .skip) 0) (seqQ (fun a σ => canonP 0 Tryz.f109.ntmps (live109 0) a σ (A 0)) (behind Tryz.prog (KF Tryz.prog kn25 0 Tryz.f109.ntmps (live109) A) 109 (Tryz.f109.body.getD .skip) 0 0 (retS Tryz.prog Tryz.f109 (Q)))) (mkA Tryz.f109.ntmps (live109 0) [.val (V.arr (n) (fun i => T48.enc (g i)) 7 false false), .row (m) f 1, .val (.int .i64 (i))]) (mkS [.val (V.arr (n) (fun i => T48.enc (g i)) 7 false false), .row (m) f 1, .val (.int .i64 (i))]) =
    (((.i64 : IntKind) = .i64 ∧ CondP (decide ((i) < (((n : Nat) : Int)))) (((0 ≤ (i) ∧ (i) < ((n : Nat) : Int)) ∧ (((m) = (m) ∧ ((m) + 1) * 16 ≤ 1099511627776) ∧ ((((m) + 1) = ((m) + 1) ∧ 1 = 1) ∧ A 0 [.val (V.arr (n) (fun i => T48.enc (g i)) 7 false false), .row ((m) + 1) (catF (m) f (fun _ => .agg [.str ((g (i).toNat).f0)])) 1, .val (.int .i64 (IntKind.i64.wrap ((i) + (1 : Int))))])))) (Q (.own 0 (m) 1) ⟨(St.new Go.Ev.start 0 (.row (m) f 1 false)).heap, 1⟩))) := by kernel_rfl
def W109 [Env] (vs : List V) (σ : St) (k : VPost) : Prop :=
  match vs with
  | [.arr n f 7 false false] => ∃ q : Nat → T48, f = (fun i => T48.enc (q i)) ∧ n ≤ 1000 ∧ k (.arr n (fun i => V.str (q i).f0) 1 false false) σ
  | _ => False
def kn26 [Env] (g : FuncId) (vs : List V) (σ : St) (k : VPost) : Prop :=
  match Nat.beq g 109 with
  | true => W109 vs σ k
  | false => kn25 g vs σ k
def live181 : Nat → List Nat := (fun _ => [])
theorem e181 [Env] (A : Nat → List SV → Prop) (Q : V → Prop) (e : T48) : ws Tryz.prog (KF Tryz.prog kn26 0 Tryz.f181.ntmps (live181) A) 181 none 0 (Tryz.f181.body.getD .skip) (retS Tryz.prog Tryz.f181 (fun v _ => Q v)) (actOf Tryz.f181.ntmps [T48.enc (e)]) Go.Ev.start =
    (Q (.bool (e).f2)) := by kernel_rfl
def W181 [Env] (vs : List V) (σ : St) (k : VPost) : Prop :=
  (∃ e : T48, vs = [T48.enc e]) ∧ match vs with
  | [.agg [_, _, .bool b, _, _, _, _]] => k (.bool b) σ
  | _ => False
def kn27 [Env] (g : FuncId) (vs : List V) (σ : St) (k : VPost) : Prop :=
  match Nat.beq g 181 with
  | true => W181 vs σ k
  | false => kn26 g vs σ k
def live223 : Nat → List Nat := (fun i => match i with | 0 => [0, 1, 7, 8] | _ => [])
theorem e223 [Env] (A : Nat → List SV → Prop) (Q : V → Prop) (n : Nat) (g : Nat → T48) : ws Tryz.prog (KF Tryz.prog kn27 0 Tryz.f223.ntmps (live223) A) 223 none 0 (Tryz.f223.body.getD .skip) (retS Tryz.prog Tryz.f223 (fun v _ => Q v)) (actOf Tryz.f223.ntmps [V.arr (n) (fun i => T48.enc (g i)) 7 false false, .func (.func 181) [] []]) Go.Ev.start =
    (A 0 [.val (V.arr (n) (fun i => T48.enc (g i)) 7 false false), .val (.func (.func 181) [] []), .val (.int .i64 (((n : Nat) : Int))), .val (.int .i64 (0 : Int))]) := by kernel_rfl
theorem r223 [Env] (A : Nat → List SV → Prop) (Q : V → Prop) (n : Nat) (g : Nat → T48) (m i : Int) : ws Tryz.prog (KF Tryz.prog kn27 0 Tryz.f223.ntmps (live223) A) 223 none (Nat.add 0 1) (lp (Tryz.f223.body.getD .skip) 0) (seqQ (fun a σ => canonP 0 Tryz.f223.ntmps (live223 0) a σ (A 0)) (behind Tryz.prog (KF Tryz.prog kn27 0 Tryz.f223.ntmps (live223) A) 223 (Tryz.f223.body.getD .skip) 0 0 (retS Tryz.prog Tryz.f223 (fun v _ => Q v)))) (mkA Tryz.f223.ntmps (live223 0) [.val (V.arr (n) (fun i => T48.enc (g i)) 7 false false), .val (.func (.func 181) [] []), .val (.int .i64 (m)), .val (.int .i64 (i))]) (mkS [.val (V.arr (n) (fun i => T48.enc (g i)) 7 false false), .val (.func (.func 181) [] []), .val (.int .i64 (m)), .val (.int .i64 (i))]) =
    (((.i64 : IntKind) = .i64 ∧ CondP (decide ((i) < (m))) (((0 ≤ (i) ∧ (i) < ((n : Nat) : Int)) ∧ ((∃ q : T48, [T48.enc (g (i).toNat)] = [T48.enc q]) ∧ CondP ((g (i).toNat).f2) (Q (.int .i64 (i))) (A 0 [.val (V.arr (n) (fun i => T48.enc (g i)) 7 false false), .val (.func (.func 181) [] []), .val (.int .i64 (m)), .val (.int .i64 (IntKind.i64.wrap ((i) + (1 : Int))))])))) (Q (.int .i64 (-1 : Int))))) := by kernel_rfl
def W223 [Env] (vs : List V) (σ : St) (k : VPost) : Prop :=
  match vs with
  | [.arr n f 7 false false, .func (.func 181) [] []] => ∃ q : Nat → T48, f = (fun i => T48.enc (q i)) ∧ n ≤ 1000 ∧ ∀ c : Int, (0 ≤ c ↔ anyNull q n = true) → k (.int .i64 c) σ
  | _ => False
def kn28 [Env] (g : FuncId) (vs : List V) (σ : St) (k : VPost) : Prop :=
  match Nat.beq g 223 with
  | true => W223 vs σ k
  | false => kn27 g vs σ k
def live180 : Nat → List Nat := (fun _ => [])
theorem e180 [Env] (A : Nat → List SV → Prop) (Q : V → Prop) (n : Nat) (g : Nat → T48) : ws Tryz.prog (KF Tryz.prog kn28 0 Tryz.f180.ntmps (live180) A) 180 none 0 (Tryz.f180.body.getD .skip) (retS Tryz.prog Tryz.f180 (fun v _ => Q v)) (actOf Tryz.f180.ntmps [V.arr (n) (fun i => T48.enc (g i)) 7 false false, .func (.func 181) [] []]) Go.Ev.start =
    ((∃ q : Nat → T48, (fun i => T48.enc (g i)) = (fun i => T48.enc (q i)) ∧ n ≤ 1000 ∧ ∀ c : Int, (0 ≤ c ↔ anyNull q (n) = true) → ((.i64 : IntKind) = .i64 ∧ CondP (decide ((c) ≥ (0 : Int))) (Q (.bool true)) (Q (.bool false))))) := by kernel_rfl
def W180 [Env] (vs : List V) (σ : St) (k : VPost) : Prop :=
  match vs with
  | [.arr n f 7 false false, .func (.func 181) [] []] => ∃ q : Nat → T48, f = (fun i => T48.enc (q i)) ∧ n ≤ 1000 ∧ k (.bool (anyNull q n)) σ
  | _ => False
def kn29 [Env] (g : FuncId) (vs : List V) (σ : St) (k : VPost) : Prop :=
  match Nat.beq g 180 with
  | true => W180 vs σ k
  | false => kn28 g vs σ k
def live177 : Nat → List Nat := (fun _ => [])
theorem e177 [Env] (A : Nat → List SV → Prop) (Q : V → Prop) (e : T48) : ws Tryz.prog (KF Tryz.prog kn29 0 Tryz.f177.ntmps (live177) A) 177 none 0 (Tryz.f177.body.getD .skip) (retS Tryz.prog Tryz.f177 (fun v _ => Q v)) (actOf Tryz.f177.ntmps [T48.enc (e)]) Go.Ev.start =
    (((.i64 : IntKind) = .i64 ∧ CondP (decide ((nameErr ((e).f0)) ≠ (0 : Int))) (Q (.iface 216 (.agg [.int .i64 (nameErr ((e).f0))]))) (((.i64 : IntKind) = .i64 ∧ CondP (decide (((e).f1) < (1 : Int))) (Q (.iface 216 (.agg [.int .i64 (5 : Int)]))) (((.i64 : IntKind) = .i64 ∧ CondP (decide (((e).f1) > (5 : Int))) (Q (.iface 216 (.agg [.int .i64 (5 : Int)]))) (((0 ≤ ((e).f3.f2) ∧ ((e).f3.f2) < 18446744073709551616) ∧ ((.i64 : IntKind) = .i64 ∧ CondP (decide ((valErr ⟨((e).f3.f0), ((e).f3.f1), ((e).f3.f2), (e).f3.f3⟩) ≠ (0 : Int))) (Q (.iface 216 (.agg [.int .i64 (valErr ⟨((e).f3.f0), ((e).f3.f1), ((e).f3.f2), (e).f3.f3⟩)]))) (((.i64 : IntKind) = .i64 ∧ CondP (decide (((e).f3.f0) ≠ (0 : Int))) (((.i64 : IntKind) = .i64 ∧ CondP (decide (((e).f3.f0) ≠ ((e).f1))) (Q (.iface 216 (.agg [.int .i64 (11 : Int)]))) (Q (.niliface)))) (Q (.niliface))))))))))))) := by kernel_rfl
def W177 [Env] (vs : List V) (σ : St) (k : VPost) : Prop :=
  ∃ e : T48, vs = [T48.enc e] ∧ ok48 e ∧ (colErr e = 0 → k .niliface σ) ∧ (colErr e ≠ 0 → k (.iface 216 (.agg [.int .i64 (colErr e)])) σ)
def kn30 [Env] (g : FuncId) (vs : List V) (σ : St) (k : VPost) : Prop :=
  match Nat.beq g 177 with
  | true => W177 vs σ k
  | false => kn29 g vs σ k
def live107 : Nat → List Nat := (fun _ => [])
theorem e107 [Env] (A : Nat → List SV → Prop) (Q : V → Prop) (e : T48) : ws Tryz.prog (KF Tryz.prog kn30 0 Tryz.f107.ntmps (live107) A) 107 none 0 (Tryz.f107.body.getD .skip) (retS Tryz.prog Tryz.f107 (fun v _ => Q v)) (actOf Tryz.f107.ntmps [T48.enc (e)]) Go.Ev.start =
    (((.i64 : IntKind) = .i64 ∧ CondP (decide ((nameErr ((e).f0)) ≠ (0 : Int))) (Q (.int .i64 (nameErr ((e).f0)))) (((.i64 : IntKind) = .i64 ∧ CondP (decide (((e).f1) < (1 : Int))) (Q (.int .i64 (5 : Int))) (((.i64 : IntKind) = .i64 ∧ CondP (decide (((e).f1) > (5 : Int))) (Q (.int .i64 (5 : Int))) (((0 ≤ ((e).f3.f2) ∧ ((e).f3.f2) < 18446744073709551616) ∧ ((.i64 : IntKind) = .i64 ∧ CondP (decide ((valErr ⟨((e).f3.f0), ((e).f3.f1), ((e).f3.f2), (e).f3.f3⟩) ≠ (0 : Int))) (Q (.int .i64 (valErr ⟨((e).f3.f0), ((e).f3.f1), ((e).f3.f2), (e).f3.f3⟩))) (((.i64 : IntKind) = .i64 ∧ CondP (decide (((e).f3.f0) ≠ (0 : Int))) (((.i64 : IntKind) = .i64 ∧ CondP (decide (((e).f3.f0) ≠ ((e).f1))) (Q (.int .i64 (11 : Int))) (Q (.int .i64 (0 : Int))))) (Q (.int .i64 (0 : Int)))))))))))))) := by kernel_rfl
def W107 [Env] (vs : List V) (σ : St) (k : VPost) : Prop :=
  ∃ e : T48, vs = [T48.enc e] ∧ ok48 e ∧ k (.int .i64 (colErr e)) σ
def kn31 [Env] (g : FuncId) (vs : List V) (σ : St) (k : VPost) : Prop :=
  match Nat.beq g 107 with
  | true => W107 vs σ k
  | false => kn30 g vs σ k
def live134 : Nat → List Nat := (fun i => match i with | 0 => [1, 42, 43, 44] | _ => [])
theorem e134 [Env] (A : Nat → List SV → Prop) (Q : V → Prop) (e : T51) : ws Tryz.prog (KF Tryz.prog kn31 0 Tryz.f134.ntmps (live134) A) 134 none 0 (Tryz.f134.body.getD .skip) (retS Tryz.prog Tryz.f134 (fun v _ => Q v)) (actOf Tryz.f134.ntmps [T51.enc (e)]) Go.Ev.start =
    (((.i64 : IntKind) = .i64 ∧ CondP (decide ((nameErr ((e).f0)) ≠ (0 : Int))) (Q (.iface 216 (.agg [.int .i64 (nameErr ((e).f0))]))) (((.i64 : IntKind) = .i64 ∧ CondP (decide ((((((e).f2).length : Nat) : Int)) < (1 : Int))) (Q (.iface 216 (.agg [.int .i64 (2 : Int)]))) (((.i64 : IntKind) = .i64 ∧ CondP (decide ((((((e).f2).length : Nat) : Int)) > (8 : Int))) (Q (.iface 216 (.agg [.int .i64 (2 : Int)]))) (((.i64 : IntKind) = .i64 ∧ CondP (decide (((e).f1) < (1 : Int))) (Q (.iface 216 (.agg [.int .i64 (1 : Int)]))) (((.i64 : IntKind) = .i64 ∧ CondP (decide (((e).f1) > ((if (((((e).f2).length : Nat) : Int)) < (3 : Int) then (((((e).f2).length : Nat) : Int)) else (3 : Int))))) (Q (.iface 216 (.agg [.int .i64 (1 : Int)]))) (A 0 [.box [.str ((e).f0), .int .i64 ((e).f1), arrOf T48.enc 7 ((e).f2)], .val (arrOf T48.enc 7 ((e).f2)), .val (.int .i64 (((((e).f2).length : Nat) : Int))), .val (.int .i64 (0 : Int))]))))))))))) := by kernel_rfl
theorem r134 [Env] (A : Nat → List SV → Prop) (Q : V → Prop) (e : T51) (m i : Int) : ws Tryz.prog (KF Tryz.prog kn31 0 Tryz.f134.ntmps (live134) A) 134 none (Nat.add 0 1) (lp (Tryz.f134.body.getD .skip) 0) (seqQ (fun a σ => canonP 0 Tryz.f134.ntmps (live134 0) a σ (A 0)) (behind Tryz.prog (KF Tryz.prog kn31 0 Tryz.f134.ntmps (live134) A) 134 (Tryz.f134.body.getD .skip) 0 0 (retS Tryz.prog Tryz.f134 (fun v _ => Q v)))) (mkA Tryz.f134.ntmps (live134 0) [.box [.str (e.f0), .int .i64 (e.f1), arrOf T48.enc 7 (e.f2)], .val (arrOf T48.enc 7 (e.f2)), .val (.int .i64 (m)), .val (.int .i64 (i))]) (mkS [.box [.str (e.f0), .int .i64 (e.f1), arrOf T48.enc 7 (e.f2)], .val (arrOf T48.enc 7 (e.f2)), .val (.int .i64 (m)), .val (.int .i64 (i))]) =
    (((.i64 : IntKind) = .i64 ∧ CondP (decide ((i) < (m))) (((0 ≤ (i) ∧ (i) < (((e.f2).length : Nat) : Int)) ∧ (∃ q9 : T48, [.agg [.str (((e.f2).getD (i).toNat default).f0), .int .i64 (((e.f2).getD (i).toNat default).f1), .bool ((e.f2).getD (i).toNat default).f2, .int .i64 (((e.f2).getD (i).toNat default).f3.f0), .int .i64 (((e.f2).getD (i).toNat default).f3.f1), .int .u64 (((e.f2).getD (i).toNat default).f3.f2), .str (((e.f2).getD (i).toNat default).f3.f3)]] = [T48.enc q9] ∧ ok48 q9 ∧ (colErr q9 = 0 → A 0 [.box [.str (e.f0), .int .i64 (e.f1), arrOf T48.enc 7 (e.f2)], .val (arrOf T48.enc 7 (e.f2)), .val (.int .i64 (m)), .val (.int .i64 (IntKind.i64.wrap ((i) + (1 : Int))))]) ∧ (colErr q9 ≠ 0 → Q (.iface 216 (.agg [.int .i64 (colErr q9)])))))) ((∃ q10 : Nat → T48, (fun i => T48.enc ((e.f2).getD i default)) = (fun i => T48.enc (q10 i)) ∧ (e.f2).length ≤ 1000 ∧ (∃ q11 : Nat → List UInt8, (fun i => V.str ((fun i => (q10 i).f0) i)) = (fun i => V.str (q11 i)) ∧ (e.f2).length ≤ 1000000 ∧ CondP ((!(uniqB q11 ((e.f2).length)))) (Q (.iface 216 (.agg [.int .i64 (12 : Int)]))) (((0 ≤ (0 : Int) ∧ (0 : Int) ≤ (e.f1) ∧ (e.f1) ≤ (((e.f2).length : Nat) : Int) ∧ (((e.f2).length : Nat) : Int) ≤ (((e.f2).length : Nat) : Int)) ∧ (∃ q : Nat → T48, (fun i => T48.enc ((fun i => (e.f2).getD (Nat.add (0 : Int).toNat i) default) i)) = (fun i => T48.enc (q i)) ∧ (e.f1).toNat - (0 : Int).toNat ≤ 1000 ∧ CondP ((anyNull q ((e.f1).toNat - (0 : Int).toNat))) (Q (.iface 216 (.agg [.int .i64 (11 : Int)]))) (Q (.niliface)))))))))) := by kernel_rfl
def W134 [Env] (vs : List V) (σ : St) (k : VPost) : Prop :=
  ∃ e : T51, vs = [T51.enc e] ∧ ok51 e ∧ (tabErr e = 0 → k .niliface σ) ∧ (tabErr e ≠ 0 → k (.iface 216 (.agg [.int .i64 (tabErr e)])) σ)
def kn32 [Env] (g : FuncId) (vs : List V) (σ : St) (k : VPost) : Prop :=
  match Nat.beq g 134 with
  | true => W134 vs σ k
  | false => kn31 g vs σ k
def W133 [Env] (vs : List V) (σ : St) (k : VPost) : Prop :=
  match vs with
  | [.niliface] => k (.int .i64 0) σ
  | [.iface 216 (.agg [.int .i64 n])] => k (.int .i64 n) σ
  | _ => False
def kn33 [Env] (g : FuncId) (vs : List V) (σ : St) (k : VPost) : Prop :=
  match Nat.beq g 133 with
  | true => W133 vs σ k
  | false => kn32 g vs σ k
def live81 : Nat → List Nat := (fun _ => [])
theorem e81 [Env] (A : Nat → List SV → Prop) (Q : V → Prop) (e : T51) : ws Tryz.prog (KF Tryz.prog kn33 0 Tryz.f81.ntmps (live81) A) 81 none 0 (Tryz.f81.body.getD .skip) (retS Tryz.prog Tryz.f81 (fun v _ => Q v)) (actOf Tryz.f81.ntmps [T51.enc (e)]) Go.Ev.start =
    ((∃ q12 : T51, [.agg [.str ((e).f0), .int .i64 ((e).f1), arrOf T48.enc 7 ((e).f2)]] = [T51.enc q12] ∧ ok51 q12 ∧ (tabErr q12 = 0 → Q (.int .i64 (0 : Int))) ∧ (tabErr q12 ≠ 0 → Q (.int .i64 (tabErr q12))))) := by kernel_rfl
def W81 [Env] (vs : List V) (σ : St) (k : VPost) : Prop :=
  ∃ e : T51, vs = [T51.enc e] ∧ ok51 e ∧ k (.int .i64 (tabErr e)) σ
def kn34 [Env] (g : FuncId) (vs : List V) (σ : St) (k : VPost) : Prop :=
  match Nat.beq g 81 with
  | true => W81 vs σ k
  | false => kn33 g vs σ k
def live57 : Nat → List Nat := (fun i => match i with | 0 => [1, 4] | 1 => [1, 6] | _ => [])
theorem e57 [Env] (A : Nat → List SV → Prop) (Q : V → Prop) (e : T51) : ws Tryz.prog (KF Tryz.prog kn34 0 Tryz.f57.ntmps (live57) A) 57 none 0 (Tryz.f57.body.getD .skip) (retS Tryz.prog Tryz.f57 (fun v _ => Q v)) (actOf Tryz.f57.ntmps [T51.enc (e)]) Go.Ev.start =
    (((.i64 : IntKind) = .i64 ∧ CondP (decide ((nameErr ((e).f0)) ≠ (0 : Int))) (Q (.int .i64 (nameErr ((e).f0)))) (((.i64 : IntKind) = .i64 ∧ CondP (decide ((((((e).f2).length : Nat) : Int)) < (1 : Int))) (Q (.int .i64 (2 : Int))) (((.i64 : IntKind) = .i64 ∧ CondP (decide ((((((e).f2).length : Nat) : Int)) > (8 : Int))) (Q (.int .i64 (2 : Int))) (((.i64 : IntKind) = .i64 ∧ CondP (decide (((e).f1) < (1 : Int))) (Q (.int .i64 (1 : Int))) (((.i64 : IntKind) = .i64 ∧ CondP (decide (((e).f1) > (3 : Int))) (Q (.int .i64 (1 : Int))) (((.i64 : IntKind) = .i64 ∧ CondP (decide (((e).f1) > (((((e).f2).length : Nat) : Int)))) (Q (.int .i64 (1 : Int))) (A 0 [.box [.str ((e).f0), .int .i64 ((e).f1), arrOf T48.enc 7 ((e).f2)], .val (.int .i64 (0 : Int))]))))))))))))) := by kernel_rfl
theorem r57a [Env] (A : Nat → List SV → Prop) (Q : V → Prop) (e : T51) (i : Int) : ws Tryz.prog (KF Tryz.prog kn34 0 Tryz.f57.ntmps (live57) A) 57 none (Nat.add 0 1) (lp (Tryz.f57.body.getD .skip) 0) (seqQ (fun a σ => canonP 0 Tryz.f57.ntmps (live57 0) a σ (A 0)) (behind Tryz.prog (KF Tryz.prog kn34 0 Tryz.f57.ntmps (live57) A) 57 (Tryz.f57.body.getD .skip) 0 0 (retS Tryz.prog Tryz.f57 (fun v _ => Q v)))) (mkA Tryz.f57.ntmps (live57 0) [.box [.str (e.f0), .int .i64 (e.f1), arrOf T48.enc 7 (e.f2)], .val (.int .i64 (i))]) (mkS [.box [.str (e.f0), .int .i64 (e.f1), arrOf T48.enc 7 (e.f2)], .val (.int .i64 (i))]) =
    (((.i64 : IntKind) = .i64 ∧ CondP (decide ((i) < ((((e.f2).length : Nat) : Int)))) (((0 ≤ (i) ∧ (i) < (((e.f2).length : Nat) : Int)) ∧ (∃ q13 : T48, [T48.enc ((e.f2).getD (i).toNat default)] = [T48.enc q13] ∧ ok48 q13 ∧ ((.i64 : IntKind) = .i64 ∧ CondP (decide ((colErr q13) ≠ (0 : Int))) (Q (.int .i64 (colErr q13))) (A 0 [.box [.str (e.f0), .int .i64 (e.f1), arrOf T48.enc 7 (e.f2)], .val (.int .i64 (IntKind.i64.wrap ((i) + (1 : Int))))]))))) ((∃ q14 : Nat → T48, (fun i => T48.enc ((e.f2).getD i default)) = (fun i => T48.enc (q14 i)) ∧ (e.f2).length ≤ 1000 ∧ (∃ q15 : Nat → List UInt8, (fun i => V.str ((fun i => (q14 i).f0) i)) = (fun i => V.str (q15 i)) ∧ (e.f2).length ≤ 1000000 ∧ CondP ((!(uniqB q15 ((e.f2).length)))) (Q (.int .i64 (12 : Int))) (A 1 [.box [.str (e.f0), .int .i64 (e.f1), arrOf T48.enc 7 (e.f2)], .val (.int .i64 (0 : Int))])))))) := by kernel_rfl
theorem r57b [Env] (A : Nat → List SV → Prop) (Q : V → Prop) (e : T51) (i : Int) : ws Tryz.prog (KF Tryz.prog kn34 0 Tryz.f57.ntmps (live57) A) 57 none (Nat.add 1 1) (lp (Tryz.f57.body.getD .skip) 1) (seqQ (fun a σ => canonP 0 Tryz.f57.ntmps (live57 1) a σ (A 1)) (behind Tryz.prog (KF Tryz.prog kn34 0 Tryz.f57.ntmps (live57) A) 57 (Tryz.f57.body.getD .skip) 0 1 (retS Tryz.prog Tryz.f57 (fun v _ => Q v)))) (mkA Tryz.f57.ntmps (live57 1) [.box [.str (e.f0), .int .i64 (e.f1), arrOf T48.enc 7 (e.f2)], .val (.int .i64 (i))]) (mkS [.box [.str (e.f0), .int .i64 (e.f1), arrOf T48.enc 7 (e.f2)], .val (.int .i64 (i))]) =
    (((.i64 : IntKind) = .i64 ∧ CondP (decide ((i) < (e.f1))) (((0 ≤ (i) ∧ (i) < (((e.f2).length : Nat) : Int)) ∧ CondP (((e.f2).getD (i).toNat default).f2) (Q (.int .i64 (11 : Int))) (A 1 [.box [.str (e.f0), .int .i64 (e.f1), arrOf T48.enc 7 (e.f2)], .val (.int .i64 (IntKind.i64.wrap ((i) + (1 : Int))))]))) (Q (.int .i64 (0 : Int))))) := by kernel_rfl
def W57 [Env] (vs : List V) (σ : St) (k : VPost) : Prop :=
  ∃ e : T51, vs = [T51.enc e] ∧ ok51 e ∧ k (.int .i64 (tabErr e)) σ
def kn35 [Env] (g : FuncId) (vs : List V) (σ : St) (k : VPost) : Prop :=
  match Nat.beq g 57 with
  | true => W57 vs σ k
  | false => kn34 g vs σ k
def live147 : Nat → List Nat := (fun i => match i with | 0 => [2, 9, 10, 11] | _ => [])
theorem e147 [Env] (A : Nat → List SV → Prop) (Q : V → Prop) (e : T51) (n : Nat) (g : Nat → T46) : ws Tryz.prog (KF Tryz.prog kn35 0 Tryz.f147.ntmps (live147) A) 147 none 0 (Tryz.f147.body.getD .skip) (retS Tryz.prog Tryz.f147 (fun v _ => Q v)) (actOf Tryz.f147.ntmps [T51.enc (e), V.arr (n) (fun i => T46.enc (g i)) 4 false false]) Go.Ev.start =
    (A 0 [.box [.str ((e).f0), .int .i64 ((e).f1), arrOf T48.enc 7 ((e).f2)], .val (V.arr (n) (fun i => T46.enc (g i)) 4 false false), .val (.int .i64 (((n : Nat) : Int))), .val (.int .i64 (0 : Int))]) := by kernel_rfl
theorem r147 [Env] (A : Nat → List SV → Prop) (Q : V → Prop) (e : T51) (n : Nat) (g : Nat → T46) (m i : Int) : ws Tryz.prog (KF Tryz.prog kn35 0 Tryz.f147.ntmps (live147) A) 147 none (Nat.add 0 1) (lp (Tryz.f147.body.getD .skip) 0) (seqQ (fun a σ => canonP 0 Tryz.f147.ntmps (live147 0) a σ (A 0)) (behind Tryz.prog (KF Tryz.prog kn35 0 Tryz.f147.ntmps (live147) A) 147 (Tryz.f147.body.getD .skip) 0 0 (retS Tryz.prog Tryz.f147 (fun v _ => Q v)))) (mkA Tryz.f147.ntmps (live147 0) [.box [.str (e.f0), .int .i64 (e.f1), arrOf T48.enc 7 (e.f2)], .val (V.arr (n) (fun i => T46.enc (g i)) 4 false false), .val (.int .i64 (m)), .val (.int .i64 (i))]) (mkS [.box [.str (e.f0), .int .i64 (e.f1), arrOf T48.enc 7 (e.f2)], .val (V.arr (n) (fun i => T46.enc (g i)) 4 false false), .val (.int .i64 (m)), .val (.int .i64 (i))]) =
    (((.i64 : IntKind) = .i64 ∧ CondP (decide ((i) < (m))) (((0 ≤ (i) ∧ (i) < ((n : Nat) : Int)) ∧ ((0 ≤ ((g (i).toNat).f2) ∧ ((g (i).toNat).f2) < 18446744073709551616) ∧ ((.i64 : IntKind) = .i64 ∧ CondP (decide ((valErr ⟨((g (i).toNat).f0), ((g (i).toNat).f1), ((g (i).toNat).f2), (g (i).toNat).f3⟩) ≠ (0 : Int))) (Q (.int .i64 (valErr ⟨((g (i).toNat).f0), ((g (i).toNat).f1), ((g (i).toNat).f2), (g (i).toNat).f3⟩))) (((0 ≤ (i) ∧ (i) < (((e.f2).length : Nat) : Int)) ∧ ((.i64 : IntKind) = .i64 ∧ CondP (decide (((g (i).toNat).f0) ≠ (((e.f2).getD (i).toNat default).f1))) (((.i64 : IntKind) = .i64 ∧ CondP (decide (((g (i).toNat).f0) ≠ (0 : Int))) (Q (.int .i64 (11 : Int))) (CondP ((!((e.f2).getD (i).toNat default).f2)) (Q (.int .i64 (11 : Int))) (A 0 [.box [.str (e.f0), .int .i64 (e.f1), arrOf T48.enc 7 (e.f2)], .val (V.arr (n) (fun i => T46.enc (g i)) 4 false false), .val (.int .i64 (m)), .val (.int .i64 (IntKind.i64.wrap ((i) + (1 : Int))))])))) (A 0 [.box [.str (e.f0), .int .i64 (e.f1), arrOf T48.enc 7 (e.f2)], .val (V.arr (n) (fun i => T46.enc (g i)) 4 false false), .val (.int .i64 (m)), .val (.int .i64 (IntKind.i64.wrap ((i) + (1 : Int))))])))))))) (Q (.int .i64 (0 : Int))))) := by kernel_rfl
def W147 [Env] (vs : List V) (σ : St) (k : VPost) : Prop :=
  ∃ (e : T51) (n : Nat) (q : Nat → T46), vs = [T51.enc e, .arr n (fun i => T46.enc (q i)) 4 false false] ∧ (ok51 e ∧ tabErr e = 0 ∧ n ≤ e.f2.length ∧ ∀ i, i < n → ok46 (q i)) ∧ k (.int .i64 (fitsErr e.f2 q n)) σ
def kn36 [Env] (g : FuncId) (vs : List V) (σ : St) (k : VPost) : Prop :=
  match Nat.beq g 147 with
  | true => W147 vs σ k
  | false => kn35 g vs σ k
def live150 : Nat → List Nat := (fun i => match i with | 0 => [1, 2, 5] | _ => [])
theorem e150 [Env] (A : Nat → List SV → Prop) (Q : V → Prop) (e : T51) (n : Nat) (g : Nat → T46) : ws Tryz.prog (KF Tryz.prog kn36 0 Tryz.f150.ntmps (live150) A) 150 none 0 (Tryz.f150.body.getD .skip) (retS Tryz.prog Tryz.f150 (fun v _ => Q v)) (actOf Tryz.f150.ntmps [T51.enc (e), V.arr (n) (fun i => T46.enc (g i)) 4 false false]) Go.Ev.start =
    (A 0 [.val (V.arr (n) (fun i => T46.enc (g i)) 4 false false), .box [.str ((e).f0), .int .i64 ((e).f1), arrOf T48.enc 7 ((e).f2)], .val (.int .i64 (0 : Int))]) := by kernel_rfl
theorem r150 [Env] (A : Nat → List SV → Prop) (Q : V → Prop) (e : T51) (n : Nat) (g : Nat → T46) (i : Int) : ws Tryz.prog (KF Tryz.prog kn36 0 Tryz.f150.ntmps (live150) A) 150 none (Nat.add 0 1) (lp (Tryz.f150.body.getD .skip) 0) (seqQ (fun a σ => canonP 0 Tryz.f150.ntmps (live150 0) a σ (A 0)) (behind Tryz.prog (KF Tryz.prog kn36 0 Tryz.f150.ntmps (live150) A) 150 (Tryz.f150.body.getD .skip) 0 0 (retS Tryz.prog Tryz.f150 (fun v _ => Q v)))) (mkA Tryz.f150.ntmps (live150 0) [.val (V.arr (n) (fun i => T46.enc (g i)) 4 false false), .box [.str (e.f0), .int .i64 (e.f1), arrOf T48.enc 7 (e.f2)], .val (.int .i64 (i))]) (mkS [.val (V.arr (n) (fun i => T46.enc (g i)) 4 false false), .box [.str (e.f0), .int .i64 (e.f1), arrOf T48.enc 7 (e.f2)], .val (.int .i64 (i))]) =
    ((fun R0 : Prop => (fun R1 : Prop => (fun R2 : Prop => ((.i64 : IntKind) = .i64 ∧ CondP (decide ((i) < (((n : Nat) : Int)))) (((0 ≤ (i) ∧ (i) < ((n : Nat) : Int)) ∧ ((0 ≤ ((g (i).toNat).f2) ∧ ((g (i).toNat).f2) < 18446744073709551616) ∧ ((.i64 : IntKind) = .i64 ∧ CondP (decide ((valErr ⟨((g (i).toNat).f0), ((g (i).toNat).f1), ((g (i).toNat).f2), (g (i).toNat).f3⟩) ≠ (0 : Int))) (Q (.int .i64 (valErr ⟨((g (i).toNat).f0), ((g (i).toNat).f1), ((g (i).toNat).f2), (g (i).toNat).f3⟩))) (((0 ≤ (i) ∧ (i) < ((n : Nat) : Int)) ∧ ((.i64 : IntKind) = .i64 ∧ CondP (decide (((g (i).toNat).f0) = (0 : Int))) (((0 ≤ (i) ∧ (i) < (((e.f2).length : Nat) : Int)) ∧ CondP ((!((e.f2).getD (i).toNat default).f2) == false) (CondP ((!((e.f2).getD (i).toNat default).f2) == false) (CondP ((!((e.f2).getD (i).toNat default).f2) == false) (((0 ≤ (i) ∧ (i) < ((n : Nat) : Int)) ∧ CondP ((!((e.f2).getD (i).toNat default).f2) == false) (CondP ((!((e.f2).getD (i).toNat default).f2) == false) (CondP ((!((e.f2).getD (i).toNat default).f2) == false) (((.i64 : IntKind) = .i64 ∧ CondP (decide (((g (i).toNat).f0) ≠ (0 : Int))) (CondP ((!((e.f2).getD (i).toNat default).f2) == false) (((0 ≤ (i) ∧ (i) < ((n : Nat) : Int)) ∧ ((0 ≤ (i) ∧ (i) < (((e.f2).length : Nat) : Int)) ∧ ((.i64 : IntKind) = .i64 ∧ CondP (decide (((g (i).toNat).f0) ≠ (((e.f2).getD (i).toNat default).f1))) (CondP ((!((e.f2).getD (i).toNat default).f2) == false) (CondP (!((e.f2).getD (i).toNat default).f2) (Q (.int .i64 (11 : Int))) (Q (.int .i64 (11 : Int)))) (CondP (!((e.f2).getD (i).toNat default).f2) (Q (.int .i64 (11 : Int))) (False))) (CondP ((!((e.f2).getD (i).toNat default).f2) == false) R0 (CondP (!((e.f2).getD (i).toNat default).f2) (Q (.int .i64 (11 : Int))) (False))))))) (CondP ((!((e.f2).getD (i).toNat default).f2) == false) (False) (CondP (!((e.f2).getD (i).toNat default).f2) (Q (.int .i64 (11 : Int))) (False)))) (CondP ((!((e.f2).getD (i).toNat default).f2) == false) (CondP ((!((e.f2).getD (i).toNat default).f2) == false) R0 (CondP (!((e.f2).getD (i).toNat default).f2) (Q (.int .i64 (11 : Int))) (False))) (CondP ((!((e.f2).getD (i).toNat default).f2) == false) (False) (CondP (!((e.f2).getD (i).toNat default).f2) (Q (.int .i64 (11 : Int))) (False)))))) R1) (CondP ((!((e.f2).getD (i).toNat default).f2) == false) (False) R1)) (CondP ((!((e.f2).getD (i).toNat default).f2) == false) (False) (CondP ((!((e.f2).getD (i).toNat default).f2) == false) (False) R1)))) (CondP ((!((e.f2).getD (i).toNat default).f2) == false) (False) (CondP ((!((e.f2).getD (i).toNat default).f2) == false) (False) (CondP ((!((e.f2).getD (i).toNat default).f2) == false) (False) R1)))) R2) (CondP ((!((e.f2).getD (i).toNat default).f2) == false) R2 R2))) (((0 ≤ (i) ∧ (i) < ((n : Nat) : Int)) ∧ ((.i64 : IntKind) = .i64 ∧ CondP (decide (((g (i).toNat).f0) ≠ (0 : Int))) (((0 ≤ (i) ∧ (i) < ((n : Nat) : Int)) ∧ ((0 ≤ (i) ∧ (i) < (((e.f2).length : Nat) : Int)) ∧ ((.i64 : IntKind) = .i64 ∧ CondP (decide (((g (i).toNat).f0) ≠ (((e.f2).getD (i).toNat default).f1))) (Q (.int .i64 (11 : Int))) (A 0 [.val (V.arr (n) (fun i => T46.enc (g i)) 4 false false), .box [.str (e.f0), .int .i64 (e.f1), arrOf T48.enc 7 (e.f2)], .val (.int .i64 (IntKind.i64.wrap ((i) + (1 : Int))))]))))) (A 0 [.val (V.arr (n) (fun i => T46.enc (g i)) 4 false false), .box [.str (e.f0), .int .i64 (e.f1), arrOf T48.enc 7 (e.f2)], .val (.int .i64 (IntKind.i64.wrap ((i) + (1 : Int))))]))))))))))) (Q (.int .i64 (0 : Int))))) (CondP ((!((e.f2).getD (i).toNat default).f2) == false) (False) (CondP ((!((e.f2).getD (i).toNat default).f2) == false) (False) (CondP ((!((e.f2).getD (i).toNat default).f2) == false) (False) (CondP ((!((e.f2).getD (i).toNat default).f2) == false) (False) R1))))) (CondP ((!((e.f2).getD (i).toNat default).f2) == false) (CondP ((!((e.f2).getD (i).toNat default).f2) == false) (False) (CondP (!((e.f2).getD (i).toNat default).f2) (Q (.int .i64 (11 : Int))) (False))) (CondP ((!((e.f2).getD (i).toNat default).f2) == false) (False) (CondP (!((e.f2).getD (i).toNat default).f2) (Q (.int .i64 (11 : Int))) (False))))) (CondP (!((e.f2).getD (i).toNat default).f2) (Q (.int .i64 (11 : Int))) (A 0 [.val (V.arr (n) (fun i => T46.enc (g i)) 4 false false), .box [.str (e.f0), .int .i64 (e.f1), arrOf T48.enc 7 (e.f2)], .val (.int .i64 (IntKind.i64.wrap ((i) + (1 : Int))))]))) := by kernel_rfl
def W150 [Env] (vs : List V) (σ : St) (k : VPost) : Prop :=
  ∃ (e : T51) (n : Nat) (q : Nat → T46), vs = [T51.enc e, .arr n (fun i => T46.enc (q i)) 4 false false] ∧ (ok51 e ∧ tabErr e = 0 ∧ n ≤ e.f2.length ∧ ∀ i, i < n → ok46 (q i)) ∧ k (.int .i64 (fitsErr e.f2 q n)) σ
def kn37 [Env] (g : FuncId) (vs : List V) (σ : St) (k : VPost) : Prop :=
  match Nat.beq g 150 with
  | true => W150 vs σ k
  | false => kn36 g vs σ k
def live102 : Nat → List Nat := (fun _ => [])
theorem e102 [Env] (A : Nat → List SV → Prop) (Q : V → Prop) (e : T51) (n : Nat) (g : Nat → T46) : ws Tryz.prog (KF Tryz.prog kn37 0 Tryz.f102.ntmps (live102) A) 102 none 0 (Tryz.f102.body.getD .skip) (retS Tryz.prog Tryz.f102 (fun v _ => Q v)) (actOf Tryz.f102.ntmps [T51.enc (e), V.arr (n) (fun i => T46.enc (g i)) 4 false false, .bool false]) Go.Ev.start =
    ((∃ q16 : T51, [.agg [.str ((e).f0), .int .i64 ((e).f1), arrOf T48.enc 7 ((e).f2)]] = [T51.enc q16] ∧ ok51 q16 ∧ ((.i64 : IntKind) = .i64 ∧ CondP (decide ((tabErr q16) ≠ (0 : Int))) (Q (.int .i64 (tabErr q16))) (((.i64 : IntKind) = .i64 ∧ CondP (decide ((((n : Nat) : Int)) > ((e).f1))) (Q (.int .i64 (11 : Int))) ((∃ (q17 : T51) (n18 : Nat) (g19 : Nat → T46), [.agg [.str ((e).f0), .int .i64 ((e).f1), arrOf T48.enc 7 ((e).f2)], V.arr (n) (fun i => T46.enc (g i)) 4 false false] = [T51.enc q17, .arr n18 (fun i => T46.enc (g19 i)) 4 false false] ∧ (ok51 q17 ∧ tabErr q17 = 0 ∧ n18 ≤ q17.f2.length ∧ ∀ i, i < n18 → ok46 (g19 i)) ∧ Q (.int .i64 (fitsErr q17.f2 g19 n18))))))))) := by kernel_rfl
def W102 [Env] (vs : List V) (σ : St) (k : VPost) : Prop :=
  ∃ (e : T51) (n : Nat) (q : Nat → T46), vs = [T51.enc e, .arr n (fun i => T46.enc (q i)) 4 false false, .bool false] ∧ (ok51 e ∧ ∀ i, i < n → ok46 (q i)) ∧ k (.int .i64 (keyErr e q n)) σ
def kn38 [Env] (g : FuncId) (vs : List V) (σ : St) (k : VPost) : Prop :=
  match Nat.beq g 102 with
  | true => W102 vs σ k
  | false => kn37 g vs σ k
def live104 : Nat → List Nat := (fun _ => [])
theorem e104 [Env] (A : Nat → List SV → Prop) (Q : V → Prop) (e : T51) (n : Nat) (g : Nat → T46) : ws Tryz.prog (KF Tryz.prog kn38 0 Tryz.f104.ntmps (live104) A) 104 none 0 (Tryz.f104.body.getD .skip) (retS Tryz.prog Tryz.f104 (fun v _ => Q v)) (actOf Tryz.f104.ntmps [T51.enc (e), V.arr (n) (fun i => T46.enc (g i)) 4 false false, .bool false]) Go.Ev.start =
    ((∃ q20 : T51, [.agg [.str ((e).f0), .int .i64 ((e).f1), arrOf T48.enc 7 ((e).f2)]] = [T51.enc q20] ∧ ok51 q20 ∧ ((.i64 : IntKind) = .i64 ∧ CondP (decide ((tabErr q20) ≠ (0 : Int))) (Q (.int .i64 (tabErr q20))) (((.i64 : IntKind) = .i64 ∧ CondP (decide ((((n : Nat) : Int)) > ((e).f1))) (Q (.int .i64 (11 : Int))) ((∃ (q21 : T51) (n22 : Nat) (g23 : Nat → T46), [.agg [.str ((e).f0), .int .i64 ((e).f1), arrOf T48.enc 7 ((e).f2)], V.arr (n) (fun i => T46.enc (g i)) 4 false false] = [T51.enc q21, .arr n22 (fun i => T46.enc (g23 i)) 4 false false] ∧ (ok51 q21 ∧ tabErr q21 = 0 ∧ n22 ≤ q21.f2.length ∧ ∀ i, i < n22 → ok46 (g23 i)) ∧ Q (.int .i64 (fitsErr q21.f2 g23 n22))))))))) := by kernel_rfl
def W104 [Env] (vs : List V) (σ : St) (k : VPost) : Prop :=
  ∃ (e : T51) (n : Nat) (q : Nat → T46), vs = [T51.enc e, .arr n (fun i => T46.enc (q i)) 4 false false, .bool false] ∧ (ok51 e ∧ ∀ i, i < n → ok46 (q i)) ∧ k (.int .i64 (keyErr e q n)) σ
def kn39 [Env] (g : FuncId) (vs : List V) (σ : St) (k : VPost) : Prop :=
  match Nat.beq g 104 with
  | true => W104 vs σ k
  | false => kn38 g vs σ k
end Go.Proofs.YtbajncpfmemdgaaGreatDoor
