/-
  DERIVED: THE SHELF's CONTRACTS AT THIS DUMP, IN PLAIN WORDS (tools/lay-plain.mjs out of 'TryzShelfJ.lean', which tools/lay-shelf.mjs wrote): THE SAME DECLARATIONS UNDER THE SAME NAMES: 'import', 'namespace', 'open', 'def', 'theorem' AND NOTHING ELSE: no command of the shelf's: FOR A HAND-IN. Each laying: the table of numbers ('.._ren') and one theorem, a field a fact of the dump's own or the kernel's comparison; each contract: ONE APPLICATION.
-/
import Derived.Shelf.Strings.Builder1
import Derived.Shelf.Strings.Builder2
import Derived.Shelf.Strings.OnBuilder
import Derived.Test.YtkopocjaofejgaaGreatDoorProg
namespace Go.Proofs.YtkopocjaofejgaaGreatDoor
open Go.Shelf
def lays156_ren : Go.Shelf.Ren := ⟨fun | 156 => 432 | 165 => 519 | 166 => 520 | 169 => 521 | 240 => 567 | 241 => 568 | 276 => 590 | 277 => 591 | n => n, fun | 31 => 29 | 9 => 9 | 3 => 3 | 4 => 4 | 0 => 0 | 20 => 20 | 72 => 686 | 76 => 688 | 70 => 684 | 37 => 367 | 75 => 627 | 127 => 733 | 164 => 734 | 5 => 5 | 80 => 235 | n => n, fun | n => n⟩
theorem lays156 : Go.Proofs.Lays.n156 Tryz.prog lays156_ren := {
  mixed := by kernel_rfl
  f156 := Tryz.func432.trans (congrArg some (by kernel_rfl))
  f165 := Tryz.func519.trans (congrArg some (by kernel_rfl))
  f166 := Tryz.func520.trans (congrArg some (by kernel_rfl))
  f169 := Tryz.func521.trans (congrArg some (by kernel_rfl))
  f240 := Tryz.func567.trans (congrArg some (by kernel_rfl))
  f241 := Tryz.func568.trans (congrArg some (by kernel_rfl))
  f276 := Tryz.func590.trans (congrArg some (by kernel_rfl))
  f277 := Tryz.func591.trans (congrArg some (by kernel_rfl))
  t0 := Tryz.underlying0
  a0 := Tryz.isAgg0
  z0 := Tryz.sizeOf0
  v0 := Tryz.zeroValue0
  t3 := Tryz.underlying3
  a3 := Tryz.isAgg3
  z3 := Tryz.sizeOf3
  v3 := Tryz.zeroValue3
  t4 := Tryz.underlying4
  a4 := Tryz.isAgg4
  z4 := Tryz.sizeOf4
  v4 := Tryz.zeroValue4
  t9 := Tryz.underlying9
  a9 := Tryz.isAgg9
  z9 := Tryz.sizeOf9
  v9 := Tryz.zeroValue9
  t20 := Tryz.underlying20
  a20 := Tryz.isAgg20
  z20 := Tryz.sizeOf20
  v20 := Tryz.zeroValue20
  t31 := Tryz.underlying29
  a31 := Tryz.isAgg29
  z31 := Tryz.sizeOf29
  v31 := Tryz.zeroValue29
  t37 := Tryz.underlying367
  a37 := Tryz.isAgg367
  z37 := Tryz.sizeOf367
  v37 := Tryz.zeroValue367
  t70 := Tryz.underlying684
  a70 := Tryz.isAgg684
  z70 := Tryz.sizeOf684
  v70 := Tryz.zeroValue684
  t72 := Tryz.underlying686
  a72 := Tryz.isAgg686
  z72 := Tryz.sizeOf686
  v72 := Tryz.zeroValue686
  t75 := Tryz.underlying627
  a75 := Tryz.isAgg627
  z75 := Tryz.sizeOf627
  v75 := Tryz.zeroValue627
  t76 := Tryz.underlying688
  a76 := Tryz.isAgg688
  z76 := Tryz.sizeOf688
  v76 := Tryz.zeroValue688
  t127 := Tryz.underlying733
  a127 := Tryz.isAgg733
  z127 := Tryz.sizeOf733
  v127 := Tryz.zeroValue733
  t164 := Tryz.underlying734
  a164 := Tryz.isAgg734
  z164 := Tryz.sizeOf734
  v164 := Tryz.zeroValue734 }
theorem builderExtra156 : Builder.Extra Tryz.prog lays156_ren := {
  sizeBuilder := by kernel_rfl
  liesBuilder := by kernel_rfl
  t5 := Tryz.underlying5
  a5 := Tryz.isAgg5
  z5 := Tryz.sizeOf5
  v5 := Tryz.zeroValue5
  infoByte := by kernel_rfl
  cellsByte := by kernel_rfl
  sizeByte := by kernel_rfl
  neB5 := by decide }
open Go.RowKit in
/-- No element: the empty string; the world is as it was. (Whatever the slice's address and capacity: a nil slice too.) (LAID: no walk: one application.) -/
theorem strings_Join_none (a : Option Addr) (c : Nat) (sep : ByteArray) (w : World) :
    Calls Tryz.prog 432 #[.slice a 0 c, .string sep] w fun e w' => e = .returned (.string ⟨#[]⟩) ∧ w' = w := Any.strings_Join_none lays156 builderExtra156 a c sep w
open Go.RowKit in
/-- strings.Join: "Join concatenates the elements of its first argument to create a single string. The separator string sep is placed between elements in the resulting string.": HOWEVER MANY ELEMENTS. Below the heap's end the world is as it was. (LAID: no walk: one application.) -/
theorem strings_Join (bk o c : Nat) (xs : List ByteArray) (sep : ByteArray) (w : World) (hcells : ∀ (j : Nat) x, xs[j]? = some x → w.cell? ⟨bk, o + j, none⟩ = some (.string x)) (hbk : bk < w.heap.size) (hN : xs.length ≤ 140737488355328) (hcap : xs.length ≤ c) (hlen : (Lib.join (xs.map (·.data.toList)) sep.data.toList).length ≤ 140737488355328) :
    Calls Tryz.prog 432 #[.slice (some ⟨bk, o, none⟩) xs.length c, .string sep] w fun e w' => e = .returned (.string ⟨(Lib.join (xs.map (·.data.toList)) sep.data.toList).toArray⟩) ∧ Below w.heap.size w w' := Any.strings_Join lays156 builderExtra156 bk o c xs sep w hcells hbk hN hcap hlen
end Go.Proofs.YtkopocjaofejgaaGreatDoor
