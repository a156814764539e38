/-
  No cell of these rows narrows 'for every input' (looked for: loops, veiled, ifaces, maps, wideKeys, modest, calm, conditions, laid).
  DERIVED. THE GIVEN ROWS OF THIS SEAT. 6 by the template 'for every input the law returns true; each argument reads behind the call as it read before'; 0 by the template 'total and deterministic' (their statements: YtkaknfocnecckaaGreatTotals.lean).
  GIVEN WITH THE SEED: the statements are not yours to turn. If you find one false, say at which input.
  Laid BY PROGRAM, IN A SANDBOX (cutbox-rows.mjs): the forced cells as the released guide's own fill.sh prints them over the translation 07270c8efe181a3f… (all of the seat's roots in one cut). By AI agents, Wed Nov 11 2026. No macro, syntax, notation, axiom, sorry.
-/
import Derived.Test.YtkaknfocnecckaaGreatChecked
import GoSem.Claim
import GoSem.ClaimJoined
import GoSem.ClaimMapViews
import Derived.JoinedTies
import Derived.KernelRfl
namespace Go.Proofs.YtkaknfocnecckaaGreat
/- THE CELL 'sum', in the pinned program and in every row, IS THE sha256 OF THE DUMP (.gsa) THAT YtkaknfocnecckaaGreatProg.lean LOADS. Nothing in Lean hashes anything: it is a label: what it is worth is what the hold of that sum in a sandbox is worth. -/
noncomputable def Tryz.pinned : Pinned := { name := "ytkaknfocnecckaagreat", sum := "07270c8efe181a3f6967c56058998e160ce047e39878f355a44558ad35175dc7", checked := Tryz.checked }
namespace Rows
def none {H : Type} : Left H := { results := [], args := [] }

/-- 'transomlaw23.ViewLists': WHATEVER THE INPUT: true; the input reads as it did. -/
def viewListsSpec : ChangeSpec := { name := "viewLists", fn := fun _ => fun
  | [d] => { results := [.lit (.bool true)], args := [d] }
  | _ => none }
def viewListsRow : OpenClaim := { program := "ytkaknfocnecckaagreat", sum := "07270c8efe181a3f6967c56058998e160ce047e39878f355a44558ad35175dc7", func := "transom/transomlaw23.ViewLists", spec := "viewLists", unfollowed := true, recurses := true, plainKeys := false, apart := false }
def ViewListsSaid : Prop := viewListsRow.holds Tryz.pinned (OpenSpec.ofChange viewListsSpec)

/-- ITS FALSE NEIGHBOUR: 'it returns false'. Refute it at one input. -/
def viewListsWrong : ChangeSpec := { name := "viewLists", fn := fun _ => fun
  | [d] => { results := [.lit (.bool false)], args := [d] }
  | _ => none }
def ViewListsWrongFalsely : Prop := viewListsRow.holds Tryz.pinned (OpenSpec.ofChange viewListsWrong)

/-- 'transomlaw24.CommitNone': WHATEVER THE INPUT: true; the input reads as it did. -/
def commitNoneSpec : ChangeSpec := { name := "commitNone", fn := fun _ => fun
  | [d1, d2, d3] => { results := [.lit (.bool true)], args := [d1, d2, d3] }
  | _ => none }
def commitNoneRow : OpenClaim := { program := "ytkaknfocnecckaagreat", sum := "07270c8efe181a3f6967c56058998e160ce047e39878f355a44558ad35175dc7", func := "transom/transomlaw24.CommitNone", spec := "commitNone", unfollowed := true, recurses := true, plainKeys := false, apart := false }
def CommitNoneSaid : Prop := commitNoneRow.holds Tryz.pinned (OpenSpec.ofChange commitNoneSpec)

/-- ITS FALSE NEIGHBOUR: 'it returns false'. Refute it at one input. -/
def commitNoneWrong : ChangeSpec := { name := "commitNone", fn := fun _ => fun
  | [d1, d2, d3] => { results := [.lit (.bool false)], args := [d1, d2, d3] }
  | _ => none }
def CommitNoneWrongFalsely : Prop := commitNoneRow.holds Tryz.pinned (OpenSpec.ofChange commitNoneWrong)

/-- 'transomlaw23.ViewPlays': WHATEVER THE INPUT: true; the input reads as it did. -/
def viewPlaysSpec : ChangeSpec := { name := "viewPlays", fn := fun _ => fun
  | [d1, d2] => { results := [.lit (.bool true)], args := [d1, d2] }
  | _ => none }
def viewPlaysRow : OpenClaim := { program := "ytkaknfocnecckaagreat", sum := "07270c8efe181a3f6967c56058998e160ce047e39878f355a44558ad35175dc7", func := "transom/transomlaw23.ViewPlays", spec := "viewPlays", unfollowed := true, recurses := true, plainKeys := false, apart := false }
def ViewPlaysSaid : Prop := viewPlaysRow.holds Tryz.pinned (OpenSpec.ofChange viewPlaysSpec)

/-- ITS FALSE NEIGHBOUR: 'it returns false'. Refute it at one input. -/
def viewPlaysWrong : ChangeSpec := { name := "viewPlays", fn := fun _ => fun
  | [d1, d2] => { results := [.lit (.bool false)], args := [d1, d2] }
  | _ => none }
def ViewPlaysWrongFalsely : Prop := viewPlaysRow.holds Tryz.pinned (OpenSpec.ofChange viewPlaysWrong)

/-- 'transomlaw24.CommitAlone': WHATEVER THE INPUT: true; the input reads as it did. -/
def commitAloneSpec : ChangeSpec := { name := "commitAlone", fn := fun _ => fun
  | [d1, d2] => { results := [.lit (.bool true)], args := [d1, d2] }
  | _ => none }
def commitAloneRow : OpenClaim := { program := "ytkaknfocnecckaagreat", sum := "07270c8efe181a3f6967c56058998e160ce047e39878f355a44558ad35175dc7", func := "transom/transomlaw24.CommitAlone", spec := "commitAlone", unfollowed := true, recurses := true, plainKeys := false, apart := false }
def CommitAloneSaid : Prop := commitAloneRow.holds Tryz.pinned (OpenSpec.ofChange commitAloneSpec)

/-- ITS FALSE NEIGHBOUR: 'it returns false'. Refute it at one input. -/
def commitAloneWrong : ChangeSpec := { name := "commitAlone", fn := fun _ => fun
  | [d1, d2] => { results := [.lit (.bool false)], args := [d1, d2] }
  | _ => none }
def CommitAloneWrongFalsely : Prop := commitAloneRow.holds Tryz.pinned (OpenSpec.ofChange commitAloneWrong)

/-- 'transomlaw24.CommitTwice': WHATEVER THE INPUT: true; the input reads as it did. -/
def commitTwiceSpec : ChangeSpec := { name := "commitTwice", fn := fun _ => fun
  | [d1, d2] => { results := [.lit (.bool true)], args := [d1, d2] }
  | _ => none }
def commitTwiceRow : OpenClaim := { program := "ytkaknfocnecckaagreat", sum := "07270c8efe181a3f6967c56058998e160ce047e39878f355a44558ad35175dc7", func := "transom/transomlaw24.CommitTwice", spec := "commitTwice", unfollowed := true, recurses := true, plainKeys := false, apart := false }
def CommitTwiceSaid : Prop := commitTwiceRow.holds Tryz.pinned (OpenSpec.ofChange commitTwiceSpec)

/-- ITS FALSE NEIGHBOUR: 'it returns false'. Refute it at one input. -/
def commitTwiceWrong : ChangeSpec := { name := "commitTwice", fn := fun _ => fun
  | [d1, d2] => { results := [.lit (.bool false)], args := [d1, d2] }
  | _ => none }
def CommitTwiceWrongFalsely : Prop := commitTwiceRow.holds Tryz.pinned (OpenSpec.ofChange commitTwiceWrong)

/-- 'transomlaw24.CommitPlays': WHATEVER THE INPUT: true; the input reads as it did. -/
def commitPlaysSpec : ChangeSpec := { name := "commitPlays", fn := fun _ => fun
  | [d1, d2] => { results := [.lit (.bool true)], args := [d1, d2] }
  | _ => none }
def commitPlaysRow : OpenClaim := { program := "ytkaknfocnecckaagreat", sum := "07270c8efe181a3f6967c56058998e160ce047e39878f355a44558ad35175dc7", func := "transom/transomlaw24.CommitPlays", spec := "commitPlays", unfollowed := true, recurses := true, plainKeys := false, apart := false }
def CommitPlaysSaid : Prop := commitPlaysRow.holds Tryz.pinned (OpenSpec.ofChange commitPlaysSpec)

/-- ITS FALSE NEIGHBOUR: 'it returns false'. Refute it at one input. -/
def commitPlaysWrong : ChangeSpec := { name := "commitPlays", fn := fun _ => fun
  | [d1, d2] => { results := [.lit (.bool false)], args := [d1, d2] }
  | _ => none }
def CommitPlaysWrongFalsely : Prop := commitPlaysRow.holds Tryz.pinned (OpenSpec.ofChange commitPlaysWrong)

/- THE SECOND FORM. 'bulk': how many values and letters a reading holds, each counted each time it is reached (what is shared counts as often as it is met; a slice's spare places count too). A statement '..UptoSaid' is the law's where the arguments, and the package variables that the reading takes, are together of bulk at most 1048576: NARROWER than '..Said'. Prove '..Said' where nothing that the law and all that it calls make is longer than what came in: it says more and counts as full. Else prove '..UptoSaid'. A law counts once. -/
mutual
def uptoBulk {H : Type} : DataW H → Nat
  | .lit (.string bytes) => bytes.length + 1
  | .lit _ => 1
  | .nil => 1
  | .ptr d => uptoBulk d + 1
  | .slice elems spare => uptoBulkAll elems + uptoBulkAll spare + 1
  | .agg parts => uptoBulkAll parts + 1
  | .iface _ d => uptoBulk d + 1
  | .map entries => uptoBulkEntries entries + 1
  | .held _ => 1
def uptoBulkAll {H : Type} : List (DataW H) → Nat
  | [] => 0
  | d :: r => uptoBulk d + uptoBulkAll r
def uptoBulkEntries {H : Type} : List (Lit × DataW H) → Nat
  | [] => 0
  | x :: r => uptoBulkEntry x + uptoBulkEntries r
def uptoBulkEntry {H : Type} : Lit × DataW H → Nat
  | (.string bytes, d) => bytes.length + uptoBulk d + 1
  | (_, d) => uptoBulk d + 1
 end
def uptoSmall : (H : Type) → List (DataW H) → Bool := fun _ ds => decide (uptoBulkAll ds ≤ 1048576)
def OpenSpec.upto (s : _root_.Go.ChangeSpec) : _root_.Go.OpenSpec := { _root_.Go.OpenSpec.ofChange s with cond := some uptoSmall }

/-- 'transomlaw23.ViewLists', WHERE WHAT IT READS IS OF BULK AT MOST 1048576: true; the input reads as it did. -/
def viewListsUptoRow : OpenClaim := { program := "ytkaknfocnecckaagreat", sum := "07270c8efe181a3f6967c56058998e160ce047e39878f355a44558ad35175dc7", func := "transom/transomlaw23.ViewLists", spec := "viewLists", unfollowed := true, recurses := true, plainKeys := false, apart := false, narrowed := true }
def ViewListsUptoSaid : Prop := viewListsUptoRow.holds Tryz.pinned (OpenSpec.upto viewListsSpec)

/-- 'transomlaw24.CommitNone', WHERE WHAT IT READS IS OF BULK AT MOST 1048576: true; the input reads as it did. -/
def commitNoneUptoRow : OpenClaim := { program := "ytkaknfocnecckaagreat", sum := "07270c8efe181a3f6967c56058998e160ce047e39878f355a44558ad35175dc7", func := "transom/transomlaw24.CommitNone", spec := "commitNone", unfollowed := true, recurses := true, plainKeys := false, apart := false, narrowed := true }
def CommitNoneUptoSaid : Prop := commitNoneUptoRow.holds Tryz.pinned (OpenSpec.upto commitNoneSpec)

/-- 'transomlaw23.ViewPlays', WHERE WHAT IT READS IS OF BULK AT MOST 1048576: true; the input reads as it did. -/
def viewPlaysUptoRow : OpenClaim := { program := "ytkaknfocnecckaagreat", sum := "07270c8efe181a3f6967c56058998e160ce047e39878f355a44558ad35175dc7", func := "transom/transomlaw23.ViewPlays", spec := "viewPlays", unfollowed := true, recurses := true, plainKeys := false, apart := false, narrowed := true }
def ViewPlaysUptoSaid : Prop := viewPlaysUptoRow.holds Tryz.pinned (OpenSpec.upto viewPlaysSpec)

/-- 'transomlaw24.CommitAlone', WHERE WHAT IT READS IS OF BULK AT MOST 1048576: true; the input reads as it did. -/
def commitAloneUptoRow : OpenClaim := { program := "ytkaknfocnecckaagreat", sum := "07270c8efe181a3f6967c56058998e160ce047e39878f355a44558ad35175dc7", func := "transom/transomlaw24.CommitAlone", spec := "commitAlone", unfollowed := true, recurses := true, plainKeys := false, apart := false, narrowed := true }
def CommitAloneUptoSaid : Prop := commitAloneUptoRow.holds Tryz.pinned (OpenSpec.upto commitAloneSpec)

/-- 'transomlaw24.CommitTwice', WHERE WHAT IT READS IS OF BULK AT MOST 1048576: true; the input reads as it did. -/
def commitTwiceUptoRow : OpenClaim := { program := "ytkaknfocnecckaagreat", sum := "07270c8efe181a3f6967c56058998e160ce047e39878f355a44558ad35175dc7", func := "transom/transomlaw24.CommitTwice", spec := "commitTwice", unfollowed := true, recurses := true, plainKeys := false, apart := false, narrowed := true }
def CommitTwiceUptoSaid : Prop := commitTwiceUptoRow.holds Tryz.pinned (OpenSpec.upto commitTwiceSpec)

/-- 'transomlaw24.CommitPlays', WHERE WHAT IT READS IS OF BULK AT MOST 1048576: true; the input reads as it did. -/
def commitPlaysUptoRow : OpenClaim := { program := "ytkaknfocnecckaagreat", sum := "07270c8efe181a3f6967c56058998e160ce047e39878f355a44558ad35175dc7", func := "transom/transomlaw24.CommitPlays", spec := "commitPlays", unfollowed := true, recurses := true, plainKeys := false, apart := false, narrowed := true }
def CommitPlaysUptoSaid : Prop := commitPlaysUptoRow.holds Tryz.pinned (OpenSpec.upto commitPlaysSpec)

end Rows
end Go.Proofs.YtkaknfocnecckaaGreat
