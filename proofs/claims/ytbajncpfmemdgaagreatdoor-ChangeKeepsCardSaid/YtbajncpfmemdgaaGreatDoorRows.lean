/-
  NARROWER THAN 'FOR EVERY INPUT', by the rows' own cells (each row's printed sentence says how): SerialRises: laid · SerialMeans: laid · ChangeTargets: laid · ChangeApplies: laid · ChangeKeeps: laid · ChangeUndoes: laid · ModelDoes: laid · ModelBounds: laid · ModelKeeps: laid · ModelCounts: laid · ModelReads: laid · ModelRuns: laid.
  DERIVED. THE GIVEN ROWS OF THIS SEAT. 12 by the template 'for every input the law returns true; each argument reads behind the call as it read before'; 0 by the template 'total and deterministic' (their statements: YtbajncpfmemdgaaGreatDoorTotals.lean).
  GIVEN WITH THE SEED: the statements are not yours to turn. If you find one false, say at which input.
  Laid BY PROGRAM, IN A SANDBOX (cutbox-rows.mjs): the forced cells as the released guide's own fill.sh prints them over the translation db023e1877a70ca7… (all of the seat's roots in one cut). By AI agents, Wed Nov 11 2026. No macro, syntax, notation, axiom, sorry.
-/
import Derived.Test.YtbajncpfmemdgaaGreatDoorChecked
import GoSem.Claim
import GoSem.ClaimJoined
import GoSem.ClaimMapViews
import Derived.JoinedTies
import Derived.KernelRfl
namespace Go.Proofs.YtbajncpfmemdgaaGreatDoor
/- THE CELL 'sum', in the pinned program and in every row, IS THE sha256 OF THE DUMP (.gsa) THAT YtbajncpfmemdgaaGreatDoorProg.lean LOADS. Nothing in Lean hashes anything: it is a label: what it is worth is what the hold of that sum in a sandbox is worth. -/
noncomputable def Tryz.pinned : Pinned := { name := "ytbajncpfmemdgaagreatdoor", sum := "db023e1877a70ca75f2c40e224e150b7f0e20c9eeecc5720a19f71e26d369835", checked := Tryz.checked }
namespace Rows
def none {H : Type} : Left H := { results := [], args := [] }

/- WHAT THE LISTED PACKAGE-LEVEL VARIABLES READ AS WHEN THE CALL BEGINS. Each datum BY PROGRAM (the guide's laid-datum.mjs) off the statement by which the dump's own 'gosem.cut.vars' lays the variable. In a bare row this is a premise. The card (YtbajncpfmemdgaaGreatDoorCards.lean) ties it to the program's text. -/
def laid_errors_errorType {H : Type} : DataW H := .iface "internal/reflectlite.rtype" (.agg [.ptr (.lit (.string [101, 114, 114, 111, 114]))])

/-- 'transomlaw38.SerialRises': WHATEVER THE INPUT: true; the input reads as it did. -/
def serialRisesSpec : ChangeSpec := { name := "serialRises", fn := fun _ => fun
  | [d] => { results := [.lit (.bool true)], args := [d] }
  | _ => none }
def serialRisesRow : OpenClaim := { program := "ytbajncpfmemdgaagreatdoor", sum := "db023e1877a70ca75f2c40e224e150b7f0e20c9eeecc5720a19f71e26d369835", func := "transom/transomlaw38.SerialRises", spec := "serialRises", inPlace := ["math.Float64frombits", "internal/reflectlite.ValueOf", "(internal/reflectlite.Value).Type", "(internal/reflectlite.Value).IsNil", "internal/reflectlite.TypeOf", "(internal/reflectlite.Value).Elem", "(internal/reflectlite.Value).Set", "internal/bytealg.abigen_runtime_cmpstring", "math.Float64bits", "math.archTrunc"], unfollowed := true, recurses := true, named := ["errors.errorType"], apart := false, laid := [("errors.errorType", laid_errors_errorType)] }
def SerialRisesSaid : Prop := serialRisesRow.holds Tryz.pinned (OpenSpec.ofChange serialRisesSpec)

/-- ITS FALSE NEIGHBOUR: 'it returns false'. Refute it at one input. -/
def serialRisesWrong : ChangeSpec := { name := "serialRises", fn := fun _ => fun
  | [d] => { results := [.lit (.bool false)], args := [d] }
  | _ => none }
def SerialRisesWrongFalsely : Prop := serialRisesRow.holds Tryz.pinned (OpenSpec.ofChange serialRisesWrong)

/-- 'transomlaw38.SerialMeans': WHATEVER THE INPUT: true; the input reads as it did. -/
def serialMeansSpec : ChangeSpec := { name := "serialMeans", fn := fun _ => fun
  | [d] => { results := [.lit (.bool true)], args := [d] }
  | _ => none }
def serialMeansRow : OpenClaim := { program := "ytbajncpfmemdgaagreatdoor", sum := "db023e1877a70ca75f2c40e224e150b7f0e20c9eeecc5720a19f71e26d369835", func := "transom/transomlaw38.SerialMeans", spec := "serialMeans", inPlace := ["math.Float64frombits", "internal/reflectlite.ValueOf", "(internal/reflectlite.Value).Type", "(internal/reflectlite.Value).IsNil", "internal/reflectlite.TypeOf", "(internal/reflectlite.Value).Elem", "(internal/reflectlite.Value).Set", "internal/bytealg.abigen_runtime_cmpstring", "math.Float64bits", "math.archTrunc"], unfollowed := true, recurses := true, named := ["errors.errorType"], apart := false, laid := [("errors.errorType", laid_errors_errorType)] }
def SerialMeansSaid : Prop := serialMeansRow.holds Tryz.pinned (OpenSpec.ofChange serialMeansSpec)

/-- ITS FALSE NEIGHBOUR: 'it returns false'. Refute it at one input. -/
def serialMeansWrong : ChangeSpec := { name := "serialMeans", fn := fun _ => fun
  | [d] => { results := [.lit (.bool false)], args := [d] }
  | _ => none }
def SerialMeansWrongFalsely : Prop := serialMeansRow.holds Tryz.pinned (OpenSpec.ofChange serialMeansWrong)

/-- 'transomlaw10.ChangeTargets': WHATEVER THE INPUT: true; the input reads as it did. -/
def changeTargetsSpec : ChangeSpec := { name := "changeTargets", fn := fun _ => fun
  | [d1, d2] => { results := [.lit (.bool true)], args := [d1, d2] }
  | _ => none }
def changeTargetsRow : OpenClaim := { program := "ytbajncpfmemdgaagreatdoor", sum := "db023e1877a70ca75f2c40e224e150b7f0e20c9eeecc5720a19f71e26d369835", func := "transom/transomlaw10.ChangeTargets", spec := "changeTargets", inPlace := ["math.Float64frombits", "internal/reflectlite.ValueOf", "(internal/reflectlite.Value).Type", "(internal/reflectlite.Value).IsNil", "internal/reflectlite.TypeOf", "(internal/reflectlite.Value).Elem", "(internal/reflectlite.Value).Set"], unfollowed := true, recurses := true, named := ["errors.errorType"], apart := false, laid := [("errors.errorType", laid_errors_errorType)] }
def ChangeTargetsSaid : Prop := changeTargetsRow.holds Tryz.pinned (OpenSpec.ofChange changeTargetsSpec)

/-- ITS FALSE NEIGHBOUR: 'it returns false'. Refute it at one input. -/
def changeTargetsWrong : ChangeSpec := { name := "changeTargets", fn := fun _ => fun
  | [d1, d2] => { results := [.lit (.bool false)], args := [d1, d2] }
  | _ => none }
def ChangeTargetsWrongFalsely : Prop := changeTargetsRow.holds Tryz.pinned (OpenSpec.ofChange changeTargetsWrong)

/-- 'transomlaw10.ChangeApplies': WHATEVER THE INPUT: true; the input reads as it did. -/
def changeAppliesSpec : ChangeSpec := { name := "changeApplies", fn := fun _ => fun
  | [d1, d2, d3] => { results := [.lit (.bool true)], args := [d1, d2, d3] }
  | _ => none }
def changeAppliesRow : OpenClaim := { program := "ytbajncpfmemdgaagreatdoor", sum := "db023e1877a70ca75f2c40e224e150b7f0e20c9eeecc5720a19f71e26d369835", func := "transom/transomlaw10.ChangeApplies", spec := "changeApplies", inPlace := ["math.Float64frombits", "internal/reflectlite.ValueOf", "(internal/reflectlite.Value).Type", "(internal/reflectlite.Value).IsNil", "internal/reflectlite.TypeOf", "(internal/reflectlite.Value).Elem", "(internal/reflectlite.Value).Set"], unfollowed := true, recurses := true, named := ["errors.errorType"], apart := false, laid := [("errors.errorType", laid_errors_errorType)] }
def ChangeAppliesSaid : Prop := changeAppliesRow.holds Tryz.pinned (OpenSpec.ofChange changeAppliesSpec)

/-- ITS FALSE NEIGHBOUR: 'it returns false'. Refute it at one input. -/
def changeAppliesWrong : ChangeSpec := { name := "changeApplies", fn := fun _ => fun
  | [d1, d2, d3] => { results := [.lit (.bool false)], args := [d1, d2, d3] }
  | _ => none }
def ChangeAppliesWrongFalsely : Prop := changeAppliesRow.holds Tryz.pinned (OpenSpec.ofChange changeAppliesWrong)

/-- 'transomlaw10.ChangeKeeps': WHATEVER THE INPUT: true; the input reads as it did. -/
def changeKeepsSpec : ChangeSpec := { name := "changeKeeps", fn := fun _ => fun
  | [d1, d2] => { results := [.lit (.bool true)], args := [d1, d2] }
  | _ => none }
def changeKeepsRow : OpenClaim := { program := "ytbajncpfmemdgaagreatdoor", sum := "db023e1877a70ca75f2c40e224e150b7f0e20c9eeecc5720a19f71e26d369835", func := "transom/transomlaw10.ChangeKeeps", spec := "changeKeeps", inPlace := ["math.Float64frombits", "internal/reflectlite.ValueOf", "(internal/reflectlite.Value).Type", "(internal/reflectlite.Value).IsNil", "internal/reflectlite.TypeOf", "(internal/reflectlite.Value).Elem", "(internal/reflectlite.Value).Set"], unfollowed := true, recurses := true, named := ["errors.errorType"], apart := false, laid := [("errors.errorType", laid_errors_errorType)] }
def ChangeKeepsSaid : Prop := changeKeepsRow.holds Tryz.pinned (OpenSpec.ofChange changeKeepsSpec)

/-- ITS FALSE NEIGHBOUR: 'it returns false'. Refute it at one input. -/
def changeKeepsWrong : ChangeSpec := { name := "changeKeeps", fn := fun _ => fun
  | [d1, d2] => { results := [.lit (.bool false)], args := [d1, d2] }
  | _ => none }
def ChangeKeepsWrongFalsely : Prop := changeKeepsRow.holds Tryz.pinned (OpenSpec.ofChange changeKeepsWrong)

/-- 'transomlaw10.ChangeUndoes': WHATEVER THE INPUT: true; the input reads as it did. -/
def changeUndoesSpec : ChangeSpec := { name := "changeUndoes", fn := fun _ => fun
  | [d1, d2] => { results := [.lit (.bool true)], args := [d1, d2] }
  | _ => none }
def changeUndoesRow : OpenClaim := { program := "ytbajncpfmemdgaagreatdoor", sum := "db023e1877a70ca75f2c40e224e150b7f0e20c9eeecc5720a19f71e26d369835", func := "transom/transomlaw10.ChangeUndoes", spec := "changeUndoes", inPlace := ["math.Float64frombits", "internal/reflectlite.ValueOf", "(internal/reflectlite.Value).Type", "(internal/reflectlite.Value).IsNil", "internal/reflectlite.TypeOf", "(internal/reflectlite.Value).Elem", "(internal/reflectlite.Value).Set"], unfollowed := true, recurses := true, named := ["errors.errorType"], apart := false, laid := [("errors.errorType", laid_errors_errorType)] }
def ChangeUndoesSaid : Prop := changeUndoesRow.holds Tryz.pinned (OpenSpec.ofChange changeUndoesSpec)

/-- ITS FALSE NEIGHBOUR: 'it returns false'. Refute it at one input. -/
def changeUndoesWrong : ChangeSpec := { name := "changeUndoes", fn := fun _ => fun
  | [d1, d2] => { results := [.lit (.bool false)], args := [d1, d2] }
  | _ => none }
def ChangeUndoesWrongFalsely : Prop := changeUndoesRow.holds Tryz.pinned (OpenSpec.ofChange changeUndoesWrong)

/-- 'transomlaw13.ModelDoes': WHATEVER THE INPUT: true; the input reads as it did. -/
def modelDoesSpec : ChangeSpec := { name := "modelDoes", fn := fun _ => fun
  | [d1, d2] => { results := [.lit (.bool true)], args := [d1, d2] }
  | _ => none }
def modelDoesRow : OpenClaim := { program := "ytbajncpfmemdgaagreatdoor", sum := "db023e1877a70ca75f2c40e224e150b7f0e20c9eeecc5720a19f71e26d369835", func := "transom/transomlaw13.ModelDoes", spec := "modelDoes", inPlace := ["math.Float64frombits", "internal/reflectlite.ValueOf", "(internal/reflectlite.Value).Type", "(internal/reflectlite.Value).IsNil", "internal/reflectlite.TypeOf", "(internal/reflectlite.Value).Elem", "(internal/reflectlite.Value).Set", "internal/bytealg.abigen_runtime_cmpstring", "math.Float64bits", "math.archTrunc"], unfollowed := true, recurses := true, named := ["errors.errorType"], apart := false, laid := [("errors.errorType", laid_errors_errorType)] }
def ModelDoesSaid : Prop := modelDoesRow.holds Tryz.pinned (OpenSpec.ofChange modelDoesSpec)

/-- ITS FALSE NEIGHBOUR: 'it returns false'. Refute it at one input. -/
def modelDoesWrong : ChangeSpec := { name := "modelDoes", fn := fun _ => fun
  | [d1, d2] => { results := [.lit (.bool false)], args := [d1, d2] }
  | _ => none }
def ModelDoesWrongFalsely : Prop := modelDoesRow.holds Tryz.pinned (OpenSpec.ofChange modelDoesWrong)

/-- 'transomlaw13.ModelBounds': WHATEVER THE INPUT: true; the input reads as it did. -/
def modelBoundsSpec : ChangeSpec := { name := "modelBounds", fn := fun _ => fun
  | [d1, d2] => { results := [.lit (.bool true)], args := [d1, d2] }
  | _ => none }
def modelBoundsRow : OpenClaim := { program := "ytbajncpfmemdgaagreatdoor", sum := "db023e1877a70ca75f2c40e224e150b7f0e20c9eeecc5720a19f71e26d369835", func := "transom/transomlaw13.ModelBounds", spec := "modelBounds", inPlace := ["math.Float64frombits", "internal/reflectlite.ValueOf", "(internal/reflectlite.Value).Type", "(internal/reflectlite.Value).IsNil", "internal/reflectlite.TypeOf", "(internal/reflectlite.Value).Elem", "(internal/reflectlite.Value).Set", "internal/bytealg.abigen_runtime_cmpstring", "math.Float64bits", "math.archTrunc"], unfollowed := true, recurses := true, named := ["errors.errorType"], apart := false, laid := [("errors.errorType", laid_errors_errorType)] }
def ModelBoundsSaid : Prop := modelBoundsRow.holds Tryz.pinned (OpenSpec.ofChange modelBoundsSpec)

/-- ITS FALSE NEIGHBOUR: 'it returns false'. Refute it at one input. -/
def modelBoundsWrong : ChangeSpec := { name := "modelBounds", fn := fun _ => fun
  | [d1, d2] => { results := [.lit (.bool false)], args := [d1, d2] }
  | _ => none }
def ModelBoundsWrongFalsely : Prop := modelBoundsRow.holds Tryz.pinned (OpenSpec.ofChange modelBoundsWrong)

/-- 'transomlaw13.ModelKeeps': WHATEVER THE INPUT: true; the input reads as it did. -/
def modelKeepsSpec : ChangeSpec := { name := "modelKeeps", fn := fun _ => fun
  | [d1, d2] => { results := [.lit (.bool true)], args := [d1, d2] }
  | _ => none }
def modelKeepsRow : OpenClaim := { program := "ytbajncpfmemdgaagreatdoor", sum := "db023e1877a70ca75f2c40e224e150b7f0e20c9eeecc5720a19f71e26d369835", func := "transom/transomlaw13.ModelKeeps", spec := "modelKeeps", inPlace := ["math.Float64frombits", "internal/reflectlite.ValueOf", "(internal/reflectlite.Value).Type", "(internal/reflectlite.Value).IsNil", "internal/reflectlite.TypeOf", "(internal/reflectlite.Value).Elem", "(internal/reflectlite.Value).Set", "internal/bytealg.abigen_runtime_cmpstring", "math.Float64bits", "math.archTrunc"], unfollowed := true, recurses := true, named := ["errors.errorType"], apart := false, laid := [("errors.errorType", laid_errors_errorType)] }
def ModelKeepsSaid : Prop := modelKeepsRow.holds Tryz.pinned (OpenSpec.ofChange modelKeepsSpec)

/-- ITS FALSE NEIGHBOUR: 'it returns false'. Refute it at one input. -/
def modelKeepsWrong : ChangeSpec := { name := "modelKeeps", fn := fun _ => fun
  | [d1, d2] => { results := [.lit (.bool false)], args := [d1, d2] }
  | _ => none }
def ModelKeepsWrongFalsely : Prop := modelKeepsRow.holds Tryz.pinned (OpenSpec.ofChange modelKeepsWrong)

/-- 'transomlaw13.ModelCounts': WHATEVER THE INPUT: true; the input reads as it did. -/
def modelCountsSpec : ChangeSpec := { name := "modelCounts", fn := fun _ => fun
  | [d1, d2] => { results := [.lit (.bool true)], args := [d1, d2] }
  | _ => none }
def modelCountsRow : OpenClaim := { program := "ytbajncpfmemdgaagreatdoor", sum := "db023e1877a70ca75f2c40e224e150b7f0e20c9eeecc5720a19f71e26d369835", func := "transom/transomlaw13.ModelCounts", spec := "modelCounts", inPlace := ["math.Float64frombits", "internal/reflectlite.ValueOf", "(internal/reflectlite.Value).Type", "(internal/reflectlite.Value).IsNil", "internal/reflectlite.TypeOf", "(internal/reflectlite.Value).Elem", "(internal/reflectlite.Value).Set", "internal/bytealg.abigen_runtime_cmpstring", "math.Float64bits", "math.archTrunc"], unfollowed := true, recurses := true, named := ["errors.errorType"], apart := false, laid := [("errors.errorType", laid_errors_errorType)] }
def ModelCountsSaid : Prop := modelCountsRow.holds Tryz.pinned (OpenSpec.ofChange modelCountsSpec)

/-- ITS FALSE NEIGHBOUR: 'it returns false'. Refute it at one input. -/
def modelCountsWrong : ChangeSpec := { name := "modelCounts", fn := fun _ => fun
  | [d1, d2] => { results := [.lit (.bool false)], args := [d1, d2] }
  | _ => none }
def ModelCountsWrongFalsely : Prop := modelCountsRow.holds Tryz.pinned (OpenSpec.ofChange modelCountsWrong)

/-- 'transomlaw13.ModelReads': WHATEVER THE INPUT: true; the input reads as it did. -/
def modelReadsSpec : ChangeSpec := { name := "modelReads", fn := fun _ => fun
  | [d1, d2] => { results := [.lit (.bool true)], args := [d1, d2] }
  | _ => none }
def modelReadsRow : OpenClaim := { program := "ytbajncpfmemdgaagreatdoor", sum := "db023e1877a70ca75f2c40e224e150b7f0e20c9eeecc5720a19f71e26d369835", func := "transom/transomlaw13.ModelReads", spec := "modelReads", inPlace := ["math.Float64frombits", "internal/reflectlite.ValueOf", "(internal/reflectlite.Value).Type", "(internal/reflectlite.Value).IsNil", "internal/reflectlite.TypeOf", "(internal/reflectlite.Value).Elem", "(internal/reflectlite.Value).Set", "internal/bytealg.abigen_runtime_cmpstring", "math.Float64bits", "math.archTrunc"], unfollowed := true, recurses := true, named := ["errors.errorType"], apart := false, laid := [("errors.errorType", laid_errors_errorType)] }
def ModelReadsSaid : Prop := modelReadsRow.holds Tryz.pinned (OpenSpec.ofChange modelReadsSpec)

/-- ITS FALSE NEIGHBOUR: 'it returns false'. Refute it at one input. -/
def modelReadsWrong : ChangeSpec := { name := "modelReads", fn := fun _ => fun
  | [d1, d2] => { results := [.lit (.bool false)], args := [d1, d2] }
  | _ => none }
def ModelReadsWrongFalsely : Prop := modelReadsRow.holds Tryz.pinned (OpenSpec.ofChange modelReadsWrong)

/-- 'transomlaw13.ModelRuns': WHATEVER THE INPUT: true; the input reads as it did. -/
def modelRunsSpec : ChangeSpec := { name := "modelRuns", fn := fun _ => fun
  | [d] => { results := [.lit (.bool true)], args := [d] }
  | _ => none }
def modelRunsRow : OpenClaim := { program := "ytbajncpfmemdgaagreatdoor", sum := "db023e1877a70ca75f2c40e224e150b7f0e20c9eeecc5720a19f71e26d369835", func := "transom/transomlaw13.ModelRuns", spec := "modelRuns", inPlace := ["math.Float64frombits", "internal/reflectlite.ValueOf", "(internal/reflectlite.Value).Type", "(internal/reflectlite.Value).IsNil", "internal/reflectlite.TypeOf", "(internal/reflectlite.Value).Elem", "(internal/reflectlite.Value).Set", "internal/bytealg.abigen_runtime_cmpstring", "math.Float64bits", "math.archTrunc"], unfollowed := true, recurses := true, named := ["errors.errorType"], apart := false, laid := [("errors.errorType", laid_errors_errorType)] }
def ModelRunsSaid : Prop := modelRunsRow.holds Tryz.pinned (OpenSpec.ofChange modelRunsSpec)

/-- ITS FALSE NEIGHBOUR: 'it returns false'. Refute it at one input. -/
def modelRunsWrong : ChangeSpec := { name := "modelRuns", fn := fun _ => fun
  | [d] => { results := [.lit (.bool false)], args := [d] }
  | _ => none }
def ModelRunsWrongFalsely : Prop := modelRunsRow.holds Tryz.pinned (OpenSpec.ofChange modelRunsWrong)

/- THE SECOND FORM. 'bulk': how many values and letters a reading holds, each counted each time it is reached (what is shared counts as often as it is met; a slice's spare places count too). A statement '..UptoSaid' is the law's where the arguments, and the package variables that the reading takes, are together of bulk at most 1048576: NARROWER than '..Said'. Prove '..Said' where nothing that the law and all that it calls make is longer than what came in: it says more and counts as full. Else prove '..UptoSaid'. A law counts once. -/
mutual
def uptoBulk {H : Type} : DataW H → Nat
  | .lit (.string bytes) => bytes.length + 1
  | .lit _ => 1
  | .nil => 1
  | .ptr d => uptoBulk d + 1
  | .slice elems spare => uptoBulkAll elems + uptoBulkAll spare + 1
  | .agg parts => uptoBulkAll parts + 1
  | .iface _ d => uptoBulk d + 1
  | .map entries => uptoBulkEntries entries + 1
  | .held _ => 1
def uptoBulkAll {H : Type} : List (DataW H) → Nat
  | [] => 0
  | d :: r => uptoBulk d + uptoBulkAll r
def uptoBulkEntries {H : Type} : List (Lit × DataW H) → Nat
  | [] => 0
  | x :: r => uptoBulkEntry x + uptoBulkEntries r
def uptoBulkEntry {H : Type} : Lit × DataW H → Nat
  | (.string bytes, d) => bytes.length + uptoBulk d + 1
  | (_, d) => uptoBulk d + 1
 end
def uptoSmall : (H : Type) → List (DataW H) → Bool := fun _ ds => decide (uptoBulkAll ds ≤ 1048576)
def OpenSpec.upto (s : _root_.Go.ChangeSpec) : _root_.Go.OpenSpec := { _root_.Go.OpenSpec.ofChange s with cond := some uptoSmall }

/-- 'transomlaw38.SerialRises', WHERE WHAT IT READS IS OF BULK AT MOST 1048576: true; the input reads as it did. -/
def serialRisesUptoRow : OpenClaim := { program := "ytbajncpfmemdgaagreatdoor", sum := "db023e1877a70ca75f2c40e224e150b7f0e20c9eeecc5720a19f71e26d369835", func := "transom/transomlaw38.SerialRises", spec := "serialRises", inPlace := ["math.Float64frombits", "internal/reflectlite.ValueOf", "(internal/reflectlite.Value).Type", "(internal/reflectlite.Value).IsNil", "internal/reflectlite.TypeOf", "(internal/reflectlite.Value).Elem", "(internal/reflectlite.Value).Set", "internal/bytealg.abigen_runtime_cmpstring", "math.Float64bits", "math.archTrunc"], unfollowed := true, recurses := true, named := ["errors.errorType"], apart := false, laid := [("errors.errorType", laid_errors_errorType)], narrowed := true }
def SerialRisesUptoSaid : Prop := serialRisesUptoRow.holds Tryz.pinned (OpenSpec.upto serialRisesSpec)

/-- 'transomlaw38.SerialMeans', WHERE WHAT IT READS IS OF BULK AT MOST 1048576: true; the input reads as it did. -/
def serialMeansUptoRow : OpenClaim := { program := "ytbajncpfmemdgaagreatdoor", sum := "db023e1877a70ca75f2c40e224e150b7f0e20c9eeecc5720a19f71e26d369835", func := "transom/transomlaw38.SerialMeans", spec := "serialMeans", inPlace := ["math.Float64frombits", "internal/reflectlite.ValueOf", "(internal/reflectlite.Value).Type", "(internal/reflectlite.Value).IsNil", "internal/reflectlite.TypeOf", "(internal/reflectlite.Value).Elem", "(internal/reflectlite.Value).Set", "internal/bytealg.abigen_runtime_cmpstring", "math.Float64bits", "math.archTrunc"], unfollowed := true, recurses := true, named := ["errors.errorType"], apart := false, laid := [("errors.errorType", laid_errors_errorType)], narrowed := true }
def SerialMeansUptoSaid : Prop := serialMeansUptoRow.holds Tryz.pinned (OpenSpec.upto serialMeansSpec)

/-- 'transomlaw10.ChangeTargets', WHERE WHAT IT READS IS OF BULK AT MOST 1048576: true; the input reads as it did. -/
def changeTargetsUptoRow : OpenClaim := { program := "ytbajncpfmemdgaagreatdoor", sum := "db023e1877a70ca75f2c40e224e150b7f0e20c9eeecc5720a19f71e26d369835", func := "transom/transomlaw10.ChangeTargets", spec := "changeTargets", inPlace := ["math.Float64frombits", "internal/reflectlite.ValueOf", "(internal/reflectlite.Value).Type", "(internal/reflectlite.Value).IsNil", "internal/reflectlite.TypeOf", "(internal/reflectlite.Value).Elem", "(internal/reflectlite.Value).Set"], unfollowed := true, recurses := true, named := ["errors.errorType"], apart := false, laid := [("errors.errorType", laid_errors_errorType)], narrowed := true }
def ChangeTargetsUptoSaid : Prop := changeTargetsUptoRow.holds Tryz.pinned (OpenSpec.upto changeTargetsSpec)

/-- 'transomlaw10.ChangeApplies', WHERE WHAT IT READS IS OF BULK AT MOST 1048576: true; the input reads as it did. -/
def changeAppliesUptoRow : OpenClaim := { program := "ytbajncpfmemdgaagreatdoor", sum := "db023e1877a70ca75f2c40e224e150b7f0e20c9eeecc5720a19f71e26d369835", func := "transom/transomlaw10.ChangeApplies", spec := "changeApplies", inPlace := ["math.Float64frombits", "internal/reflectlite.ValueOf", "(internal/reflectlite.Value).Type", "(internal/reflectlite.Value).IsNil", "internal/reflectlite.TypeOf", "(internal/reflectlite.Value).Elem", "(internal/reflectlite.Value).Set"], unfollowed := true, recurses := true, named := ["errors.errorType"], apart := false, laid := [("errors.errorType", laid_errors_errorType)], narrowed := true }
def ChangeAppliesUptoSaid : Prop := changeAppliesUptoRow.holds Tryz.pinned (OpenSpec.upto changeAppliesSpec)

/-- 'transomlaw10.ChangeKeeps', WHERE WHAT IT READS IS OF BULK AT MOST 1048576: true; the input reads as it did. -/
def changeKeepsUptoRow : OpenClaim := { program := "ytbajncpfmemdgaagreatdoor", sum := "db023e1877a70ca75f2c40e224e150b7f0e20c9eeecc5720a19f71e26d369835", func := "transom/transomlaw10.ChangeKeeps", spec := "changeKeeps", inPlace := ["math.Float64frombits", "internal/reflectlite.ValueOf", "(internal/reflectlite.Value).Type", "(internal/reflectlite.Value).IsNil", "internal/reflectlite.TypeOf", "(internal/reflectlite.Value).Elem", "(internal/reflectlite.Value).Set"], unfollowed := true, recurses := true, named := ["errors.errorType"], apart := false, laid := [("errors.errorType", laid_errors_errorType)], narrowed := true }
def ChangeKeepsUptoSaid : Prop := changeKeepsUptoRow.holds Tryz.pinned (OpenSpec.upto changeKeepsSpec)

/-- 'transomlaw10.ChangeUndoes', WHERE WHAT IT READS IS OF BULK AT MOST 1048576: true; the input reads as it did. -/
def changeUndoesUptoRow : OpenClaim := { program := "ytbajncpfmemdgaagreatdoor", sum := "db023e1877a70ca75f2c40e224e150b7f0e20c9eeecc5720a19f71e26d369835", func := "transom/transomlaw10.ChangeUndoes", spec := "changeUndoes", inPlace := ["math.Float64frombits", "internal/reflectlite.ValueOf", "(internal/reflectlite.Value).Type", "(internal/reflectlite.Value).IsNil", "internal/reflectlite.TypeOf", "(internal/reflectlite.Value).Elem", "(internal/reflectlite.Value).Set"], unfollowed := true, recurses := true, named := ["errors.errorType"], apart := false, laid := [("errors.errorType", laid_errors_errorType)], narrowed := true }
def ChangeUndoesUptoSaid : Prop := changeUndoesUptoRow.holds Tryz.pinned (OpenSpec.upto changeUndoesSpec)

/-- 'transomlaw13.ModelDoes', WHERE WHAT IT READS IS OF BULK AT MOST 1048576: true; the input reads as it did. -/
def modelDoesUptoRow : OpenClaim := { program := "ytbajncpfmemdgaagreatdoor", sum := "db023e1877a70ca75f2c40e224e150b7f0e20c9eeecc5720a19f71e26d369835", func := "transom/transomlaw13.ModelDoes", spec := "modelDoes", inPlace := ["math.Float64frombits", "internal/reflectlite.ValueOf", "(internal/reflectlite.Value).Type", "(internal/reflectlite.Value).IsNil", "internal/reflectlite.TypeOf", "(internal/reflectlite.Value).Elem", "(internal/reflectlite.Value).Set", "internal/bytealg.abigen_runtime_cmpstring", "math.Float64bits", "math.archTrunc"], unfollowed := true, recurses := true, named := ["errors.errorType"], apart := false, laid := [("errors.errorType", laid_errors_errorType)], narrowed := true }
def ModelDoesUptoSaid : Prop := modelDoesUptoRow.holds Tryz.pinned (OpenSpec.upto modelDoesSpec)

/-- 'transomlaw13.ModelBounds', WHERE WHAT IT READS IS OF BULK AT MOST 1048576: true; the input reads as it did. -/
def modelBoundsUptoRow : OpenClaim := { program := "ytbajncpfmemdgaagreatdoor", sum := "db023e1877a70ca75f2c40e224e150b7f0e20c9eeecc5720a19f71e26d369835", func := "transom/transomlaw13.ModelBounds", spec := "modelBounds", inPlace := ["math.Float64frombits", "internal/reflectlite.ValueOf", "(internal/reflectlite.Value).Type", "(internal/reflectlite.Value).IsNil", "internal/reflectlite.TypeOf", "(internal/reflectlite.Value).Elem", "(internal/reflectlite.Value).Set", "internal/bytealg.abigen_runtime_cmpstring", "math.Float64bits", "math.archTrunc"], unfollowed := true, recurses := true, named := ["errors.errorType"], apart := false, laid := [("errors.errorType", laid_errors_errorType)], narrowed := true }
def ModelBoundsUptoSaid : Prop := modelBoundsUptoRow.holds Tryz.pinned (OpenSpec.upto modelBoundsSpec)

/-- 'transomlaw13.ModelKeeps', WHERE WHAT IT READS IS OF BULK AT MOST 1048576: true; the input reads as it did. -/
def modelKeepsUptoRow : OpenClaim := { program := "ytbajncpfmemdgaagreatdoor", sum := "db023e1877a70ca75f2c40e224e150b7f0e20c9eeecc5720a19f71e26d369835", func := "transom/transomlaw13.ModelKeeps", spec := "modelKeeps", inPlace := ["math.Float64frombits", "internal/reflectlite.ValueOf", "(internal/reflectlite.Value).Type", "(internal/reflectlite.Value).IsNil", "internal/reflectlite.TypeOf", "(internal/reflectlite.Value).Elem", "(internal/reflectlite.Value).Set", "internal/bytealg.abigen_runtime_cmpstring", "math.Float64bits", "math.archTrunc"], unfollowed := true, recurses := true, named := ["errors.errorType"], apart := false, laid := [("errors.errorType", laid_errors_errorType)], narrowed := true }
def ModelKeepsUptoSaid : Prop := modelKeepsUptoRow.holds Tryz.pinned (OpenSpec.upto modelKeepsSpec)

/-- 'transomlaw13.ModelCounts', WHERE WHAT IT READS IS OF BULK AT MOST 1048576: true; the input reads as it did. -/
def modelCountsUptoRow : OpenClaim := { program := "ytbajncpfmemdgaagreatdoor", sum := "db023e1877a70ca75f2c40e224e150b7f0e20c9eeecc5720a19f71e26d369835", func := "transom/transomlaw13.ModelCounts", spec := "modelCounts", inPlace := ["math.Float64frombits", "internal/reflectlite.ValueOf", "(internal/reflectlite.Value).Type", "(internal/reflectlite.Value).IsNil", "internal/reflectlite.TypeOf", "(internal/reflectlite.Value).Elem", "(internal/reflectlite.Value).Set", "internal/bytealg.abigen_runtime_cmpstring", "math.Float64bits", "math.archTrunc"], unfollowed := true, recurses := true, named := ["errors.errorType"], apart := false, laid := [("errors.errorType", laid_errors_errorType)], narrowed := true }
def ModelCountsUptoSaid : Prop := modelCountsUptoRow.holds Tryz.pinned (OpenSpec.upto modelCountsSpec)

/-- 'transomlaw13.ModelReads', WHERE WHAT IT READS IS OF BULK AT MOST 1048576: true; the input reads as it did. -/
def modelReadsUptoRow : OpenClaim := { program := "ytbajncpfmemdgaagreatdoor", sum := "db023e1877a70ca75f2c40e224e150b7f0e20c9eeecc5720a19f71e26d369835", func := "transom/transomlaw13.ModelReads", spec := "modelReads", inPlace := ["math.Float64frombits", "internal/reflectlite.ValueOf", "(internal/reflectlite.Value).Type", "(internal/reflectlite.Value).IsNil", "internal/reflectlite.TypeOf", "(internal/reflectlite.Value).Elem", "(internal/reflectlite.Value).Set", "internal/bytealg.abigen_runtime_cmpstring", "math.Float64bits", "math.archTrunc"], unfollowed := true, recurses := true, named := ["errors.errorType"], apart := false, laid := [("errors.errorType", laid_errors_errorType)], narrowed := true }
def ModelReadsUptoSaid : Prop := modelReadsUptoRow.holds Tryz.pinned (OpenSpec.upto modelReadsSpec)

/-- 'transomlaw13.ModelRuns', WHERE WHAT IT READS IS OF BULK AT MOST 1048576: true; the input reads as it did. -/
def modelRunsUptoRow : OpenClaim := { program := "ytbajncpfmemdgaagreatdoor", sum := "db023e1877a70ca75f2c40e224e150b7f0e20c9eeecc5720a19f71e26d369835", func := "transom/transomlaw13.ModelRuns", spec := "modelRuns", inPlace := ["math.Float64frombits", "internal/reflectlite.ValueOf", "(internal/reflectlite.Value).Type", "(internal/reflectlite.Value).IsNil", "internal/reflectlite.TypeOf", "(internal/reflectlite.Value).Elem", "(internal/reflectlite.Value).Set", "internal/bytealg.abigen_runtime_cmpstring", "math.Float64bits", "math.archTrunc"], unfollowed := true, recurses := true, named := ["errors.errorType"], apart := false, laid := [("errors.errorType", laid_errors_errorType)], narrowed := true }
def ModelRunsUptoSaid : Prop := modelRunsUptoRow.holds Tryz.pinned (OpenSpec.upto modelRunsSpec)

end Rows
end Go.Proofs.YtbajncpfmemdgaaGreatDoor
