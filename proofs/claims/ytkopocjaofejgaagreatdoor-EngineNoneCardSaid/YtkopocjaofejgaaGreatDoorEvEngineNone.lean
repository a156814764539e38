/- Proved: the law 'transomlaw35.EngineNone' returns true whatever its arguments, and its arguments read behind the call as they read before. No condition. -/
import Derived.Test.YtkopocjaofejgaaGreatDoorRows
import Derived.Test.YtkopocjaofejgaaGreatDoorEvTold
import Derived.Test.YtkopocjaofejgaaGreatDoorEvEngineNoneRun
import Derived.Test.YtkopocjaofejgaaGreatDoorEvLaid
import Derived.Test.YtkopocjaofejgaaGreatDoorEvEngineNoneFacts
import Derived.Test.YtkopocjaofejgaaGreatDoorEvEngineNoneFactsB
import Derived.ProofKit
import Derived.Carry
import Derived.Test.YtkopocjaofejgaaGreatDoorCards
import Derived.Test.YtkopocjaofejgaaGreatDoorEvTieB
import Derived.Test.YtkopocjaofejgaaGreatDoorEvNoGo
import Derived.Test.YtkopocjaofejgaaGreatDoorEvEngineNoneCard
import Derived.SevenTiedAt
import Derived.LaidLaws
import Derived.LaidHandle
import Derived.JoinedOf
import Derived.Stop.Joined
namespace Go.Proofs.YtkopocjaofejgaaGreatDoor
open Go.ChangeShapes Go.WideShapes Go.ChangeAt Go.RowKit

theorem engineNone_own : ownKnob Tryz.prog.godebug = none := by kernel_rfl
theorem engineNone_laidOut : laidOutB Tryz.prog = true := laidOut
theorem engineNone_pars : Tryz.f6.params.toList = [88] := by kernel_rfl

theorem engineNone_params : ∀ t ∈ Tryz.f6.params.toList, Tryz.prog.readableRec t = true ∧ t < Tryz.prog.types.size := by
  rw [engineNone_pars]
  intro t ht
  simp only [List.mem_cons, List.not_mem_nil, or_false] at ht
  rcases ht with rfl
  exact ⟨by kernel_rfl, of_decide_eq_true (by kernel_rfl)⟩

theorem engineNone_calls {W : World} {base : Nat} {args : Array Value} (h : Ev.Typed Tryz.prog W .any base Tryz.f6.params.toList args.toList) :
    Calls Tryz.prog 6 args W fun e W' => e = .returned (.bool true) ∧ Below W.heap.size W W' := by
  rw [engineNone_pars] at h
  obtain ⟨args⟩ := args
  exact Ev.calls_anysO EngineNone.engineNone_mixed EngineNone.engineNone_known h (by kernel_rfl) 100000 EngineNone.engineNone_run

/-- A world that meets the condition: the settled one, the variable's cell laid. -/
noncomputable def engineNone_laidWorld (os : Os) : World :=
  let w0 := World.holding Tryz.prog os ⟨#[], #[], []⟩
  { w0 with heap := w0.heap.modify 1 fun
      | .cells _ t frozen => .cells #[.iface 761 (.agg #[typeHandle Tryz.prog 627])] t frozen
      | o => o }
theorem engineNone_laidMet (os : Os) (args : Array Value) : laidMetH Tryz.prog Rows.engineNoneRow.laid ((engineNone_laidWorld os).forCall (fun _ _ => 0) ⟨#[], args, []⟩).memory :=
  laidMetH_of_parts (laidMet_nil _ _) (by kernel_rfl)

set_option maxRecDepth 100000 in
theorem engineNone_lifted (os : Os) (started : os.Started) (H : Type) (enc : TypeId × Value → H) :
    ReturnsInHanded {} Tryz.checked os 6 .any (fun w args => (Rows.engineNoneSpec.pre enc Tryz.prog Tryz.f6 Rows.engineNoneRow.domain false w args ∧ laidMetH Tryz.prog Rows.engineNoneRow.laid w) ∧ sizedMet enc Tryz.prog Tryz.f6 (OpenSpec.ofChange Rows.engineNoneSpec) false w args)
      (Rows.engineNoneSpec.post enc Tryz.prog Tryz.f6 false true false false) := by
  refine returnsInHanded_of_change_and (C := Tryz.checked) (X := fun w _ => laidMetH Tryz.prog Rows.engineNoneRow.laid w) (fun _ _ _ hh h => h.of_heap hh) engineNone_own started (by kernel_rfl) Tryz.func6
    (ChangeSpec.witness_at (enc := enc) (C := Tryz.checked) (os := os) (X := fun w _ => laidMetH Tryz.prog Rows.engineNoneRow.laid w) false (engineNone_laidWorld os) #[((Tryz.prog.info? 88).bind (·.zero)).getD (.bool true)] 8 rfl (by kernel_rfl) (by kernel_rfl) (by kernel_rfl) (by kernel_rfl) (by kernel_rfl) (engineNone_laidMet os _)) ?_
  intro W base args ds gs before hval0 hW _ _ _ _
  have hval : ∀ (j : Nat) t v, Tryz.f6.params[j]? = some t → args[j]? = some v → Value.okWide Tryz.prog W .any base t v := hval0
  have hW' := hW
  obtain ⟨p, q, hA0, hV, rfl, hfz, hnd⟩ := hW
  have hA : DataW.TrodAll enc Tryz.prog W 0 (fun _ => true) true Tryz.f6.params.toList args.toList ds p := hA0
  have hA2 := hA
  rw [engineNone_pars] at hA2
  obtain ⟨_, d0, _, rfl, _⟩ := trodAll_one hA2
  obtain ⟨rfl, rfl⟩ := trodVars_none hV
  simp only [List.append_nil] at hW'
  have ht : Ev.Typed Tryz.prog W .any base Tryz.f6.params.toList args.toList := .of (Ev.trodAll_len hA) fun j t v h1 h2 => hval j t v (by simpa using h1) (by simpa using h2)
  have hc : Calls Tryz.prog 6 args W fun e W' => e = .returned (.bool true) ∧ Below W.heap.size W W' := engineNone_calls ht
  refine hc.mono fun e W' ⟨he, hb⟩ => ?_
  subst he
  refine ⟨_, rfl, ?_⟩
  have hlt : ∀ x ∈ p, x.block < W.heap.size := fun x hx => by simpa using hW'.lt x hx
  refine ⟨_, _, p, [], p, [], hW', ?_, ?_, rfl, World.keptBut_mono (fun x hx => ⟨hx, Or.inr (Or.inl hx)⟩) (hb.frame (· ∈ p)), fun h => by cases h⟩
  · exact trodAll_mk1 (shut_bool (by kernel_rfl) true)
  · exact Ev.trodAll_below engineNone_laidOut hb engineNone_params hA hlt

set_option maxRecDepth 100000 in
theorem engineNone_closed : joinedFacts Tryz.checked.prog 6 Tryz.f6 Rows.engineNoneSpec Rows.engineNoneRow = true := by
  unfold joinedFacts
  simp only [Bool.and_eq_true]
  exact ⟨⟨⟨⟨⟨⟨⟨⟨⟨⟨⟨⟨⟨⟨⟨⟨⟨⟨⟨⟨⟨⟨⟨⟨⟨⟨⟨⟨⟨⟨⟨engineNone_fact0, laidOut⟩, laidMaps⟩, engineNone_fact3⟩, engineNone_fact4⟩, engineNone_fact5⟩, engineNone_fact6⟩, engineNone_fact7⟩, engineNone_fact8⟩, engineNone_fact9⟩, engineNone_fact10⟩, engineNone_fact11⟩, engineNone_fact12⟩, engineNone_fact13⟩, engineNone_fact14⟩, engineNone_fact15⟩, engineNone_fact16⟩, engineNone_fact17⟩, engineNone_fact18⟩, engineNone_fact19⟩, engineNone_fact20⟩, engineNone_fact21⟩, engineNone_fact22⟩, engineNone_fact23⟩, engineNone_fact24⟩, engineNone_fact25⟩, engineNone_fact26⟩, engineNone_fact27⟩, engineNone_fact28⟩, engineNone_fact29⟩, engineNone_fact30⟩, engineNone_fact31⟩

theorem engineNone_holds : Rows.EngineNoneSaid :=
  OpenClaim.holds_of_wide 6 Tryz.f6 rfl rfl rfl rfl rfl rfl rfl ⟨rfl, rfl, rfl, rfl, rfl⟩ rfl rfl rfl rfl rfl (by kernel_rfl) Tryz.func6 engineNone_closed
    (of_decide_eq_true (by kernel_rfl)) (by unfold Func.isWrapper; first | (rw [if_pos (by decide +kernel)]; kernel_rfl) | (rw [if_neg (by decide +kernel)]; exact ⟨rfl, rfl⟩))
    (fun os started H enc _ => engineNone_lifted os started H enc)

theorem engineNone_tie : Rows.engineNoneRow.laidByTextAt .later Tryz.pinned [.handle] true := OpenClaim.laidByTextAt_later rfl rfl tieAll tieA7

/-- The row's one listed variable, tied: the card. -/
theorem engineNoneCard_holds : Rows.EngineNoneCardSaid :=
  Claim7.holds_tied_plain_at .later [] [.handle] true (true, "68d50d6a516db3e82c0563c71a9b42c2d8040881885d4ae4f425877f48707d24") true
    engineNone_holds (fun _ h => by cases h) engineNone_card1 (fun _ h => by cases h) engineNone_tie rfl ⟨rfl, rfl⟩ engineNone_card2 rfl
    (fun f fn hf hfn => by
      obtain rfl : f = 6 := Option.some.inj (engineNone_card5.symm.trans hf) |>.symm
      obtain rfl : fn = Tryz.f6 := (Option.some.inj (Tryz.func6.symm.trans hfn)).symm
      exact ⟨engineNone_card3, fun j t ht => by
        have hm : t ∈ Tryz.f6.params.toList := Array.mem_toList_iff.2 (Array.mem_of_getElem? ht)
        rw [engineNone_pars] at hm
        simp only [List.mem_cons, List.not_mem_nil, or_false] at hm
        rcases hm with rfl
        · exact engineNone_stand88
        ⟩)
    (noGo _)

end Go.Proofs.YtkopocjaofejgaaGreatDoor
