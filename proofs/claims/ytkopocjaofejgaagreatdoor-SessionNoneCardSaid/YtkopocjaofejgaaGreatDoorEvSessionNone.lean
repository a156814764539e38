/- Proved: the law 'transomlaw32.SessionNone' returns true whatever its arguments, and its arguments read behind the call as they read before. No condition. -/
import Derived.Test.YtkopocjaofejgaaGreatDoorRows
import Derived.Test.YtkopocjaofejgaaGreatDoorEvTold
import Derived.Test.YtkopocjaofejgaaGreatDoorEvSessionNoneRun
import Derived.Test.YtkopocjaofejgaaGreatDoorEvLaid
import Derived.Test.YtkopocjaofejgaaGreatDoorEvSessionNoneFacts
import Derived.Test.YtkopocjaofejgaaGreatDoorEvSessionNoneFactsB
import Derived.ProofKit
import Derived.Carry
import Derived.Test.YtkopocjaofejgaaGreatDoorCards
import Derived.Test.YtkopocjaofejgaaGreatDoorEvTieB
import Derived.Test.YtkopocjaofejgaaGreatDoorEvNoGo
import Derived.Test.YtkopocjaofejgaaGreatDoorEvSessionNoneCard
import Derived.SevenTiedAt
import Derived.LaidLaws
import Derived.LaidHandle
import Derived.JoinedOf
import Derived.Stop.Joined
namespace Go.Proofs.YtkopocjaofejgaaGreatDoor
open Go.ChangeShapes Go.WideShapes Go.ChangeAt Go.RowKit

theorem sessionNone_own : ownKnob Tryz.prog.godebug = none := by kernel_rfl
theorem sessionNone_laidOut : laidOutB Tryz.prog = true := laidOut
theorem sessionNone_pars : Tryz.f5.params.toList = [72, 23] := by kernel_rfl

theorem sessionNone_params : ∀ t ∈ Tryz.f5.params.toList, Tryz.prog.readableRec t = true ∧ t < Tryz.prog.types.size := by
  rw [sessionNone_pars]
  intro t ht
  simp only [List.mem_cons, List.not_mem_nil, or_false] at ht
  rcases ht with rfl | rfl <;> exact ⟨by kernel_rfl, of_decide_eq_true (by kernel_rfl)⟩

theorem sessionNone_calls {W : World} {base : Nat} {args : Array Value} (h : Ev.Typed Tryz.prog W .any base Tryz.f5.params.toList args.toList) :
    Calls Tryz.prog 5 args W fun e W' => e = .returned (.bool true) ∧ Below W.heap.size W W' := by
  rw [sessionNone_pars] at h
  obtain ⟨args⟩ := args
  exact Ev.calls_anysO SessionNone.sessionNone_mixed SessionNone.sessionNone_known h (by kernel_rfl) 100000 SessionNone.sessionNone_run

/-- A world that meets the condition: the settled one, the variable's cell laid. -/
noncomputable def sessionNone_laidWorld (os : Os) : World :=
  let w0 := World.holding Tryz.prog os ⟨#[], #[], []⟩
  { w0 with heap := w0.heap.modify 1 fun
      | .cells _ t frozen => .cells #[.iface 761 (.agg #[typeHandle Tryz.prog 627])] t frozen
      | o => o }
theorem sessionNone_laidMet (os : Os) (args : Array Value) : laidMetH Tryz.prog Rows.sessionNoneRow.laid ((sessionNone_laidWorld os).forCall (fun _ _ => 0) ⟨#[], args, []⟩).memory :=
  laidMetH_of_parts (laidMet_nil _ _) (by kernel_rfl)

set_option maxRecDepth 100000 in
theorem sessionNone_lifted (os : Os) (started : os.Started) (H : Type) (enc : TypeId × Value → H) :
    ReturnsInHanded {} Tryz.checked os 5 .any (fun w args => (Rows.sessionNoneSpec.pre enc Tryz.prog Tryz.f5 Rows.sessionNoneRow.domain false w args ∧ laidMetH Tryz.prog Rows.sessionNoneRow.laid w) ∧ sizedMet enc Tryz.prog Tryz.f5 (OpenSpec.ofChange Rows.sessionNoneSpec) false w args)
      (Rows.sessionNoneSpec.post enc Tryz.prog Tryz.f5 false true false false) := by
  refine returnsInHanded_of_change_and (C := Tryz.checked) (X := fun w _ => laidMetH Tryz.prog Rows.sessionNoneRow.laid w) (fun _ _ _ hh h => h.of_heap hh) sessionNone_own started (by kernel_rfl) Tryz.func5
    (ChangeSpec.witness_at (enc := enc) (C := Tryz.checked) (os := os) (X := fun w _ => laidMetH Tryz.prog Rows.sessionNoneRow.laid w) false (sessionNone_laidWorld os) #[((Tryz.prog.info? 72).bind (·.zero)).getD (.bool true), ((Tryz.prog.info? 23).bind (·.zero)).getD (.bool true)] 8 rfl (by kernel_rfl) (by kernel_rfl) (by kernel_rfl) (by kernel_rfl) (by kernel_rfl) (sessionNone_laidMet os _)) ?_
  intro W base args ds gs before hval0 hW _ _ _ _
  have hval : ∀ (j : Nat) t v, Tryz.f5.params[j]? = some t → args[j]? = some v → Value.okWide Tryz.prog W .any base t v := hval0
  have hW' := hW
  obtain ⟨p, q, hA0, hV, rfl, hfz, hnd⟩ := hW
  have hA : DataW.TrodAll enc Tryz.prog W 0 (fun _ => true) true Tryz.f5.params.toList args.toList ds p := hA0
  have hA2 := hA
  rw [sessionNone_pars] at hA2
  obtain ⟨_, _, d0, d1, _, _, _, rfl, _, _, _⟩ := trodAll_two hA2
  obtain ⟨rfl, rfl⟩ := trodVars_none hV
  simp only [List.append_nil] at hW'
  have ht : Ev.Typed Tryz.prog W .any base Tryz.f5.params.toList args.toList := .of (Ev.trodAll_len hA) fun j t v h1 h2 => hval j t v (by simpa using h1) (by simpa using h2)
  have hc : Calls Tryz.prog 5 args W fun e W' => e = .returned (.bool true) ∧ Below W.heap.size W W' := sessionNone_calls ht
  refine hc.mono fun e W' ⟨he, hb⟩ => ?_
  subst he
  refine ⟨_, rfl, ?_⟩
  have hlt : ∀ x ∈ p, x.block < W.heap.size := fun x hx => by simpa using hW'.lt x hx
  refine ⟨_, _, p, [], p, [], hW', ?_, ?_, rfl, World.keptBut_mono (fun x hx => ⟨hx, Or.inr (Or.inl hx)⟩) (hb.frame (· ∈ p)), fun h => by cases h⟩
  · exact trodAll_mk1 (shut_bool (by kernel_rfl) true)
  · exact Ev.trodAll_below sessionNone_laidOut hb sessionNone_params hA hlt

set_option maxRecDepth 100000 in
theorem sessionNone_closed : joinedFacts Tryz.checked.prog 5 Tryz.f5 Rows.sessionNoneSpec Rows.sessionNoneRow = true := by
  unfold joinedFacts
  simp only [Bool.and_eq_true]
  exact ⟨⟨⟨⟨⟨⟨⟨⟨⟨⟨⟨⟨⟨⟨⟨⟨⟨⟨⟨⟨⟨⟨⟨⟨⟨⟨⟨⟨⟨⟨⟨sessionNone_fact0, laidOut⟩, laidMaps⟩, sessionNone_fact3⟩, sessionNone_fact4⟩, sessionNone_fact5⟩, sessionNone_fact6⟩, sessionNone_fact7⟩, sessionNone_fact8⟩, sessionNone_fact9⟩, sessionNone_fact10⟩, sessionNone_fact11⟩, sessionNone_fact12⟩, sessionNone_fact13⟩, sessionNone_fact14⟩, sessionNone_fact15⟩, sessionNone_fact16⟩, sessionNone_fact17⟩, sessionNone_fact18⟩, sessionNone_fact19⟩, sessionNone_fact20⟩, sessionNone_fact21⟩, sessionNone_fact22⟩, sessionNone_fact23⟩, sessionNone_fact24⟩, sessionNone_fact25⟩, sessionNone_fact26⟩, sessionNone_fact27⟩, sessionNone_fact28⟩, sessionNone_fact29⟩, sessionNone_fact30⟩, sessionNone_fact31⟩

theorem sessionNone_holds : Rows.SessionNoneSaid :=
  OpenClaim.holds_of_wide 5 Tryz.f5 rfl rfl rfl rfl rfl rfl rfl ⟨rfl, rfl, rfl, rfl, rfl⟩ rfl rfl rfl rfl rfl (by kernel_rfl) Tryz.func5 sessionNone_closed
    (of_decide_eq_true (by kernel_rfl)) (by unfold Func.isWrapper; first | (rw [if_pos (by decide +kernel)]; kernel_rfl) | (rw [if_neg (by decide +kernel)]; exact ⟨rfl, rfl⟩))
    (fun os started H enc _ => sessionNone_lifted os started H enc)

theorem sessionNone_tie : Rows.sessionNoneRow.laidByTextAt .later Tryz.pinned [.handle] true := OpenClaim.laidByTextAt_later rfl rfl tieAll tieA7

/-- The row's one listed variable, tied: the card. -/
theorem sessionNoneCard_holds : Rows.SessionNoneCardSaid :=
  Claim7.holds_tied_plain_at .later [] [.handle] true (true, "68d50d6a516db3e82c0563c71a9b42c2d8040881885d4ae4f425877f48707d24") true
    sessionNone_holds (fun _ h => by cases h) sessionNone_card1 (fun _ h => by cases h) sessionNone_tie rfl ⟨rfl, rfl⟩ sessionNone_card2 rfl
    (fun f fn hf hfn => by
      obtain rfl : f = 5 := Option.some.inj (sessionNone_card5.symm.trans hf) |>.symm
      obtain rfl : fn = Tryz.f5 := (Option.some.inj (Tryz.func5.symm.trans hfn)).symm
      exact ⟨sessionNone_card3, fun j t ht => by
        have hm : t ∈ Tryz.f5.params.toList := Array.mem_toList_iff.2 (Array.mem_of_getElem? ht)
        rw [sessionNone_pars] at hm
        simp only [List.mem_cons, List.not_mem_nil, or_false] at hm
        rcases hm with rfl | rfl
        · exact sessionNone_stand72
        · exact sessionNone_stand23
        ⟩)
    (noGo _)

end Go.Proofs.YtkopocjaofejgaaGreatDoor
