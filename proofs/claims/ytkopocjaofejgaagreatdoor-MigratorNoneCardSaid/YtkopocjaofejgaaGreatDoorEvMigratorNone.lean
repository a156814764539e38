/- Proved: the law 'transomlaw33.MigratorNone' returns true whatever its arguments, and its arguments read behind the call as they read before. No condition. -/
import Derived.Test.YtkopocjaofejgaaGreatDoorRows
import Derived.Test.YtkopocjaofejgaaGreatDoorEvTold
import Derived.Test.YtkopocjaofejgaaGreatDoorEvMigratorNoneRun
import Derived.Test.YtkopocjaofejgaaGreatDoorEvLaid
import Derived.Test.YtkopocjaofejgaaGreatDoorEvMigratorNoneFacts
import Derived.Test.YtkopocjaofejgaaGreatDoorEvMigratorNoneFactsB
import Derived.ProofKit
import Derived.Carry
import Derived.Test.YtkopocjaofejgaaGreatDoorCards
import Derived.Test.YtkopocjaofejgaaGreatDoorEvTieB
import Derived.Test.YtkopocjaofejgaaGreatDoorEvNoGo
import Derived.Test.YtkopocjaofejgaaGreatDoorEvMigratorNoneCard
import Derived.SevenTiedAt
import Derived.LaidLaws
import Derived.LaidHandle
import Derived.JoinedOf
import Derived.Stop.Joined
namespace Go.Proofs.YtkopocjaofejgaaGreatDoor
open Go.ChangeShapes Go.WideShapes Go.ChangeAt Go.RowKit

theorem migratorNone_own : ownKnob Tryz.prog.godebug = none := by kernel_rfl
theorem migratorNone_laidOut : laidOutB Tryz.prog = true := laidOut
theorem migratorNone_pars : Tryz.f3.params.toList = [23, 3] := by kernel_rfl

theorem migratorNone_params : ∀ t ∈ Tryz.f3.params.toList, Tryz.prog.readableRec t = true ∧ t < Tryz.prog.types.size := by
  rw [migratorNone_pars]
  intro t ht
  simp only [List.mem_cons, List.not_mem_nil, or_false] at ht
  rcases ht with rfl | rfl <;> exact ⟨by kernel_rfl, of_decide_eq_true (by kernel_rfl)⟩

theorem migratorNone_calls {W : World} {base : Nat} {args : Array Value} (h : Ev.Typed Tryz.prog W .any base Tryz.f3.params.toList args.toList) :
    Calls Tryz.prog 3 args W fun e W' => e = .returned (.bool true) ∧ Below W.heap.size W W' := by
  rw [migratorNone_pars] at h
  obtain ⟨args⟩ := args
  exact Ev.calls_anysO MigratorNone.migratorNone_mixed MigratorNone.migratorNone_known h (by kernel_rfl) 100000 MigratorNone.migratorNone_run

/-- A world that meets the condition: the settled one, the variable's cell laid. -/
noncomputable def migratorNone_laidWorld (os : Os) : World :=
  let w0 := World.holding Tryz.prog os ⟨#[], #[], []⟩
  { w0 with heap := w0.heap.modify 1 fun
      | .cells _ t frozen => .cells #[.iface 761 (.agg #[typeHandle Tryz.prog 627])] t frozen
      | o => o }
theorem migratorNone_laidMet (os : Os) (args : Array Value) : laidMetH Tryz.prog Rows.migratorNoneRow.laid ((migratorNone_laidWorld os).forCall (fun _ _ => 0) ⟨#[], args, []⟩).memory :=
  laidMetH_of_parts (laidMet_nil _ _) (by kernel_rfl)

set_option maxRecDepth 100000 in
theorem migratorNone_lifted (os : Os) (started : os.Started) (H : Type) (enc : TypeId × Value → H) :
    ReturnsInHanded {} Tryz.checked os 3 .any (fun w args => (Rows.migratorNoneSpec.pre enc Tryz.prog Tryz.f3 Rows.migratorNoneRow.domain false w args ∧ laidMetH Tryz.prog Rows.migratorNoneRow.laid w) ∧ sizedMet enc Tryz.prog Tryz.f3 (OpenSpec.ofChange Rows.migratorNoneSpec) false w args)
      (Rows.migratorNoneSpec.post enc Tryz.prog Tryz.f3 false true false false) := by
  refine returnsInHanded_of_change_and (C := Tryz.checked) (X := fun w _ => laidMetH Tryz.prog Rows.migratorNoneRow.laid w) (fun _ _ _ hh h => h.of_heap hh) migratorNone_own started (by kernel_rfl) Tryz.func3
    (ChangeSpec.witness_at (enc := enc) (C := Tryz.checked) (os := os) (X := fun w _ => laidMetH Tryz.prog Rows.migratorNoneRow.laid w) false (migratorNone_laidWorld os) #[((Tryz.prog.info? 23).bind (·.zero)).getD (.bool true), ((Tryz.prog.info? 3).bind (·.zero)).getD (.bool true)] 8 rfl (by kernel_rfl) (by kernel_rfl) (by kernel_rfl) (by kernel_rfl) (by kernel_rfl) (migratorNone_laidMet os _)) ?_
  intro W base args ds gs before hval0 hW _ _ _ _
  have hval : ∀ (j : Nat) t v, Tryz.f3.params[j]? = some t → args[j]? = some v → Value.okWide Tryz.prog W .any base t v := hval0
  have hW' := hW
  obtain ⟨p, q, hA0, hV, rfl, hfz, hnd⟩ := hW
  have hA : DataW.TrodAll enc Tryz.prog W 0 (fun _ => true) true Tryz.f3.params.toList args.toList ds p := hA0
  have hA2 := hA
  rw [migratorNone_pars] at hA2
  obtain ⟨_, _, d0, d1, _, _, _, rfl, _, _, _⟩ := trodAll_two hA2
  obtain ⟨rfl, rfl⟩ := trodVars_none hV
  simp only [List.append_nil] at hW'
  have ht : Ev.Typed Tryz.prog W .any base Tryz.f3.params.toList args.toList := .of (Ev.trodAll_len hA) fun j t v h1 h2 => hval j t v (by simpa using h1) (by simpa using h2)
  have hc : Calls Tryz.prog 3 args W fun e W' => e = .returned (.bool true) ∧ Below W.heap.size W W' := migratorNone_calls ht
  refine hc.mono fun e W' ⟨he, hb⟩ => ?_
  subst he
  refine ⟨_, rfl, ?_⟩
  have hlt : ∀ x ∈ p, x.block < W.heap.size := fun x hx => by simpa using hW'.lt x hx
  refine ⟨_, _, p, [], p, [], hW', ?_, ?_, rfl, World.keptBut_mono (fun x hx => ⟨hx, Or.inr (Or.inl hx)⟩) (hb.frame (· ∈ p)), fun h => by cases h⟩
  · exact trodAll_mk1 (shut_bool (by kernel_rfl) true)
  · exact Ev.trodAll_below migratorNone_laidOut hb migratorNone_params hA hlt

set_option maxRecDepth 100000 in
theorem migratorNone_closed : joinedFacts Tryz.checked.prog 3 Tryz.f3 Rows.migratorNoneSpec Rows.migratorNoneRow = true := by
  unfold joinedFacts
  simp only [Bool.and_eq_true]
  exact ⟨⟨⟨⟨⟨⟨⟨⟨⟨⟨⟨⟨⟨⟨⟨⟨⟨⟨⟨⟨⟨⟨⟨⟨⟨⟨⟨⟨⟨⟨⟨migratorNone_fact0, laidOut⟩, laidMaps⟩, migratorNone_fact3⟩, migratorNone_fact4⟩, migratorNone_fact5⟩, migratorNone_fact6⟩, migratorNone_fact7⟩, migratorNone_fact8⟩, migratorNone_fact9⟩, migratorNone_fact10⟩, migratorNone_fact11⟩, migratorNone_fact12⟩, migratorNone_fact13⟩, migratorNone_fact14⟩, migratorNone_fact15⟩, migratorNone_fact16⟩, migratorNone_fact17⟩, migratorNone_fact18⟩, migratorNone_fact19⟩, migratorNone_fact20⟩, migratorNone_fact21⟩, migratorNone_fact22⟩, migratorNone_fact23⟩, migratorNone_fact24⟩, migratorNone_fact25⟩, migratorNone_fact26⟩, migratorNone_fact27⟩, migratorNone_fact28⟩, migratorNone_fact29⟩, migratorNone_fact30⟩, migratorNone_fact31⟩

theorem migratorNone_holds : Rows.MigratorNoneSaid :=
  OpenClaim.holds_of_wide 3 Tryz.f3 rfl rfl rfl rfl rfl rfl rfl ⟨rfl, rfl, rfl, rfl, rfl⟩ rfl rfl rfl rfl rfl (by kernel_rfl) Tryz.func3 migratorNone_closed
    (of_decide_eq_true (by kernel_rfl)) (by unfold Func.isWrapper; first | (rw [if_pos (by decide +kernel)]; kernel_rfl) | (rw [if_neg (by decide +kernel)]; exact ⟨rfl, rfl⟩))
    (fun os started H enc _ => migratorNone_lifted os started H enc)

theorem migratorNone_tie : Rows.migratorNoneRow.laidByTextAt .later Tryz.pinned [.handle] true := OpenClaim.laidByTextAt_later rfl rfl tieAll tieA7

/-- The row's one listed variable, tied: the card. -/
theorem migratorNoneCard_holds : Rows.MigratorNoneCardSaid :=
  Claim7.holds_tied_plain_at .later [] [.handle] true (true, "68d50d6a516db3e82c0563c71a9b42c2d8040881885d4ae4f425877f48707d24") true
    migratorNone_holds (fun _ h => by cases h) migratorNone_card1 (fun _ h => by cases h) migratorNone_tie rfl ⟨rfl, rfl⟩ migratorNone_card2 rfl
    (fun f fn hf hfn => by
      obtain rfl : f = 3 := Option.some.inj (migratorNone_card5.symm.trans hf) |>.symm
      obtain rfl : fn = Tryz.f3 := (Option.some.inj (Tryz.func3.symm.trans hfn)).symm
      exact ⟨migratorNone_card3, fun j t ht => by
        have hm : t ∈ Tryz.f3.params.toList := Array.mem_toList_iff.2 (Array.mem_of_getElem? ht)
        rw [migratorNone_pars] at hm
        simp only [List.mem_cons, List.not_mem_nil, or_false] at hm
        rcases hm with rfl | rfl
        · exact migratorNone_stand23
        · exact migratorNone_stand3
        ⟩)
    (noGo _)

end Go.Proofs.YtkopocjaofejgaaGreatDoor
