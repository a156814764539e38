/- Proved: the law 'transomlaw31.TxnNone' returns true whatever its arguments, and its arguments read behind the call as they read before. No condition. -/
import Derived.Test.YtkopocjaofejgaaGreatDoorRows
import Derived.Test.YtkopocjaofejgaaGreatDoorEvTold
import Derived.Test.YtkopocjaofejgaaGreatDoorEvTxnNoneRun
import Derived.Test.YtkopocjaofejgaaGreatDoorEvLaid
import Derived.Test.YtkopocjaofejgaaGreatDoorEvTxnNoneFacts
import Derived.Test.YtkopocjaofejgaaGreatDoorEvTxnNoneFactsB
import Derived.ProofKit
import Derived.Carry
import Derived.Test.YtkopocjaofejgaaGreatDoorCards
import Derived.Test.YtkopocjaofejgaaGreatDoorEvTieB
import Derived.Test.YtkopocjaofejgaaGreatDoorEvNoGo
import Derived.Test.YtkopocjaofejgaaGreatDoorEvTxnNoneCard
import Derived.SevenTiedAt
import Derived.LaidLaws
import Derived.LaidHandle
import Derived.JoinedOf
import Derived.Stop.Joined
namespace Go.Proofs.YtkopocjaofejgaaGreatDoor
open Go.ChangeShapes Go.WideShapes Go.ChangeAt Go.RowKit

theorem txnNone_own : ownKnob Tryz.prog.godebug = none := by kernel_rfl
theorem txnNone_laidOut : laidOutB Tryz.prog = true := laidOut
theorem txnNone_pars : Tryz.f4.params.toList = [52] := by kernel_rfl

theorem txnNone_params : ∀ t ∈ Tryz.f4.params.toList, Tryz.prog.readableRec t = true ∧ t < Tryz.prog.types.size := by
  rw [txnNone_pars]
  intro t ht
  simp only [List.mem_cons, List.not_mem_nil, or_false] at ht
  rcases ht with rfl
  exact ⟨by kernel_rfl, of_decide_eq_true (by kernel_rfl)⟩

theorem txnNone_calls {W : World} {base : Nat} {args : Array Value} (h : Ev.Typed Tryz.prog W .any base Tryz.f4.params.toList args.toList) :
    Calls Tryz.prog 4 args W fun e W' => e = .returned (.bool true) ∧ Below W.heap.size W W' := by
  rw [txnNone_pars] at h
  obtain ⟨args⟩ := args
  exact Ev.calls_anysO TxnNone.txnNone_mixed TxnNone.txnNone_known h (by kernel_rfl) 100000 TxnNone.txnNone_run

/-- A world that meets the condition: the settled one, the variable's cell laid. -/
noncomputable def txnNone_laidWorld (os : Os) : World :=
  let w0 := World.holding Tryz.prog os ⟨#[], #[], []⟩
  { w0 with heap := w0.heap.modify 1 fun
      | .cells _ t frozen => .cells #[.iface 761 (.agg #[typeHandle Tryz.prog 627])] t frozen
      | o => o }
theorem txnNone_laidMet (os : Os) (args : Array Value) : laidMetH Tryz.prog Rows.txnNoneRow.laid ((txnNone_laidWorld os).forCall (fun _ _ => 0) ⟨#[], args, []⟩).memory :=
  laidMetH_of_parts (laidMet_nil _ _) (by kernel_rfl)

set_option maxRecDepth 100000 in
theorem txnNone_lifted (os : Os) (started : os.Started) (H : Type) (enc : TypeId × Value → H) :
    ReturnsInHanded {} Tryz.checked os 4 .any (fun w args => (Rows.txnNoneSpec.pre enc Tryz.prog Tryz.f4 Rows.txnNoneRow.domain false w args ∧ laidMetH Tryz.prog Rows.txnNoneRow.laid w) ∧ sizedMet enc Tryz.prog Tryz.f4 (OpenSpec.ofChange Rows.txnNoneSpec) false w args)
      (Rows.txnNoneSpec.post enc Tryz.prog Tryz.f4 false true false false) := by
  refine returnsInHanded_of_change_and (C := Tryz.checked) (X := fun w _ => laidMetH Tryz.prog Rows.txnNoneRow.laid w) (fun _ _ _ hh h => h.of_heap hh) txnNone_own started (by kernel_rfl) Tryz.func4
    (ChangeSpec.witness_at (enc := enc) (C := Tryz.checked) (os := os) (X := fun w _ => laidMetH Tryz.prog Rows.txnNoneRow.laid w) false (txnNone_laidWorld os) #[((Tryz.prog.info? 52).bind (·.zero)).getD (.bool true)] 8 rfl (by kernel_rfl) (by kernel_rfl) (by kernel_rfl) (by kernel_rfl) (by kernel_rfl) (txnNone_laidMet os _)) ?_
  intro W base args ds gs before hval0 hW _ _ _ _
  have hval : ∀ (j : Nat) t v, Tryz.f4.params[j]? = some t → args[j]? = some v → Value.okWide Tryz.prog W .any base t v := hval0
  have hW' := hW
  obtain ⟨p, q, hA0, hV, rfl, hfz, hnd⟩ := hW
  have hA : DataW.TrodAll enc Tryz.prog W 0 (fun _ => true) true Tryz.f4.params.toList args.toList ds p := hA0
  have hA2 := hA
  rw [txnNone_pars] at hA2
  obtain ⟨_, d0, _, rfl, _⟩ := trodAll_one hA2
  obtain ⟨rfl, rfl⟩ := trodVars_none hV
  simp only [List.append_nil] at hW'
  have ht : Ev.Typed Tryz.prog W .any base Tryz.f4.params.toList args.toList := .of (Ev.trodAll_len hA) fun j t v h1 h2 => hval j t v (by simpa using h1) (by simpa using h2)
  have hc : Calls Tryz.prog 4 args W fun e W' => e = .returned (.bool true) ∧ Below W.heap.size W W' := txnNone_calls ht
  refine hc.mono fun e W' ⟨he, hb⟩ => ?_
  subst he
  refine ⟨_, rfl, ?_⟩
  have hlt : ∀ x ∈ p, x.block < W.heap.size := fun x hx => by simpa using hW'.lt x hx
  refine ⟨_, _, p, [], p, [], hW', ?_, ?_, rfl, World.keptBut_mono (fun x hx => ⟨hx, Or.inr (Or.inl hx)⟩) (hb.frame (· ∈ p)), fun h => by cases h⟩
  · exact trodAll_mk1 (shut_bool (by kernel_rfl) true)
  · exact Ev.trodAll_below txnNone_laidOut hb txnNone_params hA hlt

set_option maxRecDepth 100000 in
theorem txnNone_closed : joinedFacts Tryz.checked.prog 4 Tryz.f4 Rows.txnNoneSpec Rows.txnNoneRow = true := by
  unfold joinedFacts
  simp only [Bool.and_eq_true]
  exact ⟨⟨⟨⟨⟨⟨⟨⟨⟨⟨⟨⟨⟨⟨⟨⟨⟨⟨⟨⟨⟨⟨⟨⟨⟨⟨⟨⟨⟨⟨⟨txnNone_fact0, laidOut⟩, laidMaps⟩, txnNone_fact3⟩, txnNone_fact4⟩, txnNone_fact5⟩, txnNone_fact6⟩, txnNone_fact7⟩, txnNone_fact8⟩, txnNone_fact9⟩, txnNone_fact10⟩, txnNone_fact11⟩, txnNone_fact12⟩, txnNone_fact13⟩, txnNone_fact14⟩, txnNone_fact15⟩, txnNone_fact16⟩, txnNone_fact17⟩, txnNone_fact18⟩, txnNone_fact19⟩, txnNone_fact20⟩, txnNone_fact21⟩, txnNone_fact22⟩, txnNone_fact23⟩, txnNone_fact24⟩, txnNone_fact25⟩, txnNone_fact26⟩, txnNone_fact27⟩, txnNone_fact28⟩, txnNone_fact29⟩, txnNone_fact30⟩, txnNone_fact31⟩

theorem txnNone_holds : Rows.TxnNoneSaid :=
  OpenClaim.holds_of_wide 4 Tryz.f4 rfl rfl rfl rfl rfl rfl rfl ⟨rfl, rfl, rfl, rfl, rfl⟩ rfl rfl rfl rfl rfl (by kernel_rfl) Tryz.func4 txnNone_closed
    (of_decide_eq_true (by kernel_rfl)) (by unfold Func.isWrapper; first | (rw [if_pos (by decide +kernel)]; kernel_rfl) | (rw [if_neg (by decide +kernel)]; exact ⟨rfl, rfl⟩))
    (fun os started H enc _ => txnNone_lifted os started H enc)

theorem txnNone_tie : Rows.txnNoneRow.laidByTextAt .later Tryz.pinned [.handle] true := OpenClaim.laidByTextAt_later rfl rfl tieAll tieA7

/-- The row's one listed variable, tied: the card. -/
theorem txnNoneCard_holds : Rows.TxnNoneCardSaid :=
  Claim7.holds_tied_plain_at .later [] [.handle] true (true, "68d50d6a516db3e82c0563c71a9b42c2d8040881885d4ae4f425877f48707d24") true
    txnNone_holds (fun _ h => by cases h) txnNone_card1 (fun _ h => by cases h) txnNone_tie rfl ⟨rfl, rfl⟩ txnNone_card2 rfl
    (fun f fn hf hfn => by
      obtain rfl : f = 4 := Option.some.inj (txnNone_card5.symm.trans hf) |>.symm
      obtain rfl : fn = Tryz.f4 := (Option.some.inj (Tryz.func4.symm.trans hfn)).symm
      exact ⟨txnNone_card3, fun j t ht => by
        have hm : t ∈ Tryz.f4.params.toList := Array.mem_toList_iff.2 (Array.mem_of_getElem? ht)
        rw [txnNone_pars] at hm
        simp only [List.mem_cons, List.not_mem_nil, or_false] at hm
        rcases hm with rfl
        · exact txnNone_stand52
        ⟩)
    (noGo _)

end Go.Proofs.YtkopocjaofejgaaGreatDoor
