/- Proved: the law 'transomlaw38.SerialRises' returns true whatever its arguments, and its arguments read behind the call as they read before. No condition. -/
import Derived.Test.YtbajncpfmemdgaaGreatDoorRows
import Derived.Test.YtbajncpfmemdgaaGreatDoorEvSrC
import Derived.Test.YtbajncpfmemdgaaGreatDoorEvLaid
import Derived.Test.YtbajncpfmemdgaaGreatDoorEvSerialRisesFacts
import Derived.Test.YtbajncpfmemdgaaGreatDoorEvSerialRisesFactsB
import Derived.ProofKit
import Derived.Carry
import Derived.Test.YtbajncpfmemdgaaGreatDoorCards
import Derived.Test.YtbajncpfmemdgaaGreatDoorEvTieB
import Derived.Test.YtbajncpfmemdgaaGreatDoorEvNoGo
import Derived.Test.YtbajncpfmemdgaaGreatDoorEvSerialRisesCard
import Derived.SevenTiedAt
import Derived.LaidLaws
import Derived.LaidHandle
import Derived.JoinedOf
import Derived.Stop.Joined
namespace Go.Proofs.YtbajncpfmemdgaaGreatDoor
open Go.ChangeShapes Go.WideShapes Go.ChangeAt Go.RowKit

theorem serialRises_own : ownKnob Tryz.prog.godebug = none := by kernel_rfl
theorem serialRises_laidOut : laidOutB Tryz.prog = true := laidOut
theorem serialRises_pars : Tryz.f3.params.toList = [22] := by kernel_rfl

theorem serialRises_params : ∀ t ∈ Tryz.f3.params.toList, Tryz.prog.readableRec t = true ∧ t < Tryz.prog.types.size := by
  rw [serialRises_pars]
  intro t ht
  simp only [List.mem_cons, List.not_mem_nil, or_false] at ht
  rcases ht with rfl
  exact ⟨by kernel_rfl, of_decide_eq_true (by kernel_rfl)⟩

/-- A world that meets the condition: the settled one, the variable's cell laid. -/
noncomputable def serialRises_laidWorld (os : Os) : World :=
  let w0 := World.holding Tryz.prog os ⟨#[], #[], []⟩
  { w0 with heap := w0.heap.modify 0 fun
      | .cells _ t frozen => .cells #[.iface 292 (.agg #[typeHandle Tryz.prog 179])] t frozen
      | o => o }
theorem serialRises_laidMet (os : Os) (args : Array Value) : laidMetH Tryz.prog Rows.serialRisesRow.laid ((serialRises_laidWorld os).forCall (fun _ _ => 0) ⟨#[], args, []⟩).memory :=
  laidMetH_of_parts (laidMet_nil _ _) (by kernel_rfl)

set_option maxRecDepth 100000 in
theorem serialRises_lifted (os : Os) (started : os.Started) (H : Type) (enc : TypeId × Value → H) :
    ReturnsInHanded {} Tryz.checked os 3 .any (fun w args => (Rows.serialRisesSpec.pre enc Tryz.prog Tryz.f3 Rows.serialRisesRow.domain false w args ∧ laidMetH Tryz.prog Rows.serialRisesRow.laid w) ∧ sizedMet enc Tryz.prog Tryz.f3 (OpenSpec.ofChange Rows.serialRisesSpec) false w args)
      (Rows.serialRisesSpec.post enc Tryz.prog Tryz.f3 false true false false) := by
  refine returnsInHanded_of_change_and (C := Tryz.checked) (X := fun w _ => laidMetH Tryz.prog Rows.serialRisesRow.laid w) (fun _ _ _ hh h => h.of_heap hh) serialRises_own started (by kernel_rfl) Tryz.func3
    (ChangeSpec.witness_at (enc := enc) (C := Tryz.checked) (os := os) (X := fun w _ => laidMetH Tryz.prog Rows.serialRisesRow.laid w) false (serialRises_laidWorld os) #[((Tryz.prog.info? 22).bind (·.zero)).getD (.bool true)] 8 rfl (by kernel_rfl) (by kernel_rfl) (by kernel_rfl) (by kernel_rfl) (by kernel_rfl) (serialRises_laidMet os _)) ?_
  intro W base args ds gs before hval0 hW _ _ _ _
  have hval : ∀ (j : Nat) t v, Tryz.f3.params[j]? = some t → args[j]? = some v → Value.okWide Tryz.prog W .any base t v := hval0
  have hW' := hW
  obtain ⟨p, q, hA0, hV, rfl, hfz, hnd⟩ := hW
  have hA : DataW.TrodAll enc Tryz.prog W 0 (fun _ => true) true Tryz.f3.params.toList args.toList ds p := hA0
  have hA2 := hA
  rw [serialRises_pars] at hA2
  obtain ⟨v0, d0, hargs, rfl, hT⟩ := trodAll_one hA2
  subst hargs
  obtain ⟨rfl, rfl⟩ := trodVars_none hV
  simp only [List.append_nil] at hW'
  have hone : v0.oneCell' = true := by
    have h22 : (Ev.shapeT Tryz.prog 22).1 = false := by kernel_rfl
    rcases Ev.value_shape (hval 0 22 v0 (by kernel_rfl) rfl) with ⟨cs, _, h, _⟩ | ⟨_, _, h, _⟩
    · rw [h22] at h; cases h
    · exact h
  have hc : Calls Tryz.prog 3 #[v0] W fun e W' => e = .returned (.bool true) ∧ Below W.heap.size W W' := serialRises_trod hone hT
  refine hc.mono fun e W' ⟨he, hb⟩ => ?_
  subst he
  refine ⟨_, rfl, ?_⟩
  have hlt : ∀ x ∈ p, x.block < W.heap.size := fun x hx => by simpa using hW'.lt x hx
  refine ⟨_, _, p, [], p, [], hW', ?_, ?_, rfl, World.keptBut_mono (fun x hx => ⟨hx, Or.inr (Or.inl hx)⟩) (hb.frame (· ∈ p)), fun h => by cases h⟩
  · exact trodAll_mk1 (shut_bool (by kernel_rfl) true)
  · exact Ev.trodAll_below serialRises_laidOut hb serialRises_params hA hlt

set_option maxRecDepth 100000 in
theorem serialRises_closed : joinedFacts Tryz.checked.prog 3 Tryz.f3 Rows.serialRisesSpec Rows.serialRisesRow = true := by
  unfold joinedFacts
  simp only [Bool.and_eq_true]
  exact ⟨⟨⟨⟨⟨⟨⟨⟨⟨⟨⟨⟨⟨⟨⟨⟨⟨⟨⟨⟨⟨⟨⟨⟨⟨⟨⟨⟨⟨⟨⟨serialRises_fact0, laidOut⟩, laidMaps⟩, serialRises_fact3⟩, serialRises_fact4⟩, serialRises_fact5⟩, serialRises_fact6⟩, serialRises_fact7⟩, serialRises_fact8⟩, serialRises_fact9⟩, serialRises_fact10⟩, serialRises_fact11⟩, serialRises_fact12⟩, serialRises_fact13⟩, serialRises_fact14⟩, serialRises_fact15⟩, serialRises_fact16⟩, serialRises_fact17⟩, serialRises_fact18⟩, serialRises_fact19⟩, serialRises_fact20⟩, serialRises_fact21⟩, serialRises_fact22⟩, serialRises_fact23⟩, serialRises_fact24⟩, serialRises_fact25⟩, serialRises_fact26⟩, serialRises_fact27⟩, serialRises_fact28⟩, serialRises_fact29⟩, serialRises_fact30⟩, serialRises_fact31⟩

theorem serialRises_holds : Rows.SerialRisesSaid :=
  OpenClaim.holds_of_wide 3 Tryz.f3 rfl rfl rfl rfl rfl rfl rfl ⟨rfl, rfl, rfl, rfl, rfl⟩ rfl rfl rfl rfl rfl (by kernel_rfl) Tryz.func3 serialRises_closed
    (of_decide_eq_true (by kernel_rfl)) (by unfold Func.isWrapper; first | (rw [if_pos (by decide +kernel)]; kernel_rfl) | (rw [if_neg (by decide +kernel)]; exact ⟨rfl, rfl⟩))
    (fun os started H enc _ => serialRises_lifted os started H enc)

theorem serialRises_tie : Rows.serialRisesRow.laidByTextAt .later Tryz.pinned [.handle] true := OpenClaim.laidByTextAt_later rfl rfl tieAll tieA7

/-- The row's one listed variable, tied: the card. -/
theorem serialRisesCard_holds : Rows.SerialRisesCardSaid :=
  Claim7.holds_tied_plain_at .later [] [.handle] true (true, "d6c19baefbe47bb8997dd6bb8371383e2aad68d5bd29c1f2a28d74dab8262904") true
    serialRises_holds (fun _ h => by cases h) serialRises_card1 (fun _ h => by cases h) serialRises_tie rfl ⟨rfl, rfl⟩ serialRises_card2 rfl
    (fun f fn hf hfn => by
      obtain rfl : f = 3 := Option.some.inj (serialRises_card5.symm.trans hf) |>.symm
      obtain rfl : fn = Tryz.f3 := (Option.some.inj (Tryz.func3.symm.trans hfn)).symm
      exact ⟨serialRises_card3, fun j t ht => by
        have hm : t ∈ Tryz.f3.params.toList := Array.mem_toList_iff.2 (Array.mem_of_getElem? ht)
        rw [serialRises_pars] at hm
        simp only [List.mem_cons, List.not_mem_nil, or_false] at hm
        rcases hm with rfl
        · exact serialRises_stand22
        ⟩)
    (noGo _)

end Go.Proofs.YtbajncpfmemdgaaGreatDoor
