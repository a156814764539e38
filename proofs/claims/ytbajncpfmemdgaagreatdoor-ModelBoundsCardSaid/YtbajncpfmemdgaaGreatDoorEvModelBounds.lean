/- Proved: the law 'transomlaw13.ModelBounds' returns true whatever its arguments, and its arguments read behind the call as they read before. No condition. -/
import Derived.Test.YtbajncpfmemdgaaGreatDoorRows
import Derived.Test.YtbajncpfmemdgaaGreatDoorEvBnU
import Derived.Test.YtbajncpfmemdgaaGreatDoorEvLaid
import Derived.Test.YtbajncpfmemdgaaGreatDoorEvModelBoundsFacts
import Derived.Test.YtbajncpfmemdgaaGreatDoorEvModelBoundsFactsB
import Derived.ProofKit
import Derived.Carry
import Derived.Test.YtbajncpfmemdgaaGreatDoorCards
import Derived.Test.YtbajncpfmemdgaaGreatDoorEvTieB
import Derived.Test.YtbajncpfmemdgaaGreatDoorEvNoGo
import Derived.Test.YtbajncpfmemdgaaGreatDoorEvModelBoundsCard
import Derived.SevenTiedAt
import Derived.LaidLaws
import Derived.LaidHandle
import Derived.FnData
import Derived.JoinedOf
import Derived.Stop.Joined
namespace Go.Proofs.YtbajncpfmemdgaaGreatDoor
open Go.ChangeShapes Go.WideShapes Go.ChangeAt Go.RowKit

theorem modelBounds_own : ownKnob Tryz.prog.godebug = none := by kernel_rfl
theorem modelBounds_laidOut : laidOutB Tryz.prog = true := laidOut
theorem modelBounds_pars : Tryz.f10.params.toList = [51, 71] := by kernel_rfl

theorem modelBounds_params : ∀ t ∈ Tryz.f10.params.toList, Tryz.prog.readableRec t = true ∧ t < Tryz.prog.types.size := by
  rw [modelBounds_pars]
  intro t ht
  simp only [List.mem_cons, List.not_mem_nil, or_false] at ht
  rcases ht with rfl | rfl
  · exact ⟨by kernel_rfl, of_decide_eq_true (by kernel_rfl)⟩
  · exact ⟨by kernel_rfl, of_decide_eq_true (by kernel_rfl)⟩

/-- A world that meets the condition: the settled one, the variable's cell laid. -/
noncomputable def modelBounds_laidWorld (os : Os) : World :=
  let w0 := World.holding Tryz.prog os ⟨#[], #[], []⟩
  { w0 with heap := w0.heap.modify 0 fun
      | .cells _ t frozen => .cells #[.iface 292 (.agg #[typeHandle Tryz.prog 179])] t frozen
      | o => o }
theorem modelBounds_laidMet (os : Os) (args : Array Value) : laidMetH Tryz.prog Rows.modelBoundsRow.laid ((modelBounds_laidWorld os).forCall (fun _ _ => 0) ⟨#[], args, []⟩).memory :=
  laidMetH_of_parts (laidMet_nil _ _) (by kernel_rfl)

theorem modelBounds_et : Tryz.prog.globalNamed "errors.errorType" = some 0 := by kernel_rfl
theorem modelBounds_rt : (Tryz.prog.cutTypes.find? (·.1 == "internal/reflectlite.rtype")).map (·.2) = some 292 := by kernel_rfl
theorem modelBounds_row : ((List.range 363).filter fun t => Tryz.prog.rowNamed t [101, 114, 114, 111, 114]) = [179] := by kernel_rfl
theorem modelBounds_size : Tryz.prog.types.size = 363 := by kernel_rfl
/-- What the condition gives: the variable's one cell. -/
theorem modelBounds_handle {W : World} (h : laidMetH Tryz.prog Rows.modelBoundsRow.laid W) : W.cell? ⟨0, 0, none⟩ = some (.iface 292 (.agg #[.pointer (some ⟨3, 179, none⟩)])) := by
  have h' : laidMet Tryz.prog [] W ∧ handlesMet Tryz.prog Rows.modelBoundsRow.laid W := h
  obtain ⟨name, u, ty, e1, e2, e3, e4, e5⟩ := h'.2 _ (List.mem_singleton.2 rfl)
  have en : name = [101, 114, 114, 111, 114] := (Option.some.inj e1).symm
  subst en
  obtain rfl := Option.some.inj (modelBounds_rt.symm.trans e2)
  have hm : ty ∈ (List.range 363).filter fun t => Tryz.prog.rowNamed t [101, 114, 114, 111, 114] := List.mem_filter.2 ⟨List.mem_range.2 (by rw [← modelBounds_size]; exact e3), e4⟩
  rw [modelBounds_row] at hm
  obtain rfl := List.mem_singleton.1 hm
  have hh : typeHandle Tryz.prog 179 = .pointer (some ⟨3, 179, none⟩) := by kernel_rfl
  rw [hh] at e5
  simpa using World.var?_cell modelBounds_et e5 0

set_option maxRecDepth 100000 in
theorem modelBounds_lifted (os : Os) (started : os.Started) (H : Type) (enc : TypeId × Value → H) :
    ReturnsInHanded {} Tryz.checked os 10 .any (fun w args => (Rows.modelBoundsSpec.pre enc Tryz.prog Tryz.f10 Rows.modelBoundsRow.domain false w args ∧ laidMetH Tryz.prog Rows.modelBoundsRow.laid w) ∧ sizedMet enc Tryz.prog Tryz.f10 (OpenSpec.ofChange Rows.modelBoundsSpec) false w args)
      (Rows.modelBoundsSpec.post enc Tryz.prog Tryz.f10 false true false false) := by
  refine returnsInHanded_of_change_and (C := Tryz.checked) (X := fun w _ => laidMetH Tryz.prog Rows.modelBoundsRow.laid w) (fun _ _ _ hh h => h.of_heap hh) modelBounds_own started (by kernel_rfl) Tryz.func10
    (ChangeSpec.witness_at (enc := enc) (C := Tryz.checked) (os := os) (X := fun w _ => laidMetH Tryz.prog Rows.modelBoundsRow.laid w) false (modelBounds_laidWorld os) #[((Tryz.prog.info? 51).bind (·.zero)).getD (.bool true), ((Tryz.prog.info? 71).bind (·.zero)).getD (.bool true)] 8 rfl (by kernel_rfl) (by kernel_rfl) (by kernel_rfl) (by kernel_rfl) (by kernel_rfl) (modelBounds_laidMet os _)) ?_
  intro W base args ds gs before hval0 hW _ _ hL _
  have hval : ∀ (j : Nat) t v, Tryz.f10.params[j]? = some t → args[j]? = some v → Value.okWide Tryz.prog W .any base t v := hval0
  have hW' := hW
  obtain ⟨p, q, hA0, hV, rfl, hfz, hnd⟩ := hW
  have hA : DataW.TrodAll enc Tryz.prog W 0 (fun _ => true) true Tryz.f10.params.toList args.toList ds p := hA0
  have hA2 := hA
  rw [modelBounds_pars] at hA2
  obtain ⟨v0, v1, d0, d1, p0, p1, hargs, rfl, rfl, hT0, hT1⟩ := trodAll_two hA2
  subst hargs
  obtain ⟨rfl, rfl⟩ := trodVars_none hV
  simp only [List.append_nil] at hW'
  obtain ⟨c0, rfl⟩ : ∃ cs, v0 = .agg ⟨cs⟩ := by
    have hs : (Ev.shapeT Tryz.prog 51).1 = true := by kernel_rfl
    rcases Ev.value_shape (hval 0 51 v0 (by kernel_rfl) rfl) with ⟨cs, h, _, _⟩ | ⟨h, _⟩
    · exact ⟨cs, h⟩
    · rw [hs] at h; cases h
  obtain ⟨c1, rfl⟩ : ∃ cs, v1 = .agg ⟨cs⟩ := by
    have hs : (Ev.shapeT Tryz.prog 71).1 = true := by kernel_rfl
    rcases Ev.value_shape (hval 1 71 v1 (by kernel_rfl) rfl) with ⟨cs, h, _, _⟩ | ⟨h, _⟩
    · exact ⟨cs, h⟩
    · rw [hs] at h; cases h
  have hc : Calls Tryz.prog 10 #[.agg ⟨c0⟩, .agg ⟨c1⟩] W fun e W' => e = .returned (.bool true) ∧ Below W.heap.size W W' := modelBounds_calls (modelBounds_handle hL) hT0 hT1
  refine hc.mono fun e W' ⟨he, hb⟩ => ?_
  subst he
  refine ⟨_, rfl, ?_⟩
  have hlt : ∀ x ∈ p0 ++ p1, x.block < W.heap.size := fun x hx => by simpa using hW'.lt x hx
  refine ⟨_, _, p0 ++ p1, [], p0 ++ p1, [], hW', ?_, ?_, rfl, World.keptBut_mono (fun x hx => ⟨hx, Or.inr (Or.inl hx)⟩) (hb.frame (· ∈ p0 ++ p1)), fun h => by cases h⟩
  · exact trodAll_mk1 (shut_bool (by kernel_rfl) true)
  · exact Ev.trodAll_below modelBounds_laidOut hb modelBounds_params hA hlt

set_option maxRecDepth 100000 in
theorem modelBounds_closed : joinedFacts Tryz.checked.prog 10 Tryz.f10 Rows.modelBoundsSpec Rows.modelBoundsRow = true := by
  unfold joinedFacts
  simp only [Bool.and_eq_true]
  exact ⟨⟨⟨⟨⟨⟨⟨⟨⟨⟨⟨⟨⟨⟨⟨⟨⟨⟨⟨⟨⟨⟨⟨⟨⟨⟨⟨⟨⟨⟨⟨modelBounds_fact0, laidOut⟩, laidMaps⟩, modelBounds_fact3⟩, modelBounds_fact4⟩, modelBounds_fact5⟩, modelBounds_fact6⟩, modelBounds_fact7⟩, modelBounds_fact8⟩, modelBounds_fact9⟩, modelBounds_fact10⟩, modelBounds_fact11⟩, modelBounds_fact12⟩, modelBounds_fact13⟩, modelBounds_fact14⟩, modelBounds_fact15⟩, modelBounds_fact16⟩, modelBounds_fact17⟩, modelBounds_fact18⟩, modelBounds_fact19⟩, modelBounds_fact20⟩, modelBounds_fact21⟩, modelBounds_fact22⟩, modelBounds_fact23⟩, modelBounds_fact24⟩, modelBounds_fact25⟩, modelBounds_fact26⟩, modelBounds_fact27⟩, modelBounds_fact28⟩, modelBounds_fact29⟩, modelBounds_fact30⟩, modelBounds_fact31⟩

theorem modelBounds_holds : Rows.ModelBoundsSaid :=
  OpenClaim.holds_of_wide 10 Tryz.f10 rfl rfl rfl rfl rfl rfl rfl ⟨rfl, rfl, rfl, rfl, rfl⟩ rfl rfl rfl rfl rfl (by kernel_rfl) Tryz.func10 modelBounds_closed
    (of_decide_eq_true (by kernel_rfl)) (by unfold Func.isWrapper; first | (rw [if_pos (by decide +kernel)]; kernel_rfl) | (rw [if_neg (by decide +kernel)]; exact ⟨rfl, rfl⟩))
    (fun os started H enc _ => modelBounds_lifted os started H enc)

theorem modelBounds_tie : Rows.modelBoundsRow.laidByTextAt .later Tryz.pinned [.handle] true := OpenClaim.laidByTextAt_later rfl rfl tieAll tieA7

/-- The row's one listed variable, tied: the card. -/
theorem modelBoundsCard_holds : Rows.ModelBoundsCardSaid :=
  Claim7.holds_tied_plain_at .later [] [.handle] true (true, "d6c19baefbe47bb8997dd6bb8371383e2aad68d5bd29c1f2a28d74dab8262904") true
    modelBounds_holds (fun _ h => by cases h) modelBounds_card1 (fun _ h => by cases h) modelBounds_tie rfl ⟨rfl, rfl⟩ modelBounds_card2 rfl
    (fun f fn hf hfn => by
      obtain rfl : f = 10 := Option.some.inj (modelBounds_card5.symm.trans hf) |>.symm
      obtain rfl : fn = Tryz.f10 := (Option.some.inj (Tryz.func10.symm.trans hfn)).symm
      exact ⟨modelBounds_card3, fun j t ht => by
        have hm : t ∈ Tryz.f10.params.toList := Array.mem_toList_iff.2 (Array.mem_of_getElem? ht)
        rw [modelBounds_pars] at hm
        simp only [List.mem_cons, List.not_mem_nil, or_false] at hm
        rcases hm with rfl | rfl
        · exact modelBounds_stand51
        · exact modelBounds_stand71
        ⟩)
    (noGo _)

end Go.Proofs.YtbajncpfmemdgaaGreatDoor
