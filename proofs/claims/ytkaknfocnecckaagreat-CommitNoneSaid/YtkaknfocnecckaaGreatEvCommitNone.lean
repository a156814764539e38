/- Proved: the law 'transomlaw24.CommitNone' returns true whatever its arguments, and its arguments read behind the call as they read before. No condition. -/
import Derived.Test.YtkaknfocnecckaaGreatRows
import Derived.Test.YtkaknfocnecckaaGreatEvArgs
import Derived.Test.YtkaknfocnecckaaGreatEvCommitNoneRun
import Derived.ProofKit
import Derived.Carry
namespace Go.Proofs.YtkaknfocnecckaaGreat
open Go.ChangeShapes Go.WideShapes Go.ChangeAt Go.RowKit

theorem commitNone_mixed : Tryz.prog.follows .mixedOrders = true := by kernel_rfl
theorem commitNone_own : ownKnob Tryz.prog.godebug = none := by kernel_rfl
theorem commitNone_laidOut : laidOutB Tryz.prog = true := by kernel_rfl
theorem commitNone_pars : Tryz.f4.params.toList = [3, 53, 3] := by kernel_rfl

theorem commitNone_params : ∀ t ∈ Tryz.f4.params.toList, Tryz.prog.readableRec t = true ∧ t < Tryz.prog.types.size := by
  rw [commitNone_pars]
  intro t ht
  simp only [List.mem_cons, List.not_mem_nil, or_false] at ht
  rcases ht with rfl | rfl | rfl <;> exact ⟨by kernel_rfl, of_decide_eq_true (by kernel_rfl)⟩

theorem commitNone_calls {W : World} {base : Nat} {args : Array Value} (h : Ev.Typed Tryz.prog W .any base Tryz.f4.params.toList args.toList) :
    Calls Tryz.prog 4 args W fun e W' => e = .returned (.bool true) ∧ Below W.heap.size W W' := by
  rw [commitNone_pars] at h
  obtain ⟨args⟩ := args
  exact Ev.calls_anys commitNone_mixed h (by kernel_rfl) commitNone_run

set_option maxRecDepth 100000 in
theorem commitNone_lifted (os : Os) (started : os.Started) (H : Type) (enc : TypeId × Value → H) :
    ReturnsInHanded {} Tryz.checked os 4 .any (Rows.commitNoneSpec.pre6 enc Tryz.prog Tryz.f4 Rows.commitNoneRow.domain false) (Rows.commitNoneSpec.post enc Tryz.prog Tryz.f4 false true false false) := by
  refine returnsInHanded_of_change (C := Tryz.checked) commitNone_own started (by kernel_rfl) Tryz.func4
    (ChangeSpec.witness6 (enc := enc) (C := Tryz.checked) false ⟨#[], #[((Tryz.prog.info? 3).bind (·.zero)).getD (.bool true), ((Tryz.prog.info? 53).bind (·.zero)).getD (.bool true), ((Tryz.prog.info? 3).bind (·.zero)).getD (.bool true)], []⟩ 8 (by kernel_rfl) (by kernel_rfl) (by kernel_rfl) (by kernel_rfl)) ?_
  intro W base args ds gs before hval0 hW hcnd _
  have hval : ∀ (j : Nat) t v, Tryz.f4.params[j]? = some t → args[j]? = some v → Value.okWide Tryz.prog W .any base t v := hval0
  have hW' := hW
  obtain ⟨p, q, hA0, hV, rfl, hfz, hnd⟩ := hW
  have hA : DataW.TrodAll enc Tryz.prog W 0 (fun _ => true) true Tryz.f4.params.toList args.toList ds p := hA0
  have hA2 := hA
  rw [commitNone_pars] at hA2
  obtain ⟨_, _, _, d0, d1, d2, _, _, _, _, rfl, _⟩ := trodAll_three hA2
  obtain ⟨rfl, rfl⟩ := trodVars_none hV
  simp only [List.append_nil] at hW'
  have ht : Ev.Typed Tryz.prog W .any base Tryz.f4.params.toList args.toList := .of (Ev.trodAll_len hA) fun j t v h1 h2 => hval j t v (by simpa using h1) (by simpa using h2)
  have hc : Calls Tryz.prog 4 args W fun e W' => e = .returned (.bool true) ∧ Below W.heap.size W W' := commitNone_calls ht
  refine hc.mono fun e W' ⟨he, hb⟩ => ?_
  subst he
  refine ⟨_, rfl, ?_⟩
  have hlt : ∀ x ∈ p, x.block < W.heap.size := fun x hx => by simpa using hW'.lt x hx
  refine ⟨_, _, p, [], p, [], hW', ?_, ?_, rfl, World.keptBut_mono (fun x hx => ⟨hx, Or.inr (Or.inl hx)⟩) (hb.frame (· ∈ p)), fun h => by cases h⟩
  · exact trodAll_mk1 (shut_bool (by kernel_rfl) true)
  · exact Ev.trodAll_below commitNone_laidOut hb commitNone_params hA hlt

theorem commitNone_holds : Rows.CommitNoneSaid :=
  OpenClaim.holds_of_wide 4 Tryz.f4 rfl rfl rfl rfl rfl rfl rfl ⟨rfl, rfl, rfl, rfl, rfl⟩ rfl rfl rfl rfl rfl (by kernel_rfl) Tryz.func4 (by kernel_rfl)
    (of_decide_eq_true (by kernel_rfl)) (by unfold Func.isWrapper; first | (rw [if_pos (by decide +kernel)]; kernel_rfl) | (rw [if_neg (by decide +kernel)]; exact ⟨rfl, rfl⟩))
    (fun os started H enc _ => commitNone_lifted os started H enc)

end Go.Proofs.YtkaknfocnecckaaGreat
