/- Proved: the law 'transomlaw23.ViewNone' returns true whatever its argument, and its argument reads behind the call as it read before. No condition. -/
import Derived.Test.YtkaknfocnecckaaRows
import Derived.Test.YtkaknfocnecckaaEvEnds
import Derived.ProofKit
import Derived.Carry
namespace Go.Proofs.Ytkaknfocnecckaa
open Go.ChangeShapes Go.WideShapes Go.ChangeAt Go.RowKit

/-- The law's answer, reckoned: of its argument's cells nothing is known. -/
theorem viewNone_reckoned : (Ev.run Try.prog 100000 (.call 4 [.agg ((List.range 5).map Ev.V.any)]) Ev.start).check Ev.saysTrue = true := by kernel_rfl

theorem mixed : Try.prog.follows .mixedOrders = true := by kernel_rfl

/-- A struct of fields of one cell each: whole numbers, texts, truth values. -/
def flatStruct (P : Program) (t : TypeId) : Bool :=
  match P.underlying t with
  | some (.struct fs) => (List.range (P.cellsOf t)).all fun i => match fs[i]? with
    | some f => f.offset == i && P.cellsOf f.type == 1 && (match P.underlying f.type with
      | some (.int _) => true
      | some .string => true
      | some .bool => true
      | _ => false)
    | none => false
  | _ => false

theorem flat_cells {H : Type} {enc : TypeId × Value → H} {P : Program} {w : World} {b0 base : Nat} {r : Reach} {spare : Nat → Bool} {held : Bool} {t : TypeId} {v : Value} {d : DataW H} {p : List MemPlace}
    (hf : flatStruct P t = true) (hv : Value.okWide P w r b0 t v) (h : DataW.Trod enc P w base spare held t v d p) : ∃ cs : List Value, v = .agg ⟨cs⟩ ∧ cs.length = P.cellsOf t ∧ ∀ x ∈ cs, x.oneCell' = true := by
  unfold flatStruct at hf
  split at hf
  · rename_i fs hs
    obtain ⟨⟨cs⟩, rfl, hsz⟩ := okWide_struct hs hv
    have hlen : cs.length = P.cellsOf t := by simpa using hsz
    refine ⟨cs, rfl, hlen, fun x hx => ?_⟩
    obtain ⟨fuel, hfu⟩ := h
    obtain ⟨xs, n, _, _, _, hxl, hg⟩ := DataW.trod_struct hs hfu
    obtain ⟨i, hi, rfl⟩ := List.getElem_of_mem hx
    have := List.all_eq_true.1 hf i (List.mem_range.2 (by omega))
    split at this
    · rename_i f hfi
      simp only [Bool.and_eq_true, beq_iff_eq] at this
      obtain ⟨⟨ho, hc⟩, hk⟩ := this
      have hgi := hg i f hfi
      have hil : i < xs.length := by
        rw [hxl]
        exact (Array.getElem?_eq_some_iff.1 hfi).1
      rw [ho, hc, List.getElem?_eq_getElem hil] at hgi
      have hone : (cs.drop i).take 1 = [cs[i]] := by rw [List.drop_eq_getElem_cons hi]; rfl
      have hgi' : DataW.trod enc P w base spare held n f.type [cs[i]] = some xs[i] := by
        rw [← hone]; simpa [Value.cells] using hgi
      split at hk
      · rename_i k hu
        obtain ⟨m, e, _, _⟩ := DataW.trod_int hu hgi'
        rw [List.cons.inj e |>.1]; rfl
      · rename_i hu
        obtain ⟨m, e, _⟩ := DataW.trod_string hu hgi'
        rw [List.cons.inj e |>.1]; rfl
      · rename_i hu
        obtain ⟨m, e, _⟩ := DataW.trod_bool hu hgi'
        rw [List.cons.inj e |>.1]; rfl
      · cases hk
    · cases this
  · cases hf

/-- Cells, as the opaque ones. -/
abbrev envOf (cs : List Value) (h : ∀ x ∈ cs, x.oneCell' = true) : Ev.Env := ⟨fun i => cs.getD i (.bool true), fun i => by
  rw [List.getD_eq_getElem?_getD]
  cases hi : cs[i]? with
  | none => rfl
  | some x => exact h x (List.mem_of_getElem? hi)⟩

theorem anys_rel (cs : List Value) (h : ∀ x ∈ cs, x.oneCell' = true) (n : Nat) (hn : cs.length = n) : @Ev.VsRel (envOf cs h) Ev.nowhere ((List.range n).map Ev.V.any) cs := by
  letI := envOf cs h
  refine Ev.VsRel.of_get (by simp [hn]) fun i v x hv hx => ?_
  have hi : i < n := by
    have := (List.getElem?_eq_some_iff.1 hx).1
    omega
  have e1 : v = .any i := by simpa [hi] using hv.symm
  have e2 : x = Ev.Env.val i := by
    show x = cs.getD i (.bool true)
    rw [List.getD_eq_getElem?_getD, hx]; rfl
  rw [e1, e2]
  exact .any i

theorem viewNone_calls (cs : List Value) (hl : cs.length = 5) (h : ∀ x ∈ cs, x.oneCell' = true) (W : World) :
    Calls Try.prog 4 #[.agg ⟨cs⟩] W fun e W' => e = .returned (.bool true) ∧ Below W.heap.size W W' :=
  @Ev.calls_of_check (envOf cs h) _ mixed _ _ _ [.agg ⟨cs⟩] (@Ev.VsRel.cons (envOf cs h) _ _ _ _ _ (@Ev.VRel.agg (envOf cs h) _ _ _ (anys_rel cs h 5 hl)) (@Ev.VsRel.nil (envOf cs h) _)) viewNone_reckoned W

theorem Try.own : ownKnob Try.prog.godebug = none := by kernel_rfl
theorem Try.laidOut : laidOutB Try.prog = true := by kernel_rfl

set_option maxRecDepth 100000 in
theorem viewNone_lifted (os : Os) (started : os.Started) (H : Type) (enc : TypeId × Value → H) :
    ReturnsInHanded {} Try.checked os 4 .any (Rows.viewNoneSpec.pre6 enc Try.prog Try.f4 Rows.viewNoneRow.domain false) (Rows.viewNoneSpec.post enc Try.prog Try.f4 false true false false) := by
  refine returnsInHanded_of_change (C := Try.checked) Try.own started (by kernel_rfl) Try.func4
    (ChangeSpec.witness6 (enc := enc) (C := Try.checked) false ⟨#[], #[.agg #[.int .i64 0, .int .i64 0, .string ⟨#[]⟩, .string ⟨#[]⟩, .string ⟨#[]⟩]], []⟩ 8 (by kernel_rfl) (by kernel_rfl) (by kernel_rfl) (by kernel_rfl)) ?_
  intro W base args ds gs before hval0 hW hcnd _
  have hval : ∀ (j : Nat) t v, Try.f4.params[j]? = some t → args[j]? = some v → Value.okWide Try.prog W .any base t v := hval0
  have hW' := hW
  obtain ⟨p, q, hA0, hV, rfl, hfz, hnd⟩ := hW
  have hA : DataW.TrodAll enc Try.prog W 0 (fun _ => true) true Try.f4.params.toList args.toList ds p := hA0
  have hpar : Try.f4.params.toList = [55] := by kernel_rfl
  rw [hpar] at hA
  obtain ⟨v0, d0, rfl, rfl, h0⟩ := trodAll_one hA
  obtain ⟨rfl, rfl⟩ := trodVars_none hV
  have hv0 := hval 0 55 v0 (by kernel_rfl) rfl
  obtain ⟨cs, rfl, hl, hcs⟩ := flat_cells (by kernel_rfl) hv0 h0
  have hl5 : cs.length = 5 := hl.trans (by kernel_rfl)
  clear hval0
  simp only [List.append_nil] at hW'
  refine (viewNone_calls cs hl5 hcs W).mono fun e W' ⟨he, hb⟩ => ?_
  subst he
  refine ⟨_, rfl, ?_⟩
  have hlt : ∀ x ∈ p, x.block < W.heap.size := fun x hx => by simpa using hW'.lt x hx
  refine ⟨_, _, p, [], p, [], hW', ?_, ?_, rfl, World.keptBut_mono (fun x hx => ⟨hx, Or.inr (Or.inl hx)⟩) (hb.frame (· ∈ p)), fun h => by cases h⟩
  · exact trodAll_mk1 (shut_bool (by kernel_rfl) true)
  · rw [hpar]
    exact trodAll_mk1 (Below.trod Try.laidOut (by kernel_rfl) (of_decide_eq_true (by kernel_rfl)) h0 hb hlt)

theorem viewNone_holds : Rows.ViewNoneSaid :=
  OpenClaim.holds_of_wide 4 Try.f4 rfl rfl rfl rfl rfl rfl rfl ⟨rfl, rfl, rfl, rfl, rfl⟩ rfl rfl rfl rfl rfl (by kernel_rfl) Try.func4 (by kernel_rfl)
    (of_decide_eq_true (by kernel_rfl)) (by unfold Func.isWrapper; first | (rw [if_pos (by decide +kernel)]; kernel_rfl) | (rw [if_neg (by decide +kernel)]; exact ⟨rfl, rfl⟩))
    (fun os started H enc _ => viewNone_lifted os started H enc)

end Go.Proofs.Ytkaknfocnecckaa
