/- Proved: the law 'transomlaw34.GarbageNone' returns true whatever its arguments, and its arguments read behind the call as they read before. No condition. -/
import Derived.Test.YtkaknfocnecckaaRows
import Derived.Test.YtkaknfocnecckaaEvGNRun
import Derived.ProofKit
import Derived.Carry
namespace Go.Proofs.Ytkaknfocnecckaa
open Go.ChangeShapes Go.WideShapes Go.ChangeAt Go.RowKit

set_option maxRecDepth 100000 in
theorem garbageNone_calls {W : World} {base : Nat} {args : Array Value} (h : Ev.Typed Try.prog W .any base Try.f3.params.toList args.toList) :
    Calls Try.prog 3 args W fun e W' => e = .returned (.bool true) ∧ Below W.heap.size W W' := by
  have hp : Try.f3.params.toList = [23, 37] := by kernel_rfl
  rw [hp] at h
  obtain ⟨args⟩ := args
  replace h : Ev.Typed Try.prog W .any base [23, 37] args := h
  cases h with
  | cons h0 h =>
  cases h with
  | cons h1 h =>
  cases h
  rename_i v0 v1
  obtain ⟨cs0, rfl, hn0, hc0, _⟩ := Ev.value_agg (n := 5) h0 (by kernel_rfl)
  obtain ⟨cs1, rfl, hn1, hc1, hr1⟩ := Ev.value_agg (n := 22) h1 (by kernel_rfl)
  -- the sources' cell
  have hall : ∀ x ∈ cs0 ++ cs1, x.oneCell' = true := fun x hx => by
    rcases List.mem_append.1 hx with hx | hx
    · exact hc0 x hx
    · exact hc1 x hx
  have hlt : 19 < cs1.length := by omega
  obtain ⟨ts, hts, _, hcell⟩ := hr1
  obtain ⟨u, hu, hok⟩ := hcell 19 cs1[19] (by simp [hlt])
  have ets : ts = (Try.prog.cellTypes Try.prog.depth 37).getD [] := by rw [hts]; rfl
  have eu : u = ((Try.prog.cellTypes Try.prog.depth 37).getD [])[19 % ((Try.prog.cellTypes Try.prog.depth 37).getD []).length]?.getD 0 := by rw [← ets, hu]; rfl
  have hsl : (Ev.sliceE Try.prog u).isSome = true := by rw [eu]; kernel_rfl
  have rel : ∀ (ρ : Ev.Ren) (f : Ev.V), @Ev.VRel (Ev.envOf (cs0 ++ cs1) hall) ρ f cs1[19] → @Ev.VsRel (Ev.envOf (cs0 ++ cs1) hall) ρ (gnArgs f) [.agg ⟨cs0⟩, .agg ⟨cs1⟩] := by
    intro ρ f hf
    letI := Ev.envOf (cs0 ++ cs1) hall
    refine .cons (.agg (Ev.anys_rel hall hn0 fun i x hx => ?_)) (.cons (.agg (Ev.VsRel.of_get (by simp [Ev.anys, hn1]) fun i v x hv hx => ?_)) .nil)
    · rw [Nat.zero_add, List.getElem?_append_left (List.getElem?_eq_some_iff.1 hx).1]; exact hx
    · have hi : i < 22 := by
        have := (List.getElem?_eq_some_iff.1 hx).1
        omega
      have hx' : (cs0 ++ cs1)[5 + i]? = some x := by
        rw [List.getElem?_append_right (by omega), ← hx]
        congr 1; omega
      have hv' : x = Ev.Env.val (5 + i) := Ev.val_get (h := hall) hx'
      by_cases e : i = 19
      · subst e
        have e1 : v = f := by simpa [Ev.anys] using hv.symm
        have e2 : x = cs1[19] := by simpa [hlt] using hx.symm
        rw [e1, e2]; exact hf
      · have e1 : v = .any (5 + i) := by
          by_cases h1 : i < 19
          · rw [List.getElem?_append_left (by simp [Ev.anys, h1])] at hv
            simpa [Ev.anys, h1] using hv.symm
          · rw [List.getElem?_append_right (by simp [Ev.anys]; omega)] at hv
            have : i = 20 ∨ i = 21 := by omega
            rcases this with rfl | rfl <;> simpa [Ev.anys] using hv.symm
        rw [e1, hv']; exact .any _
  have slice : cs1[19] = .slice none 0 0 ∨ ∃ a n cap, cs1[19] = .slice (some a) n cap ∧ n ≤ cap ∧ a.spot = none ∧ a.block < W.heap.size := by
    generalize cs1[19] = x at hok
    unfold Ev.sliceE at hsl
    unfold Cell.okWide at hok
    split at hsl
    · rename_i e hue
      rw [hue] at hok
      unfold Cell.ok at hok
      rw [hue] at hok
      cases x with
      | slice a n cap =>
        cases a with
        | none => cases n with
          | zero => cases cap with
            | zero => exact .inl rfl
            | succ m => exact hok.elim
          | succ m => exact hok.elim
        | some a =>
          obtain ⟨h1, _, _, h2, row, cells, h3, _⟩ := hok
          refine .inr ⟨a, n, cap, rfl, h1, h2, ?_⟩
          unfold World.shape? at h3
          refine Nat.lt_of_not_le fun h4 => ?_
          rw [Array.getElem?_eq_none h4] at h3
          cases h3
      | _ => exact hok.elim
    · cases hsl
  rcases slice with hs | ⟨a, n, cap, hs, hn, hsp, hbl⟩
  · letI := Ev.envOf (cs0 ++ cs1) hall
    exact Ev.calls_true mixed (Ev.start_rel W) (rel _ _ (by rw [hs]; exact .nilslice)) (fun b => Ev.Trie.get_leaf b) garbageNone_nil
  · letI := Ev.envOf (cs0 ++ cs1) hall
    refine Ev.calls_true (ρ := fun b => if b = 0 then some ⟨a.block, a.off, a.off + cap * 5⟩ else none) mixed ⟨fun b k h => ?_, fun b b' k k' l l' h => ?_, fun b hb => ?_, fun b l h => ?_⟩ (rel _ _ ?_) (fun b => Ev.Trie.get_leaf b) (garbageNone_some n cap)
    · rw [show st1.heap = Ev.Trie.leaf from rfl, Ev.Trie.get_leaf] at h; cases h
    · rw [show st1.heap = Ev.Trie.leaf from rfl, Ev.Trie.get_leaf] at h; cases h
    · have hb' : 1 ≤ b := hb
      exact if_neg (by omega)
    · by_cases e : b = 0
      · rw [if_pos e] at h; cases h; exact hbl
      · rw [if_neg e] at h; cases h
    · rw [hs]
      obtain ⟨ab, ao, asp⟩ := a
      dsimp only at hsp
      subst hsp
      exact .slice (l := ⟨ab, ao, ao + cap * 5⟩) (if_pos rfl) (fun _ => ⟨rfl, rfl⟩) (fun h => by cases h) (Nat.le_refl _) hn

theorem garbageNone_params : ∀ t ∈ Try.f3.params.toList, Try.prog.readableRec t = true ∧ t < Try.prog.types.size := by
  rw [show Try.f3.params.toList = [23, 37] by kernel_rfl]
  intro t ht
  simp only [List.mem_cons, List.not_mem_nil, or_false] at ht
  rcases ht with rfl | rfl <;> exact ⟨by kernel_rfl, of_decide_eq_true (by kernel_rfl)⟩

set_option maxRecDepth 100000 in
theorem garbageNone_lifted (os : Os) (started : os.Started) (H : Type) (enc : TypeId × Value → H) :
    ReturnsInHanded {} Try.checked os 3 .any (Rows.garbageNoneSpec.pre6 enc Try.prog Try.f3 Rows.garbageNoneRow.domain false) (Rows.garbageNoneSpec.post enc Try.prog Try.f3 false true false false) := by
  refine returnsInHanded_of_change (C := Try.checked) Try.own started (by kernel_rfl) Try.func3
    (ChangeSpec.witness6 (enc := enc) (C := Try.checked) false ⟨#[], #[.agg #[.int .i64 0, .int .i64 0, .int .i64 0, .string ⟨#[]⟩, .bool false], .agg #[.int .i64 0, .int .i64 0, .string ⟨#[]⟩, .string ⟨#[]⟩, .string ⟨#[]⟩, .string ⟨#[]⟩, .string ⟨#[]⟩, .int .i64 0, .slice none 0 0, .string ⟨#[]⟩, .int .i64 0, .bool false, .int .i64 0, .int .i64 0, .int .u64 0, .string ⟨#[]⟩, .string ⟨#[]⟩, .int .i64 0, .slice none 0 0, .slice none 0 0, .slice none 0 0, .bool false]], []⟩ 8 (by kernel_rfl) (by kernel_rfl) (by kernel_rfl) (by kernel_rfl)) ?_
  intro W base args ds gs before hval0 hW hcnd _
  have hval : ∀ (j : Nat) t v, Try.f3.params[j]? = some t → args[j]? = some v → Value.okWide Try.prog W .any base t v := hval0
  have hW' := hW
  obtain ⟨p, q, hA0, hV, rfl, hfz, hnd⟩ := hW
  have hA : DataW.TrodAll enc Try.prog W 0 (fun _ => true) true Try.f3.params.toList args.toList ds p := hA0
  have hpar : Try.f3.params.toList = [23, 37] := by kernel_rfl
  have hA2 := hA
  rw [hpar] at hA2
  obtain ⟨_, _, d0, d1, _, _, _, rfl, _, _, _⟩ := trodAll_two hA2
  obtain ⟨rfl, rfl⟩ := trodVars_none hV
  simp only [List.append_nil] at hW'
  have ht : Ev.Typed Try.prog W .any base Try.f3.params.toList args.toList := .of (Ev.trodAll_len hA) fun j t v h1 h2 => hval j t v (by simpa using h1) (by simpa using h2)
  have hc : Calls Try.prog 3 args W fun e W' => e = .returned (.bool true) ∧ Below W.heap.size W W' := garbageNone_calls ht
  refine hc.mono fun e W' ⟨he, hb⟩ => ?_
  subst he
  refine ⟨_, rfl, ?_⟩
  have hlt : ∀ x ∈ p, x.block < W.heap.size := fun x hx => by simpa using hW'.lt x hx
  refine ⟨_, _, p, [], p, [], hW', ?_, ?_, rfl, World.keptBut_mono (fun x hx => ⟨hx, Or.inr (Or.inl hx)⟩) (hb.frame (· ∈ p)), fun h => by cases h⟩
  · exact trodAll_mk1 (shut_bool (by kernel_rfl) true)
  · exact Ev.trodAll_below Try.laidOut hb garbageNone_params hA hlt

theorem garbageNone_holds : Rows.GarbageNoneSaid :=
  OpenClaim.holds_of_wide 3 Try.f3 rfl rfl rfl rfl rfl rfl rfl ⟨rfl, rfl, rfl, rfl, rfl⟩ rfl rfl rfl rfl rfl (by kernel_rfl) Try.func3 (by kernel_rfl)
    (of_decide_eq_true (by kernel_rfl)) (by unfold Func.isWrapper; first | (rw [if_pos (by decide +kernel)]; kernel_rfl) | (rw [if_neg (by decide +kernel)]; exact ⟨rfl, rfl⟩))
    (fun os started H enc _ => garbageNone_lifted os started H enc)

end Go.Proofs.Ytkaknfocnecckaa
