/- From what the evaluator's rules say of a call to the machine's contract. -/
import Derived.Test.YtkaknfocnecckaaGreatEvWp
import Derived.Test.YtkaknfocnecckaaGreatEvEnds
namespace Go.Ev
open Go Go.RowKit

/-- No block is known that may be written. -/
def Quiet (σ : St) : Prop := ∀ b, σ.heap.get b = none

theorem calls_of_callW [Env] {P : Program} (hmix : P.follows .mixedOrders = true) {f : FuncId} {vs : List V} {vs' : List Value} {Q : VPost} {σ : St} {ρ : Ren} {w : World} (hr : R ρ σ w) (hv : VsRel ρ vs vs')
    (h : CallW P f vs Q σ) : Calls P f ⟨vs'⟩ w fun e w' => ∃ v σ' ρ' v', Q v σ' ∧ e = .returned v' ∧ VRel ρ' v v' ∧ Stp Nix ρ σ w ρ' σ' w' := by
  obtain ⟨n, h⟩ := h.h
  obtain ⟨_, hc⟩ := (run_good (P := P) hmix n).call h hr hv
  refine callsIn_wide.1 (hc.mono fun e w' hp => ?_)
  obtain ⟨v, σ', ρ', v', h1, rfl, h2, h3⟩ := hp
  exact ⟨v, σ', ρ', v', h1, rfl, h2, h3⟩

/-- A call that says 'true', of a state in which nothing is known that may be written. -/
theorem calls_true [Env] {P : Program} (hmix : P.follows .mixedOrders = true) {f : FuncId} {vs : List V} {vs' : List Value} {σ : St} {ρ : Ren} {w : World} (hr : R ρ σ w) (hv : VsRel ρ vs vs')
    (hq : Quiet σ) (h : CallW P f vs (fun v _ => v = .bool true) σ) : Calls P f ⟨vs'⟩ w fun e w' => e = .returned (.bool true) ∧ Below w.heap.size w w' := by
  refine (calls_of_callW hmix hr hv h).mono fun e w' ⟨v, σ', ρ', v', h1, h2, h3, h4⟩ => ?_
  subst h1
  cases h3
  refine ⟨h2, h4.os, h4.tape, h4.output, h4.size, fun k hk => h4.keep k hk ?_⟩
  rintro ⟨b, k, l, hb, _⟩
  rw [hq b] at hb; cases hb

end Go.Ev
