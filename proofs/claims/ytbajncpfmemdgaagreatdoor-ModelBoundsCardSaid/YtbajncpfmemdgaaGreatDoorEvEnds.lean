/- From a computed answer to the machine's contract. -/
import Derived.Test.YtbajncpfmemdgaaGreatDoorEvTasks
import Derived.Below
namespace Go.Ev
open Go Go.RowKit

/-- No memory is known. -/
def nowhere : Ren := ⟨fun _ => none, fun _ _ => none⟩
def start : St := { heap := .leaf, next := 0 }

def saysTrue : Out × St → Bool
  | (.val (.bool b), _) => b
  | _ => false

theorem start_rel [Env] (hl : Env.laid = []) (w : World) : R nowhere start w := by
  refine ⟨fun b k h => ?_, fun b b' k k' l l' h => ?_, fun _ _ => rfl, fun b l h => (by cases h), fun c o x h => (by cases h), fun q hq => (by rw [hl] at hq; cases hq)⟩
  · rw [show start.heap = Trie.leaf from rfl, Trie.get_leaf] at h; cases h
  · rw [show start.heap = Trie.leaf from rfl, Trie.get_leaf] at h; cases h

/-- A call of which the evaluator says 'true' returns true, and leaves all that lay there. -/
theorem calls_of_check [Env] (hl : Env.laid = []) {P : Program} (hmix : P.follows .mixedOrders = true) {n : Nat} {f : FuncId} {vs : List V} {vs' : List Value} (hv : VsRel nowhere vs vs') (h : (run P n (.call f vs) start).check saysTrue = true) (w : World) :
    Calls P f ⟨vs'⟩ w fun e w' => e = .returned (.bool true) ∧ Below w.heap.size w w' := by
  obtain ⟨_, hc⟩ := (run_good (P := P) hmix n).call (Res.holds_of_check h) (start_rel hl w) hv
  refine callsIn_wide.1 (hc.mono fun e w' hp => ?_)
  obtain ⟨v, σ', ρ', v', h1, rfl, h2, h3⟩ := hp
  have hb : v = .bool true := by
    cases v with
    | bool b => have h1' : b = true := h1; rw [h1']
    | _ => cases h1
  subst hb
  cases h2
  refine ⟨rfl, h3.os, h3.tape, h3.output, h3.size, fun k hk => h3.keep k hk ?_⟩
  rintro ⟨b, k, l, hb, _⟩
  rw [show start.heap = Trie.leaf from rfl, Trie.get_leaf] at hb
  cases hb

end Go.Ev
