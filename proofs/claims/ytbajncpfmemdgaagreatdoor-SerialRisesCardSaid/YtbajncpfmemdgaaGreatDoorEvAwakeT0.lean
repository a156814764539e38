/- Calls within the run of the law 'Awake': what each comes to. The words. -/
import Derived.Test.YtbajncpfmemdgaaGreatDoorProg
import Derived.Test.YtbajncpfmemdgaaGreatDoorEvTold
import Derived.ProofKit
namespace Go.Proofs.YtbajncpfmemdgaaGreatDoor.Awake
open Go.Ev

theorem awake_mixed : Tryz.prog.follows .mixedOrders = true := by kernel_rfl
abbrev i (n : Int) : V := .int .i64 n
def bs (l : List Nat) : V := .str (l.map UInt8.ofNat)
noncomputable def cl (l : List V) : Trie V := putAll l .leaf 0
noncomputable def cs (l : List (Nat × V)) : Trie V := putsS l .leaf
noncomputable def cat (l : List (List V)) : List V := List.rec (motive := fun _ => List V) [] (fun a _ ih => app a ih) l
noncomputable def reps (a : List V) (n : Nat) : List V := Nat.rec (motive := fun _ => List V) [] (fun _ ih => app a ih) n
theorem all1 {P : Program} {a0 : Ev.Told} (h0 : a0.ok P) : ∀ e ∈ [a0], e.ok P := by
  intro e he
  simp only [List.mem_cons, List.not_mem_nil, or_false] at he
  rcases he with rfl
  · exact h0
theorem all2 {P : Program} {a0 a1 : Ev.Told} (h0 : a0.ok P) (h1 : a1.ok P) : ∀ e ∈ [a0, a1], e.ok P := by
  intro e he
  simp only [List.mem_cons, List.not_mem_nil, or_false] at he
  rcases he with rfl | rfl
  · exact h0
  · exact h1
theorem all3 {P : Program} {a0 a1 a2 : Ev.Told} (h0 : a0.ok P) (h1 : a1.ok P) (h2 : a2.ok P) : ∀ e ∈ [a0, a1, a2], e.ok P := by
  intro e he
  simp only [List.mem_cons, List.not_mem_nil, or_false] at he
  rcases he with rfl | rfl | rfl
  · exact h0
  · exact h1
  · exact h2
theorem all4 {P : Program} {a0 a1 a2 a3 : Ev.Told} (h0 : a0.ok P) (h1 : a1.ok P) (h2 : a2.ok P) (h3 : a3.ok P) : ∀ e ∈ [a0, a1, a2, a3], e.ok P := by
  intro e he
  simp only [List.mem_cons, List.not_mem_nil, or_false] at he
  rcases he with rfl | rfl | rfl | rfl
  · exact h0
  · exact h1
  · exact h2
  · exact h3

end Go.Proofs.YtbajncpfmemdgaaGreatDoor.Awake
