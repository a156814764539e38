/- Calls within the run of transomlaw13's awake: what each comes to. -/
import Derived.Test.YtbajncpfmemdgaaGreatDoorProg
import Derived.Test.YtbajncpfmemdgaaGreatDoorEvTold
import Derived.ProofKit
namespace Go.Proofs.YtbajncpfmemdgaaGreatDoor.Awk13
open Go.Ev

theorem awk13_mixed : Tryz.prog.follows .mixedOrders = true := by kernel_rfl
abbrev i (n : Int) : V := .int .i64 n
def bs (l : List Nat) : V := .str (l.map UInt8.ofNat)
noncomputable def cl (l : List V) : Trie V := putAll l .leaf 0
noncomputable def cs (l : List (Nat × V)) : Trie V := putsS l .leaf
noncomputable def cat (l : List (List V)) : List V := List.rec (motive := fun _ => List V) [] (fun a _ ih => app a ih) l
noncomputable def reps (a : List V) (n : Nat) : List V := Nat.rec (motive := fun _ => List V) [] (fun _ ih => app a ih) n
theorem all1 {P : Program} {a0 : Ev.Told} (h0 : a0.ok P) : ∀ e ∈ [a0], e.ok P := by
  intro e he
  simp only [List.mem_cons, List.not_mem_nil, or_false] at he
  rcases he with rfl
  · exact h0
theorem all2 {P : Program} {a0 a1 : Ev.Told} (h0 : a0.ok P) (h1 : a1.ok P) : ∀ e ∈ [a0, a1], e.ok P := by
  intro e he
  simp only [List.mem_cons, List.not_mem_nil, or_false] at he
  rcases he with rfl | rfl
  · exact h0
  · exact h1
theorem all3 {P : Program} {a0 a1 a2 : Ev.Told} (h0 : a0.ok P) (h1 : a1.ok P) (h2 : a2.ok P) : ∀ e ∈ [a0, a1, a2], e.ok P := by
  intro e he
  simp only [List.mem_cons, List.not_mem_nil, or_false] at he
  rcases he with rfl | rfl | rfl
  · exact h0
  · exact h1
  · exact h2
theorem all4 {P : Program} {a0 a1 a2 a3 : Ev.Told} (h0 : a0.ok P) (h1 : a1.ok P) (h2 : a2.ok P) (h3 : a3.ok P) : ∀ e ∈ [a0, a1, a2, a3], e.ok P := by
  intro e he
  simp only [List.mem_cons, List.not_mem_nil, or_false] at he
  rcases he with rfl | rfl | rfl | rfl
  · exact h0
  · exact h1
  · exact h2
  · exact h3
theorem all5 {P : Program} {a0 a1 a2 a3 a4 : Ev.Told} (h0 : a0.ok P) (h1 : a1.ok P) (h2 : a2.ok P) (h3 : a3.ok P) (h4 : a4.ok P) : ∀ e ∈ [a0, a1, a2, a3, a4], e.ok P := by
  intro e he
  simp only [List.mem_cons, List.not_mem_nil, or_false] at he
  rcases he with rfl | rfl | rfl | rfl | rfl
  · exact h0
  · exact h1
  · exact h2
  · exact h3
  · exact h4
theorem all6 {P : Program} {a0 a1 a2 a3 a4 a5 : Ev.Told} (h0 : a0.ok P) (h1 : a1.ok P) (h2 : a2.ok P) (h3 : a3.ok P) (h4 : a4.ok P) (h5 : a5.ok P) : ∀ e ∈ [a0, a1, a2, a3, a4, a5], e.ok P := by
  intro e he
  simp only [List.mem_cons, List.not_mem_nil, or_false] at he
  rcases he with rfl | rfl | rfl | rfl | rfl | rfl
  · exact h0
  · exact h1
  · exact h2
  · exact h3
  · exact h4
  · exact h5

end Go.Proofs.YtbajncpfmemdgaaGreatDoor.Awk13
set_option maxRecDepth 100000
namespace Go.Proofs.YtbajncpfmemdgaaGreatDoor.Awk13
open Go.Ev

noncomputable def t1 : Ev.Told where
  f := 47
  args := [.nilslice, .agg [i 6, bs [], .nilslice, .nilslice, .nilslice, i 0, i 1, bs [], bs [], bs [], bs [], bs [], i 0, .nilslice, bs [], i 0, .bool false, i 0, i 0, .int .u64 0, bs [], bs [116], i 1, .slice 31 0 2 2 true 7]]
  pre := [(31, .cells 14 [] (cl ([bs [107], i 2, .bool false, i 0, i 0, .int .u64 0, bs [], bs [118], i 5, .bool true, i 0, i 0, .int .u64 0, bs []])) true false)]
  now := 41
  v := .tuple [.slice 196 0 1 1 false 4, .agg [i 0, .nilslice]]
  post := [(31, some (.cells 14 [] (cl ([bs [107], i 2, .bool false, i 0, i 0, .int .u64 0, bs [], bs [118], i 5, .bool true, i 0, i 0, .int .u64 0, bs []])) true false)), (191, some (.cells 14 [] (cl ([bs [107], i 2, .bool false, i 0, i 0, .int .u64 0, bs [], bs [118], i 5, .bool true, i 0, i 0, .int .u64 0, bs []])) true false)), (196, some (.cells 4 [] (cl ([bs [116], i 1, .slice 191 0 2 2 false 7, .nilslice])) true false))]
  then' := 197
theorem t1_ok : t1.ok Tryz.prog := Ev.Told.of_check (O := []) awk13_mixed (fun _ h => by cases h) 100000 (by kernel_rfl)

noncomputable def t2 : Ev.Told where
  f := 47
  args := [.slice 196 0 1 1 false 4, .agg [i 3, bs [116], .slice 32 0 2 2 true 4, .nilslice, .nilslice, i 0, i 0, bs [], bs [], bs [], bs [], bs [], i 0, .nilslice, bs [], i 0, .bool false, i 0, i 0, .int .u64 0, bs [], bs [], i 0, .nilslice]]
  pre := [(32, .cells 8 [] (cl ([i 2, i 1, .int .u64 0, bs [], i 5, i 0, .int .u64 0, bs [53]])) true false), (191, .cells 14 [] (cl ([bs [107], i 2, .bool false, i 0, i 0, .int .u64 0, bs [], bs [118], i 5, .bool true, i 0, i 0, .int .u64 0, bs []])) true false), (196, .cells 4 [] (cl ([bs [116], i 1, .slice 191 0 2 2 false 7, .nilslice])) true false)]
  now := 201
  v := .tuple [.slice 494 0 1 1 false 4, .agg [i 0, .nilslice]]
  post := [(32, some (.cells 8 [] (cl ([i 2, i 1, .int .u64 0, bs [], i 5, i 0, .int .u64 0, bs [53]])) true false)), (191, some (.cells 14 [] (cl ([bs [107], i 2, .bool false, i 0, i 0, .int .u64 0, bs [], bs [118], i 5, .bool true, i 0, i 0, .int .u64 0, bs []])) true false)), (196, some (.cells 4 [] (cl ([bs [116], i 1, .slice 191 0 2 2 false 7, .nilslice])) true false)), (481, some (.cells 8 [] (cl ([i 2, i 1, .int .u64 0, bs [], i 5, i 0, .int .u64 0, bs [53]])) true false)), (487, some (.cells 2 [] (cl ([bs [2, 128, 0, 0, 0, 0, 0, 0, 1], .slice 481 0 2 2 false 4])) true false)), (494, some (.cells 4 [] (cl ([bs [116], i 1, .slice 191 0 2 2 false 7, .slice 487 0 1 1 false 2])) true false))]
  then' := 499
theorem t2_ok : t2.ok Tryz.prog := Ev.Told.of_check (O := []) awk13_mixed (fun _ h => by cases h) 100000 (by kernel_rfl)

noncomputable def t3 : Ev.Told where
  f := 47
  args := [.slice 494 0 1 1 false 4, .agg [i 3, bs [116], .slice 35 0 2 2 true 4, .nilslice, .nilslice, i 0, i 0, bs [], bs [], bs [], bs [], bs [], i 0, .nilslice, bs [], i 0, .bool false, i 0, i 0, .int .u64 0, bs [], bs [], i 0, .nilslice]]
  pre := [(35, .cells 8 [] (cl ([i 2, i 2, .int .u64 0, bs [], i 5, i 0, .int .u64 0, bs [55]])) true false), (191, .cells 14 [] (cl ([bs [107], i 2, .bool false, i 0, i 0, .int .u64 0, bs [], bs [118], i 5, .bool true, i 0, i 0, .int .u64 0, bs []])) true false), (487, .cells 2 [] (cl ([bs [2, 128, 0, 0, 0, 0, 0, 0, 1], .slice 481 0 2 2 false 4])) true false), (494, .cells 4 [] (cl ([bs [116], i 1, .slice 191 0 2 2 false 7, .slice 487 0 1 1 false 2])) true false)]
  now := 824
  v := .tuple [.slice 1120 0 1 1 false 4, .agg [i 0, .nilslice]]
  post := [(35, some (.cells 8 [] (cl ([i 2, i 2, .int .u64 0, bs [], i 5, i 0, .int .u64 0, bs [55]])) true false)), (191, some (.cells 14 [] (cl ([bs [107], i 2, .bool false, i 0, i 0, .int .u64 0, bs [], bs [118], i 5, .bool true, i 0, i 0, .int .u64 0, bs []])) true false)), (487, some (.cells 2 [] (cl ([bs [2, 128, 0, 0, 0, 0, 0, 0, 1], .slice 481 0 2 2 false 4])) true false)), (494, some (.cells 4 [] (cl ([bs [116], i 1, .slice 191 0 2 2 false 7, .slice 487 0 1 1 false 2])) true false)), (1107, some (.cells 8 [] (cl ([i 2, i 2, .int .u64 0, bs [], i 5, i 0, .int .u64 0, bs [55]])) true false)), (1113, some (.cells 4 [] (cl ([bs [2, 128, 0, 0, 0, 0, 0, 0, 1], .slice 481 0 2 2 false 4, bs [2, 128, 0, 0, 0, 0, 0, 0, 2], .slice 1107 0 2 2 false 4])) true false)), (1120, some (.cells 4 [] (cl ([bs [116], i 1, .slice 191 0 2 2 false 7, .slice 1113 0 2 2 false 2])) true false))]
  then' := 1125
theorem t3_ok : t3.ok Tryz.prog := Ev.Told.of_check (O := []) awk13_mixed (fun _ h => by cases h) 100000 (by kernel_rfl)

noncomputable def t4 : Ev.Told where
  f := 47
  args := [.slice 1120 0 1 1 false 4, .agg [i 2, bs [116], .nilslice, .nilslice, .nilslice, i 5, i 0, bs [], bs [], bs [], bs [], bs [], i 0, .nilslice, bs [], i 0, .bool false, i 0, i 0, .int .u64 0, bs [], bs [], i 0, .nilslice]]
  pre := [(191, .cells 14 [] (cl ([bs [107], i 2, .bool false, i 0, i 0, .int .u64 0, bs [], bs [118], i 5, .bool true, i 0, i 0, .int .u64 0, bs []])) true false), (1113, .cells 4 [] (cl ([bs [2, 128, 0, 0, 0, 0, 0, 0, 1], .slice 481 0 2 2 false 4, bs [2, 128, 0, 0, 0, 0, 0, 0, 2], .slice 1107 0 2 2 false 4])) true false), (1120, .cells 4 [] (cl ([bs [116], i 1, .slice 191 0 2 2 false 7, .slice 1113 0 2 2 false 2])) true false)]
  now := 1129
  v := .tuple [.slice 1120 0 1 1 false 4, .agg [i 0, .slice 1288 0 2 2 false 1]]
  post := [(191, some (.cells 14 [] (cl ([bs [107], i 2, .bool false, i 0, i 0, .int .u64 0, bs [], bs [118], i 5, .bool true, i 0, i 0, .int .u64 0, bs []])) true false)), (1113, some (.cells 4 [] (cl ([bs [2, 128, 0, 0, 0, 0, 0, 0, 1], .slice 481 0 2 2 false 4, bs [2, 128, 0, 0, 0, 0, 0, 0, 2], .slice 1107 0 2 2 false 4])) true false)), (1120, some (.cells 4 [] (cl ([bs [116], i 1, .slice 191 0 2 2 false 7, .slice 1113 0 2 2 false 2])) true false)), (1288, some (.cells 2 [] (cl ([.slice 481 0 2 2 true 4, .slice 1107 0 2 2 true 4])) true false))]
  then' := 1293
theorem t4_ok : t4.ok Tryz.prog := Ev.Told.of_check (O := []) awk13_mixed (fun _ h => by cases h) 100000 (by kernel_rfl)

noncomputable def t5 : Ev.Told where
  f := 47
  args := [.slice 1120 0 1 1 false 4, .agg [i 6, bs [], .nilslice, .nilslice, .nilslice, i 0, i 4, bs [116], bs [], bs [], bs [], bs [118], i 2, .nilslice, bs [], i 0, .bool false, i 0, i 0, .int .u64 0, bs [], bs [], i 0, .nilslice]]
  pre := [(191, .cells 14 [] (cl ([bs [107], i 2, .bool false, i 0, i 0, .int .u64 0, bs [], bs [118], i 5, .bool true, i 0, i 0, .int .u64 0, bs []])) true false), (481, .cells 8 [] (cl ([i 2, i 1, .int .u64 0, bs [], i 5, i 0, .int .u64 0, bs [53]])) true false), (1107, .cells 8 [] (cl ([i 2, i 2, .int .u64 0, bs [], i 5, i 0, .int .u64 0, bs [55]])) true false), (1113, .cells 4 [] (cl ([bs [2, 128, 0, 0, 0, 0, 0, 0, 1], .slice 481 0 2 2 false 4, bs [2, 128, 0, 0, 0, 0, 0, 0, 2], .slice 1107 0 2 2 false 4])) true false), (1120, .cells 4 [] (cl ([bs [116], i 1, .slice 191 0 2 2 false 7, .slice 1113 0 2 2 false 2])) true false)]
  now := 1297
  v := .tuple [.slice 1913 0 1 1 false 4, .agg [i 0, .nilslice]]
  post := [(191, some (.cells 14 [] (cl ([bs [107], i 2, .bool false, i 0, i 0, .int .u64 0, bs [], bs [118], i 5, .bool true, i 0, i 0, .int .u64 0, bs []])) true false)), (481, some (.cells 8 [] (cl ([i 2, i 1, .int .u64 0, bs [], i 5, i 0, .int .u64 0, bs [53]])) true false)), (1107, some (.cells 8 [] (cl ([i 2, i 2, .int .u64 0, bs [], i 5, i 0, .int .u64 0, bs [55]])) true false)), (1113, some (.cells 4 [] (cl ([bs [2, 128, 0, 0, 0, 0, 0, 0, 1], .slice 481 0 2 2 false 4, bs [2, 128, 0, 0, 0, 0, 0, 0, 2], .slice 1107 0 2 2 false 4])) true false)), (1120, some (.cells 4 [] (cl ([bs [116], i 1, .slice 191 0 2 2 false 7, .slice 1113 0 2 2 false 2])) true false)), (1589, some (.cells 14 [] (cl ([bs [107], i 2, .bool false, i 0, i 0, .int .u64 0, bs [], bs [118], i 2, .bool true, i 0, i 0, .int .u64 0, bs []])) true false)), (1691, some (.cells 12 [i 0, i 0, .int .u64 0, bs []] (cl ([i 2, i 1, .int .u64 0, bs [], i 2, i 5, .int .u64 0, bs []])) true false)), (1849, some (.cells 12 [i 0, i 0, .int .u64 0, bs []] (cl ([i 2, i 2, .int .u64 0, bs [], i 2, i 7, .int .u64 0, bs []])) true false)), (1906, some (.cells 4 [] (cl ([bs [2, 128, 0, 0, 0, 0, 0, 0, 1], .slice 1691 0 2 3 true 4, bs [2, 128, 0, 0, 0, 0, 0, 0, 2], .slice 1849 0 2 3 true 4])) true false)), (1913, some (.cells 4 [] (cl ([bs [116], i 1, .slice 1589 0 2 2 false 7, .slice 1906 0 2 2 false 2])) true false))]
  then' := 1914
theorem t5_ok : t5.ok Tryz.prog := Ev.Told.of_check (O := []) awk13_mixed (fun _ h => by cases h) 100000 (by kernel_rfl)

noncomputable def t6 : Ev.Told where
  f := 47
  args := [.slice 1913 0 1 1 false 4, .agg [i 5, bs [116], .slice 37 0 1 2 true 4, .nilslice, .nilslice, i 0, i 0, bs [], bs [], bs [], bs [], bs [], i 0, .nilslice, bs [], i 0, .bool false, i 0, i 0, .int .u64 0, bs [], bs [], i 0, .nilslice]]
  pre := [(37, .cells 8 [] (cl ([i 2, i 1, .int .u64 0, bs [], i 5, i 0, .int .u64 0, bs []])) true false), (1589, .cells 14 [] (cl ([bs [107], i 2, .bool false, i 0, i 0, .int .u64 0, bs [], bs [118], i 2, .bool true, i 0, i 0, .int .u64 0, bs []])) true false), (1906, .cells 4 [] (cl ([bs [2, 128, 0, 0, 0, 0, 0, 0, 1], .slice 1691 0 2 3 true 4, bs [2, 128, 0, 0, 0, 0, 0, 0, 2], .slice 1849 0 2 3 true 4])) true false), (1913, .cells 4 [] (cl ([bs [116], i 1, .slice 1589 0 2 2 false 7, .slice 1906 0 2 2 false 2])) true false)]
  now := 2074
  v := .tuple [.slice 2225 0 1 1 false 4, .agg [i 0, .nilslice]]
  post := [(37, some (.cells 8 [] (cl ([i 2, i 1, .int .u64 0, bs [], i 5, i 0, .int .u64 0, bs []])) true false)), (1589, some (.cells 14 [] (cl ([bs [107], i 2, .bool false, i 0, i 0, .int .u64 0, bs [], bs [118], i 2, .bool true, i 0, i 0, .int .u64 0, bs []])) true false)), (1906, some (.cells 4 [] (cl ([bs [2, 128, 0, 0, 0, 0, 0, 0, 1], .slice 1691 0 2 3 true 4, bs [2, 128, 0, 0, 0, 0, 0, 0, 2], .slice 1849 0 2 3 true 4])) true false)), (1913, some (.cells 4 [] (cl ([bs [116], i 1, .slice 1589 0 2 2 false 7, .slice 1906 0 2 2 false 2])) true false)), (2221, some (.cells 2 [] (cl ([bs [2, 128, 0, 0, 0, 0, 0, 0, 2], .slice 1849 0 2 3 true 4])) true false)), (2225, some (.cells 4 [] (cl ([bs [116], i 1, .slice 1589 0 2 2 false 7, .slice 2221 0 1 1 false 2])) true false))]
  then' := 2230
theorem t6_ok : t6.ok Tryz.prog := Ev.Told.of_check (O := []) awk13_mixed (fun _ h => by cases h) 100000 (by kernel_rfl)

end Go.Proofs.YtbajncpfmemdgaaGreatDoor.Awk13
