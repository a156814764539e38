/- Calls within the run of the law 'SessionNone': what each comes to. Part 1. -/
import Derived.Test.YtkopocjaofejgaaGreatDoorEvSessionNoneT0
import Derived.ProofKit
set_option maxRecDepth 100000
namespace Go.Proofs.YtkopocjaofejgaaGreatDoor.SessionNone
open Go.Ev

noncomputable def t1 : Ev.Told where
  f := 92
  args := [i 600, i 400]
  pre := []
  now := 41
  v := .tuple [.agg [.slice 107 0 600 600 true 1, .slice 109 0 600 600 true 1, .nilslice, i 0, .slice 100 0 600 600 true 3, .slice 67 0 400 400 false 1, .slice 68 0 400 400 false 1, .nilslice, i 1, .slice 94 0 400 400 false 4, i 0, i 1, .nilslice, i 0], i 0]
  post := [(67, some (.cells 400 [] (cl (cat [[i 1], rep (i 0) 399])) true false)), (68, some (.cells 400 [] (cl (cat [[.bool true], rep (.bool false) 399])) true false)), (94, some (.cells 1600 [] (cl (cat [[.bool true, i 1, .nilslice, .nilslice], reps [.bool false, i 0, .nilslice, .nilslice] 399])) true false)), (100, some (.cells 1800 [bs [], i 0, bs []] (cl ([])) true false)), (107, some (.cells 600 [i 0] (cl ([])) true false)), (109, some (.cells 600 [.bool false] (cl ([])) true false))]
  then' := 112
theorem t1_ok : t1.ok Tryz.prog := Ev.Told.of_check (O := []) sessionNone_mixed (fun _ h => by cases h) 100000 (by kernel_rfl)

noncomputable def t2 : Ev.Told where
  f := 469
  args := [.agg [.slice 107 0 600 600 true 1, .slice 109 0 600 600 true 1, .nilslice, i 0]]
  pre := [(109, .cells 600 [.bool false] (cl ([])) true false)]
  now := 1978
  v := i 600
  post := [(109, some (.cells 600 [.bool false] (cl ([])) true false))]
  then' := 1979
theorem t2_ok : t2.ok Tryz.prog := Ev.Told.of_check (O := []) sessionNone_mixed (fun _ h => by cases h) 100000 (by kernel_rfl)

noncomputable def t3 : Ev.Told where
  f := 387
  args := [.agg [.slice 67 0 400 400 false 1, .slice 68 0 400 400 false 1, .nilslice, i 1, .slice 94 0 400 400 false 4, i 0, i 1, .nilslice], bs [0], .agg [i 0, i 1]]
  pre := [(68, .cells 400 [] (cl (cat [[.bool true], rep (.bool false) 399])) true false), (94, .cells 1600 [] (cl (cat [[.bool true, i 1, .nilslice, .nilslice], reps [.bool false, i 0, .nilslice, .nilslice] 399])) true false)]
  now := 1996
  v := .tuple [.agg [.slice 67 0 400 400 false 1, .slice 68 0 400 400 false 1, .nilslice, i 1, .slice 2096 0 400 400 false 4, i 0, i 1, .nilslice], .slice 2121 0 1 1 true 7, i 0]
  post := [(68, some (.cells 400 [] (cl (cat [[.bool true], rep (.bool false) 399])) true false)), (94, some (.cells 1600 [] (cl (cat [[.bool true, i 1, .nilslice, .nilslice], reps [.bool false, i 0, .nilslice, .nilslice] 399])) true false)), (2088, some (.cells 1 [] (cl ([bs [0]])) true false)), (2091, some (.cells 2 [] (cl ([i 0, i 1])) true false)), (2096, some (.cells 1600 [] (cl (cat [[.bool true, i 2, .slice 2088 0 1 1 false 1, .slice 2091 0 1 1 false 2], reps [.bool false, i 0, .nilslice, .nilslice] 399])) true false)), (2121, some (.cells 7 [] (cl ([i 0, i 1, i 0, i 0, i 1, i 2, .bool false])) true false))]
  then' := 2130
theorem t3_ok : t3.ok Tryz.prog := Ev.Told.of_check (O := []) sessionNone_mixed (fun _ h => by cases h) 100000 (by kernel_rfl)

end Go.Proofs.YtkopocjaofejgaaGreatDoor.SessionNone
