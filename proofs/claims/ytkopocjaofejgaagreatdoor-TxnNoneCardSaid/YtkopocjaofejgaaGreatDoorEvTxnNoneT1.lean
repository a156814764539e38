/- Calls within the run of the law 'TxnNone': what each comes to. Part 1. -/
import Derived.Test.YtkopocjaofejgaaGreatDoorEvTxnNoneT0
import Derived.ProofKit
set_option maxRecDepth 100000
namespace Go.Proofs.YtkopocjaofejgaaGreatDoor.TxnNone
open Go.Ev

noncomputable def t1 : Ev.Told where
  f := 92
  args := [i 600, i 400]
  pre := []
  now := 283
  v := .tuple [.agg [.slice 349 0 600 600 true 1, .slice 351 0 600 600 true 1, .nilslice, i 0, .slice 342 0 600 600 true 3, .slice 309 0 400 400 false 1, .slice 310 0 400 400 false 1, .nilslice, i 1, .slice 336 0 400 400 false 4, i 0, i 1, .nilslice, i 0], i 0]
  post := [(309, some (.cells 400 [] (cl (cat [[i 1], rep (i 0) 399])) true false)), (310, some (.cells 400 [] (cl (cat [[.bool true], rep (.bool false) 399])) true false)), (336, some (.cells 1600 [] (cl (cat [[.bool true, i 1, .nilslice, .nilslice], reps [.bool false, i 0, .nilslice, .nilslice] 399])) true false)), (342, some (.cells 1800 [bs [], i 0, bs []] (cl ([])) true false)), (349, some (.cells 600 [i 0] (cl ([])) true false)), (351, some (.cells 600 [.bool false] (cl ([])) true false))]
  then' := 354
theorem t1_ok : t1.ok Tryz.prog := Ev.Told.of_check (O := []) txnNone_mixed (fun _ h => by cases h) 100000 (by kernel_rfl)

noncomputable def t2 : Ev.Told where
  f := 469
  args := [.agg [.slice 349 0 600 600 true 1, .slice 351 0 600 600 true 1, .nilslice, i 0]]
  pre := [(351, .cells 600 [.bool false] (cl ([])) true false)]
  now := 2220
  v := i 600
  post := [(351, some (.cells 600 [.bool false] (cl ([])) true false))]
  then' := 2221
theorem t2_ok : t2.ok Tryz.prog := Ev.Told.of_check (O := []) txnNone_mixed (fun _ h => by cases h) 100000 (by kernel_rfl)

noncomputable def t3 : Ev.Told where
  f := 387
  args := [.agg [.slice 309 0 400 400 false 1, .slice 310 0 400 400 false 1, .nilslice, i 1, .slice 336 0 400 400 false 4, i 0, i 1, .nilslice], bs [0], .agg [i 0, i 1]]
  pre := [(310, .cells 400 [] (cl (cat [[.bool true], rep (.bool false) 399])) true false), (336, .cells 1600 [] (cl (cat [[.bool true, i 1, .nilslice, .nilslice], reps [.bool false, i 0, .nilslice, .nilslice] 399])) true false)]
  now := 2238
  v := .tuple [.agg [.slice 309 0 400 400 false 1, .slice 310 0 400 400 false 1, .nilslice, i 1, .slice 2338 0 400 400 false 4, i 0, i 1, .nilslice], .slice 2363 0 1 1 true 7, i 0]
  post := [(310, some (.cells 400 [] (cl (cat [[.bool true], rep (.bool false) 399])) true false)), (336, some (.cells 1600 [] (cl (cat [[.bool true, i 1, .nilslice, .nilslice], reps [.bool false, i 0, .nilslice, .nilslice] 399])) true false)), (2330, some (.cells 1 [] (cl ([bs [0]])) true false)), (2333, some (.cells 2 [] (cl ([i 0, i 1])) true false)), (2338, some (.cells 1600 [] (cl (cat [[.bool true, i 2, .slice 2330 0 1 1 false 1, .slice 2333 0 1 1 false 2], reps [.bool false, i 0, .nilslice, .nilslice] 399])) true false)), (2363, some (.cells 7 [] (cl ([i 0, i 1, i 0, i 0, i 1, i 2, .bool false])) true false))]
  then' := 2372
theorem t3_ok : t3.ok Tryz.prog := Ev.Told.of_check (O := []) txnNone_mixed (fun _ h => by cases h) 100000 (by kernel_rfl)

end Go.Proofs.YtkopocjaofejgaaGreatDoor.TxnNone
