/- Calls within the run of the law 'MigratorNone': what each comes to. Part 4. -/
import Derived.Test.YtkopocjaofejgaaGreatDoorEvMigratorNoneT0
import Derived.Test.YtkopocjaofejgaaGreatDoorEvMigratorNoneT1
import Derived.Test.YtkopocjaofejgaaGreatDoorEvMigratorNoneT2
import Derived.Test.YtkopocjaofejgaaGreatDoorEvMigratorNoneT3
import Derived.ProofKit
set_option maxRecDepth 100000
namespace Go.Proofs.YtkopocjaofejgaaGreatDoor.MigratorNone
open Go.Ev

noncomputable def t4 : Ev.Told where
  f := 48
  args := [.agg [.slice 481 0 1 1 false 4, i 4, bs [116], bs [], bs [], bs [], bs [118], i 2, .nilslice, bs [], i 0, .bool false, i 0, i 0, .int .u64 0, bs [], bs [], i 0, .nilslice, i 0]]
  pre := [(7, .cells 14 [] (cl ([bs [107], i 2, .bool false, i 0, i 0, .int .u64 0, bs [], bs [118], i 5, .bool true, i 0, i 0, .int .u64 0, bs []])) true false), (8, .cells 8 [] (cl ([i 2, i 1, .int .u64 0, bs [], i 5, i 0, .int .u64 0, bs [53]])) true false), (479, .cells 2 [] (cl ([bs [2, 128, 0, 0, 0, 0, 0, 0, 1], .slice 8 0 2 2 true 4])) true false), (481, .cells 4 [] (cl ([bs [116], i 1, .slice 7 0 2 2 true 7, .slice 479 0 1 1 false 2])) true false)]
  now := 485
  v := .tuple [.agg [.ptr 506 0, .slice 8225 0 600 600 false 1, .slice 8226 0 600 600 false 1, .nilslice, i 3, .slice 8637 0 600 600 false 3, .slice 533 0 400 400 false 1, .slice 534 0 400 400 false 1, .nilslice, i 1, .slice 8364 0 400 400 false 4, i 0, i 1, .nilslice, i 0, .slice 3084 0 1 1 false 5, i 3, i 2, i 1, i 4, bs [116], bs [], bs [], bs [], bs [118], i 2, .nilslice, bs [], i 0, .bool false, i 0, i 0, .int .u64 0, bs [], bs [], i 0, .nilslice, .slice 3102 0 1 1 false 5, .slice 3075 0 1 1 false 5, .bool false], i 1]
  post := [(7, some (.cells 14 [] (cl ([bs [107], i 2, .bool false, i 0, i 0, .int .u64 0, bs [], bs [118], i 5, .bool true, i 0, i 0, .int .u64 0, bs []])) true false)), (8, some (.cells 8 [] (cl ([i 2, i 1, .int .u64 0, bs [], i 5, i 0, .int .u64 0, bs [53]])) true false)), (479, some (.cells 2 [] (cl ([bs [2, 128, 0, 0, 0, 0, 0, 0, 1], .slice 8 0 2 2 true 4])) true false)), (481, some (.cells 4 [] (cl ([bs [116], i 1, .slice 7 0 2 2 true 7, .slice 479 0 1 1 false 2])) true false)), (488, some (.cells 2400 [.bool false, i 0, .nilslice, .nilslice, i 0, .bool false] (cl ([.bool true, i 4, .slice 7483 0 3 3 false 1, .slice 7496 0 3 3 false 2, i 1, .bool true])) true false)), (489, some (.cells 4 [] (cl ([.slice 488 0 400 400 true 6, .nilslice, i 1, i 1])) true false)), (490, some (.cells 5 [] (cl ([.ptr 489 0, i 0, i 1, .nilslice, .nilfunc])) true false)), (504, some (.cells 3000 [bs [], i 0, bs [], i 0, .bool false] (cl ([bs [3, 0, 1, 2, 128, 0, 0, 0, 0, 0, 0, 1], i 8, bs [2, 2, 2, 5, 1, 53], i 1, .bool true, bs [0], i 8, bs [3, 2, 1, 1, 116, 1, 2, 1, 107, 2, 0, 0, 1, 118, 2, 1, 0, 2, 1], i 1, .bool true, bs [1, 0, 1], i 8, bs [1, 0, 4, 1, 116, 0, 0, 0, 1, 118, 2, 0, 1, 116, 1, 2, 1, 107, 2, 0, 0, 1, 118, 5, 1, 0, 1, 0, 1, 116, 1, 2, 1, 107, 2, 0, 0, 1, 118, 2, 1, 0, 2, 1], i 1, .bool true])) true false)), (505, some (.cells 4 [] (cl ([.slice 504 0 600 600 true 5, .nilslice, i 3, i 3])) true false)), (506, some (.cells 3 [] (cl ([.ptr 490 0, .ptr 505 0, i 0])) true false)), (533, some (.cells 400 [] (cl (cat [[i 1], rep (i 0) 399])) true false)), (534, some (.cells 400 [] (cl (cat [[.bool true], rep (.bool false) 399])) true false)), (3056, some (.cells 14 [] (cl ([bs [107], i 2, .bool false, i 0, i 0, .int .u64 0, bs [], bs [118], i 2, .bool true, i 0, i 0, .int .u64 0, bs []])) true false)), (3075, some (.cells 5 [] (cl ([bs [116], i 1, .slice 3056 0 2 2 false 7, i 2, i 1])) true false)), (3084, some (.cells 5 [] (cl ([bs [116], i 1, .slice 3056 0 2 2 false 7, i 2, i 1])) true false)), (3102, some (.cells 5 [] (cl ([bs [116], i 1, .slice 7 0 2 2 true 7, i 1, i 0])) true false)), (7483, some (.cells 3 [] (cl ([bs [0], bs [1, 0, 1], bs [3, 0, 1, 2, 128, 0, 0, 0, 0, 0, 0, 1]])) true false)), (7496, some (.cells 6 [] (cl ([i 1, i 1, i 2, i 1, i 0, i 1])) true false)), (8225, some (.cells 600 [] (cl (cat [[i 1, i 1, i 1], rep (i 0) 597])) true false)), (8226, some (.cells 600 [] (cl (cat [[.bool true, .bool true, .bool true], rep (.bool false) 597])) true false)), (8354, some (.cells 3 [] (cl ([bs [0], bs [1, 0, 1], bs [3, 0, 1, 2, 128, 0, 0, 0, 0, 0, 0, 1]])) true false)), (8359, some (.cells 6 [] (cl ([i 1, i 1, i 2, i 1, i 0, i 1])) true false)), (8364, some (.cells 1600 [] (cl (cat [[.bool true, i 4, .slice 8354 0 3 3 false 1, .slice 8359 0 3 3 false 2], reps [.bool false, i 0, .nilslice, .nilslice] 399])) true false)), (8637, some (.cells 1800 [] (cl (cat [[bs [3, 0, 1, 2, 128, 0, 0, 0, 0, 0, 0, 1], i 8, bs [2, 2, 2, 5, 1, 53], bs [0], i 8, bs [3, 2, 1, 1, 116, 1, 2, 1, 107, 2, 0, 0, 1, 118, 2, 1, 0, 2, 1], bs [1, 0, 1], i 8, bs [1, 0, 4, 1, 116, 0, 0, 0, 1, 118, 2, 0, 1, 116, 1, 2, 1, 107, 2, 0, 0, 1, 118, 5, 1, 0, 1, 0, 1, 116, 1, 2, 1, 107, 2, 0, 0, 1, 118, 2, 1, 0, 2, 1]], reps [bs [], i 0, bs []] 597])) true false))]
  then' := 8638
theorem t4_ok : t4.ok Tryz.prog := Ev.Told.of_check (O := [t1, t2, t3]) migratorNone_mixed (all3 t1_ok t2_ok t3_ok) 100000 (by kernel_rfl)

noncomputable def t5 : Ev.Told where
  f := 432
  args := [.slice 10389 0 2 2 false 1, bs []]
  pre := [(10389, .cells 2 [] (cl ([bs [1, 116, 1, 2, 1, 107, 2, 0, 0, 1, 118, 5, 1, 0, 1, 0], bs [1, 116, 1, 2, 1, 107, 2, 0, 0, 1, 118, 2, 1, 0, 2, 1]])) true false)]
  now := 10390
  v := bs [1, 116, 1, 2, 1, 107, 2, 0, 0, 1, 118, 5, 1, 0, 1, 0, 1, 116, 1, 2, 1, 107, 2, 0, 0, 1, 118, 2, 1, 0, 2, 1]
  post := [(10389, some (.cells 2 [] (cl ([bs [1, 116, 1, 2, 1, 107, 2, 0, 0, 1, 118, 5, 1, 0, 1, 0], bs [1, 116, 1, 2, 1, 107, 2, 0, 0, 1, 118, 2, 1, 0, 2, 1]])) true false))]
  then' := 10390
theorem t5_ok : t5.ok Tryz.prog := joined 10389 0 2 false [[1, 116, 1, 2, 1, 107, 2, 0, 0, 1, 118, 5, 1, 0, 1, 0], [1, 116, 1, 2, 1, 107, 2, 0, 0, 1, 118, 2, 1, 0, 2, 1]] [] rfl rfl (by kernel_rfl) (by kernel_rfl) (by kernel_rfl) (by kernel_rfl) (by kernel_rfl) (by kernel_rfl) (by kernel_rfl)

noncomputable def t6 : Ev.Told where
  f := 432
  args := [.slice 12335 0 2 2 false 1, bs []]
  pre := [(12335, .cells 2 [] (cl ([bs [1, 116, 1, 2, 1, 107, 2, 0, 0, 1, 118, 5, 1, 0, 1, 0], bs [1, 116, 1, 2, 1, 107, 2, 0, 0, 1, 118, 2, 1, 0, 2, 1]])) true false)]
  now := 12336
  v := bs [1, 116, 1, 2, 1, 107, 2, 0, 0, 1, 118, 5, 1, 0, 1, 0, 1, 116, 1, 2, 1, 107, 2, 0, 0, 1, 118, 2, 1, 0, 2, 1]
  post := [(12335, some (.cells 2 [] (cl ([bs [1, 116, 1, 2, 1, 107, 2, 0, 0, 1, 118, 5, 1, 0, 1, 0], bs [1, 116, 1, 2, 1, 107, 2, 0, 0, 1, 118, 2, 1, 0, 2, 1]])) true false))]
  then' := 12336
theorem t6_ok : t6.ok Tryz.prog := joined 12335 0 2 false [[1, 116, 1, 2, 1, 107, 2, 0, 0, 1, 118, 5, 1, 0, 1, 0], [1, 116, 1, 2, 1, 107, 2, 0, 0, 1, 118, 2, 1, 0, 2, 1]] [] rfl rfl (by kernel_rfl) (by kernel_rfl) (by kernel_rfl) (by kernel_rfl) (by kernel_rfl) (by kernel_rfl) (by kernel_rfl)

noncomputable def t7 : Ev.Told where
  f := 60
  args := [.ptr 10581 0]
  pre := [(10580, .map [(bs [3, 0, 2, 2, 128, 0, 0, 0, 0, 0, 0, 1], .agg [bs [3, 0, 2, 2, 128, 0, 0, 0, 0, 0, 0, 1], i 3, i 1, bs [2, 2, 2, 2, 10], .bool false], 0), (bs [2, 0, 1, 0, 2, 128, 0, 0, 0, 0, 0, 0, 1], .agg [bs [2, 0, 1, 0, 2, 128, 0, 0, 0, 0, 0, 0, 1], i 4, i 1, bs [], .bool false], 1)] 2), (10581, .cells 5 [] (cl ([.slice 17027 0 4 4 false 3, .slice 16934 0 2 2 false 3, .map 10578, .map 10579, .map 10580])) true false)]
  now := 17057
  v := .slice 17063 0 2 2 false 5
  post := [(10580, some (.map [(bs [3, 0, 2, 2, 128, 0, 0, 0, 0, 0, 0, 1], .agg [bs [3, 0, 2, 2, 128, 0, 0, 0, 0, 0, 0, 1], i 3, i 1, bs [2, 2, 2, 2, 10], .bool false], 0), (bs [2, 0, 1, 0, 2, 128, 0, 0, 0, 0, 0, 0, 1], .agg [bs [2, 0, 1, 0, 2, 128, 0, 0, 0, 0, 0, 0, 1], i 4, i 1, bs [], .bool false], 1)] 2)), (10581, some (.cells 5 [] (cl ([.slice 17027 0 4 4 false 3, .slice 16934 0 2 2 false 3, .map 10578, .map 10579, .map 10580])) true false)), (17063, some (.cells 10 [] (cl ([bs [2, 0, 1, 0, 2, 128, 0, 0, 0, 0, 0, 0, 1], i 4, i 1, bs [], .bool false, bs [3, 0, 2, 2, 128, 0, 0, 0, 0, 0, 0, 1], i 3, i 1, bs [2, 2, 2, 2, 10], .bool false])) true false))]
  then' := 17518
theorem t7_ok : t7.ok Tryz.prog := Ev.Told.of_check (O := []) migratorNone_mixed (fun _ h => by cases h) 100000 (by kernel_rfl)

end Go.Proofs.YtkopocjaofejgaaGreatDoor.MigratorNone
