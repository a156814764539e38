/- Calls within the run of the law 'Awake': what each comes to. Part 1. -/
import Derived.Test.YtbajncpfmemdgaaGreatDoorEvAwakeT0
import Derived.ProofKit
set_option maxRecDepth 100000
namespace Go.Proofs.YtbajncpfmemdgaaGreatDoor.Awake
open Go.Ev

noncomputable def t1 : Ev.Told where
  f := 58
  args := [.slice 131 0 1 1 false 4, .slice 6 0 1 1 true 24]
  pre := [(2, .cells 4 [] (cl ([i 2, i 1, .int .u64 0, bs []])) true false), (6, .cells 24 [] (cl ([i 3, bs [116], .slice 2 0 1 1 true 4, .nilslice, .nilslice, i 0, i 0, bs [], bs [], bs [], bs [], bs [], i 0, .nilslice, bs [], i 0, .bool false, i 0, i 0, .int .u64 0, bs [], bs [], i 0, .nilslice])) true false), (126, .cells 7 [] (cl ([bs [107], i 2, .bool false, i 0, i 0, .int .u64 0, bs []])) true false), (131, .cells 4 [] (cl ([bs [116], i 1, .slice 126 0 1 1 false 7, .nilslice])) true false)]
  now := 139
  v := .tuple [.slice 358 0 1 1 false 4, .slice 364 0 1 1 false 2]
  post := [(2, some (.cells 4 [] (cl ([i 2, i 1, .int .u64 0, bs []])) true false)), (6, some (.cells 24 [] (cl ([i 3, bs [116], .slice 2 0 1 1 true 4, .nilslice, .nilslice, i 0, i 0, bs [], bs [], bs [], bs [], bs [], i 0, .nilslice, bs [], i 0, .bool false, i 0, i 0, .int .u64 0, bs [], bs [], i 0, .nilslice])) true false)), (126, some (.cells 7 [] (cl ([bs [107], i 2, .bool false, i 0, i 0, .int .u64 0, bs []])) true false)), (131, some (.cells 4 [] (cl ([bs [116], i 1, .slice 126 0 1 1 false 7, .nilslice])) true false)), (345, some (.cells 4 [] (cl ([i 2, i 1, .int .u64 0, bs []])) true false)), (351, some (.cells 2 [] (cl ([bs [2, 128, 0, 0, 0, 0, 0, 0, 1], .slice 345 0 1 1 false 4])) true false)), (358, some (.cells 4 [] (cl ([bs [116], i 1, .slice 126 0 1 1 false 7, .slice 351 0 1 1 false 2])) true false)), (364, some (.cells 2 [] (cl ([i 0, .nilslice])) true false))]
  then' := 365
theorem t1_ok : t1.ok Tryz.prog := Ev.Told.of_check (O := []) awake_mixed (fun _ h => by cases h) 100000 (by kernel_rfl)

noncomputable def t2 : Ev.Told where
  f := 24
  args := [.slice 12 0 2 2 true 6]
  pre := [(0, .cells 7 [] (cl ([bs [107], i 2, .bool false, i 0, i 0, .int .u64 0, bs []])) true false), (2, .cells 4 [] (cl ([i 2, i 1, .int .u64 0, bs []])) true false), (3, .cells 24 [] (cl ([i 6, bs [], .nilslice, .nilslice, .nilslice, i 0, i 1, bs [], bs [], bs [], bs [], bs [], i 0, .nilslice, bs [], i 0, .bool false, i 0, i 0, .int .u64 0, bs [], bs [116], i 1, .slice 0 0 1 1 true 7])) true false), (4, .cells 2 [] (cl ([i 0, .nilslice])) true false), (6, .cells 24 [] (cl ([i 3, bs [116], .slice 2 0 1 1 true 4, .nilslice, .nilslice, i 0, i 0, bs [], bs [], bs [], bs [], bs [], i 0, .nilslice, bs [], i 0, .bool false, i 0, i 0, .int .u64 0, bs [], bs [], i 0, .nilslice])) true false), (7, .cells 2 [] (cl ([i 0, .nilslice])) true false), (12, .cells 12 [] (cl ([i 0, i 1, i 5, i 8388616, .slice 3 0 1 1 true 24, .slice 4 0 1 1 true 2, i 0, i 2, i 4, i 8388624, .slice 6 0 1 1 true 24, .slice 7 0 1 1 true 2])) true false)]
  now := 13
  v := .tuple [.slice 358 0 1 1 false 4, i 2]
  post := [(0, some (.cells 7 [] (cl ([bs [107], i 2, .bool false, i 0, i 0, .int .u64 0, bs []])) true false)), (2, some (.cells 4 [] (cl ([i 2, i 1, .int .u64 0, bs []])) true false)), (3, some (.cells 24 [] (cl ([i 6, bs [], .nilslice, .nilslice, .nilslice, i 0, i 1, bs [], bs [], bs [], bs [], bs [], i 0, .nilslice, bs [], i 0, .bool false, i 0, i 0, .int .u64 0, bs [], bs [116], i 1, .slice 0 0 1 1 true 7])) true false)), (4, some (.cells 2 [] (cl ([i 0, .nilslice])) true false)), (6, some (.cells 24 [] (cl ([i 3, bs [116], .slice 2 0 1 1 true 4, .nilslice, .nilslice, i 0, i 0, bs [], bs [], bs [], bs [], bs [], i 0, .nilslice, bs [], i 0, .bool false, i 0, i 0, .int .u64 0, bs [], bs [], i 0, .nilslice])) true false)), (7, some (.cells 2 [] (cl ([i 0, .nilslice])) true false)), (12, some (.cells 12 [] (cl ([i 0, i 1, i 5, i 8388616, .slice 3 0 1 1 true 24, .slice 4 0 1 1 true 2, i 0, i 2, i 4, i 8388624, .slice 6 0 1 1 true 24, .slice 7 0 1 1 true 2])) true false)), (126, some (.cells 7 [] (cl ([bs [107], i 2, .bool false, i 0, i 0, .int .u64 0, bs []])) true false)), (345, some (.cells 4 [] (cl ([i 2, i 1, .int .u64 0, bs []])) true false)), (351, some (.cells 2 [] (cl ([bs [2, 128, 0, 0, 0, 0, 0, 0, 1], .slice 345 0 1 1 false 4])) true false)), (358, some (.cells 4 [] (cl ([bs [116], i 1, .slice 126 0 1 1 false 7, .slice 351 0 1 1 false 2])) true false))]
  then' := 369
theorem t2_ok : t2.ok Tryz.prog := Ev.Told.of_check (O := [t1]) awake_mixed (all1 t1_ok) 100000 (by kernel_rfl)

noncomputable def t3 : Ev.Told where
  f := 58
  args := [.slice 764 0 1 1 false 4, .slice 6 0 1 1 true 24]
  pre := [(2, .cells 4 [] (cl ([i 2, i 1, .int .u64 0, bs []])) true false), (6, .cells 24 [] (cl ([i 3, bs [116], .slice 2 0 1 1 true 4, .nilslice, .nilslice, i 0, i 0, bs [], bs [], bs [], bs [], bs [], i 0, .nilslice, bs [], i 0, .bool false, i 0, i 0, .int .u64 0, bs [], bs [], i 0, .nilslice])) true false), (759, .cells 7 [] (cl ([bs [107], i 2, .bool false, i 0, i 0, .int .u64 0, bs []])) true false), (764, .cells 4 [] (cl ([bs [116], i 1, .slice 759 0 1 1 false 7, .nilslice])) true false)]
  now := 772
  v := .tuple [.slice 991 0 1 1 false 4, .slice 997 0 1 1 false 2]
  post := [(2, some (.cells 4 [] (cl ([i 2, i 1, .int .u64 0, bs []])) true false)), (6, some (.cells 24 [] (cl ([i 3, bs [116], .slice 2 0 1 1 true 4, .nilslice, .nilslice, i 0, i 0, bs [], bs [], bs [], bs [], bs [], i 0, .nilslice, bs [], i 0, .bool false, i 0, i 0, .int .u64 0, bs [], bs [], i 0, .nilslice])) true false)), (759, some (.cells 7 [] (cl ([bs [107], i 2, .bool false, i 0, i 0, .int .u64 0, bs []])) true false)), (764, some (.cells 4 [] (cl ([bs [116], i 1, .slice 759 0 1 1 false 7, .nilslice])) true false)), (978, some (.cells 4 [] (cl ([i 2, i 1, .int .u64 0, bs []])) true false)), (984, some (.cells 2 [] (cl ([bs [2, 128, 0, 0, 0, 0, 0, 0, 1], .slice 978 0 1 1 false 4])) true false)), (991, some (.cells 4 [] (cl ([bs [116], i 1, .slice 759 0 1 1 false 7, .slice 984 0 1 1 false 2])) true false)), (997, some (.cells 2 [] (cl ([i 0, .nilslice])) true false))]
  then' := 998
theorem t3_ok : t3.ok Tryz.prog := Ev.Told.of_check (O := []) awake_mixed (fun _ h => by cases h) 100000 (by kernel_rfl)

noncomputable def t4 : Ev.Told where
  f := 25
  args := [.slice 429 0 2 2 true 6]
  pre := [(0, .cells 7 [] (cl ([bs [107], i 2, .bool false, i 0, i 0, .int .u64 0, bs []])) true false), (2, .cells 4 [] (cl ([i 2, i 1, .int .u64 0, bs []])) true false), (3, .cells 24 [] (cl ([i 6, bs [], .nilslice, .nilslice, .nilslice, i 0, i 1, bs [], bs [], bs [], bs [], bs [], i 0, .nilslice, bs [], i 0, .bool false, i 0, i 0, .int .u64 0, bs [], bs [116], i 1, .slice 0 0 1 1 true 7])) true false), (4, .cells 2 [] (cl ([i 0, .nilslice])) true false), (6, .cells 24 [] (cl ([i 3, bs [116], .slice 2 0 1 1 true 4, .nilslice, .nilslice, i 0, i 0, bs [], bs [], bs [], bs [], bs [], i 0, .nilslice, bs [], i 0, .bool false, i 0, i 0, .int .u64 0, bs [], bs [], i 0, .nilslice])) true false), (7, .cells 2 [] (cl ([i 0, .nilslice])) true false), (429, .cells 12 [] (cl ([i 0, i 2, i 4, i 8388624, .slice 6 0 1 1 true 24, .slice 7 0 1 1 true 2, i 0, i 1, i 5, i 8388616, .slice 3 0 1 1 true 24, .slice 4 0 1 1 true 2])) true false)]
  now := 493
  v := .bool true
  post := [(0, some (.cells 7 [] (cl ([bs [107], i 2, .bool false, i 0, i 0, .int .u64 0, bs []])) true false)), (2, some (.cells 4 [] (cl ([i 2, i 1, .int .u64 0, bs []])) true false)), (3, some (.cells 24 [] (cl ([i 6, bs [], .nilslice, .nilslice, .nilslice, i 0, i 1, bs [], bs [], bs [], bs [], bs [], i 0, .nilslice, bs [], i 0, .bool false, i 0, i 0, .int .u64 0, bs [], bs [116], i 1, .slice 0 0 1 1 true 7])) true false)), (4, some (.cells 2 [] (cl ([i 0, .nilslice])) true false)), (6, some (.cells 24 [] (cl ([i 3, bs [116], .slice 2 0 1 1 true 4, .nilslice, .nilslice, i 0, i 0, bs [], bs [], bs [], bs [], bs [], i 0, .nilslice, bs [], i 0, .bool false, i 0, i 0, .int .u64 0, bs [], bs [], i 0, .nilslice])) true false)), (7, some (.cells 2 [] (cl ([i 0, .nilslice])) true false)), (429, some (.cells 12 [] (cl ([i 0, i 2, i 4, i 8388624, .slice 6 0 1 1 true 24, .slice 7 0 1 1 true 2, i 0, i 1, i 5, i 8388616, .slice 3 0 1 1 true 24, .slice 4 0 1 1 true 2])) true false))]
  then' := 1002
theorem t4_ok : t4.ok Tryz.prog := Ev.Told.of_check (O := [t3]) awake_mixed (all1 t3_ok) 100000 (by kernel_rfl)

noncomputable def t5 : Ev.Told where
  f := 25
  args := [.slice 434 0 2 2 true 6]
  pre := [(0, .cells 7 [] (cl ([bs [107], i 2, .bool false, i 0, i 0, .int .u64 0, bs []])) true false), (3, .cells 24 [] (cl ([i 6, bs [], .nilslice, .nilslice, .nilslice, i 0, i 1, bs [], bs [], bs [], bs [], bs [], i 0, .nilslice, bs [], i 0, .bool false, i 0, i 0, .int .u64 0, bs [], bs [116], i 1, .slice 0 0 1 1 true 7])) true false), (6, .cells 24 [] (cl ([i 3, bs [116], .slice 2 0 1 1 true 4, .nilslice, .nilslice, i 0, i 0, bs [], bs [], bs [], bs [], bs [], i 0, .nilslice, bs [], i 0, .bool false, i 0, i 0, .int .u64 0, bs [], bs [], i 0, .nilslice])) true false), (7, .cells 2 [] (cl ([i 0, .nilslice])) true false), (434, .cells 12 [] (cl ([i 0, i 1, i 5, i 8388616, .slice 3 0 1 1 true 24, .slice 4 0 1 1 true 2, i 0, i 2, i 4, i 8388608, .slice 6 0 1 1 true 24, .slice 7 0 1 1 true 2])) true false)]
  now := 1002
  v := .bool false
  post := [(0, some (.cells 7 [] (cl ([bs [107], i 2, .bool false, i 0, i 0, .int .u64 0, bs []])) true false)), (3, some (.cells 24 [] (cl ([i 6, bs [], .nilslice, .nilslice, .nilslice, i 0, i 1, bs [], bs [], bs [], bs [], bs [], i 0, .nilslice, bs [], i 0, .bool false, i 0, i 0, .int .u64 0, bs [], bs [116], i 1, .slice 0 0 1 1 true 7])) true false)), (6, some (.cells 24 [] (cl ([i 3, bs [116], .slice 2 0 1 1 true 4, .nilslice, .nilslice, i 0, i 0, bs [], bs [], bs [], bs [], bs [], i 0, .nilslice, bs [], i 0, .bool false, i 0, i 0, .int .u64 0, bs [], bs [], i 0, .nilslice])) true false)), (7, some (.cells 2 [] (cl ([i 0, .nilslice])) true false)), (434, some (.cells 12 [] (cl ([i 0, i 1, i 5, i 8388616, .slice 3 0 1 1 true 24, .slice 4 0 1 1 true 2, i 0, i 2, i 4, i 8388608, .slice 6 0 1 1 true 24, .slice 7 0 1 1 true 2])) true false))]
  then' := 1295
theorem t5_ok : t5.ok Tryz.prog := Ev.Told.of_check (O := []) awake_mixed (fun _ h => by cases h) 100000 (by kernel_rfl)

noncomputable def t6 : Ev.Told where
  f := 58
  args := [.slice 1496 0 1 1 false 4, .slice 6 0 1 1 true 24]
  pre := [(2, .cells 4 [] (cl ([i 2, i 1, .int .u64 0, bs []])) true false), (6, .cells 24 [] (cl ([i 3, bs [116], .slice 2 0 1 1 true 4, .nilslice, .nilslice, i 0, i 0, bs [], bs [], bs [], bs [], bs [], i 0, .nilslice, bs [], i 0, .bool false, i 0, i 0, .int .u64 0, bs [], bs [], i 0, .nilslice])) true false), (1491, .cells 7 [] (cl ([bs [107], i 2, .bool false, i 0, i 0, .int .u64 0, bs []])) true false), (1496, .cells 4 [] (cl ([bs [116], i 1, .slice 1491 0 1 1 false 7, .nilslice])) true false)]
  now := 1504
  v := .tuple [.slice 1723 0 1 1 false 4, .slice 1729 0 1 1 false 2]
  post := [(2, some (.cells 4 [] (cl ([i 2, i 1, .int .u64 0, bs []])) true false)), (6, some (.cells 24 [] (cl ([i 3, bs [116], .slice 2 0 1 1 true 4, .nilslice, .nilslice, i 0, i 0, bs [], bs [], bs [], bs [], bs [], i 0, .nilslice, bs [], i 0, .bool false, i 0, i 0, .int .u64 0, bs [], bs [], i 0, .nilslice])) true false)), (1491, some (.cells 7 [] (cl ([bs [107], i 2, .bool false, i 0, i 0, .int .u64 0, bs []])) true false)), (1496, some (.cells 4 [] (cl ([bs [116], i 1, .slice 1491 0 1 1 false 7, .nilslice])) true false)), (1710, some (.cells 4 [] (cl ([i 2, i 1, .int .u64 0, bs []])) true false)), (1716, some (.cells 2 [] (cl ([bs [2, 128, 0, 0, 0, 0, 0, 0, 1], .slice 1710 0 1 1 false 4])) true false)), (1723, some (.cells 4 [] (cl ([bs [116], i 1, .slice 1491 0 1 1 false 7, .slice 1716 0 1 1 false 2])) true false)), (1729, some (.cells 2 [] (cl ([i 0, .nilslice])) true false))]
  then' := 1730
theorem t6_ok : t6.ok Tryz.prog := Ev.Told.of_check (O := []) awake_mixed (fun _ h => by cases h) 100000 (by kernel_rfl)

noncomputable def t7 : Ev.Told where
  f := 25
  args := [.slice 441 0 2 2 true 6]
  pre := [(0, .cells 7 [] (cl ([bs [107], i 2, .bool false, i 0, i 0, .int .u64 0, bs []])) true false), (2, .cells 4 [] (cl ([i 2, i 1, .int .u64 0, bs []])) true false), (3, .cells 24 [] (cl ([i 6, bs [], .nilslice, .nilslice, .nilslice, i 0, i 1, bs [], bs [], bs [], bs [], bs [], i 0, .nilslice, bs [], i 0, .bool false, i 0, i 0, .int .u64 0, bs [], bs [116], i 1, .slice 0 0 1 1 true 7])) true false), (4, .cells 2 [] (cl ([i 0, .nilslice])) true false), (6, .cells 24 [] (cl ([i 3, bs [116], .slice 2 0 1 1 true 4, .nilslice, .nilslice, i 0, i 0, bs [], bs [], bs [], bs [], bs [], i 0, .nilslice, bs [], i 0, .bool false, i 0, i 0, .int .u64 0, bs [], bs [], i 0, .nilslice])) true false), (11, .cells 2 [] (cl ([i 13, .nilslice])) true false), (441, .cells 12 [] (cl ([i 0, i 1, i 5, i 8388616, .slice 3 0 1 1 true 24, .slice 4 0 1 1 true 2, i 0, i 2, i 4, i 8388624, .slice 6 0 1 1 true 24, .slice 11 0 1 1 true 2])) true false)]
  now := 1295
  v := .bool false
  post := [(0, some (.cells 7 [] (cl ([bs [107], i 2, .bool false, i 0, i 0, .int .u64 0, bs []])) true false)), (2, some (.cells 4 [] (cl ([i 2, i 1, .int .u64 0, bs []])) true false)), (3, some (.cells 24 [] (cl ([i 6, bs [], .nilslice, .nilslice, .nilslice, i 0, i 1, bs [], bs [], bs [], bs [], bs [], i 0, .nilslice, bs [], i 0, .bool false, i 0, i 0, .int .u64 0, bs [], bs [116], i 1, .slice 0 0 1 1 true 7])) true false)), (4, some (.cells 2 [] (cl ([i 0, .nilslice])) true false)), (6, some (.cells 24 [] (cl ([i 3, bs [116], .slice 2 0 1 1 true 4, .nilslice, .nilslice, i 0, i 0, bs [], bs [], bs [], bs [], bs [], i 0, .nilslice, bs [], i 0, .bool false, i 0, i 0, .int .u64 0, bs [], bs [], i 0, .nilslice])) true false)), (11, some (.cells 2 [] (cl ([i 13, .nilslice])) true false)), (441, some (.cells 12 [] (cl ([i 0, i 1, i 5, i 8388616, .slice 3 0 1 1 true 24, .slice 4 0 1 1 true 2, i 0, i 2, i 4, i 8388624, .slice 6 0 1 1 true 24, .slice 11 0 1 1 true 2])) true false))]
  then' := 1734
theorem t7_ok : t7.ok Tryz.prog := Ev.Told.of_check (O := [t6]) awake_mixed (all1 t6_ok) 100000 (by kernel_rfl)

end Go.Proofs.YtbajncpfmemdgaaGreatDoor.Awake
