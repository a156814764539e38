/- Proved: parts of the way: BD2, BD3, BEq20. -/
import Derived.Test.YtbajncpfmemdgaaGreatDoorEvQ21
set_option linter.unusedVariables false
set_option linter.unusedSimpArgs false
section
namespace Go.Proofs.YtbajncpfmemdgaaGreatDoor
open Go Go.Ev Go.IntWalk
section
variable [Env]
theorem CG.sub {esz b n m N:Nat} {g:Nat→V} {z:List V} {t:Trie V} {p:Bool} {τ:St} (hb:τ.heap.get b=some (.cells N z t p false)) (hn:n≠0) (hm:n≤m) (hN:n*esz≤N) (hu:∀i,i<n→(g i).cells.length=esz)
  (hc:∀i,i<n→∀k v,(g i).cells[k]? =some v→cellOf N z t (i*esz+k)=some v∧Go.Ev.Clean v):CG esz (.slice b 0 n m false esz) τ n g:=
 ⟨b,_,hb,fun _ _ hm'=>⟨.S7 hm' hn hm,.G6 hN (fun h=>by cases h) hu fun i hi k v hv=>⟨v,(hc i hi k v hv).1,.clean (hc i hi k v hv).2⟩⟩⟩
omit [Env] in
theorem xS:∀l:List ak,aR l=aw (l.map ak.enc)
 | []=>rfl
 | x::l=>by rw[List.map_cons,ca,←xS l];rfl
omit [Env] in
theorem Rx (l:List ak):∀v∈l.map ak.enc,v.cells.length=7:=fun v hv=>by
 obtain⟨x,_,rfl⟩:=List.mem_map.1 hv;rfl
omit [Env] in
theorem Ou {l:List ak} {i:Nat} (hi:i<l.length) {k:Nat} (hk:k<7):(aR l)[i*7+k]? =(ak.cells (l.getD i default))[k]? :=by
 rw[xS,gp (Rx l) (i:=i) (u:=ak.enc (l.getD i default)) (by rw[List.getElem?_map,List.getD_eq_getElem?_getD,List.getElem?_eq_getElem hi];rfl) hk];rfl
omit [Env] in
theorem zr {N:Nat} {es:List V} {i:Nat} {v:V} (hi:es[i]? =some v) (hN:i<N):cellOf N [] (ah es .leaf 0) i=some v:=by
 have bI:=(List.getElem?_eq_some_iff.1 hi).1
 unfold cellOf
 rw[show Nat.blt i N=true by rw[Nat.blt_eq];exact hN]
 dsimp only
 rw[ky,if_pos ⟨Nat.zero_le _,by omega⟩,Nat.sub_zero,hi]
theorem cH (os:List ak) (ho:os≠[]) {nx:Nat}:eS 7 (fun m f=>bp m f os) (.slice 0 0 os.length (os.length+1) false 7) ⟨(aU (.cells ((os.length+1)*7) [] (ah (aR (os++[dN])) .leaf 0) false false)).heap,nx⟩:=by
 refine⟨os.length,fun j=>ak.enc (os.getD j default),CG.sub (b:=0) (p:=false) (by rfl) (fun e=>ho (List.eq_nil_of_length_eq_zero e)) (by omega) (Nat.mul_le_mul_right 7 (by omega)) (fun i hi=>rfl) (fun i hi k v hv=>⟨zr ?_ ?_,ak.clean _ v (List.mem_of_getElem? hv)⟩),rfl,fun i hi=>rfl⟩
 ·have hk:k<7:=(List.getElem?_eq_some_iff.1 hv).1
  rw[Ou (by simp;omega) hk]
  have:(os++[dN]).getD i default=os.getD i default:=by simp [List.getD_eq_getElem?_getD,List.getElem?_append_left hi]
  rw[this];exact hv
 ·have hk:k<7:=(List.getElem?_eq_some_iff.1 hv).1
  have:=ln hi (Nat.succ_le_of_lt hk)
  omega
variable [aL] {vs:List V} {σ:St} {k:ai}
theorem Zy (x0 x1:ak):bX Tryz.prog 307 [.slice 0 0 2 2 false 7,.int .i64 1,.int .i64 2] (eS 7 fun m f=>bp m f (bh (fun j=>decide (j≠1)) (fun j=>[x0,x1].getD j default) 2)) (aU (.cells 14 [] (ah (aR [x0,x1]) .leaf 0) false false)):=by
 rw[show bh (fun j=>decide (j≠1)) (fun j=>[x0,x1].getD j default) 2=[x0] by kernel_rfl]
 exact F307.cd (live:=fun _=>[]) (call:=cm) (fun h=>cE h) (by kernel_rfl) (by rw[Q0];exact⟨rfl,cH [x0] (List.cons_ne_nil _ _)⟩)
theorem Zz (x0 x1 x2:ak):bX Tryz.prog 307 [.slice 0 0 3 3 false 7,.int .i64 1,.int .i64 2] (eS 7 fun m f=>bp m f (bh (fun j=>decide (j≠1)) (fun j=>[x0,x1,x2].getD j default) 3)) (aU (.cells 21 [] (ah (aR [x0,x1,x2]) .leaf 0) false false)):=by
 rw[show bh (fun j=>decide (j≠1)) (fun j=>[x0,x1,x2].getD j default) 3=[x0,x2] by kernel_rfl]
 exact F307.cd (live:=fun _=>[]) (call:=cm) (fun h=>cE h) (by kernel_rfl) (by rw[Q1];exact⟨rfl,cH [x0,x2] (List.cons_ne_nil _ _)⟩)
theorem ZA (x0 x1 x2:ak):bX Tryz.prog 307 [.slice 0 0 3 3 false 7,.int .i64 2,.int .i64 3] (eS 7 fun m f=>bp m f (bh (fun j=>decide (j≠2)) (fun j=>[x0,x1,x2].getD j default) 3)) (aU (.cells 21 [] (ah (aR [x0,x1,x2]) .leaf 0) false false)):=by
 rw[show bh (fun j=>decide (j≠2)) (fun j=>[x0,x1,x2].getD j default) 3=[x0,x1] by kernel_rfl]
 exact F307.cd (live:=fun _=>[]) (call:=cm) (fun h=>cE h) (by kernel_rfl) (by rw[Q2];exact⟨rfl,cH [x0,x1] (List.cons_ne_nil _ _)⟩)
theorem ZC (x0 x1 x2 x3:ak):bX Tryz.prog 307 [.slice 0 0 4 4 false 7,.int .i64 1,.int .i64 2] (eS 7 fun m f=>bp m f (bh (fun j=>decide (j≠1)) (fun j=>[x0,x1,x2,x3].getD j default) 4)) (aU (.cells 28 [] (ah (aR [x0,x1,x2,x3]) .leaf 0) false false)):=by
 rw[show bh (fun j=>decide (j≠1)) (fun j=>[x0,x1,x2,x3].getD j default) 4=[x0,x2,x3] by kernel_rfl]
 exact F307.cd (live:=fun _=>[]) (call:=cm) (fun h=>cE h) (by kernel_rfl) (by rw[Q3];exact⟨rfl,cH [x0,x2,x3] (List.cons_ne_nil _ _)⟩)
theorem ZD (x0 x1 x2 x3:ak):bX Tryz.prog 307 [.slice 0 0 4 4 false 7,.int .i64 2,.int .i64 3] (eS 7 fun m f=>bp m f (bh (fun j=>decide (j≠2)) (fun j=>[x0,x1,x2,x3].getD j default) 4)) (aU (.cells 28 [] (ah (aR [x0,x1,x2,x3]) .leaf 0) false false)):=by
 rw[show bh (fun j=>decide (j≠2)) (fun j=>[x0,x1,x2,x3].getD j default) 4=[x0,x1,x3] by kernel_rfl]
 exact F307.cd (live:=fun _=>[]) (call:=cm) (fun h=>cE h) (by kernel_rfl) (by rw[Q4];exact⟨rfl,cH [x0,x1,x3] (List.cons_ne_nil _ _)⟩)
theorem ZE (x0 x1 x2 x3:ak):bX Tryz.prog 307 [.slice 0 0 4 4 false 7,.int .i64 3,.int .i64 4] (eS 7 fun m f=>bp m f (bh (fun j=>decide (j≠3)) (fun j=>[x0,x1,x2,x3].getD j default) 4)) (aU (.cells 28 [] (ah (aR [x0,x1,x2,x3]) .leaf 0) false false)):=by
 rw[show bh (fun j=>decide (j≠3)) (fun j=>[x0,x1,x2,x3].getD j default) 4=[x0,x1,x2] by kernel_rfl]
 exact F307.cd (live:=fun _=>[]) (call:=cm) (fun h=>cE h) (by kernel_rfl) (by rw[Q5];exact⟨rfl,cH [x0,x1,x2] (List.cons_ne_nil _ _)⟩)
theorem ZF (x0 x1 x2 x3 x4:ak):bX Tryz.prog 307 [.slice 0 0 5 5 false 7,.int .i64 1,.int .i64 2] (eS 7 fun m f=>bp m f (bh (fun j=>decide (j≠1)) (fun j=>[x0,x1,x2,x3,x4].getD j default) 5)) (aU (.cells 35 [] (ah (aR [x0,x1,x2,x3,x4]) .leaf 0) false false)):=by
 rw[show bh (fun j=>decide (j≠1)) (fun j=>[x0,x1,x2,x3,x4].getD j default) 5=[x0,x2,x3,x4] by kernel_rfl]
 exact F307.cd (live:=fun _=>[]) (call:=cm) (fun h=>cE h) (by kernel_rfl) (by rw[Q6];exact⟨rfl,cH [x0,x2,x3,x4] (List.cons_ne_nil _ _)⟩)
theorem ZG (x0 x1 x2 x3 x4:ak):bX Tryz.prog 307 [.slice 0 0 5 5 false 7,.int .i64 2,.int .i64 3] (eS 7 fun m f=>bp m f (bh (fun j=>decide (j≠2)) (fun j=>[x0,x1,x2,x3,x4].getD j default) 5)) (aU (.cells 35 [] (ah (aR [x0,x1,x2,x3,x4]) .leaf 0) false false)):=by
 rw[show bh (fun j=>decide (j≠2)) (fun j=>[x0,x1,x2,x3,x4].getD j default) 5=[x0,x1,x3,x4] by kernel_rfl]
 exact F307.cd (live:=fun _=>[]) (call:=cm) (fun h=>cE h) (by kernel_rfl) (by rw[Q7];exact⟨rfl,cH [x0,x1,x3,x4] (List.cons_ne_nil _ _)⟩)
theorem ZH (x0 x1 x2 x3 x4:ak):bX Tryz.prog 307 [.slice 0 0 5 5 false 7,.int .i64 3,.int .i64 4] (eS 7 fun m f=>bp m f (bh (fun j=>decide (j≠3)) (fun j=>[x0,x1,x2,x3,x4].getD j default) 5)) (aU (.cells 35 [] (ah (aR [x0,x1,x2,x3,x4]) .leaf 0) false false)):=by
 rw[show bh (fun j=>decide (j≠3)) (fun j=>[x0,x1,x2,x3,x4].getD j default) 5=[x0,x1,x2,x4] by kernel_rfl]
 exact F307.cd (live:=fun _=>[]) (call:=cm) (fun h=>cE h) (by kernel_rfl) (by rw[Q8];exact⟨rfl,cH [x0,x1,x2,x4] (List.cons_ne_nil _ _)⟩)
theorem ZI (x0 x1 x2 x3 x4:ak):bX Tryz.prog 307 [.slice 0 0 5 5 false 7,.int .i64 4,.int .i64 5] (eS 7 fun m f=>bp m f (bh (fun j=>decide (j≠4)) (fun j=>[x0,x1,x2,x3,x4].getD j default) 5)) (aU (.cells 35 [] (ah (aR [x0,x1,x2,x3,x4]) .leaf 0) false false)):=by
 rw[show bh (fun j=>decide (j≠4)) (fun j=>[x0,x1,x2,x3,x4].getD j default) 5=[x0,x1,x2,x3] by kernel_rfl]
 exact F307.cd (live:=fun _=>[]) (call:=cm) (fun h=>cE h) (by kernel_rfl) (by rw[Q9];exact⟨rfl,cH [x0,x1,x2,x3] (List.cons_ne_nil _ _)⟩)
theorem ZJ (x0 x1 x2 x3 x4 x5:ak):bX Tryz.prog 307 [.slice 0 0 6 6 false 7,.int .i64 1,.int .i64 2] (eS 7 fun m f=>bp m f (bh (fun j=>decide (j≠1)) (fun j=>[x0,x1,x2,x3,x4,x5].getD j default) 6)) (aU (.cells 42 [] (ah (aR [x0,x1,x2,x3,x4,x5]) .leaf 0) false false)):=by
 rw[show bh (fun j=>decide (j≠1)) (fun j=>[x0,x1,x2,x3,x4,x5].getD j default) 6=[x0,x2,x3,x4,x5] by kernel_rfl]
 exact F307.cd (live:=fun _=>[]) (call:=cm) (fun h=>cE h) (by kernel_rfl) (by rw[Ra];exact⟨rfl,cH [x0,x2,x3,x4,x5] (List.cons_ne_nil _ _)⟩)
theorem ZK (x0 x1 x2 x3 x4 x5:ak):bX Tryz.prog 307 [.slice 0 0 6 6 false 7,.int .i64 2,.int .i64 3] (eS 7 fun m f=>bp m f (bh (fun j=>decide (j≠2)) (fun j=>[x0,x1,x2,x3,x4,x5].getD j default) 6)) (aU (.cells 42 [] (ah (aR [x0,x1,x2,x3,x4,x5]) .leaf 0) false false)):=by
 rw[show bh (fun j=>decide (j≠2)) (fun j=>[x0,x1,x2,x3,x4,x5].getD j default) 6=[x0,x1,x3,x4,x5] by kernel_rfl]
 exact F307.cd (live:=fun _=>[]) (call:=cm) (fun h=>cE h) (by kernel_rfl) (by rw[Rb];exact⟨rfl,cH [x0,x1,x3,x4,x5] (List.cons_ne_nil _ _)⟩)
theorem ZL (x0 x1 x2 x3 x4 x5:ak):bX Tryz.prog 307 [.slice 0 0 6 6 false 7,.int .i64 3,.int .i64 4] (eS 7 fun m f=>bp m f (bh (fun j=>decide (j≠3)) (fun j=>[x0,x1,x2,x3,x4,x5].getD j default) 6)) (aU (.cells 42 [] (ah (aR [x0,x1,x2,x3,x4,x5]) .leaf 0) false false)):=by
 rw[show bh (fun j=>decide (j≠3)) (fun j=>[x0,x1,x2,x3,x4,x5].getD j default) 6=[x0,x1,x2,x4,x5] by kernel_rfl]
 exact F307.cd (live:=fun _=>[]) (call:=cm) (fun h=>cE h) (by kernel_rfl) (by rw[Rc];exact⟨rfl,cH [x0,x1,x2,x4,x5] (List.cons_ne_nil _ _)⟩)
theorem ZM (x0 x1 x2 x3 x4 x5:ak):bX Tryz.prog 307 [.slice 0 0 6 6 false 7,.int .i64 4,.int .i64 5] (eS 7 fun m f=>bp m f (bh (fun j=>decide (j≠4)) (fun j=>[x0,x1,x2,x3,x4,x5].getD j default) 6)) (aU (.cells 42 [] (ah (aR [x0,x1,x2,x3,x4,x5]) .leaf 0) false false)):=by
 rw[show bh (fun j=>decide (j≠4)) (fun j=>[x0,x1,x2,x3,x4,x5].getD j default) 6=[x0,x1,x2,x3,x5] by kernel_rfl]
 exact F307.cd (live:=fun _=>[]) (call:=cm) (fun h=>cE h) (by kernel_rfl) (by rw[Re];exact⟨rfl,cH [x0,x1,x2,x3,x5] (List.cons_ne_nil _ _)⟩)
theorem ZN (x0 x1 x2 x3 x4 x5:ak):bX Tryz.prog 307 [.slice 0 0 6 6 false 7,.int .i64 5,.int .i64 6] (eS 7 fun m f=>bp m f (bh (fun j=>decide (j≠5)) (fun j=>[x0,x1,x2,x3,x4,x5].getD j default) 6)) (aU (.cells 42 [] (ah (aR [x0,x1,x2,x3,x4,x5]) .leaf 0) false false)):=by
 rw[show bh (fun j=>decide (j≠5)) (fun j=>[x0,x1,x2,x3,x4,x5].getD j default) 6=[x0,x1,x2,x3,x4] by kernel_rfl]
 exact F307.cd (live:=fun _=>[]) (call:=cm) (fun h=>cE h) (by kernel_rfl) (by rw[Rf];exact⟨rfl,cH [x0,x1,x2,x3,x4] (List.cons_ne_nil _ _)⟩)
theorem ZO (x0 x1 x2 x3 x4 x5 x6:ak):bX Tryz.prog 307 [.slice 0 0 7 7 false 7,.int .i64 1,.int .i64 2] (eS 7 fun m f=>bp m f (bh (fun j=>decide (j≠1)) (fun j=>[x0,x1,x2,x3,x4,x5,x6].getD j default) 7)) (aU (.cells 49 [] (ah (aR [x0,x1,x2,x3,x4,x5,x6]) .leaf 0) false false)):=by
 rw[show bh (fun j=>decide (j≠1)) (fun j=>[x0,x1,x2,x3,x4,x5,x6].getD j default) 7=[x0,x2,x3,x4,x5,x6] by kernel_rfl]
 exact F307.cd (live:=fun _=>[]) (call:=cm) (fun h=>cE h) (by kernel_rfl) (by rw[Rh];exact⟨rfl,cH [x0,x2,x3,x4,x5,x6] (List.cons_ne_nil _ _)⟩)
theorem ZP (x0 x1 x2 x3 x4 x5 x6:ak):bX Tryz.prog 307 [.slice 0 0 7 7 false 7,.int .i64 2,.int .i64 3] (eS 7 fun m f=>bp m f (bh (fun j=>decide (j≠2)) (fun j=>[x0,x1,x2,x3,x4,x5,x6].getD j default) 7)) (aU (.cells 49 [] (ah (aR [x0,x1,x2,x3,x4,x5,x6]) .leaf 0) false false)):=by
 rw[show bh (fun j=>decide (j≠2)) (fun j=>[x0,x1,x2,x3,x4,x5,x6].getD j default) 7=[x0,x1,x3,x4,x5,x6] by kernel_rfl]
 exact F307.cd (live:=fun _=>[]) (call:=cm) (fun h=>cE h) (by kernel_rfl) (by rw[Ri];exact⟨rfl,cH [x0,x1,x3,x4,x5,x6] (List.cons_ne_nil _ _)⟩)
theorem ZQ (x0 x1 x2 x3 x4 x5 x6:ak):bX Tryz.prog 307 [.slice 0 0 7 7 false 7,.int .i64 3,.int .i64 4] (eS 7 fun m f=>bp m f (bh (fun j=>decide (j≠3)) (fun j=>[x0,x1,x2,x3,x4,x5,x6].getD j default) 7)) (aU (.cells 49 [] (ah (aR [x0,x1,x2,x3,x4,x5,x6]) .leaf 0) false false)):=by
 rw[show bh (fun j=>decide (j≠3)) (fun j=>[x0,x1,x2,x3,x4,x5,x6].getD j default) 7=[x0,x1,x2,x4,x5,x6] by kernel_rfl]
 exact F307.cd (live:=fun _=>[]) (call:=cm) (fun h=>cE h) (by kernel_rfl) (by rw[Rj];exact⟨rfl,cH [x0,x1,x2,x4,x5,x6] (List.cons_ne_nil _ _)⟩)
theorem ZR (x0 x1 x2 x3 x4 x5 x6:ak):bX Tryz.prog 307 [.slice 0 0 7 7 false 7,.int .i64 4,.int .i64 5] (eS 7 fun m f=>bp m f (bh (fun j=>decide (j≠4)) (fun j=>[x0,x1,x2,x3,x4,x5,x6].getD j default) 7)) (aU (.cells 49 [] (ah (aR [x0,x1,x2,x3,x4,x5,x6]) .leaf 0) false false)):=by
 rw[show bh (fun j=>decide (j≠4)) (fun j=>[x0,x1,x2,x3,x4,x5,x6].getD j default) 7=[x0,x1,x2,x3,x5,x6] by kernel_rfl]
 exact F307.cd (live:=fun _=>[]) (call:=cm) (fun h=>cE h) (by kernel_rfl) (by rw[Rk];exact⟨rfl,cH [x0,x1,x2,x3,x5,x6] (List.cons_ne_nil _ _)⟩)
theorem ZS (x0 x1 x2 x3 x4 x5 x6:ak):bX Tryz.prog 307 [.slice 0 0 7 7 false 7,.int .i64 5,.int .i64 6] (eS 7 fun m f=>bp m f (bh (fun j=>decide (j≠5)) (fun j=>[x0,x1,x2,x3,x4,x5,x6].getD j default) 7)) (aU (.cells 49 [] (ah (aR [x0,x1,x2,x3,x4,x5,x6]) .leaf 0) false false)):=by
 rw[show bh (fun j=>decide (j≠5)) (fun j=>[x0,x1,x2,x3,x4,x5,x6].getD j default) 7=[x0,x1,x2,x3,x4,x6] by kernel_rfl]
 exact F307.cd (live:=fun _=>[]) (call:=cm) (fun h=>cE h) (by kernel_rfl) (by rw[Rl];exact⟨rfl,cH [x0,x1,x2,x3,x4,x6] (List.cons_ne_nil _ _)⟩)
theorem ZU (x0 x1 x2 x3 x4 x5 x6:ak):bX Tryz.prog 307 [.slice 0 0 7 7 false 7,.int .i64 6,.int .i64 7] (eS 7 fun m f=>bp m f (bh (fun j=>decide (j≠6)) (fun j=>[x0,x1,x2,x3,x4,x5,x6].getD j default) 7)) (aU (.cells 49 [] (ah (aR [x0,x1,x2,x3,x4,x5,x6]) .leaf 0) false false)):=by
 rw[show bh (fun j=>decide (j≠6)) (fun j=>[x0,x1,x2,x3,x4,x5,x6].getD j default) 7=[x0,x1,x2,x3,x4,x5] by kernel_rfl]
 exact F307.cd (live:=fun _=>[]) (call:=cm) (fun h=>cE h) (by kernel_rfl) (by rw[Rm];exact⟨rfl,cH [x0,x1,x2,x3,x4,x5] (List.cons_ne_nil _ _)⟩)
theorem ZV (x0 x1 x2 x3 x4 x5 x6 x7:ak):bX Tryz.prog 307 [.slice 0 0 8 8 false 7,.int .i64 1,.int .i64 2] (eS 7 fun m f=>bp m f (bh (fun j=>decide (j≠1)) (fun j=>[x0,x1,x2,x3,x4,x5,x6,x7].getD j default) 8)) (aU (.cells 56 [] (ah (aR [x0,x1,x2,x3,x4,x5,x6,x7]) .leaf 0) false false)):=by
 rw[show bh (fun j=>decide (j≠1)) (fun j=>[x0,x1,x2,x3,x4,x5,x6,x7].getD j default) 8=[x0,x2,x3,x4,x5,x6,x7] by kernel_rfl]
 exact F307.cd (live:=fun _=>[]) (call:=cm) (fun h=>cE h) (by kernel_rfl) (by rw[Ro];exact⟨rfl,cH [x0,x2,x3,x4,x5,x6,x7] (List.cons_ne_nil _ _)⟩)
theorem ZW (x0 x1 x2 x3 x4 x5 x6 x7:ak):bX Tryz.prog 307 [.slice 0 0 8 8 false 7,.int .i64 2,.int .i64 3] (eS 7 fun m f=>bp m f (bh (fun j=>decide (j≠2)) (fun j=>[x0,x1,x2,x3,x4,x5,x6,x7].getD j default) 8)) (aU (.cells 56 [] (ah (aR [x0,x1,x2,x3,x4,x5,x6,x7]) .leaf 0) false false)):=by
 rw[show bh (fun j=>decide (j≠2)) (fun j=>[x0,x1,x2,x3,x4,x5,x6,x7].getD j default) 8=[x0,x1,x3,x4,x5,x6,x7] by kernel_rfl]
 exact F307.cd (live:=fun _=>[]) (call:=cm) (fun h=>cE h) (by kernel_rfl) (by rw[Rp];exact⟨rfl,cH [x0,x1,x3,x4,x5,x6,x7] (List.cons_ne_nil _ _)⟩)
theorem ZX (x0 x1 x2 x3 x4 x5 x6 x7:ak):bX Tryz.prog 307 [.slice 0 0 8 8 false 7,.int .i64 3,.int .i64 4] (eS 7 fun m f=>bp m f (bh (fun j=>decide (j≠3)) (fun j=>[x0,x1,x2,x3,x4,x5,x6,x7].getD j default) 8)) (aU (.cells 56 [] (ah (aR [x0,x1,x2,x3,x4,x5,x6,x7]) .leaf 0) false false)):=by
 rw[show bh (fun j=>decide (j≠3)) (fun j=>[x0,x1,x2,x3,x4,x5,x6,x7].getD j default) 8=[x0,x1,x2,x4,x5,x6,x7] by kernel_rfl]
 exact F307.cd (live:=fun _=>[]) (call:=cm) (fun h=>cE h) (by kernel_rfl) (by rw[Rq];exact⟨rfl,cH [x0,x1,x2,x4,x5,x6,x7] (List.cons_ne_nil _ _)⟩)
theorem ZY (x0 x1 x2 x3 x4 x5 x6 x7:ak):bX Tryz.prog 307 [.slice 0 0 8 8 false 7,.int .i64 4,.int .i64 5] (eS 7 fun m f=>bp m f (bh (fun j=>decide (j≠4)) (fun j=>[x0,x1,x2,x3,x4,x5,x6,x7].getD j default) 8)) (aU (.cells 56 [] (ah (aR [x0,x1,x2,x3,x4,x5,x6,x7]) .leaf 0) false false)):=by
 rw[show bh (fun j=>decide (j≠4)) (fun j=>[x0,x1,x2,x3,x4,x5,x6,x7].getD j default) 8=[x0,x1,x2,x3,x5,x6,x7] by kernel_rfl]
 exact F307.cd (live:=fun _=>[]) (call:=cm) (fun h=>cE h) (by kernel_rfl) (by rw[Rr];exact⟨rfl,cH [x0,x1,x2,x3,x5,x6,x7] (List.cons_ne_nil _ _)⟩)
theorem ZZ (x0 x1 x2 x3 x4 x5 x6 x7:ak):bX Tryz.prog 307 [.slice 0 0 8 8 false 7,.int .i64 5,.int .i64 6] (eS 7 fun m f=>bp m f (bh (fun j=>decide (j≠5)) (fun j=>[x0,x1,x2,x3,x4,x5,x6,x7].getD j default) 8)) (aU (.cells 56 [] (ah (aR [x0,x1,x2,x3,x4,x5,x6,x7]) .leaf 0) false false)):=by
 rw[show bh (fun j=>decide (j≠5)) (fun j=>[x0,x1,x2,x3,x4,x5,x6,x7].getD j default) 8=[x0,x1,x2,x3,x4,x6,x7] by kernel_rfl]
 exact F307.cd (live:=fun _=>[]) (call:=cm) (fun h=>cE h) (by kernel_rfl) (by rw[Rs];exact⟨rfl,cH [x0,x1,x2,x3,x4,x6,x7] (List.cons_ne_nil _ _)⟩)
theorem Z0 (x0 x1 x2 x3 x4 x5 x6 x7:ak):bX Tryz.prog 307 [.slice 0 0 8 8 false 7,.int .i64 6,.int .i64 7] (eS 7 fun m f=>bp m f (bh (fun j=>decide (j≠6)) (fun j=>[x0,x1,x2,x3,x4,x5,x6,x7].getD j default) 8)) (aU (.cells 56 [] (ah (aR [x0,x1,x2,x3,x4,x5,x6,x7]) .leaf 0) false false)):=by
 rw[show bh (fun j=>decide (j≠6)) (fun j=>[x0,x1,x2,x3,x4,x5,x6,x7].getD j default) 8=[x0,x1,x2,x3,x4,x5,x7] by kernel_rfl]
 exact F307.cd (live:=fun _=>[]) (call:=cm) (fun h=>cE h) (by kernel_rfl) (by rw[Rt];exact⟨rfl,cH [x0,x1,x2,x3,x4,x5,x7] (List.cons_ne_nil _ _)⟩)
theorem Z1 (x0 x1 x2 x3 x4 x5 x6 x7:ak):bX Tryz.prog 307 [.slice 0 0 8 8 false 7,.int .i64 7,.int .i64 8] (eS 7 fun m f=>bp m f (bh (fun j=>decide (j≠7)) (fun j=>[x0,x1,x2,x3,x4,x5,x6,x7].getD j default) 8)) (aU (.cells 56 [] (ah (aR [x0,x1,x2,x3,x4,x5,x6,x7]) .leaf 0) false false)):=by
 rw[show bh (fun j=>decide (j≠7)) (fun j=>[x0,x1,x2,x3,x4,x5,x6,x7].getD j default) 8=[x0,x1,x2,x3,x4,x5,x6] by kernel_rfl]
 exact F307.cd (live:=fun _=>[]) (call:=cm) (fun h=>cE h) (by kernel_rfl) (by rw[Ru];exact⟨rfl,cH [x0,x1,x2,x3,x4,x5,x6] (List.cons_ne_nil _ _)⟩)
theorem Ry:∀(l:List ak) (i:Nat),0<i→i<l.length→l.length≤8→bX Tryz.prog 307 [.slice 0 0 l.length l.length false 7,.int .i64 (i:Int),.int .i64 ((i:Int)+1)] (eS 7 fun m f=>bp m f (bh (fun j=>decide (j≠i)) (fun j=>l.getD j default) l.length)) (aU (.cells (l.length*7) [] (ah (aR l) .leaf 0) false false))
 | [],_,_,h,_=>absurd h (Nat.not_lt_zero _)
 | [_],i,h0,h,_=>absurd (show i<1 from h) (by omega)
 | [x0,x1],i,h0,h,_=>by
  replace h:i<2:=h
  rcases(show i=1 by omega) with rfl
  ·exact Zy x0 x1
 | [x0,x1,x2],i,h0,h,_=>by
  replace h:i<3:=h
  rcases(show i=1∨i=2 by omega) with rfl | rfl
  ·exact Zz x0 x1 x2
  ·exact ZA x0 x1 x2
 | [x0,x1,x2,x3],i,h0,h,_=>by
  replace h:i<4:=h
  rcases(show i=1∨i=2∨i=3 by omega) with rfl | rfl | rfl
  ·exact ZC x0 x1 x2 x3
  ·exact ZD x0 x1 x2 x3
  ·exact ZE x0 x1 x2 x3
 | [x0,x1,x2,x3,x4],i,h0,h,_=>by
  replace h:i<5:=h
  rcases(show i=1∨i=2∨i=3∨i=4 by omega) with rfl | rfl | rfl | rfl
  ·exact ZF x0 x1 x2 x3 x4
  ·exact ZG x0 x1 x2 x3 x4
  ·exact ZH x0 x1 x2 x3 x4
  ·exact ZI x0 x1 x2 x3 x4
 | [x0,x1,x2,x3,x4,x5],i,h0,h,_=>by
  replace h:i<6:=h
  rcases(show i=1∨i=2∨i=3∨i=4∨i=5 by omega) with rfl | rfl | rfl | rfl | rfl
  ·exact ZJ x0 x1 x2 x3 x4 x5
  ·exact ZK x0 x1 x2 x3 x4 x5
  ·exact ZL x0 x1 x2 x3 x4 x5
  ·exact ZM x0 x1 x2 x3 x4 x5
  ·exact ZN x0 x1 x2 x3 x4 x5
 | [x0,x1,x2,x3,x4,x5,x6],i,h0,h,_=>by
  replace h:i<7:=h
  rcases(show i=1∨i=2∨i=3∨i=4∨i=5∨i=6 by omega) with rfl | rfl | rfl | rfl | rfl | rfl
  ·exact ZO x0 x1 x2 x3 x4 x5 x6
  ·exact ZP x0 x1 x2 x3 x4 x5 x6
  ·exact ZQ x0 x1 x2 x3 x4 x5 x6
  ·exact ZR x0 x1 x2 x3 x4 x5 x6
  ·exact ZS x0 x1 x2 x3 x4 x5 x6
  ·exact ZU x0 x1 x2 x3 x4 x5 x6
 | [x0,x1,x2,x3,x4,x5,x6,x7],i,h0,h,_=>by
  replace h:i<8:=h
  rcases(show i=1∨i=2∨i=3∨i=4∨i=5∨i=6∨i=7 by omega) with rfl | rfl | rfl | rfl | rfl | rfl | rfl
  ·exact ZV x0 x1 x2 x3 x4 x5 x6 x7
  ·exact ZW x0 x1 x2 x3 x4 x5 x6 x7
  ·exact ZX x0 x1 x2 x3 x4 x5 x6 x7
  ·exact ZY x0 x1 x2 x3 x4 x5 x6 x7
  ·exact ZZ x0 x1 x2 x3 x4 x5 x6 x7
  ·exact Z0 x0 x1 x2 x3 x4 x5 x6 x7
  ·exact Z1 x0 x1 x2 x3 x4 x5 x6 x7
 | _::_::_::_::_::_::_::_::_::r,_,_,_,h=>absurd (show r.length+9≤8 from h) (by omega)
theorem VJ (h:Rv vs σ k):ag Tryz.prog 307 vs k σ:=by
 unfold Rv at h
 split at h
 ·rename_i b n x y
  obtain⟨l,i,⟨rfl,rfl,rfl⟩,hb,⟨h0,hi,h8⟩,h⟩:=h
  exact ag.ag6 (es:=aR l) hb (fun j hj=>rfl) (fun j hj=>ak.clean _) (by rw[xS,my ak.enc l]) (aI (Go.Ev.Clean.int _ _) (aI (Go.Ev.Clean.int _ _) cM)) (Ry l i h0 hi h8) h
 ·exact h.elim
theorem JE:∀ {f:FuncId} {vs:List V} {σ:St} {k:ai},LS f vs σ k→ag Tryz.prog f vs k σ:=fun h=>aD VJ cE h
theorem VK (h:Zg vs σ k):ag Tryz.prog 304 vs k σ:=by
 obtain⟨e,rfl,cT,h⟩:=h
 refine ag.cb (ar e.aE aG) (.int _ _) (F304.flat (live:=Jp) (call:=LS) (n₀:=0) (σ:=Go.Ev.start) (fun h=>JE h) rfl (by kernel_rfl) ?_) h
 rw[ahd]
 exact⟨e,rfl,cT,fun h=>by rw[h],fun _=>rfl⟩
theorem JF:∀ {f:FuncId} {vs:List V} {σ:St} {k:ai},Ff f vs σ k→ag Tryz.prog f vs k σ:=fun h=>aD VK JE h
def ahs (l:List Int):Nat→List SV→Prop
 | 0,ss=>∃i:Nat,i≤l.length∧(∀j,j<i→l.getD j default=0)∧ss=[.val (.int .i64 (0:Int)),.val (af (V.int .i64) 1 l),.val (.int .i64 ((l.length:Nat):Int)),.val (.int .i64 (i:Int))]
 | _,_=>False
omit [aL] in
theorem VL (l:List Int):Go.Ev.Clean (af (V.int .i64) 1 l):=fT fun x _=>aI (Go.Ev.Clean.int _ _) cM
theorem VM (h:Zh vs σ k):ag Tryz.prog 312 vs k σ:=by
 obtain⟨l,hf,hn,h⟩:=h
 refine ag.cb hf (.int _ _) (F312.bV (live:=A3) (call:=Ff) (n₀:=0) (σ:=Go.Ev.start) (fun h=>JF h) rfl 1 (by kernel_rfl) Nat.lt_wfRel.wf (fun _ ss=>l.length-bF ss) (ahs l) ?_ ?_ ?_) h
 ·intro k ss hI
  cases k with
  | zero=>obtain⟨i,_,_,rfl⟩:=hI;exact ay (ax (VL l) (ay (ay bg)))
  | succ k=>exact hI.elim
 ·rw[ahe]
  exact⟨0,by omega,fun j hj=>absurd hj (Nat.not_lt_zero j),rfl⟩
 ·intro k hk ss hI
  obtain rfl:k=0:=by omega
  obtain⟨i,hi,hj,rfl⟩:=hI
  rw[ahf]
  refine⟨rfl,aq (fun h1=>⟨⟨by omega,by omega⟩,rfl,aq (fun h2=>?_) fun h2=>?_⟩) fun h1=>?_⟩
  ·rw[cA] at h2⊢
   show _=V.int .i64 (dy _ _)
   rw[jg (fun i=>l.getD i default) l.length i (by omega) h2 hj]
  ·rw[cA] at h2
   rw[i64_in ((i:Int)+1) (by omega)]
   refine⟨⟨i+1,by omega,fun j gK=>?_,rfl⟩,?_⟩
   ·by_cases e:j=i
    ·subst e;exact Decidable.not_not.1 h2
    ·exact hj j (by omega)
   ·show l.length-((i:Int)+1).toNat<l.length-(i:Int).toNat
    omega
  ·obtain rfl:i=l.length:=by omega
   show _=V.int .i64 (dy _ _)
   rw[(cu (fun i=>l.getD i default) l.length).2 hj]
theorem JG:∀ {f:FuncId} {vs:List V} {σ:St} {k:ai},Fg f vs σ k→ag Tryz.prog f vs k σ:=fun h=>aD VM JF h
def aht (l m:List ak):Nat→List SV→Prop
 | 0,ss=>∃i:Nat,(l.length=m.length∧∀j,j<i→l.getD j default=m.getD j default)∧i≤l.length∧ss=[.val (af ak.enc 7 l),.val (af ak.enc 7 m),.val (.int .i64 ((l.length:Nat):Int)),.val (.int .i64 (i:Int))]
 | _,_=>False
omit [Env] [aL] in
theorem ak.wI {x y:ak} (h0:x.f0=y.f0) (h1:x.f1=y.f1) (h2:x.f2=y.f2) (h3:x.f3=y.f3):x=y:=by
 cases x;cases y;simp only at h0 h1 h2 h3;subst h0;subst h1;subst h2;subst h3;rfl
theorem VN (h:Zi vs σ k):ag Tryz.prog 154 vs k σ:=by
 obtain⟨l,m,rfl,hs,h⟩:=h
 refine ag.aU (A:=fE (l=m)) (ar (er l) (ar (er m) aG)) fE.ga (F154.bV (live:=A4) (call:=Fg) (n₀:=0) (σ:=Go.Ev.start) (fun h=>JG h) rfl 1 (by kernel_rfl) Nat.lt_wfRel.wf (fun _ ss=>l.length-bF ss) (aht l m) ?_ ?_ ?_) fun v ⟨b,hb,e⟩=>by subst e;exact h b hb
 ·intro k ss hI
  cases k with
  | zero=>obtain⟨i,_,_,rfl⟩:=hI;exact ax (er l) (ax (er m) (ay (ay bg)))
  | succ k=>exact hI.elim
 ·rw[ahg]
  refine⟨rfl,aq (fun h1=>iD fun e=>h1 (by rw[e])) fun h1=>⟨0,⟨by omega,fun j hj=>absurd hj (Nat.not_lt_zero j)⟩,by omega,rfl⟩⟩
 ·intro k hk ss hI
  obtain rfl:k=0:=by omega
  obtain⟨i,⟨hl,cN⟩,hi,rfl⟩:=hI
  rw[ahh]
  refine⟨rfl,aq (fun h1=>⟨⟨by omega,by omega⟩,⟨by omega,by omega⟩,?_⟩) fun h1=>zp (te hl fun j hj=>cN j (by omega))⟩
  rw[cA]
  have bad:∀ {p:Prop},(l.getD i default=m.getD i default→p)→¬p→fE (l=m) (.bool false):=fun h1 h2=>iD fun e=>h2 (h1 (by rw[e]))
  refine aq (fun g0=>⟨rfl,aq (fun g1=>aa.mk (fun g2=>⟨rfl,aq (fun g3=>⟨rfl,aq (fun g4=>⟨rfl,aq (fun g5=>aq (fun g6=>?_) fun g=>bad (fun e=>by rw[e]) g) fun g=>bad (fun e=>by rw[e]) g⟩) fun g=>bad (fun e=>by rw[e]) g⟩) fun g=>bad (fun e=>by rw[e]) g⟩) fun g=>bad (p:=(l.getD i default).f2=(m.getD i default).f2) (fun e=>by rw[e]) (by simpa using g)) fun g=>bad (fun e=>by rw[e]) g⟩) fun g=>bad (fun e=>by rw[e]) g
  rw[i64_in ((i:Int)+1) (by omega)]
  refine⟨⟨i+1,⟨hl,fun j hj=>?_⟩,by omega,rfl⟩,?_⟩
  ·by_cases ej:j=i
   ·subst ej;exact ak.wI g0 g1 (by simpa using g2) (aC.wI g3 g4 g5 g6)
   ·exact cN j (by omega)
  ·show l.length-((i:Int)+1).toNat<l.length-(i:Int).toNat
   omega
theorem JH:∀ {f:FuncId} {vs:List V} {σ:St} {k:ai},Fh f vs σ k→ag Tryz.prog f vs k σ:=fun h=>aD VN JG h
omit [aL] in
theorem dF (l:List (List UInt8)):Go.Ev.Clean (af V.str 1 l):=fT fun x _=>aI (Go.Ev.Clean.str _) cM
theorem Z2 (h:W33 vs σ k):ag Tryz.prog 33 vs k σ:=by
 obtain⟨l,m,rfl,hs,h⟩:=h
 refine ag.aU (A:=fE (l=m)) (ar (dF l) (ar (dF m) aG)) fE.ga (F33.bV (live:=Fi) (call:=Fh) (n₀:=0) (σ:=Go.Ev.start) (fun h=>JH h) rfl 1 (by kernel_rfl) Nat.lt_wfRel.wf (fun _ ss=>l.length-bF ss) (Y2 V.str 1 l m) ?_ ?_ ?_) fun v ⟨b,hb,e⟩=>by subst e;exact h b hb
 ·intro k ss hI
  cases k with
  | zero=>obtain⟨i,_,_,rfl⟩:=hI;exact ax (dF l) (ax (dF m) (ay bg))
  | succ k=>exact hI.elim
 ·rw[e33]
  refine⟨rfl,aq (fun h1=>iD fun e=>h1 (by rw[e])) fun h1=>⟨0,⟨by omega,fun j hj=>absurd hj (Nat.not_lt_zero j)⟩,by omega,rfl⟩⟩
 ·intro k hk ss hI
  obtain rfl:k=0:=by omega
  obtain⟨i,⟨hl,cN⟩,hi,rfl⟩:=hI
  rw[r33]
  refine⟨rfl,aq (fun h1=>⟨⟨by omega,by omega⟩,⟨by omega,by omega⟩,aq (fun h2=>?_) fun h2=>?_⟩) fun h1=>zp (te hl fun j hj=>cN j (by omega))⟩
  ·exact iD fun e=>h2 (by rw[e])
  ·rw[cA] at h2
   rw[i64_in ((i:Int)+1) (by omega)]
   refine⟨⟨i+1,⟨hl,fun j hj=>?_⟩,by omega,rfl⟩,?_⟩
   ·by_cases ej:j=i
    ·subst ej;exact Decidable.not_not.1 h2
    ·exact cN j (by omega)
   ·show l.length-((i:Int)+1).toNat<l.length-(i:Int).toNat
    omega
theorem JI:∀ {f:FuncId} {vs:List V} {σ:St} {k:ai},LU f vs σ k→ag Tryz.prog f vs k σ:=fun h=>aD Z2 JH h
theorem VO (h:Zj vs σ k):ag Tryz.prog 301 vs k σ:=by
 obtain⟨t,e,hf,h1,h2⟩:=h
 refine ag.lX hf (F301.cd (live:=Jq) (call:=LU) (fun h=>JI h) (by kernel_rfl) ?_)
 rw[ahi]
 refine⟨rfl,aq (fun h3=>aK.gf (.tuple (.cons .aj (.cons (.int _ _) .nil))) (h2 h3)) fun h3=>aK.pair (b:=1) (n:=1) (esz:=3) (g:=fun i=>ae.enc ([t].getD i default)) (.slice (p:=true) (by rfl) (.inl ⟨rfl,by omega⟩) (fun _ _=>rfl) fun i hi=>?_) (.int _ _) (h1 (Decidable.not_not.1 h3))⟩
 obtain rfl:=Nat.lt_one_iff.1 hi
 exact⟨_,by rfl,fO (ae.clean t)⟩
theorem JJ:∀ {f:FuncId} {vs:List V} {σ:St} {k:ai},LV f vs σ k→ag Tryz.prog f vs k σ:=fun h=>aD VO JI h
end
end Go.Proofs.YtbajncpfmemdgaaGreatDoor
end
section
namespace Go.Proofs.YtbajncpfmemdgaaGreatDoor
open Go Go.Ev Go.IntWalk
section
variable [Env]
theorem Fj {τ:St}:ei τ .aj (af V.str 1 []):=.jT (.empty _ _)
theorem n3 {τ:St} {b m:Nat} {ex:Bool} {s:List UInt8} (h:τ.cells b 0 (1*1)=some [.str s]):ei τ (.slice b 0 1 m ex 1) (af V.str 1 [s]):=
 .jT (.slice (es:=[.str s]) h (.cons (.str _) .nil) (fun v hv=>by rw[List.mem_singleton.1 hv];rfl) rfl)
theorem Ov {τ:St} {b m:Nat} {ex:Bool} {s t:List UInt8} (h:τ.cells b 0 (2*1)=some [.str s,.str t]):ei τ (.slice b 0 2 m ex 1) (af V.str 1 [s,t]):=
 .jT (.slice (es:=[.str s,.str t]) h (.cons (.str _) (.cons (.str _) .nil)) (fun v hv=>by
  rcases List.mem_cons.1 hv with rfl | hv
  ·rfl
  ·rw[List.mem_singleton.1 hv];rfl) rfl)
variable [aL] {vs:List V} {σ:St} {k:ai}
theorem VP (h:Zk vs σ k):ag Tryz.prog 299 vs k σ:=by
 obtain⟨c,rfl,h⟩:=h
 refine ag.aV (ar c.aE aG) (F299.cd (live:=Jr) (call:=LV) (fun h=>JJ h) (by kernel_rfl) ?_)
 rw[ahj]
 exact aK.gf Fj h
theorem JK:∀ {f:FuncId} {vs:List V} {σ:St} {k:ai},LW f vs σ k→ag Tryz.prog f vs k σ:=fun h=>aD VP JJ h
theorem VQ (h:Zl vs σ k):ag Tryz.prog 302 vs k σ:=by
 obtain⟨c,rfl,h⟩:=h
 refine ag.aV (ar c.aE aG) (F302.cd (live:=Js) (call:=LW) (fun h=>JK h) (by kernel_rfl) ?_)
 rw[ahk]
 exact aK.gf (n3 (by rfl)) h
theorem JL:∀ {f:FuncId} {vs:List V} {σ:St} {k:ai},LX f vs σ k→ag Tryz.prog f vs k σ:=fun h=>aD VQ JK h
theorem VR (h:Zm vs σ k):ag Tryz.prog 305 vs k σ:=by
 obtain⟨c,rfl,h⟩:=h
 refine ag.aV (ar c.aE aG) (F305.cd (live:=Jt) (call:=LX) (fun h=>JL h) (by kernel_rfl) ?_)
 rw[ahl]
 exact aK.gf (n3 (by rfl)) h
theorem JM:∀ {f:FuncId} {vs:List V} {σ:St} {k:ai},LY f vs σ k→ag Tryz.prog f vs k σ:=fun h=>aD VR JL h
theorem VT (h:Zn vs σ k):ag Tryz.prog 308 vs k σ:=by
 obtain⟨c,rfl,h⟩:=h
 refine ag.aV (ar c.aE aG) (F308.cd (live:=Ju) (call:=LY) (fun h=>JM h) (by kernel_rfl) ?_)
 rw[ahm]
 exact aK.gf (n3 (by rfl)) h
theorem JN:∀ {f:FuncId} {vs:List V} {σ:St} {k:ai},LZ f vs σ k→ag Tryz.prog f vs k σ:=fun h=>aD VT JM h
theorem VU (h:Zo vs σ k):ag Tryz.prog 310 vs k σ:=by
 obtain⟨c,rfl,h⟩:=h
 refine ag.aV (ar c.aE aG) (F310.cd (live:=Jv) (call:=LZ) (fun h=>JN h) (by kernel_rfl) ?_)
 rw[ahn]
 exact aK.gf (n3 (by rfl)) h
theorem Fk:∀ {f:FuncId} {vs:List V} {σ:St} {k:ai},CL f vs σ k→ag Tryz.prog f vs k σ:=fun h=>aD VU JN h
theorem VV (h:Zp vs σ k):ag Tryz.prog 313 vs k σ:=by
 obtain⟨c,rfl,h⟩:=h
 refine ag.aV (ar c.aE aG) (F313.cd (live:=Jw) (call:=CL) (fun h=>Fk h) (by kernel_rfl) ?_)
 rw[aho]
 exact aK.gf (Ov (by rfl)) h
theorem Fl:∀ {f:FuncId} {vs:List V} {σ:St} {k:ai},CM f vs σ k→ag Tryz.prog f vs k σ:=fun h=>aD VV Fk h
theorem Z3 (h:W71 vs σ k):ag Tryz.prog 71 vs k σ:=by
 obtain⟨c,rfl,h1,h2,h3,h4,h5,h6,h7⟩:=h
 refine ag.aV (ar c.aE aG) (F71.cd (live:=On) (call:=CM) (fun h=>Fl h) (by kernel_rfl) ?_)
 rw[e71]
 refine⟨rfl,aq (fun h=>aK.gf (.iface (.clean c.aE)) (h1 h)) fun g1=>⟨rfl,aq (fun h=>aK.gf (.iface (.clean c.aE)) (h2 h)) fun g2=>⟨rfl,aq (fun h=>aK.gf (.iface (.clean c.aE)) (h3 h)) fun g3=>
  ⟨rfl,aq (fun h=>aK.gf (.iface (.clean c.aE)) (h4 h)) fun g4=>⟨rfl,aq (fun h=>aK.gf (.iface (.clean c.aE)) (h5 h)) fun g5=>⟨rfl,aq (fun h=>aK.gf (.iface (.clean c.aE)) (h6 h)) fun g6=>aK.gf .bd (h7 (by omega))⟩⟩⟩⟩⟩⟩
theorem Fm:∀ {f:FuncId} {vs:List V} {σ:St} {k:ai},oX f vs σ k→ag Tryz.prog f vs k σ:=fun h=>aD Z3 Fl h
set_option maxRecDepth 100000 in
theorem Z4 (h:Zq vs σ k):ag Tryz.prog 72 vs k σ:=by
 unfold Zq at h
 split at h
 ·rename_i t v
  obtain⟨c,hv,ht,h⟩:=h
  obtain rfl:v=an.enc c:=by cases hv;rfl
  refine ag.cb (ar (Go.Ev.Clean.iface c.aE) aG) (.bool _) (F72.flat (live:=pK) (call:=oX) (n₀:=0) (σ:=Go.Ev.start) (fun h=>Fm h) rfl (by kernel_rfl) ?_) h
  rcases ht with rfl | rfl | rfl | rfl | rfl | rfl
  ·rw[ach];rfl
  ·rw[aci];rfl
  ·rw[acj];rfl
  ·rw[ack];rfl
  ·rw[acm];rfl
  ·rw[acn];rfl
 ·exact h.elim
theorem Fo:∀ {f:FuncId} {vs:List V} {σ:St} {k:ai},CN f vs σ k→ag Tryz.prog f vs k σ:=fun h=>aD Z4 Fm h
omit [Env] [aL] in
theorem Ow {c:an} (h:c.f0=1):aN c=[]:=by
 have h6:¬c.f0=6:=by omega
 have h7:¬(2≤c.f0∧c.f0≤5):=by omega
 unfold aN;rw[if_neg h6,if_neg h7]
omit [Env] [aL] in
theorem Z5 {c:an} (h:c.f0<1∨6<c.f0):aN c=[]:=by
 have h6:¬c.f0=6:=by omega
 have h7:¬(2≤c.f0∧c.f0≤5):=by omega
 unfold aN;rw[if_neg h6,if_neg h7]
omit [Env] [aL] in
theorem k5 {c:an} (h:2≤c.f0∧c.f0≤5):aN c=[c.f1]:=by
 have h6:¬c.f0=6:=by omega
 unfold aN;rw[if_neg h6,if_pos h]
omit [Env] [aL] in
theorem pL {c:an} (h:c.f0=6):aN c=[c.f1,c.f2]:=by unfold aN;rw[if_pos h]
omit [aL] in
theorem wN {c:an} {l:List (List UInt8)} {τ:St} (h:k (af V.str 1 (aN c)) σ) (hl:aN c=l):aK σ k (af V.str 1 l) τ:=aK.gf (.clean (dF l)) (by rw[←hl];exact h)
theorem Z6 (h:W34 vs σ k):ag Tryz.prog 34 vs k σ:=by
 obtain⟨c,rfl,h⟩:=h
 refine ag.aV (ar c.aE aG) (F34.cd (live:=Oo) (call:=CN) (fun h=>Fo h) (by kernel_rfl) ?_)
 rw[e34]
 exact⟨c,rfl,fun g=>⟨c,rfl,wN h (Ow g)⟩,fun g=>⟨c,rfl,wN h (k5 (by omega))⟩,fun g=>⟨c,rfl,wN h (k5 (by omega))⟩,fun g=>⟨c,rfl,wN h (k5 (by omega))⟩,fun g=>⟨c,rfl,wN h (k5 (by omega))⟩,fun g=>⟨c,rfl,wN h (pL g)⟩,fun g=>aK.gf Fj (by rw[←Z5 g];exact h)⟩
theorem Fp:∀ {f:FuncId} {vs:List V} {σ:St} {k:ai},CO f vs σ k→ag Tryz.prog f vs k σ:=fun h=>aD Z6 Fo h
theorem Z7 (h:W35 vs σ k):ag Tryz.prog 35 vs k σ:=by
 obtain⟨c,rfl,h⟩:=h
 refine ag.aV (ar c.aE aG) (F35.cd (live:=Oq) (call:=CO) (fun h=>Fp h) (by kernel_rfl) ?_)
 rw[TM]
 have one:2≤c.f0∧c.f0≤5→k (af V.str 1 [c.f1]) σ:=fun g=>by rw[←k5 g];exact h
 refine⟨rfl,aq (fun g=>aK.gf (n3 (by rfl)) (one (by omega))) fun g1=>⟨rfl,aq (fun g=>aK.gf (n3 (by rfl)) (one (by omega))) fun g2=>⟨rfl,aq (fun g=>aK.gf (n3 (by rfl)) (one (by omega))) fun g3=>⟨rfl,aq (fun g=>aK.gf (n3 (by rfl)) (one (by omega))) fun g4=>
  ⟨rfl,aq (fun g=>aK.gf (Ov (by rfl)) (by rw[←pL g];exact h)) fun g5=>aK.gf Fj ?_⟩⟩⟩⟩⟩
 have:aN c=[]:=by unfold aN;rw[if_neg g5,if_neg (by omega)]
 rw[←this];exact h
theorem Fq:∀ {f:FuncId} {vs:List V} {σ:St} {k:ai},CP f vs σ k→ag Tryz.prog f vs k σ:=fun h=>aD Z7 Fp h
end
end Go.Proofs.YtbajncpfmemdgaaGreatDoor
end
section
namespace Go.Proofs.YtbajncpfmemdgaaGreatDoor
open Go Go.Ev
def JO:Nat→List Nat:=(fun _=>[])
theorem ahu [Env] (A:Nat→List SV→Prop) (Q:V→St→Prop) (c:an) (l:List ae):WE Tryz.prog 300 Tryz.f300 CP 0 JO A Q [an.enc c,af ae.enc 3 l] Go.Ev.start=
  ((∃Rz:ae,[.agg (ae.cells c.f9)]=[ae.enc Rz]∧eX Rz∧aa (V.beq (.agg (ae.cells c.f9)) (.agg (ae.cells c.f9))&&true) ((∃(Z8:ae) (AQ:Int),bA ⟨(St.new Go.Ev.start 0 (.cells 18 [] (ah (an.cells c) .leaf 0) true false)).heap,11⟩ [.agg (ae.cells c.f9),.int .i64 (bK Rz)] [ae.enc Z8,.int .i64 AQ]∧(AQ=0→Q (.tuple [.own 11 (1) 3,.int .i64 (0:Int)]) ⟨(St.new Go.Ev.start 11 (.row (1) (fun i=>ae.enc (([Z8]).getD i default)) 3 false)).heap,12⟩)∧(AQ≠0→Q (.tuple [.aj,.int .i64 AQ]) ⟨Go.Ev.start.heap,11⟩))) False)):=by kernel_rfl
def Z9 [Env] (vs:List V) (σ:St) (k:ai):Prop:=
 ∃(c:an) (l:List ae),bA σ vs [an.enc c,af ae.enc 3 l]∧(fx c∧c.f0=1∧c.f7.length≤1000000∧0≤l.length∧l.length≤16∧∀t∈l,dV t∧bK t=0)∧(kE c (l.getD 0 default) (l.getD 1 default)=0→k (.tuple [.own σ.next (kT c (l.getD 0 default)).length 3,.int .i64 0]) ((void σ.next).new σ.next (.row (kT c (l.getD 0 default)).length (fun i=>ae.enc ((kT c (l.getD 0 default)).getD i default)) 3 false)))∧(kE c (l.getD 0 default) (l.getD 1 default)≠0→k (.tuple [.aj,.int .i64 (kE c (l.getD 0 default) (l.getD 1 default))]) (void σ.next))
def zt [Env]:=kS 300 Z9 CP
def A6:Nat→List Nat:=(fun _=>[])
abbrev RA [Env] (A:Nat→List SV→Prop) (Q:V→St→Prop) (c:an) (l:List ae) (p0:Int):Prop:=
 (∃b0:List ak,[af ak.enc 7 ((l.getD 0 default).f2)]=[af ak.enc 7 b0]∧(0<b0.length∧b0.length≤1000)∧aa (V.beq (.agg [.str c.f8.f0,.int .i64 c.f8.f1,.bool false,.int .i64 c.f8.f3.f0,.int .i64 c.f8.f3.f1,.int .u64 c.f8.f3.f2,.str c.f8.f3.f3]) (.agg [.str c.f8.f0,.int .i64 c.f8.f1,.bool false,.int .i64 c.f8.f3.f0,.int .i64 c.f8.f3.f1,.int .u64 c.f8.f3.f2,.str c.f8.f3.f3])&&true) (((b0.length=b0.length∧(b0.length+1)*72≤1099511627776)∧(∃(b1:ae) (b2:Int),bA ⟨(St.kill (St.new (St.new (St.new (St.new Go.Ev.start 0 (.cells 18 [] (ah [.int .i64 c.f0,.str c.f1,.str c.f2,.str c.f3,.str c.f4,.str c.f5,.int .i64 c.f6,af V.str 1 c.f7,.str c.f8.f0,.int .i64 c.f8.f1,.bool false,.int .i64 c.f8.f3.f0,.int .i64 c.f8.f3.f1,.int .u64 c.f8.f3.f2,.str c.f8.f3.f3,.str c.f9.f0,.int .i64 c.f9.f1,af ak.enc 7 c.f9.f2] .leaf 0) true false)) 1 (.cells 3 [] (ah [.str ((l.getD 0 default).f0),.int .i64 ((l.getD 0 default).f1),.own 8 (b0.length+1) 7] .leaf 0) true false)) 7 (.cells 7 [] (ah [.str c.f8.f0,.int .i64 c.f8.f1,.bool false,.int .i64 c.f8.f3.f0,.int .i64 c.f8.f3.f1,.int .u64 c.f8.f3.f2,.str c.f8.f3.f3] .leaf 0) true false)) 8 (.row (b0.length+1) (cw b0.length (fun i=>ak.enc (b0.getD i default)) (fun _=>.agg [.str c.f8.f0,.int .i64 c.f8.f1,.bool false,.int .i64 c.f8.f3.f0,.int .i64 c.f8.f3.f1,.int .u64 c.f8.f3.f2,.str c.f8.f3.f3])) 7 false)) 11).heap,12⟩ [.agg [.str ((l.getD 0 default).f0),.int .i64 ((l.getD 0 default).f1),.own 8 (b0.length+1) 7],.int .i64 (p0:Int)] [ae.enc b1,.int .i64 b2]∧(b2=0→Q (.tuple [.own 12 (1) 3,.int .i64 (0:Int)]) ⟨(St.new Go.Ev.start 12 (.row (1) (fun i=>ae.enc (([b1]).getD i default)) 3 false)).heap,13⟩)∧(b2≠0→Q (.tuple [.aj,.int .i64 b2]) ⟨Go.Ev.start.heap,12⟩)))) False)
abbrev aaa [Env] (A:Nat→List SV→Prop) (Q:V→St→Prop) (c:an) (l:List ae) (p0:ak):Prop:=
 (∃b0:List ak,[af ak.enc 7 ((l.getD 0 default).f2)]=[af ak.enc 7 b0]∧(0<b0.length∧b0.length≤1000)∧aa (V.beq (.agg [.str c.f8.f0,.int .i64 c.f8.f1,.bool false,.int .i64 c.f8.f3.f0,.int .i64 c.f8.f3.f1,.int .u64 c.f8.f3.f2,.str c.f8.f3.f3]) (.agg [.str c.f8.f0,.int .i64 c.f8.f1,.bool false,.int .i64 c.f8.f3.f0,.int .i64 c.f8.f3.f1,.int .u64 c.f8.f3.f2,.str c.f8.f3.f3])&&true) (((b0.length=b0.length∧(b0.length+1)*72≤1099511627776)∧(∃(b1:ae) (b2:Int),bA ⟨(St.kill (St.new (St.new (St.new (St.new Go.Ev.start 0 (.cells 18 [] (ah [.int .i64 c.f0,.str c.f1,.str c.f2,.str c.f3,.str c.f4,.str c.f5,.int .i64 c.f6,af V.str 1 c.f7,.str c.f8.f0,.int .i64 c.f8.f1,.bool false,.int .i64 c.f8.f3.f0,.int .i64 c.f8.f3.f1,.int .u64 c.f8.f3.f2,.str c.f8.f3.f3,.str c.f9.f0,.int .i64 c.f9.f1,af ak.enc 7 c.f9.f2] .leaf 0) true false)) 1 (.cells 3 [] (ah [.str ((l.getD 0 default).f0),.int .i64 ((l.getD 0 default).f1),.own 8 (b0.length+1) 7] .leaf 0) true false)) 7 (.cells 7 [] (ah [.str c.f8.f0,.int .i64 c.f8.f1,.bool false,.int .i64 c.f8.f3.f0,.int .i64 c.f8.f3.f1,.int .u64 c.f8.f3.f2,.str c.f8.f3.f3] .leaf 0) true false)) 8 (.row (b0.length+1) (cw b0.length (fun i=>ak.enc (b0.getD i default)) (fun _=>.agg [.str c.f8.f0,.int .i64 c.f8.f1,.bool false,.int .i64 c.f8.f3.f0,.int .i64 c.f8.f3.f1,.int .u64 c.f8.f3.f2,.str c.f8.f3.f3])) 7 false)) 11).heap,12⟩ [.agg [.str ((l.getD 0 default).f0),.int .i64 ((l.getD 0 default).f1),.own 8 (b0.length+1) 7],.int .i64 (bJ p0)] [ae.enc b1,.int .i64 b2]∧(b2=0→Q (.tuple [.own 12 (1) 3,.int .i64 (0:Int)]) ⟨(St.new Go.Ev.start 12 (.row (1) (fun i=>ae.enc (([b1]).getD i default)) 3 false)).heap,13⟩)∧(b2≠0→Q (.tuple [.aj,.int .i64 b2]) ⟨Go.Ev.start.heap,12⟩)))) False)
abbrev aab [Env] (A:Nat→List SV→Prop) (Q:V→St→Prop) (c:an) (l:List ae) (p0:ak):Prop:=
 (∃b0:List ak,[af ak.enc 7 ((l.getD 0 default).f2)]=[af ak.enc 7 b0]∧(0<b0.length∧b0.length≤1000)∧aa (V.beq (.agg [.str c.f8.f0,.int .i64 c.f8.f1,.bool true,.int .i64 c.f8.f3.f0,.int .i64 c.f8.f3.f1,.int .u64 c.f8.f3.f2,.str c.f8.f3.f3]) (.agg [.str c.f8.f0,.int .i64 c.f8.f1,.bool true,.int .i64 c.f8.f3.f0,.int .i64 c.f8.f3.f1,.int .u64 c.f8.f3.f2,.str c.f8.f3.f3])&&true) (((b0.length=b0.length∧(b0.length+1)*72≤1099511627776)∧(∃(b1:ae) (b2:Int),bA ⟨(St.kill (St.new (St.new (St.new (St.new Go.Ev.start 0 (.cells 18 [] (ah [.int .i64 c.f0,.str c.f1,.str c.f2,.str c.f3,.str c.f4,.str c.f5,.int .i64 c.f6,af V.str 1 c.f7,.str c.f8.f0,.int .i64 c.f8.f1,.bool true,.int .i64 c.f8.f3.f0,.int .i64 c.f8.f3.f1,.int .u64 c.f8.f3.f2,.str c.f8.f3.f3,.str c.f9.f0,.int .i64 c.f9.f1,af ak.enc 7 c.f9.f2] .leaf 0) true false)) 1 (.cells 3 [] (ah [.str ((l.getD 0 default).f0),.int .i64 ((l.getD 0 default).f1),.own 8 (b0.length+1) 7] .leaf 0) true false)) 7 (.cells 7 [] (ah [.str c.f8.f0,.int .i64 c.f8.f1,.bool true,.int .i64 c.f8.f3.f0,.int .i64 c.f8.f3.f1,.int .u64 c.f8.f3.f2,.str c.f8.f3.f3] .leaf 0) true false)) 8 (.row (b0.length+1) (cw b0.length (fun i=>ak.enc (b0.getD i default)) (fun _=>.agg [.str c.f8.f0,.int .i64 c.f8.f1,.bool true,.int .i64 c.f8.f3.f0,.int .i64 c.f8.f3.f1,.int .u64 c.f8.f3.f2,.str c.f8.f3.f3])) 7 false)) 11).heap,12⟩ [.agg [.str ((l.getD 0 default).f0),.int .i64 ((l.getD 0 default).f1),.own 8 (b0.length+1) 7],.int .i64 (bJ p0)] [ae.enc b1,.int .i64 b2]∧(b2=0→Q (.tuple [.own 12 (1) 3,.int .i64 (0:Int)]) ⟨(St.new Go.Ev.start 12 (.row (1) (fun i=>ae.enc (([b1]).getD i default)) 3 false)).heap,13⟩)∧(b2≠0→Q (.tuple [.aj,.int .i64 b2]) ⟨Go.Ev.start.heap,12⟩)))) False)
abbrev aac [Env] (A:Nat→List SV→Prop) (Q:V→St→Prop) (c:an) (l:List ae) (p0:Int):Prop:=
 (∃b0:List ak,[af ak.enc 7 ((l.getD 0 default).f2)]=[af ak.enc 7 b0]∧(0<b0.length∧b0.length≤1000)∧aa (V.beq (.agg [.str c.f8.f0,.int .i64 c.f8.f1,.bool true,.int .i64 c.f8.f3.f0,.int .i64 c.f8.f3.f1,.int .u64 c.f8.f3.f2,.str c.f8.f3.f3]) (.agg [.str c.f8.f0,.int .i64 c.f8.f1,.bool true,.int .i64 c.f8.f3.f0,.int .i64 c.f8.f3.f1,.int .u64 c.f8.f3.f2,.str c.f8.f3.f3])&&true) (((b0.length=b0.length∧(b0.length+1)*72≤1099511627776)∧(∃(b1:ae) (b2:Int),bA ⟨(St.kill (St.new (St.new (St.new (St.new Go.Ev.start 0 (.cells 18 [] (ah [.int .i64 c.f0,.str c.f1,.str c.f2,.str c.f3,.str c.f4,.str c.f5,.int .i64 c.f6,af V.str 1 c.f7,.str c.f8.f0,.int .i64 c.f8.f1,.bool true,.int .i64 c.f8.f3.f0,.int .i64 c.f8.f3.f1,.int .u64 c.f8.f3.f2,.str c.f8.f3.f3,.str c.f9.f0,.int .i64 c.f9.f1,af ak.enc 7 c.f9.f2] .leaf 0) true false)) 1 (.cells 3 [] (ah [.str ((l.getD 0 default).f0),.int .i64 ((l.getD 0 default).f1),.own 8 (b0.length+1) 7] .leaf 0) true false)) 7 (.cells 7 [] (ah [.str c.f8.f0,.int .i64 c.f8.f1,.bool true,.int .i64 c.f8.f3.f0,.int .i64 c.f8.f3.f1,.int .u64 c.f8.f3.f2,.str c.f8.f3.f3] .leaf 0) true false)) 8 (.row (b0.length+1) (cw b0.length (fun i=>ak.enc (b0.getD i default)) (fun _=>.agg [.str c.f8.f0,.int .i64 c.f8.f1,.bool true,.int .i64 c.f8.f3.f0,.int .i64 c.f8.f3.f1,.int .u64 c.f8.f3.f2,.str c.f8.f3.f3])) 7 false)) 11).heap,12⟩ [.agg [.str ((l.getD 0 default).f0),.int .i64 ((l.getD 0 default).f1),.own 8 (b0.length+1) 7],.int .i64 (p0:Int)] [ae.enc b1,.int .i64 b2]∧(b2=0→Q (.tuple [.own 12 (1) 3,.int .i64 (0:Int)]) ⟨(St.new Go.Ev.start 12 (.row (1) (fun i=>ae.enc (([b1]).getD i default)) 3 false)).heap,13⟩)∧(b2≠0→Q (.tuple [.aj,.int .i64 b2]) ⟨Go.Ev.start.heap,12⟩)))) False)
theorem aco [Env] (A:Nat→List SV→Prop) (Q:V→St→Prop) (c:an) (l:List ae):WE Tryz.prog 303 Tryz.f303 zt 0 A6 A Q [.agg [.int .i64 c.f0,.str c.f1,.str c.f2,.str c.f3,.str c.f4,.str c.f5,.int .i64 c.f6,af V.str 1 c.f7,.str c.f8.f0,.int .i64 c.f8.f1,.bool true,.int .i64 c.f8.f3.f0,.int .i64 c.f8.f3.f1,.int .u64 c.f8.f3.f2,.str c.f8.f3.f3,.str c.f9.f0,.int .i64 c.f9.f1,af ak.enc 7 c.f9.f2],af ae.enc 3 l] Go.Ev.start=
  (((0≤(0:Int)∧(0:Int)<((l.length:Nat):Int))∧(∃Fs:ak,[.agg [.str c.f8.f0,.int .i64 c.f8.f1,.bool true,.int .i64 c.f8.f3.f0,.int .i64 c.f8.f3.f1,.int .u64 c.f8.f3.f2,.str c.f8.f3.f3]]=[ak.enc Fs]∧mv Fs∧((.i64:IntKind)=.i64∧aa (decide ((bJ Fs)≠(0:Int))) ((aab A Q c l Fs)) ((∃(RB:ae) (aad:List UInt8),[.agg (ae.cells (l.getD 0 default)),.str c.f8.f0]=[ae.enc RB,.str aad]∧RB.f2.length≤1000∧((.i64:IntKind)=.i64∧aa (decide ((az RB aad)≥(0:Int))) ((aac A Q c l 12)) (((.i64:IntKind)=.i64∧aa (decide ((((((l.getD 0 default).f2).length:Nat):Int))≥(8:Int))) ((aac A Q c l 2)) ((aab A Q c l Fs))))))))))):=by kernel_rfl
theorem acp [Env] (A:Nat→List SV→Prop) (Q:V→St→Prop) (c:an) (l:List ae):WE Tryz.prog 303 Tryz.f303 zt 0 A6 A Q [.agg [.int .i64 c.f0,.str c.f1,.str c.f2,.str c.f3,.str c.f4,.str c.f5,.int .i64 c.f6,af V.str 1 c.f7,.str c.f8.f0,.int .i64 c.f8.f1,.bool false,.int .i64 c.f8.f3.f0,.int .i64 c.f8.f3.f1,.int .u64 c.f8.f3.f2,.str c.f8.f3.f3,.str c.f9.f0,.int .i64 c.f9.f1,af ak.enc 7 c.f9.f2],af ae.enc 3 l] Go.Ev.start=
  (((0≤(0:Int)∧(0:Int)<((l.length:Nat):Int))∧(∃Ft:ak,[.agg [.str c.f8.f0,.int .i64 c.f8.f1,.bool false,.int .i64 c.f8.f3.f0,.int .i64 c.f8.f3.f1,.int .u64 c.f8.f3.f2,.str c.f8.f3.f3]]=[ak.enc Ft]∧mv Ft∧((.i64:IntKind)=.i64∧aa (decide ((bJ Ft)≠(0:Int))) ((aaa A Q c l Ft)) ((∃(RC:ae) (aae:List UInt8),[.agg (ae.cells (l.getD 0 default)),.str c.f8.f0]=[ae.enc RC,.str aae]∧RC.f2.length≤1000∧((.i64:IntKind)=.i64∧aa (decide ((az RC aae)≥(0:Int))) ((RA A Q c l 12)) (((.i64:IntKind)=.i64∧aa (decide ((((((l.getD 0 default).f2).length:Nat):Int))≥(8:Int))) ((RA A Q c l 2)) (((.i64:IntKind)=.i64∧aa (decide (c.f8.f3.f0=(0:Int))) ((RA A Q c l 11)) ((aaa A Q c l Ft))))))))))))):=by kernel_rfl
def aaf [Env] (vs:List V) (σ:St) (k:ai):Prop:=
 ∃(c:an) (l:List ae),bA σ vs [an.enc c,af ae.enc 3 l]∧(fx c∧c.f0=2∧c.f7.length≤1000000∧1≤l.length∧l.length≤16∧∀t∈l,dV t∧bK t=0)∧(kE c (l.getD 0 default) (l.getD 1 default)=0→k (.tuple [.own σ.next (kT c (l.getD 0 default)).length 3,.int .i64 0]) ((void σ.next).new σ.next (.row (kT c (l.getD 0 default)).length (fun i=>ae.enc ((kT c (l.getD 0 default)).getD i default)) 3 false)))∧(kE c (l.getD 0 default) (l.getD 1 default)≠0→k (.tuple [.aj,.int .i64 (kE c (l.getD 0 default) (l.getD 1 default))]) (void σ.next))
def CQ [Env]:=kS 303 aaf zt
def JP:Nat→List Nat:=(fun _=>[])
theorem ahv [Env] (A:Nat→List SV→Prop) (Q:V→St→Prop) (c:an) (l:List ae):WE Tryz.prog 306 Tryz.f306 CQ 0 JP A Q [an.enc c,af ae.enc 3 l] Go.Ev.start=
  (((0≤(0:Int)∧(0:Int)<((l.length:Nat):Int))∧(∃(Fu:ae) (L0:List UInt8),[.agg (ae.cells (l.getD 0 default)),.str c.f5]=[ae.enc Fu,.str L0]∧Fu.f2.length≤1000∧((.i64:IntKind)=.i64∧aa (decide ((az Fu L0)<((l.getD 0 default).f1))) (Q (.tuple [.aj,.int .i64 (10:Int)]) ⟨(St.new (St.new Go.Ev.start 0 (.cells 18 [] (ah (an.cells c) .leaf 0) true false)) 1 (.cells 3 [] (ah (ae.cells (l.getD 0 default)) .leaf 0) true false)).heap,2⟩) ((∃A7:List ak,[af ak.enc 7 ((l.getD 0 default).f2)]=[af ak.enc 7 A7]∧(0<A7.length∧A7.length≤1000)∧(∃(xT:List ak) (n201:Nat),(A7.length=xT.length∧(az Fu L0)=n201∧(IntKind.i64.wrap ((az Fu L0)+(1:Int)))=(n201:Int)+1)∧(⟨(St.new (St.new (St.new Go.Ev.start 0 (.cells 18 [] (ah (an.cells c) .leaf 0) true false)) 1 (.cells 3 [] (ah (ae.cells (l.getD 0 default)) .leaf 0) true false)) 2 (.row A7.length (fun i=>ak.enc (A7.getD i default)) 7 false)).heap,3⟩:St).heap.get 2=some (.row xT.length (fun j=>ak.enc (xT.getD j default)) 7 false)∧(0<n201∧n201<xT.length∧xT.length≤8)∧∀n202 aag,bp n202 aag (bh (fun j=>decide (j≠n201)) (fun j=>xT.getD j default) xT.length)→(∃(aah:ae) (L1:Int),bA ⟨(St.new (St.new (St.new Go.Ev.start 0 (.cells 18 [] (ah (an.cells c) .leaf 0) true false)) 1 (.cells 3 [] (ah [.str ((l.getD 0 default).f0),.int .i64 ((l.getD 0 default).f1),.own 3 n202 7] .leaf 0) true false)) 3 (.row n202 aag 7 false)).heap,4⟩ [.agg [.str ((l.getD 0 default).f0),.int .i64 ((l.getD 0 default).f1),.own 3 n202 7],.int .i64 (0:Int)] [ae.enc aah,.int .i64 L1]∧(L1=0→Q (.tuple [.own 4 (1) 3,.int .i64 (0:Int)]) ⟨(St.new Go.Ev.start 4 (.row (1) (fun i=>ae.enc (([aah]).getD i default)) 3 false)).heap,5⟩)∧(L1≠0→Q (.tuple [.aj,.int .i64 L1]) ⟨Go.Ev.start.heap,4⟩))))))))):=by kernel_rfl
def aai [Env] (vs:List V) (σ:St) (k:ai):Prop:=
 ∃(c:an) (l:List ae),bA σ vs [an.enc c,af ae.enc 3 l]∧(fx c∧c.f0=3∧c.f7.length≤1000000∧1≤l.length∧l.length≤16∧∀t∈l,dV t∧bK t=0)∧(kE c (l.getD 0 default) (l.getD 1 default)=0→k (.tuple [.own σ.next (kT c (l.getD 0 default)).length 3,.int .i64 0]) ((void σ.next).new σ.next (.row (kT c (l.getD 0 default)).length (fun i=>ae.enc ((kT c (l.getD 0 default)).getD i default)) 3 false)))∧(kE c (l.getD 0 default) (l.getD 1 default)≠0→k (.tuple [.aj,.int .i64 (kE c (l.getD 0 default) (l.getD 1 default))]) (void σ.next))
def CR [Env]:=kS 306 aai CQ
def JQ:Nat→List Nat:=(fun _=>[])
abbrev RD [Env] (A:Nat→List SV→Prop) (Q:V→St→Prop) (c:an) (l:List ae):Prop:=
 (∃b0:List ak,[af ak.enc 7 ((l.getD 0 default).f2)]=[af ak.enc 7 b0]∧(0<b0.length∧b0.length≤1000)∧aa (V.beq (.str c.f3) (.str c.f3)&&true) ((∃(b1:ae) (b2:Int),bA ⟨(St.new (St.new (St.new Go.Ev.start 0 (.cells 18 [] (ah (an.cells c) .leaf 0) true false)) 1 (.cells 3 [] (ah [.str c.f3,.int .i64 ((l.getD 0 default).f1),.own 32 b0.length 7] .leaf 0) true false)) 32 (.row b0.length (fun i=>ak.enc (b0.getD i default)) 7 false)).heap,33⟩ [.agg [.str c.f3,.int .i64 ((l.getD 0 default).f1),.own 32 b0.length 7],.int .i64 (aF c.f3)] [ae.enc b1,.int .i64 b2]∧(b2=0→Q (.tuple [.own 33 (1) 3,.int .i64 (0:Int)]) ⟨(St.new Go.Ev.start 33 (.row (1) (fun i=>ae.enc (([b1]).getD i default)) 3 false)).heap,34⟩)∧(b2≠0→Q (.tuple [.aj,.int .i64 b2]) ⟨Go.Ev.start.heap,33⟩))) False)
abbrev RE [Env] (A:Nat→List SV→Prop) (Q:V→St→Prop) (c:an) (l:List ae):Prop:=
 (∃b0:List ak,[af ak.enc 7 ((l.getD 0 default).f2)]=[af ak.enc 7 b0]∧(0<b0.length∧b0.length≤1000)∧aa (V.beq (.str c.f3) (.str c.f3)&&true) ((∃(b1:ae) (b2:Int),bA ⟨(St.new (St.new (St.new Go.Ev.start 0 (.cells 18 [] (ah (an.cells c) .leaf 0) true false)) 1 (.cells 3 [] (ah [.str c.f3,.int .i64 ((l.getD 0 default).f1),.own 32 b0.length 7] .leaf 0) true false)) 32 (.row b0.length (fun i=>ak.enc (b0.getD i default)) 7 false)).heap,33⟩ [.agg [.str c.f3,.int .i64 ((l.getD 0 default).f1),.own 32 b0.length 7],.int .i64 (11:Int)] [ae.enc b1,.int .i64 b2]∧(b2=0→Q (.tuple [.own 33 (1) 3,.int .i64 (0:Int)]) ⟨(St.new Go.Ev.start 33 (.row (1) (fun i=>ae.enc (([b1]).getD i default)) 3 false)).heap,34⟩)∧(b2≠0→Q (.tuple [.aj,.int .i64 b2]) ⟨Go.Ev.start.heap,33⟩))) False)
theorem ahw [Env] (A:Nat→List SV→Prop) (Q:V→St→Prop) (c:an) (l:List ae):WE Tryz.prog 314 Tryz.f314 CR 0 JQ A Q [an.enc c,af ae.enc 3 l] Go.Ev.start=
  (aa (decide (c.f1=c.f2)) (Q (.tuple [.aj,.int .i64 (12:Int)]) ⟨(St.new Go.Ev.start 0 (.cells 18 [] (ah (an.cells c) .leaf 0) true false)).heap,1⟩) (((0≤(0:Int)∧(0:Int)<((l.length:Nat):Int))∧((.i64:IntKind)=.i64∧aa (decide ((aF c.f3)=(0:Int))) (((0≤(1:Int)∧(1:Int)<((l.length:Nat):Int))∧((.i64:IntKind)=.i64∧aa (decide (((l.getD 0 default).f1)≠((l.getD 1 default).f1))) ((RE A Q c l)) (((0≤(1:Int)∧(1:Int)<((l.length:Nat):Int))∧(∃RF aaj:List ak,[af ak.enc 7 ((l.getD 0 default).f2),af ak.enc 7 ((l.getD 1 default).f2)]=[af ak.enc 7 RF,af ak.enc 7 aaj]∧RF.length≤1000000∧∀LB:Bool,(LB=true↔RF=aaj)→aa ((!LB)) ((RE A Q c l)) ((RD A Q c l)))))))) ((RD A Q c l)))))):=by kernel_rfl
def aak [Env] (vs:List V) (σ:St) (k:ai):Prop:=
 ∃(c:an) (l:List ae),bA σ vs [an.enc c,af ae.enc 3 l]∧(fx c∧c.f0=6∧c.f7.length≤1000000∧2≤l.length∧l.length≤16∧∀t∈l,dV t∧bK t=0)∧(kE c (l.getD 0 default) (l.getD 1 default)=0→k (.tuple [.own σ.next (kT c (l.getD 0 default)).length 3,.int .i64 0]) ((void σ.next).new σ.next (.row (kT c (l.getD 0 default)).length (fun i=>ae.enc ((kT c (l.getD 0 default)).getD i default)) 3 false)))∧(kE c (l.getD 0 default) (l.getD 1 default)≠0→k (.tuple [.aj,.int .i64 (kE c (l.getD 0 default) (l.getD 1 default))]) (void σ.next))
def iE [Env]:=kS 314 aak CR
end Go.Proofs.YtbajncpfmemdgaaGreatDoor
end
