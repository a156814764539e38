/- Proved: parts of the way: BD2, BD3, BEq20. -/
import Derived.Test.YtbajncpfmemdgaaGreatDoorEvQ22
section
namespace Go.Proofs.YtbajncpfmemdgaaGreatDoor
open Go Go.Ev Go.IntWalk
section
variable [Env]
theorem qQ.sub {esz b n m N:Nat} {g:Nat→V} {z:List V} {t:Trie V} {p:Bool} {τ:St} (hb:τ.heap.get b=some (.cells N z t p false)) (hn:n≠0) (hm:n≤m) (hN:n*esz≤N) (hu:∀i,i<n→(g i).cells.length=esz)
  (hc:∀i,i<n→∀k v,(g i).cells[k]? =some v→cellOf N z t (i*esz+k)=some v∧Go.Ev.Clean v):qQ esz (.slice b 0 n m false esz) τ n g:=
 ⟨b,_,hb,fun _ _ hm'=>⟨.TR hm' hn hm,.HO hN (fun h=>by cases h) hu fun i hi k v hv=>⟨v,(hc i hi k v hv).1,.clean (hc i hi k v hv).2⟩⟩⟩
omit [Env] in
theorem yo:∀l:List aj,aX l=ax (l.map aj.enc)
 | []=>rfl
 | x::l=>by rw[List.map_cons,ca,←yo l];rfl
omit [Env] in
theorem Sg (l:List aj):∀v∈l.map aj.enc,v.cells.length=7:=fun v hv=>by
 obtain⟨x,_,rfl⟩:=List.mem_map.1 hv;rfl
omit [Env] in
theorem Pb {l:List aj} {i:Nat} (hi:i<l.length) {k:Nat} (hk:k<7):(aX l)[i*7+k]? =(aj.cells (l.getD i default))[k]? :=by
 rw[yo,il (Sg l) (i:=i) (u:=aj.enc (l.getD i default)) (by rw[List.getElem?_map,List.getD_eq_getElem?_getD,List.getElem?_eq_getElem hi];rfl) hk];rfl
omit [Env] in
theorem MF {N:Nat} {es:List V} {i:Nat} {v:V} (hi:es[i]? =some v) (hN:i<N):cellOf N [] (ai es .leaf 0) i=some v:=by
 have bE:=(List.getElem?_eq_some_iff.1 hi).1
 unfold cellOf
 rw[show Nat.blt i N=true by rw[Nat.blt_eq];exact hN]
 dsimp only
 rw[mG,if_pos ⟨Nat.zero_le _,by omega⟩,Nat.sub_zero,hi]
theorem cO (os:List aj) (ho:os≠[]) {nx:Nat}:eY 7 (fun m f=>bu m f os) (.slice 0 0 os.length (os.length+1) false 7) ⟨(bc (.cells ((os.length+1)*7) [] (ai (aX (os++[dU])) .leaf 0) false false)).heap,nx⟩:=by
 refine⟨os.length,fun j=>aj.enc (os.getD j default),qQ.sub (b:=0) (p:=false) (by rfl) (fun e=>ho (List.eq_nil_of_length_eq_zero e)) (by omega) (Nat.mul_le_mul_right 7 (by omega)) (fun i hi=>rfl) (fun i hi k v hv=>⟨MF ?_ ?_,aj.clean _ v (List.mem_of_getElem? hv)⟩),rfl,fun i hi=>rfl⟩
 ·have hk:k<7:=(List.getElem?_eq_some_iff.1 hv).1
  rw[Pb (by simp;omega) hk]
  have:(os++[dU]).getD i default=os.getD i default:=by simp [List.getD_eq_getElem?_getD,List.getElem?_append_left hi]
  rw[this];exact hv
 ·have hk:k<7:=(List.getElem?_eq_some_iff.1 hv).1
  have:=lM hi (Nat.succ_le_of_lt hk)
  omega
variable [aZ] {vs:List V} {σ:St} {k:ah}
theorem aan (x0 x1:aj):bW Tryz.prog 307 [.slice 0 0 2 2 false 7,.int .i64 1,.int .i64 2] (eY 7 fun m f=>bu m f (br (fun j=>decide (j≠1)) (fun j=>[x0,x1].getD j default) 2)) (bc (.cells 14 [] (ai (aX [x0,x1]) .leaf 0) false false)):=by
 rw[show br (fun j=>decide (j≠1)) (fun j=>[x0,x1].getD j default) 2=[x0] by kernel_rfl]
 exact F307.ck (live:=fun _=>[]) (call:=cz) (fun h=>cL h) (by kernel_rfl) (by rw[RM];exact⟨rfl,cO [x0] (List.cons_ne_nil _ _)⟩)
theorem aao (x0 x1 x2:aj):bW Tryz.prog 307 [.slice 0 0 3 3 false 7,.int .i64 1,.int .i64 2] (eY 7 fun m f=>bu m f (br (fun j=>decide (j≠1)) (fun j=>[x0,x1,x2].getD j default) 3)) (bc (.cells 21 [] (ai (aX [x0,x1,x2]) .leaf 0) false false)):=by
 rw[show br (fun j=>decide (j≠1)) (fun j=>[x0,x1,x2].getD j default) 3=[x0,x2] by kernel_rfl]
 exact F307.ck (live:=fun _=>[]) (call:=cz) (fun h=>cL h) (by kernel_rfl) (by rw[RN];exact⟨rfl,cO [x0,x2] (List.cons_ne_nil _ _)⟩)
theorem aap (x0 x1 x2:aj):bW Tryz.prog 307 [.slice 0 0 3 3 false 7,.int .i64 2,.int .i64 3] (eY 7 fun m f=>bu m f (br (fun j=>decide (j≠2)) (fun j=>[x0,x1,x2].getD j default) 3)) (bc (.cells 21 [] (ai (aX [x0,x1,x2]) .leaf 0) false false)):=by
 rw[show br (fun j=>decide (j≠2)) (fun j=>[x0,x1,x2].getD j default) 3=[x0,x1] by kernel_rfl]
 exact F307.ck (live:=fun _=>[]) (call:=cz) (fun h=>cL h) (by kernel_rfl) (by rw[RO];exact⟨rfl,cO [x0,x1] (List.cons_ne_nil _ _)⟩)
theorem aaq (x0 x1 x2 x3:aj):bW Tryz.prog 307 [.slice 0 0 4 4 false 7,.int .i64 1,.int .i64 2] (eY 7 fun m f=>bu m f (br (fun j=>decide (j≠1)) (fun j=>[x0,x1,x2,x3].getD j default) 4)) (bc (.cells 28 [] (ai (aX [x0,x1,x2,x3]) .leaf 0) false false)):=by
 rw[show br (fun j=>decide (j≠1)) (fun j=>[x0,x1,x2,x3].getD j default) 4=[x0,x2,x3] by kernel_rfl]
 exact F307.ck (live:=fun _=>[]) (call:=cz) (fun h=>cL h) (by kernel_rfl) (by rw[RP];exact⟨rfl,cO [x0,x2,x3] (List.cons_ne_nil _ _)⟩)
theorem aar (x0 x1 x2 x3:aj):bW Tryz.prog 307 [.slice 0 0 4 4 false 7,.int .i64 2,.int .i64 3] (eY 7 fun m f=>bu m f (br (fun j=>decide (j≠2)) (fun j=>[x0,x1,x2,x3].getD j default) 4)) (bc (.cells 28 [] (ai (aX [x0,x1,x2,x3]) .leaf 0) false false)):=by
 rw[show br (fun j=>decide (j≠2)) (fun j=>[x0,x1,x2,x3].getD j default) 4=[x0,x1,x3] by kernel_rfl]
 exact F307.ck (live:=fun _=>[]) (call:=cz) (fun h=>cL h) (by kernel_rfl) (by rw[RQ];exact⟨rfl,cO [x0,x1,x3] (List.cons_ne_nil _ _)⟩)
theorem aas (x0 x1 x2 x3:aj):bW Tryz.prog 307 [.slice 0 0 4 4 false 7,.int .i64 3,.int .i64 4] (eY 7 fun m f=>bu m f (br (fun j=>decide (j≠3)) (fun j=>[x0,x1,x2,x3].getD j default) 4)) (bc (.cells 28 [] (ai (aX [x0,x1,x2,x3]) .leaf 0) false false)):=by
 rw[show br (fun j=>decide (j≠3)) (fun j=>[x0,x1,x2,x3].getD j default) 4=[x0,x1,x2] by kernel_rfl]
 exact F307.ck (live:=fun _=>[]) (call:=cz) (fun h=>cL h) (by kernel_rfl) (by rw[RR];exact⟨rfl,cO [x0,x1,x2] (List.cons_ne_nil _ _)⟩)
theorem aat (x0 x1 x2 x3 x4:aj):bW Tryz.prog 307 [.slice 0 0 5 5 false 7,.int .i64 1,.int .i64 2] (eY 7 fun m f=>bu m f (br (fun j=>decide (j≠1)) (fun j=>[x0,x1,x2,x3,x4].getD j default) 5)) (bc (.cells 35 [] (ai (aX [x0,x1,x2,x3,x4]) .leaf 0) false false)):=by
 rw[show br (fun j=>decide (j≠1)) (fun j=>[x0,x1,x2,x3,x4].getD j default) 5=[x0,x2,x3,x4] by kernel_rfl]
 exact F307.ck (live:=fun _=>[]) (call:=cz) (fun h=>cL h) (by kernel_rfl) (by rw[RS];exact⟨rfl,cO [x0,x2,x3,x4] (List.cons_ne_nil _ _)⟩)
theorem aau (x0 x1 x2 x3 x4:aj):bW Tryz.prog 307 [.slice 0 0 5 5 false 7,.int .i64 2,.int .i64 3] (eY 7 fun m f=>bu m f (br (fun j=>decide (j≠2)) (fun j=>[x0,x1,x2,x3,x4].getD j default) 5)) (bc (.cells 35 [] (ai (aX [x0,x1,x2,x3,x4]) .leaf 0) false false)):=by
 rw[show br (fun j=>decide (j≠2)) (fun j=>[x0,x1,x2,x3,x4].getD j default) 5=[x0,x1,x3,x4] by kernel_rfl]
 exact F307.ck (live:=fun _=>[]) (call:=cz) (fun h=>cL h) (by kernel_rfl) (by rw[RT];exact⟨rfl,cO [x0,x1,x3,x4] (List.cons_ne_nil _ _)⟩)
theorem aav (x0 x1 x2 x3 x4:aj):bW Tryz.prog 307 [.slice 0 0 5 5 false 7,.int .i64 3,.int .i64 4] (eY 7 fun m f=>bu m f (br (fun j=>decide (j≠3)) (fun j=>[x0,x1,x2,x3,x4].getD j default) 5)) (bc (.cells 35 [] (ai (aX [x0,x1,x2,x3,x4]) .leaf 0) false false)):=by
 rw[show br (fun j=>decide (j≠3)) (fun j=>[x0,x1,x2,x3,x4].getD j default) 5=[x0,x1,x2,x4] by kernel_rfl]
 exact F307.ck (live:=fun _=>[]) (call:=cz) (fun h=>cL h) (by kernel_rfl) (by rw[RU];exact⟨rfl,cO [x0,x1,x2,x4] (List.cons_ne_nil _ _)⟩)
theorem aaw (x0 x1 x2 x3 x4:aj):bW Tryz.prog 307 [.slice 0 0 5 5 false 7,.int .i64 4,.int .i64 5] (eY 7 fun m f=>bu m f (br (fun j=>decide (j≠4)) (fun j=>[x0,x1,x2,x3,x4].getD j default) 5)) (bc (.cells 35 [] (ai (aX [x0,x1,x2,x3,x4]) .leaf 0) false false)):=by
 rw[show br (fun j=>decide (j≠4)) (fun j=>[x0,x1,x2,x3,x4].getD j default) 5=[x0,x1,x2,x3] by kernel_rfl]
 exact F307.ck (live:=fun _=>[]) (call:=cz) (fun h=>cL h) (by kernel_rfl) (by rw[RV];exact⟨rfl,cO [x0,x1,x2,x3] (List.cons_ne_nil _ _)⟩)
theorem aax (x0 x1 x2 x3 x4 x5:aj):bW Tryz.prog 307 [.slice 0 0 6 6 false 7,.int .i64 1,.int .i64 2] (eY 7 fun m f=>bu m f (br (fun j=>decide (j≠1)) (fun j=>[x0,x1,x2,x3,x4,x5].getD j default) 6)) (bc (.cells 42 [] (ai (aX [x0,x1,x2,x3,x4,x5]) .leaf 0) false false)):=by
 rw[show br (fun j=>decide (j≠1)) (fun j=>[x0,x1,x2,x3,x4,x5].getD j default) 6=[x0,x2,x3,x4,x5] by kernel_rfl]
 exact F307.ck (live:=fun _=>[]) (call:=cz) (fun h=>cL h) (by kernel_rfl) (by rw[RW];exact⟨rfl,cO [x0,x2,x3,x4,x5] (List.cons_ne_nil _ _)⟩)
theorem aay (x0 x1 x2 x3 x4 x5:aj):bW Tryz.prog 307 [.slice 0 0 6 6 false 7,.int .i64 2,.int .i64 3] (eY 7 fun m f=>bu m f (br (fun j=>decide (j≠2)) (fun j=>[x0,x1,x2,x3,x4,x5].getD j default) 6)) (bc (.cells 42 [] (ai (aX [x0,x1,x2,x3,x4,x5]) .leaf 0) false false)):=by
 rw[show br (fun j=>decide (j≠2)) (fun j=>[x0,x1,x2,x3,x4,x5].getD j default) 6=[x0,x1,x3,x4,x5] by kernel_rfl]
 exact F307.ck (live:=fun _=>[]) (call:=cz) (fun h=>cL h) (by kernel_rfl) (by rw[RX];exact⟨rfl,cO [x0,x1,x3,x4,x5] (List.cons_ne_nil _ _)⟩)
theorem aaz (x0 x1 x2 x3 x4 x5:aj):bW Tryz.prog 307 [.slice 0 0 6 6 false 7,.int .i64 3,.int .i64 4] (eY 7 fun m f=>bu m f (br (fun j=>decide (j≠3)) (fun j=>[x0,x1,x2,x3,x4,x5].getD j default) 6)) (bc (.cells 42 [] (ai (aX [x0,x1,x2,x3,x4,x5]) .leaf 0) false false)):=by
 rw[show br (fun j=>decide (j≠3)) (fun j=>[x0,x1,x2,x3,x4,x5].getD j default) 6=[x0,x1,x2,x4,x5] by kernel_rfl]
 exact F307.ck (live:=fun _=>[]) (call:=cz) (fun h=>cL h) (by kernel_rfl) (by rw[RY];exact⟨rfl,cO [x0,x1,x2,x4,x5] (List.cons_ne_nil _ _)⟩)
theorem aaA (x0 x1 x2 x3 x4 x5:aj):bW Tryz.prog 307 [.slice 0 0 6 6 false 7,.int .i64 4,.int .i64 5] (eY 7 fun m f=>bu m f (br (fun j=>decide (j≠4)) (fun j=>[x0,x1,x2,x3,x4,x5].getD j default) 6)) (bc (.cells 42 [] (ai (aX [x0,x1,x2,x3,x4,x5]) .leaf 0) false false)):=by
 rw[show br (fun j=>decide (j≠4)) (fun j=>[x0,x1,x2,x3,x4,x5].getD j default) 6=[x0,x1,x2,x3,x5] by kernel_rfl]
 exact F307.ck (live:=fun _=>[]) (call:=cz) (fun h=>cL h) (by kernel_rfl) (by rw[RZ];exact⟨rfl,cO [x0,x1,x2,x3,x5] (List.cons_ne_nil _ _)⟩)
theorem aaB (x0 x1 x2 x3 x4 x5:aj):bW Tryz.prog 307 [.slice 0 0 6 6 false 7,.int .i64 5,.int .i64 6] (eY 7 fun m f=>bu m f (br (fun j=>decide (j≠5)) (fun j=>[x0,x1,x2,x3,x4,x5].getD j default) 6)) (bc (.cells 42 [] (ai (aX [x0,x1,x2,x3,x4,x5]) .leaf 0) false false)):=by
 rw[show br (fun j=>decide (j≠5)) (fun j=>[x0,x1,x2,x3,x4,x5].getD j default) 6=[x0,x1,x2,x3,x4] by kernel_rfl]
 exact F307.ck (live:=fun _=>[]) (call:=cz) (fun h=>cL h) (by kernel_rfl) (by rw[R0];exact⟨rfl,cO [x0,x1,x2,x3,x4] (List.cons_ne_nil _ _)⟩)
theorem aaC (x0 x1 x2 x3 x4 x5 x6:aj):bW Tryz.prog 307 [.slice 0 0 7 7 false 7,.int .i64 1,.int .i64 2] (eY 7 fun m f=>bu m f (br (fun j=>decide (j≠1)) (fun j=>[x0,x1,x2,x3,x4,x5,x6].getD j default) 7)) (bc (.cells 49 [] (ai (aX [x0,x1,x2,x3,x4,x5,x6]) .leaf 0) false false)):=by
 rw[show br (fun j=>decide (j≠1)) (fun j=>[x0,x1,x2,x3,x4,x5,x6].getD j default) 7=[x0,x2,x3,x4,x5,x6] by kernel_rfl]
 exact F307.ck (live:=fun _=>[]) (call:=cz) (fun h=>cL h) (by kernel_rfl) (by rw[R1];exact⟨rfl,cO [x0,x2,x3,x4,x5,x6] (List.cons_ne_nil _ _)⟩)
theorem aaD (x0 x1 x2 x3 x4 x5 x6:aj):bW Tryz.prog 307 [.slice 0 0 7 7 false 7,.int .i64 2,.int .i64 3] (eY 7 fun m f=>bu m f (br (fun j=>decide (j≠2)) (fun j=>[x0,x1,x2,x3,x4,x5,x6].getD j default) 7)) (bc (.cells 49 [] (ai (aX [x0,x1,x2,x3,x4,x5,x6]) .leaf 0) false false)):=by
 rw[show br (fun j=>decide (j≠2)) (fun j=>[x0,x1,x2,x3,x4,x5,x6].getD j default) 7=[x0,x1,x3,x4,x5,x6] by kernel_rfl]
 exact F307.ck (live:=fun _=>[]) (call:=cz) (fun h=>cL h) (by kernel_rfl) (by rw[R2];exact⟨rfl,cO [x0,x1,x3,x4,x5,x6] (List.cons_ne_nil _ _)⟩)
theorem aaE (x0 x1 x2 x3 x4 x5 x6:aj):bW Tryz.prog 307 [.slice 0 0 7 7 false 7,.int .i64 3,.int .i64 4] (eY 7 fun m f=>bu m f (br (fun j=>decide (j≠3)) (fun j=>[x0,x1,x2,x3,x4,x5,x6].getD j default) 7)) (bc (.cells 49 [] (ai (aX [x0,x1,x2,x3,x4,x5,x6]) .leaf 0) false false)):=by
 rw[show br (fun j=>decide (j≠3)) (fun j=>[x0,x1,x2,x3,x4,x5,x6].getD j default) 7=[x0,x1,x2,x4,x5,x6] by kernel_rfl]
 exact F307.ck (live:=fun _=>[]) (call:=cz) (fun h=>cL h) (by kernel_rfl) (by rw[R3];exact⟨rfl,cO [x0,x1,x2,x4,x5,x6] (List.cons_ne_nil _ _)⟩)
theorem aaF (x0 x1 x2 x3 x4 x5 x6:aj):bW Tryz.prog 307 [.slice 0 0 7 7 false 7,.int .i64 4,.int .i64 5] (eY 7 fun m f=>bu m f (br (fun j=>decide (j≠4)) (fun j=>[x0,x1,x2,x3,x4,x5,x6].getD j default) 7)) (bc (.cells 49 [] (ai (aX [x0,x1,x2,x3,x4,x5,x6]) .leaf 0) false false)):=by
 rw[show br (fun j=>decide (j≠4)) (fun j=>[x0,x1,x2,x3,x4,x5,x6].getD j default) 7=[x0,x1,x2,x3,x5,x6] by kernel_rfl]
 exact F307.ck (live:=fun _=>[]) (call:=cz) (fun h=>cL h) (by kernel_rfl) (by rw[R4];exact⟨rfl,cO [x0,x1,x2,x3,x5,x6] (List.cons_ne_nil _ _)⟩)
theorem aaG (x0 x1 x2 x3 x4 x5 x6:aj):bW Tryz.prog 307 [.slice 0 0 7 7 false 7,.int .i64 5,.int .i64 6] (eY 7 fun m f=>bu m f (br (fun j=>decide (j≠5)) (fun j=>[x0,x1,x2,x3,x4,x5,x6].getD j default) 7)) (bc (.cells 49 [] (ai (aX [x0,x1,x2,x3,x4,x5,x6]) .leaf 0) false false)):=by
 rw[show br (fun j=>decide (j≠5)) (fun j=>[x0,x1,x2,x3,x4,x5,x6].getD j default) 7=[x0,x1,x2,x3,x4,x6] by kernel_rfl]
 exact F307.ck (live:=fun _=>[]) (call:=cz) (fun h=>cL h) (by kernel_rfl) (by rw[R5];exact⟨rfl,cO [x0,x1,x2,x3,x4,x6] (List.cons_ne_nil _ _)⟩)
theorem aaH (x0 x1 x2 x3 x4 x5 x6:aj):bW Tryz.prog 307 [.slice 0 0 7 7 false 7,.int .i64 6,.int .i64 7] (eY 7 fun m f=>bu m f (br (fun j=>decide (j≠6)) (fun j=>[x0,x1,x2,x3,x4,x5,x6].getD j default) 7)) (bc (.cells 49 [] (ai (aX [x0,x1,x2,x3,x4,x5,x6]) .leaf 0) false false)):=by
 rw[show br (fun j=>decide (j≠6)) (fun j=>[x0,x1,x2,x3,x4,x5,x6].getD j default) 7=[x0,x1,x2,x3,x4,x5] by kernel_rfl]
 exact F307.ck (live:=fun _=>[]) (call:=cz) (fun h=>cL h) (by kernel_rfl) (by rw[R6];exact⟨rfl,cO [x0,x1,x2,x3,x4,x5] (List.cons_ne_nil _ _)⟩)
theorem aaI (x0 x1 x2 x3 x4 x5 x6 x7:aj):bW Tryz.prog 307 [.slice 0 0 8 8 false 7,.int .i64 1,.int .i64 2] (eY 7 fun m f=>bu m f (br (fun j=>decide (j≠1)) (fun j=>[x0,x1,x2,x3,x4,x5,x6,x7].getD j default) 8)) (bc (.cells 56 [] (ai (aX [x0,x1,x2,x3,x4,x5,x6,x7]) .leaf 0) false false)):=by
 rw[show br (fun j=>decide (j≠1)) (fun j=>[x0,x1,x2,x3,x4,x5,x6,x7].getD j default) 8=[x0,x2,x3,x4,x5,x6,x7] by kernel_rfl]
 exact F307.ck (live:=fun _=>[]) (call:=cz) (fun h=>cL h) (by kernel_rfl) (by rw[R7];exact⟨rfl,cO [x0,x2,x3,x4,x5,x6,x7] (List.cons_ne_nil _ _)⟩)
theorem aaJ (x0 x1 x2 x3 x4 x5 x6 x7:aj):bW Tryz.prog 307 [.slice 0 0 8 8 false 7,.int .i64 2,.int .i64 3] (eY 7 fun m f=>bu m f (br (fun j=>decide (j≠2)) (fun j=>[x0,x1,x2,x3,x4,x5,x6,x7].getD j default) 8)) (bc (.cells 56 [] (ai (aX [x0,x1,x2,x3,x4,x5,x6,x7]) .leaf 0) false false)):=by
 rw[show br (fun j=>decide (j≠2)) (fun j=>[x0,x1,x2,x3,x4,x5,x6,x7].getD j default) 8=[x0,x1,x3,x4,x5,x6,x7] by kernel_rfl]
 exact F307.ck (live:=fun _=>[]) (call:=cz) (fun h=>cL h) (by kernel_rfl) (by rw[R8];exact⟨rfl,cO [x0,x1,x3,x4,x5,x6,x7] (List.cons_ne_nil _ _)⟩)
theorem aaK (x0 x1 x2 x3 x4 x5 x6 x7:aj):bW Tryz.prog 307 [.slice 0 0 8 8 false 7,.int .i64 3,.int .i64 4] (eY 7 fun m f=>bu m f (br (fun j=>decide (j≠3)) (fun j=>[x0,x1,x2,x3,x4,x5,x6,x7].getD j default) 8)) (bc (.cells 56 [] (ai (aX [x0,x1,x2,x3,x4,x5,x6,x7]) .leaf 0) false false)):=by
 rw[show br (fun j=>decide (j≠3)) (fun j=>[x0,x1,x2,x3,x4,x5,x6,x7].getD j default) 8=[x0,x1,x2,x4,x5,x6,x7] by kernel_rfl]
 exact F307.ck (live:=fun _=>[]) (call:=cz) (fun h=>cL h) (by kernel_rfl) (by rw[R9];exact⟨rfl,cO [x0,x1,x2,x4,x5,x6,x7] (List.cons_ne_nil _ _)⟩)
theorem aaL (x0 x1 x2 x3 x4 x5 x6 x7:aj):bW Tryz.prog 307 [.slice 0 0 8 8 false 7,.int .i64 4,.int .i64 5] (eY 7 fun m f=>bu m f (br (fun j=>decide (j≠4)) (fun j=>[x0,x1,x2,x3,x4,x5,x6,x7].getD j default) 8)) (bc (.cells 56 [] (ai (aX [x0,x1,x2,x3,x4,x5,x6,x7]) .leaf 0) false false)):=by
 rw[show br (fun j=>decide (j≠4)) (fun j=>[x0,x1,x2,x3,x4,x5,x6,x7].getD j default) 8=[x0,x1,x2,x3,x5,x6,x7] by kernel_rfl]
 exact F307.ck (live:=fun _=>[]) (call:=cz) (fun h=>cL h) (by kernel_rfl) (by rw[Sa];exact⟨rfl,cO [x0,x1,x2,x3,x5,x6,x7] (List.cons_ne_nil _ _)⟩)
theorem aaM (x0 x1 x2 x3 x4 x5 x6 x7:aj):bW Tryz.prog 307 [.slice 0 0 8 8 false 7,.int .i64 5,.int .i64 6] (eY 7 fun m f=>bu m f (br (fun j=>decide (j≠5)) (fun j=>[x0,x1,x2,x3,x4,x5,x6,x7].getD j default) 8)) (bc (.cells 56 [] (ai (aX [x0,x1,x2,x3,x4,x5,x6,x7]) .leaf 0) false false)):=by
 rw[show br (fun j=>decide (j≠5)) (fun j=>[x0,x1,x2,x3,x4,x5,x6,x7].getD j default) 8=[x0,x1,x2,x3,x4,x6,x7] by kernel_rfl]
 exact F307.ck (live:=fun _=>[]) (call:=cz) (fun h=>cL h) (by kernel_rfl) (by rw[Sb];exact⟨rfl,cO [x0,x1,x2,x3,x4,x6,x7] (List.cons_ne_nil _ _)⟩)
theorem aaN (x0 x1 x2 x3 x4 x5 x6 x7:aj):bW Tryz.prog 307 [.slice 0 0 8 8 false 7,.int .i64 6,.int .i64 7] (eY 7 fun m f=>bu m f (br (fun j=>decide (j≠6)) (fun j=>[x0,x1,x2,x3,x4,x5,x6,x7].getD j default) 8)) (bc (.cells 56 [] (ai (aX [x0,x1,x2,x3,x4,x5,x6,x7]) .leaf 0) false false)):=by
 rw[show br (fun j=>decide (j≠6)) (fun j=>[x0,x1,x2,x3,x4,x5,x6,x7].getD j default) 8=[x0,x1,x2,x3,x4,x5,x7] by kernel_rfl]
 exact F307.ck (live:=fun _=>[]) (call:=cz) (fun h=>cL h) (by kernel_rfl) (by rw[Sc];exact⟨rfl,cO [x0,x1,x2,x3,x4,x5,x7] (List.cons_ne_nil _ _)⟩)
theorem aaO (x0 x1 x2 x3 x4 x5 x6 x7:aj):bW Tryz.prog 307 [.slice 0 0 8 8 false 7,.int .i64 7,.int .i64 8] (eY 7 fun m f=>bu m f (br (fun j=>decide (j≠7)) (fun j=>[x0,x1,x2,x3,x4,x5,x6,x7].getD j default) 8)) (bc (.cells 56 [] (ai (aX [x0,x1,x2,x3,x4,x5,x6,x7]) .leaf 0) false false)):=by
 rw[show br (fun j=>decide (j≠7)) (fun j=>[x0,x1,x2,x3,x4,x5,x6,x7].getD j default) 8=[x0,x1,x2,x3,x4,x5,x6] by kernel_rfl]
 exact F307.ck (live:=fun _=>[]) (call:=cz) (fun h=>cL h) (by kernel_rfl) (by rw[Sd];exact⟨rfl,cO [x0,x1,x2,x3,x4,x5,x6] (List.cons_ne_nil _ _)⟩)
theorem Sh:∀(l:List aj) (i:Nat),0<i→i<l.length→l.length≤8→bW Tryz.prog 307 [.slice 0 0 l.length l.length false 7,.int .i64 (i:Int),.int .i64 ((i:Int)+1)] (eY 7 fun m f=>bu m f (br (fun j=>decide (j≠i)) (fun j=>l.getD j default) l.length)) (bc (.cells (l.length*7) [] (ai (aX l) .leaf 0) false false))
 | [],_,_,h,_=>absurd h (Nat.not_lt_zero _)
 | [_],i,h0,h,_=>absurd (show i<1 from h) (by omega)
 | [x0,x1],i,h0,h,_=>by
  replace h:i<2:=h
  rcases(show i=1 by omega) with rfl
  ·exact aan x0 x1
 | [x0,x1,x2],i,h0,h,_=>by
  replace h:i<3:=h
  rcases(show i=1∨i=2 by omega) with rfl | rfl
  ·exact aao x0 x1 x2
  ·exact aap x0 x1 x2
 | [x0,x1,x2,x3],i,h0,h,_=>by
  replace h:i<4:=h
  rcases(show i=1∨i=2∨i=3 by omega) with rfl | rfl | rfl
  ·exact aaq x0 x1 x2 x3
  ·exact aar x0 x1 x2 x3
  ·exact aas x0 x1 x2 x3
 | [x0,x1,x2,x3,x4],i,h0,h,_=>by
  replace h:i<5:=h
  rcases(show i=1∨i=2∨i=3∨i=4 by omega) with rfl | rfl | rfl | rfl
  ·exact aat x0 x1 x2 x3 x4
  ·exact aau x0 x1 x2 x3 x4
  ·exact aav x0 x1 x2 x3 x4
  ·exact aaw x0 x1 x2 x3 x4
 | [x0,x1,x2,x3,x4,x5],i,h0,h,_=>by
  replace h:i<6:=h
  rcases(show i=1∨i=2∨i=3∨i=4∨i=5 by omega) with rfl | rfl | rfl | rfl | rfl
  ·exact aax x0 x1 x2 x3 x4 x5
  ·exact aay x0 x1 x2 x3 x4 x5
  ·exact aaz x0 x1 x2 x3 x4 x5
  ·exact aaA x0 x1 x2 x3 x4 x5
  ·exact aaB x0 x1 x2 x3 x4 x5
 | [x0,x1,x2,x3,x4,x5,x6],i,h0,h,_=>by
  replace h:i<7:=h
  rcases(show i=1∨i=2∨i=3∨i=4∨i=5∨i=6 by omega) with rfl | rfl | rfl | rfl | rfl | rfl
  ·exact aaC x0 x1 x2 x3 x4 x5 x6
  ·exact aaD x0 x1 x2 x3 x4 x5 x6
  ·exact aaE x0 x1 x2 x3 x4 x5 x6
  ·exact aaF x0 x1 x2 x3 x4 x5 x6
  ·exact aaG x0 x1 x2 x3 x4 x5 x6
  ·exact aaH x0 x1 x2 x3 x4 x5 x6
 | [x0,x1,x2,x3,x4,x5,x6,x7],i,h0,h,_=>by
  replace h:i<8:=h
  rcases(show i=1∨i=2∨i=3∨i=4∨i=5∨i=6∨i=7 by omega) with rfl | rfl | rfl | rfl | rfl | rfl | rfl
  ·exact aaI x0 x1 x2 x3 x4 x5 x6 x7
  ·exact aaJ x0 x1 x2 x3 x4 x5 x6 x7
  ·exact aaK x0 x1 x2 x3 x4 x5 x6 x7
  ·exact aaL x0 x1 x2 x3 x4 x5 x6 x7
  ·exact aaM x0 x1 x2 x3 x4 x5 x6 x7
  ·exact aaN x0 x1 x2 x3 x4 x5 x6 x7
  ·exact aaO x0 x1 x2 x3 x4 x5 x6 x7
 | _::_::_::_::_::_::_::_::_::r,_,_,_,h=>absurd (show r.length+9≤8 from h) (by omega)
theorem Ww (h:Se vs σ k):ag Tryz.prog 307 vs k σ:=by
 unfold Se at h
 split at h
 ·rename_i b n x y
  obtain⟨l,i,⟨rfl,rfl,rfl⟩,hb,⟨h0,hi,h8⟩,h⟩:=h
  exact ag.ahr (es:=aX l) hb (fun j hj=>rfl) (fun j hj=>aj.clean _) (by rw[yo,qb aj.enc l]) (aC (Go.Ev.Clean.int _ _) (aC (Go.Ev.Clean.int _ _) cJ)) (Sh l i h0 hi h8) h
 ·exact h.elim
theorem Kh:∀ {f:FuncId} {vs:List V} {σ:St} {k:ah},My f vs σ k→ag Tryz.prog f vs k σ:=fun h=>aH Ww cL h
theorem Wx (h:Z5 vs σ k):ag Tryz.prog 304 vs k σ:=by
 obtain⟨e,rfl,cE,h⟩:=h
 refine ag.cj (av e.aJ aM) (.int _ _) (F304.flat (live:=J2) (call:=My) (n₀:=0) (σ:=Go.Ev.start) (fun h=>Kh h) rfl (by kernel_rfl) ?_) h
 rw[ahy]
 exact⟨e,rfl,cE,fun h=>by rw[h],fun _=>rfl⟩
theorem Ki:∀ {f:FuncId} {vs:List V} {σ:St} {k:ah},F1 f vs σ k→ag Tryz.prog f vs k σ:=fun h=>aH Wx Kh h
def ahN (l:List Int):Nat→List SV→Prop
 | 0,ss=>∃i:Nat,i≤l.length∧(∀j,j<i→l.getD j default=0)∧ss=[.val (.int .i64 (0:Int)),.val (ae (V.int .i64) 1 l),.val (.int .i64 ((l.length:Nat):Int)),.val (.int .i64 (i:Int))]
 | _,_=>False
omit [aZ] in
theorem Wy (l:List Int):Go.Ev.Clean (ae (V.int .i64) 1 l):=dE fun x _=>aC (Go.Ev.Clean.int _ _) cJ
theorem Wz (h:Z6 vs σ k):ag Tryz.prog 312 vs k σ:=by
 obtain⟨l,hf,hn,h⟩:=h
 refine ag.cj hf (.int _ _) (F312.cf (live:=BE) (call:=F1) (n₀:=0) (σ:=Go.Ev.start) (fun h=>Ki h) rfl 1 (by kernel_rfl) Nat.lt_wfRel.wf (fun _ ss=>l.length-cb ss) (ahN l) ?_ ?_ ?_) h
 ·intro k ss hI
  cases k with
  | zero=>obtain⟨i,_,_,rfl⟩:=hI;exact aG (aN (Wy l) (aG (aG bG)))
  | succ k=>exact hI.elim
 ·rw[ahz]
  exact⟨0,by omega,fun j hj=>absurd hj (Nat.not_lt_zero j),rfl⟩
 ·intro k hk ss hI
  obtain rfl:k=0:=by omega
  obtain⟨i,hi,hj,rfl⟩:=hI
  rw[ahA]
  refine⟨rfl,aq (fun h1=>⟨⟨by omega,by omega⟩,rfl,aq (fun h2=>?_) fun h2=>?_⟩) fun h1=>?_⟩
  ·rw[dJ] at h2⊢
   show _=V.int .i64 (dC _ _)
   rw[jt (fun i=>l.getD i default) l.length i (by omega) h2 hj]
  ·rw[dJ] at h2
   rw[i64_in ((i:Int)+1) (by omega)]
   refine⟨⟨i+1,by omega,fun j gS=>?_,rfl⟩,?_⟩
   ·by_cases e:j=i
    ·subst e;exact Decidable.not_not.1 h2
    ·exact hj j (by omega)
   ·show l.length-((i:Int)+1).toNat<l.length-(i:Int).toNat
    omega
  ·obtain rfl:i=l.length:=by omega
   show _=V.int .i64 (dC _ _)
   rw[(cM (fun i=>l.getD i default) l.length).2 hj]
theorem Kj:∀ {f:FuncId} {vs:List V} {σ:St} {k:ah},F2 f vs σ k→ag Tryz.prog f vs k σ:=fun h=>aH Wz Ki h
def ahO (l m:List aj):Nat→List SV→Prop
 | 0,ss=>∃i:Nat,(l.length=m.length∧∀j,j<i→l.getD j default=m.getD j default)∧i≤l.length∧ss=[.val (ae aj.enc 7 l),.val (ae aj.enc 7 m),.val (.int .i64 ((l.length:Nat):Int)),.val (.int .i64 (i:Int))]
 | _,_=>False
omit [Env] [aZ] in
theorem aj.w7 {x y:aj} (h0:x.f0=y.f0) (h1:x.f1=y.f1) (h2:x.f2=y.f2) (h3:x.f3=y.f3):x=y:=by
 cases x;cases y;simp only at h0 h1 h2 h3;subst h0;subst h1;subst h2;subst h3;rfl
theorem WA (h:Z7 vs σ k):ag Tryz.prog 154 vs k σ:=by
 obtain⟨l,m,rfl,hs,h⟩:=h
 refine ag.bc (A:=fP (l=m)) (av (fg l) (av (fg m) aM)) fP.gK (F154.cf (live:=BF) (call:=F2) (n₀:=0) (σ:=Go.Ev.start) (fun h=>Kj h) rfl 1 (by kernel_rfl) Nat.lt_wfRel.wf (fun _ ss=>l.length-cb ss) (ahO l m) ?_ ?_ ?_) fun v ⟨b,hb,e⟩=>by subst e;exact h b hb
 ·intro k ss hI
  cases k with
  | zero=>obtain⟨i,_,_,rfl⟩:=hI;exact aN (fg l) (aN (fg m) (aG (aG bG)))
  | succ k=>exact hI.elim
 ·rw[ahB]
  refine⟨rfl,aq (fun h1=>iL fun e=>h1 (by rw[e])) fun h1=>⟨0,⟨by omega,fun j hj=>absurd hj (Nat.not_lt_zero j)⟩,by omega,rfl⟩⟩
 ·intro k hk ss hI
  obtain rfl:k=0:=by omega
  obtain⟨i,⟨hl,cH⟩,hi,rfl⟩:=hI
  rw[ahC]
  refine⟨rfl,aq (fun h1=>⟨⟨by omega,by omega⟩,⟨by omega,by omega⟩,?_⟩) fun h1=>zV (tL hl fun j hj=>cH j (by omega))⟩
  rw[dJ]
  have bad:∀ {p:Prop},(l.getD i default=m.getD i default→p)→¬p→fP (l=m) (.bool false):=fun h1 h2=>iL fun e=>h2 (h1 (by rw[e]))
  refine aq (fun g0=>⟨rfl,aq (fun g1=>aa.mk (fun g2=>⟨rfl,aq (fun g3=>⟨rfl,aq (fun g4=>⟨rfl,aq (fun g5=>aq (fun g6=>?_) fun g=>bad (fun e=>by rw[e]) g) fun g=>bad (fun e=>by rw[e]) g⟩) fun g=>bad (fun e=>by rw[e]) g⟩) fun g=>bad (fun e=>by rw[e]) g⟩) fun g=>bad (p:=(l.getD i default).f2=(m.getD i default).f2) (fun e=>by rw[e]) (by simpa using g)) fun g=>bad (fun e=>by rw[e]) g⟩) fun g=>bad (fun e=>by rw[e]) g
  rw[i64_in ((i:Int)+1) (by omega)]
  refine⟨⟨i+1,⟨hl,fun j hj=>?_⟩,by omega,rfl⟩,?_⟩
  ·by_cases ej:j=i
   ·subst ej;exact aj.w7 g0 g1 (by simpa using g2) (az.w7 g3 g4 g5 g6)
   ·exact cH j (by omega)
  ·show l.length-((i:Int)+1).toNat<l.length-(i:Int).toNat
   omega
theorem Kk:∀ {f:FuncId} {vs:List V} {σ:St} {k:ah},F3 f vs σ k→ag Tryz.prog f vs k σ:=fun h=>aH WA Kj h
omit [aZ] in
theorem fh (l:List (List UInt8)):Go.Ev.Clean (ae V.str 1 l):=dE fun x _=>aC (Go.Ev.Clean.str _) cJ
theorem aaP (h:W33 vs σ k):ag Tryz.prog 33 vs k σ:=by
 obtain⟨l,m,rfl,hs,h⟩:=h
 refine ag.bc (A:=fP (l=m)) (av (fh l) (av (fh m) aM)) fP.gK (F33.cf (live:=F4) (call:=F3) (n₀:=0) (σ:=Go.Ev.start) (fun h=>Kk h) rfl 1 (by kernel_rfl) Nat.lt_wfRel.wf (fun _ ss=>l.length-cb ss) (ZR V.str 1 l m) ?_ ?_ ?_) fun v ⟨b,hb,e⟩=>by subst e;exact h b hb
 ·intro k ss hI
  cases k with
  | zero=>obtain⟨i,_,_,rfl⟩:=hI;exact aN (fh l) (aN (fh m) (aG bG))
  | succ k=>exact hI.elim
 ·rw[e33]
  refine⟨rfl,aq (fun h1=>iL fun e=>h1 (by rw[e])) fun h1=>⟨0,⟨by omega,fun j hj=>absurd hj (Nat.not_lt_zero j)⟩,by omega,rfl⟩⟩
 ·intro k hk ss hI
  obtain rfl:k=0:=by omega
  obtain⟨i,⟨hl,cH⟩,hi,rfl⟩:=hI
  rw[r33]
  refine⟨rfl,aq (fun h1=>⟨⟨by omega,by omega⟩,⟨by omega,by omega⟩,aq (fun h2=>?_) fun h2=>?_⟩) fun h1=>zV (tL hl fun j hj=>cH j (by omega))⟩
  ·exact iL fun e=>h2 (by rw[e])
  ·rw[dJ] at h2
   rw[i64_in ((i:Int)+1) (by omega)]
   refine⟨⟨i+1,⟨hl,fun j hj=>?_⟩,by omega,rfl⟩,?_⟩
   ·by_cases ej:j=i
    ·subst ej;exact Decidable.not_not.1 h2
    ·exact cH j (by omega)
   ·show l.length-((i:Int)+1).toNat<l.length-(i:Int).toNat
    omega
theorem Kl:∀ {f:FuncId} {vs:List V} {σ:St} {k:ah},Mz f vs σ k→ag Tryz.prog f vs k σ:=fun h=>aH aaP Kk h
theorem WB (h:Z8 vs σ k):ag Tryz.prog 301 vs k σ:=by
 obtain⟨t,e,hf,h1,h2⟩:=h
 refine ag.nE hf (F301.ck (live:=J3) (call:=Mz) (fun h=>Kl h) (by kernel_rfl) ?_)
 rw[ahD]
 refine⟨rfl,aq (fun h3=>bd.fZ (.tuple (.cons .ak (.cons (.int _ _) .nil))) (h2 h3)) fun h3=>bd.pair (b:=1) (n:=1) (esz:=3) (g:=fun i=>af.enc ([t].getD i default)) (.slice (p:=true) (by rfl) (.inl ⟨rfl,by omega⟩) (fun _ _=>rfl) fun i hi=>?_) (.int _ _) (h1 (Decidable.not_not.1 h3))⟩
 obtain rfl:=Nat.lt_one_iff.1 hi
 exact⟨_,by rfl,g8 (af.clean t)⟩
theorem Km:∀ {f:FuncId} {vs:List V} {σ:St} {k:ah},MA f vs σ k→ag Tryz.prog f vs k σ:=fun h=>aH WB Kl h
end
end Go.Proofs.YtbajncpfmemdgaaGreatDoor
end
section
namespace Go.Proofs.YtbajncpfmemdgaaGreatDoor
open Go Go.Ev Go.IntWalk
section
variable [Env]
theorem F7 {τ:St}:ey τ .ak (ae V.str 1 []):=.kR (.empty _ _)
theorem ot {τ:St} {b m:Nat} {ex:Bool} {s:List UInt8} (h:τ.cells b 0 (1*1)=some [.str s]):ey τ (.slice b 0 1 m ex 1) (ae V.str 1 [s]):=
 .kR (.slice (es:=[.str s]) h (.cons (.str _) .nil) (fun v hv=>by rw[List.mem_singleton.1 hv];rfl) rfl)
theorem Pc {τ:St} {b m:Nat} {ex:Bool} {s t:List UInt8} (h:τ.cells b 0 (2*1)=some [.str s,.str t]):ey τ (.slice b 0 2 m ex 1) (ae V.str 1 [s,t]):=
 .kR (.slice (es:=[.str s,.str t]) h (.cons (.str _) (.cons (.str _) .nil)) (fun v hv=>by
  rcases List.mem_cons.1 hv with rfl | hv
  ·rfl
  ·rw[List.mem_singleton.1 hv];rfl) rfl)
variable [aZ] {vs:List V} {σ:St} {k:ah}
theorem WC (h:Z9 vs σ k):ag Tryz.prog 299 vs k σ:=by
 obtain⟨c,rfl,h⟩:=h
 refine ag.aQ (av c.aJ aM) (F299.ck (live:=J4) (call:=MA) (fun h=>Km h) (by kernel_rfl) ?_)
 rw[ahE]
 exact bd.fZ F7 h
theorem Kn:∀ {f:FuncId} {vs:List V} {σ:St} {k:ah},MB f vs σ k→ag Tryz.prog f vs k σ:=fun h=>aH WC Km h
theorem WD (h:aaa vs σ k):ag Tryz.prog 302 vs k σ:=by
 obtain⟨c,rfl,h⟩:=h
 refine ag.aQ (av c.aJ aM) (F302.ck (live:=J5) (call:=MB) (fun h=>Kn h) (by kernel_rfl) ?_)
 rw[ahF]
 exact bd.fZ (ot (by rfl)) h
theorem Ko:∀ {f:FuncId} {vs:List V} {σ:St} {k:ah},MC f vs σ k→ag Tryz.prog f vs k σ:=fun h=>aH WD Kn h
theorem WG (h:aab vs σ k):ag Tryz.prog 305 vs k σ:=by
 obtain⟨c,rfl,h⟩:=h
 refine ag.aQ (av c.aJ aM) (F305.ck (live:=J6) (call:=MC) (fun h=>Ko h) (by kernel_rfl) ?_)
 rw[ahG]
 exact bd.fZ (ot (by rfl)) h
theorem Kp:∀ {f:FuncId} {vs:List V} {σ:St} {k:ah},MD f vs σ k→ag Tryz.prog f vs k σ:=fun h=>aH WG Ko h
theorem WH (h:aac vs σ k):ag Tryz.prog 308 vs k σ:=by
 obtain⟨c,rfl,h⟩:=h
 refine ag.aQ (av c.aJ aM) (F308.ck (live:=J7) (call:=MD) (fun h=>Kp h) (by kernel_rfl) ?_)
 rw[ahH]
 exact bd.fZ (ot (by rfl)) h
theorem Kq:∀ {f:FuncId} {vs:List V} {σ:St} {k:ah},ME f vs σ k→ag Tryz.prog f vs k σ:=fun h=>aH WH Kp h
theorem WI (h:aad vs σ k):ag Tryz.prog 310 vs k σ:=by
 obtain⟨c,rfl,h⟩:=h
 refine ag.aQ (av c.aJ aM) (F310.ck (live:=J8) (call:=ME) (fun h=>Kq h) (by kernel_rfl) ?_)
 rw[ahI]
 exact bd.fZ (ot (by rfl)) h
theorem F8:∀ {f:FuncId} {vs:List V} {σ:St} {k:ah},Dk f vs σ k→ag Tryz.prog f vs k σ:=fun h=>aH WI Kq h
theorem WJ (h:aae vs σ k):ag Tryz.prog 313 vs k σ:=by
 obtain⟨c,rfl,h⟩:=h
 refine ag.aQ (av c.aJ aM) (F313.ck (live:=J9) (call:=Dk) (fun h=>F8 h) (by kernel_rfl) ?_)
 rw[ahJ]
 exact bd.fZ (Pc (by rfl)) h
theorem F9:∀ {f:FuncId} {vs:List V} {σ:St} {k:ah},Dl f vs σ k→ag Tryz.prog f vs k σ:=fun h=>aH WJ F8 h
theorem aaQ (h:W71 vs σ k):ag Tryz.prog 71 vs k σ:=by
 obtain⟨c,rfl,h1,h2,h3,h4,h5,h6,h7⟩:=h
 refine ag.aQ (av c.aJ aM) (F71.ck (live:=O7) (call:=Dl) (fun h=>F9 h) (by kernel_rfl) ?_)
 rw[e71]
 refine⟨rfl,aq (fun h=>bd.fZ (.iface (.clean c.aJ)) (h1 h)) fun g1=>⟨rfl,aq (fun h=>bd.fZ (.iface (.clean c.aJ)) (h2 h)) fun g2=>⟨rfl,aq (fun h=>bd.fZ (.iface (.clean c.aJ)) (h3 h)) fun g3=>
  ⟨rfl,aq (fun h=>bd.fZ (.iface (.clean c.aJ)) (h4 h)) fun g4=>⟨rfl,aq (fun h=>bd.fZ (.iface (.clean c.aJ)) (h5 h)) fun g5=>⟨rfl,aq (fun h=>bd.fZ (.iface (.clean c.aJ)) (h6 h)) fun g6=>bd.fZ .bh (h7 (by omega))⟩⟩⟩⟩⟩⟩
theorem Ga:∀ {f:FuncId} {vs:List V} {σ:St} {k:ah},pe f vs σ k→ag Tryz.prog f vs k σ:=fun h=>aH aaQ F9 h
set_option maxRecDepth 100000 in
theorem aaR (h:W72 vs σ k):ag Tryz.prog 72 vs k σ:=by
 unfold W72 at h
 split at h
 ·rename_i t v
  obtain⟨c,hv,ht,h⟩:=h
  obtain rfl:v=an.enc c:=by cases hv;rfl
  refine ag.cj (av (Go.Ev.Clean.iface c.aJ) aM) (.bool _) (F72.flat (live:=qh) (call:=pe) (n₀:=0) (σ:=Go.Ev.start) (fun h=>Ga h) rfl (by kernel_rfl) ?_) h
  rcases ht with rfl | rfl | rfl | rfl | rfl | rfl
  ·rw[acS];rfl
  ·rw[acT];rfl
  ·rw[acU];rfl
  ·rw[acV];rfl
  ·rw[acW];rfl
  ·rw[acX];rfl
 ·exact h.elim
theorem Gb:∀ {f:FuncId} {vs:List V} {σ:St} {k:ah},Dm f vs σ k→ag Tryz.prog f vs k σ:=fun h=>aH aaR Ga h
omit [Env] [aZ] in
theorem Pd {c:an} (h:c.f0=1):bt c=[]:=by
 have h6:¬c.f0=6:=by omega
 have h7:¬(2≤c.f0∧c.f0≤5):=by omega
 unfold bt;rw[if_neg h6,if_neg h7]
omit [Env] [aZ] in
theorem aaS {c:an} (h:c.f0<1∨6<c.f0):bt c=[]:=by
 have h6:¬c.f0=6:=by omega
 have h7:¬(2≤c.f0∧c.f0≤5):=by omega
 unfold bt;rw[if_neg h6,if_neg h7]
omit [Env] [aZ] in
theorem lA {c:an} (h:2≤c.f0∧c.f0≤5):bt c=[c.f1]:=by
 have h6:¬c.f0=6:=by omega
 unfold bt;rw[if_neg h6,if_pos h]
omit [Env] [aZ] in
theorem qi {c:an} (h:c.f0=6):bt c=[c.f1,c.f2]:=by unfold bt;rw[if_pos h]
omit [aZ] in
theorem xb {c:an} {l:List (List UInt8)} {τ:St} (h:k (ae V.str 1 (bt c)) σ) (hl:bt c=l):bd σ k (ae V.str 1 l) τ:=bd.fZ (.clean (fh l)) (by rw[←hl];exact h)
theorem aaT (h:W34 vs σ k):ag Tryz.prog 34 vs k σ:=by
 obtain⟨c,rfl,h⟩:=h
 refine ag.aQ (av c.aJ aM) (F34.ck (live:=O8) (call:=Dm) (fun h=>Gb h) (by kernel_rfl) ?_)
 rw[e34]
 exact⟨c,rfl,fun g=>⟨c,rfl,xb h (Pd g)⟩,fun g=>⟨c,rfl,xb h (lA (by omega))⟩,fun g=>⟨c,rfl,xb h (lA (by omega))⟩,fun g=>⟨c,rfl,xb h (lA (by omega))⟩,fun g=>⟨c,rfl,xb h (lA (by omega))⟩,fun g=>⟨c,rfl,xb h (qi g)⟩,fun g=>bd.fZ F7 (by rw[←aaS g];exact h)⟩
theorem Gc:∀ {f:FuncId} {vs:List V} {σ:St} {k:ah},Dn f vs σ k→ag Tryz.prog f vs k σ:=fun h=>aH aaT Gb h
theorem aaU (h:W35 vs σ k):ag Tryz.prog 35 vs k σ:=by
 obtain⟨c,rfl,h⟩:=h
 refine ag.aQ (av c.aJ aM) (F35.ck (live:=O9) (call:=Dn) (fun h=>Gc h) (by kernel_rfl) ?_)
 rw[Uz]
 have one:2≤c.f0∧c.f0≤5→k (ae V.str 1 [c.f1]) σ:=fun g=>by rw[←lA g];exact h
 refine⟨rfl,aq (fun g=>bd.fZ (ot (by rfl)) (one (by omega))) fun g1=>⟨rfl,aq (fun g=>bd.fZ (ot (by rfl)) (one (by omega))) fun g2=>⟨rfl,aq (fun g=>bd.fZ (ot (by rfl)) (one (by omega))) fun g3=>⟨rfl,aq (fun g=>bd.fZ (ot (by rfl)) (one (by omega))) fun g4=>
  ⟨rfl,aq (fun g=>bd.fZ (Pc (by rfl)) (by rw[←qi g];exact h)) fun g5=>bd.fZ F7 ?_⟩⟩⟩⟩⟩
 have:bt c=[]:=by unfold bt;rw[if_neg g5,if_neg (by omega)]
 rw[←this];exact h
theorem Gd:∀ {f:FuncId} {vs:List V} {σ:St} {k:ah},Dp f vs σ k→ag Tryz.prog f vs k σ:=fun h=>aH aaU Gc h
end
end Go.Proofs.YtbajncpfmemdgaaGreatDoor
end
section
namespace Go.Proofs.YtbajncpfmemdgaaGreatDoor
open Go Go.Ev
def Kr:Nat→List Nat:=(fun _=>[])
theorem ahP [Env] (A:Nat→List SV→Prop) (Q:V→St→Prop) (c:an) (l:List af):WE Tryz.prog 300 Tryz.f300 Dp 0 Kr A Q [an.enc c,ae af.enc 3 l] Go.Ev.start=
  ((∃Si:af,[.agg (af.cells c.f9)]=[af.enc Si]∧ga Si∧aa (V.beq (.agg (af.cells c.f9)) (.agg (af.cells c.f9))&&true) ((∃(aaV:af) (Bq:Int),bH ⟨(St.new Go.Ev.start 0 (.cells 18 [] (ai (an.cells c) .leaf 0) true false)).heap,11⟩ [.agg (af.cells c.f9),.int .i64 (bR Si)] [af.enc aaV,.int .i64 Bq]∧(Bq=0→Q (.tuple [.own 11 (1) 3,.int .i64 (0:Int)]) ⟨(St.new Go.Ev.start 11 (.row (1) (fun i=>af.enc (([aaV]).getD i default)) 3 false)).heap,12⟩)∧(Bq≠0→Q (.tuple [.ak,.int .i64 Bq]) ⟨Go.Ev.start.heap,11⟩))) False)):=by kernel_rfl
def aaW [Env] (vs:List V) (σ:St) (k:ah):Prop:=
 ∃(c:an) (l:List af),bH σ vs [an.enc c,ae af.enc 3 l]∧(gL c∧c.f0=1∧c.f7.length≤1000000∧0≤l.length∧l.length≤16∧∀t∈l,e8 t∧bR t=0)∧(kE c (l.getD 0 default) (l.getD 1 default)=0→k (.tuple [.own σ.next (kT c (l.getD 0 default)).length 3,.int .i64 0]) ((void σ.next).new σ.next (.row (kT c (l.getD 0 default)).length (fun i=>af.enc ((kT c (l.getD 0 default)).getD i default)) 3 false)))∧(kE c (l.getD 0 default) (l.getD 1 default)≠0→k (.tuple [.ak,.int .i64 (kE c (l.getD 0 default) (l.getD 1 default))]) (void σ.next))
def zX [Env]:=kS 300 aaW Dp
def BI:Nat→List Nat:=(fun _=>[])
abbrev Sj [Env] (A:Nat→List SV→Prop) (Q:V→St→Prop) (c:an) (l:List af) (p0:Int):Prop:=
 (∃b0:List aj,[ae aj.enc 7 ((l.getD 0 default).f2)]=[ae aj.enc 7 b0]∧(0<b0.length∧b0.length≤1000)∧aa (V.beq (.agg [.str c.f8.f0,.int .i64 c.f8.f1,.bool false,.int .i64 c.f8.f3.f0,.int .i64 c.f8.f3.f1,.int .u64 c.f8.f3.f2,.str c.f8.f3.f3]) (.agg [.str c.f8.f0,.int .i64 c.f8.f1,.bool false,.int .i64 c.f8.f3.f0,.int .i64 c.f8.f3.f1,.int .u64 c.f8.f3.f2,.str c.f8.f3.f3])&&true) (((b0.length=b0.length∧(b0.length+1)*72≤1099511627776)∧(∃(b1:af) (b2:Int),bH ⟨(St.kill (St.new (St.new (St.new (St.new Go.Ev.start 0 (.cells 18 [] (ai [.int .i64 c.f0,.str c.f1,.str c.f2,.str c.f3,.str c.f4,.str c.f5,.int .i64 c.f6,ae V.str 1 c.f7,.str c.f8.f0,.int .i64 c.f8.f1,.bool false,.int .i64 c.f8.f3.f0,.int .i64 c.f8.f3.f1,.int .u64 c.f8.f3.f2,.str c.f8.f3.f3,.str c.f9.f0,.int .i64 c.f9.f1,ae aj.enc 7 c.f9.f2] .leaf 0) true false)) 1 (.cells 3 [] (ai [.str ((l.getD 0 default).f0),.int .i64 ((l.getD 0 default).f1),.own 8 (b0.length+1) 7] .leaf 0) true false)) 7 (.cells 7 [] (ai [.str c.f8.f0,.int .i64 c.f8.f1,.bool false,.int .i64 c.f8.f3.f0,.int .i64 c.f8.f3.f1,.int .u64 c.f8.f3.f2,.str c.f8.f3.f3] .leaf 0) true false)) 8 (.row (b0.length+1) (dL b0.length (fun i=>aj.enc (b0.getD i default)) (fun _=>.agg [.str c.f8.f0,.int .i64 c.f8.f1,.bool false,.int .i64 c.f8.f3.f0,.int .i64 c.f8.f3.f1,.int .u64 c.f8.f3.f2,.str c.f8.f3.f3])) 7 false)) 11).heap,12⟩ [.agg [.str ((l.getD 0 default).f0),.int .i64 ((l.getD 0 default).f1),.own 8 (b0.length+1) 7],.int .i64 (p0:Int)] [af.enc b1,.int .i64 b2]∧(b2=0→Q (.tuple [.own 12 (1) 3,.int .i64 (0:Int)]) ⟨(St.new Go.Ev.start 12 (.row (1) (fun i=>af.enc (([b1]).getD i default)) 3 false)).heap,13⟩)∧(b2≠0→Q (.tuple [.ak,.int .i64 b2]) ⟨Go.Ev.start.heap,12⟩)))) False)
abbrev aaX [Env] (A:Nat→List SV→Prop) (Q:V→St→Prop) (c:an) (l:List af) (p0:aj):Prop:=
 (∃b0:List aj,[ae aj.enc 7 ((l.getD 0 default).f2)]=[ae aj.enc 7 b0]∧(0<b0.length∧b0.length≤1000)∧aa (V.beq (.agg [.str c.f8.f0,.int .i64 c.f8.f1,.bool false,.int .i64 c.f8.f3.f0,.int .i64 c.f8.f3.f1,.int .u64 c.f8.f3.f2,.str c.f8.f3.f3]) (.agg [.str c.f8.f0,.int .i64 c.f8.f1,.bool false,.int .i64 c.f8.f3.f0,.int .i64 c.f8.f3.f1,.int .u64 c.f8.f3.f2,.str c.f8.f3.f3])&&true) (((b0.length=b0.length∧(b0.length+1)*72≤1099511627776)∧(∃(b1:af) (b2:Int),bH ⟨(St.kill (St.new (St.new (St.new (St.new Go.Ev.start 0 (.cells 18 [] (ai [.int .i64 c.f0,.str c.f1,.str c.f2,.str c.f3,.str c.f4,.str c.f5,.int .i64 c.f6,ae V.str 1 c.f7,.str c.f8.f0,.int .i64 c.f8.f1,.bool false,.int .i64 c.f8.f3.f0,.int .i64 c.f8.f3.f1,.int .u64 c.f8.f3.f2,.str c.f8.f3.f3,.str c.f9.f0,.int .i64 c.f9.f1,ae aj.enc 7 c.f9.f2] .leaf 0) true false)) 1 (.cells 3 [] (ai [.str ((l.getD 0 default).f0),.int .i64 ((l.getD 0 default).f1),.own 8 (b0.length+1) 7] .leaf 0) true false)) 7 (.cells 7 [] (ai [.str c.f8.f0,.int .i64 c.f8.f1,.bool false,.int .i64 c.f8.f3.f0,.int .i64 c.f8.f3.f1,.int .u64 c.f8.f3.f2,.str c.f8.f3.f3] .leaf 0) true false)) 8 (.row (b0.length+1) (dL b0.length (fun i=>aj.enc (b0.getD i default)) (fun _=>.agg [.str c.f8.f0,.int .i64 c.f8.f1,.bool false,.int .i64 c.f8.f3.f0,.int .i64 c.f8.f3.f1,.int .u64 c.f8.f3.f2,.str c.f8.f3.f3])) 7 false)) 11).heap,12⟩ [.agg [.str ((l.getD 0 default).f0),.int .i64 ((l.getD 0 default).f1),.own 8 (b0.length+1) 7],.int .i64 (bO p0)] [af.enc b1,.int .i64 b2]∧(b2=0→Q (.tuple [.own 12 (1) 3,.int .i64 (0:Int)]) ⟨(St.new Go.Ev.start 12 (.row (1) (fun i=>af.enc (([b1]).getD i default)) 3 false)).heap,13⟩)∧(b2≠0→Q (.tuple [.ak,.int .i64 b2]) ⟨Go.Ev.start.heap,12⟩)))) False)
abbrev aaY [Env] (A:Nat→List SV→Prop) (Q:V→St→Prop) (c:an) (l:List af) (p0:aj):Prop:=
 (∃b0:List aj,[ae aj.enc 7 ((l.getD 0 default).f2)]=[ae aj.enc 7 b0]∧(0<b0.length∧b0.length≤1000)∧aa (V.beq (.agg [.str c.f8.f0,.int .i64 c.f8.f1,.bool true,.int .i64 c.f8.f3.f0,.int .i64 c.f8.f3.f1,.int .u64 c.f8.f3.f2,.str c.f8.f3.f3]) (.agg [.str c.f8.f0,.int .i64 c.f8.f1,.bool true,.int .i64 c.f8.f3.f0,.int .i64 c.f8.f3.f1,.int .u64 c.f8.f3.f2,.str c.f8.f3.f3])&&true) (((b0.length=b0.length∧(b0.length+1)*72≤1099511627776)∧(∃(b1:af) (b2:Int),bH ⟨(St.kill (St.new (St.new (St.new (St.new Go.Ev.start 0 (.cells 18 [] (ai [.int .i64 c.f0,.str c.f1,.str c.f2,.str c.f3,.str c.f4,.str c.f5,.int .i64 c.f6,ae V.str 1 c.f7,.str c.f8.f0,.int .i64 c.f8.f1,.bool true,.int .i64 c.f8.f3.f0,.int .i64 c.f8.f3.f1,.int .u64 c.f8.f3.f2,.str c.f8.f3.f3,.str c.f9.f0,.int .i64 c.f9.f1,ae aj.enc 7 c.f9.f2] .leaf 0) true false)) 1 (.cells 3 [] (ai [.str ((l.getD 0 default).f0),.int .i64 ((l.getD 0 default).f1),.own 8 (b0.length+1) 7] .leaf 0) true false)) 7 (.cells 7 [] (ai [.str c.f8.f0,.int .i64 c.f8.f1,.bool true,.int .i64 c.f8.f3.f0,.int .i64 c.f8.f3.f1,.int .u64 c.f8.f3.f2,.str c.f8.f3.f3] .leaf 0) true false)) 8 (.row (b0.length+1) (dL b0.length (fun i=>aj.enc (b0.getD i default)) (fun _=>.agg [.str c.f8.f0,.int .i64 c.f8.f1,.bool true,.int .i64 c.f8.f3.f0,.int .i64 c.f8.f3.f1,.int .u64 c.f8.f3.f2,.str c.f8.f3.f3])) 7 false)) 11).heap,12⟩ [.agg [.str ((l.getD 0 default).f0),.int .i64 ((l.getD 0 default).f1),.own 8 (b0.length+1) 7],.int .i64 (bO p0)] [af.enc b1,.int .i64 b2]∧(b2=0→Q (.tuple [.own 12 (1) 3,.int .i64 (0:Int)]) ⟨(St.new Go.Ev.start 12 (.row (1) (fun i=>af.enc (([b1]).getD i default)) 3 false)).heap,13⟩)∧(b2≠0→Q (.tuple [.ak,.int .i64 b2]) ⟨Go.Ev.start.heap,12⟩)))) False)
abbrev aaZ [Env] (A:Nat→List SV→Prop) (Q:V→St→Prop) (c:an) (l:List af) (p0:Int):Prop:=
 (∃b0:List aj,[ae aj.enc 7 ((l.getD 0 default).f2)]=[ae aj.enc 7 b0]∧(0<b0.length∧b0.length≤1000)∧aa (V.beq (.agg [.str c.f8.f0,.int .i64 c.f8.f1,.bool true,.int .i64 c.f8.f3.f0,.int .i64 c.f8.f3.f1,.int .u64 c.f8.f3.f2,.str c.f8.f3.f3]) (.agg [.str c.f8.f0,.int .i64 c.f8.f1,.bool true,.int .i64 c.f8.f3.f0,.int .i64 c.f8.f3.f1,.int .u64 c.f8.f3.f2,.str c.f8.f3.f3])&&true) (((b0.length=b0.length∧(b0.length+1)*72≤1099511627776)∧(∃(b1:af) (b2:Int),bH ⟨(St.kill (St.new (St.new (St.new (St.new Go.Ev.start 0 (.cells 18 [] (ai [.int .i64 c.f0,.str c.f1,.str c.f2,.str c.f3,.str c.f4,.str c.f5,.int .i64 c.f6,ae V.str 1 c.f7,.str c.f8.f0,.int .i64 c.f8.f1,.bool true,.int .i64 c.f8.f3.f0,.int .i64 c.f8.f3.f1,.int .u64 c.f8.f3.f2,.str c.f8.f3.f3,.str c.f9.f0,.int .i64 c.f9.f1,ae aj.enc 7 c.f9.f2] .leaf 0) true false)) 1 (.cells 3 [] (ai [.str ((l.getD 0 default).f0),.int .i64 ((l.getD 0 default).f1),.own 8 (b0.length+1) 7] .leaf 0) true false)) 7 (.cells 7 [] (ai [.str c.f8.f0,.int .i64 c.f8.f1,.bool true,.int .i64 c.f8.f3.f0,.int .i64 c.f8.f3.f1,.int .u64 c.f8.f3.f2,.str c.f8.f3.f3] .leaf 0) true false)) 8 (.row (b0.length+1) (dL b0.length (fun i=>aj.enc (b0.getD i default)) (fun _=>.agg [.str c.f8.f0,.int .i64 c.f8.f1,.bool true,.int .i64 c.f8.f3.f0,.int .i64 c.f8.f3.f1,.int .u64 c.f8.f3.f2,.str c.f8.f3.f3])) 7 false)) 11).heap,12⟩ [.agg [.str ((l.getD 0 default).f0),.int .i64 ((l.getD 0 default).f1),.own 8 (b0.length+1) 7],.int .i64 (p0:Int)] [af.enc b1,.int .i64 b2]∧(b2=0→Q (.tuple [.own 12 (1) 3,.int .i64 (0:Int)]) ⟨(St.new Go.Ev.start 12 (.row (1) (fun i=>af.enc (([b1]).getD i default)) 3 false)).heap,13⟩)∧(b2≠0→Q (.tuple [.ak,.int .i64 b2]) ⟨Go.Ev.start.heap,12⟩)))) False)
theorem acY [Env] (A:Nat→List SV→Prop) (Q:V→St→Prop) (c:an) (l:List af):WE Tryz.prog 303 Tryz.f303 zX 0 BI A Q [.agg [.int .i64 c.f0,.str c.f1,.str c.f2,.str c.f3,.str c.f4,.str c.f5,.int .i64 c.f6,ae V.str 1 c.f7,.str c.f8.f0,.int .i64 c.f8.f1,.bool true,.int .i64 c.f8.f3.f0,.int .i64 c.f8.f3.f1,.int .u64 c.f8.f3.f2,.str c.f8.f3.f3,.str c.f9.f0,.int .i64 c.f9.f1,ae aj.enc 7 c.f9.f2],ae af.enc 3 l] Go.Ev.start=
  (((0≤(0:Int)∧(0:Int)<((l.length:Nat):Int))∧(∃Ge:aj,[.agg [.str c.f8.f0,.int .i64 c.f8.f1,.bool true,.int .i64 c.f8.f3.f0,.int .i64 c.f8.f3.f1,.int .u64 c.f8.f3.f2,.str c.f8.f3.f3]]=[aj.enc Ge]∧mW Ge∧((.i64:IntKind)=.i64∧aa (decide ((bO Ge)≠(0:Int))) ((aaY A Q c l Ge)) ((∃(Sk:af) (aa0:List UInt8),[.agg (af.cells (l.getD 0 default)),.str c.f8.f0]=[af.enc Sk,.str aa0]∧Sk.f2.length≤1000∧((.i64:IntKind)=.i64∧aa (decide ((aB Sk aa0)≥(0:Int))) ((aaZ A Q c l 12)) (((.i64:IntKind)=.i64∧aa (decide ((((((l.getD 0 default).f2).length:Nat):Int))≥(8:Int))) ((aaZ A Q c l 2)) ((aaY A Q c l Ge))))))))))):=by kernel_rfl
theorem acZ [Env] (A:Nat→List SV→Prop) (Q:V→St→Prop) (c:an) (l:List af):WE Tryz.prog 303 Tryz.f303 zX 0 BI A Q [.agg [.int .i64 c.f0,.str c.f1,.str c.f2,.str c.f3,.str c.f4,.str c.f5,.int .i64 c.f6,ae V.str 1 c.f7,.str c.f8.f0,.int .i64 c.f8.f1,.bool false,.int .i64 c.f8.f3.f0,.int .i64 c.f8.f3.f1,.int .u64 c.f8.f3.f2,.str c.f8.f3.f3,.str c.f9.f0,.int .i64 c.f9.f1,ae aj.enc 7 c.f9.f2],ae af.enc 3 l] Go.Ev.start=
  (((0≤(0:Int)∧(0:Int)<((l.length:Nat):Int))∧(∃Gf:aj,[.agg [.str c.f8.f0,.int .i64 c.f8.f1,.bool false,.int .i64 c.f8.f3.f0,.int .i64 c.f8.f3.f1,.int .u64 c.f8.f3.f2,.str c.f8.f3.f3]]=[aj.enc Gf]∧mW Gf∧((.i64:IntKind)=.i64∧aa (decide ((bO Gf)≠(0:Int))) ((aaX A Q c l Gf)) ((∃(Sl:af) (aa1:List UInt8),[.agg (af.cells (l.getD 0 default)),.str c.f8.f0]=[af.enc Sl,.str aa1]∧Sl.f2.length≤1000∧((.i64:IntKind)=.i64∧aa (decide ((aB Sl aa1)≥(0:Int))) ((Sj A Q c l 12)) (((.i64:IntKind)=.i64∧aa (decide ((((((l.getD 0 default).f2).length:Nat):Int))≥(8:Int))) ((Sj A Q c l 2)) (((.i64:IntKind)=.i64∧aa (decide (c.f8.f3.f0=(0:Int))) ((Sj A Q c l 11)) ((aaX A Q c l Gf))))))))))))):=by kernel_rfl
def aa2 [Env] (vs:List V) (σ:St) (k:ah):Prop:=
 ∃(c:an) (l:List af),bH σ vs [an.enc c,ae af.enc 3 l]∧(gL c∧c.f0=2∧c.f7.length≤1000000∧1≤l.length∧l.length≤16∧∀t∈l,e8 t∧bR t=0)∧(kE c (l.getD 0 default) (l.getD 1 default)=0→k (.tuple [.own σ.next (kT c (l.getD 0 default)).length 3,.int .i64 0]) ((void σ.next).new σ.next (.row (kT c (l.getD 0 default)).length (fun i=>af.enc ((kT c (l.getD 0 default)).getD i default)) 3 false)))∧(kE c (l.getD 0 default) (l.getD 1 default)≠0→k (.tuple [.ak,.int .i64 (kE c (l.getD 0 default) (l.getD 1 default))]) (void σ.next))
def Dq [Env]:=kS 303 aa2 zX
def Ks:Nat→List Nat:=(fun _=>[])
theorem ahQ [Env] (A:Nat→List SV→Prop) (Q:V→St→Prop) (c:an) (l:List af):WE Tryz.prog 306 Tryz.f306 Dq 0 Ks A Q [an.enc c,ae af.enc 3 l] Go.Ev.start=
  (((0≤(0:Int)∧(0:Int)<((l.length:Nat):Int))∧(∃(Gg:af) (MG:List UInt8),[.agg (af.cells (l.getD 0 default)),.str c.f5]=[af.enc Gg,.str MG]∧Gg.f2.length≤1000∧((.i64:IntKind)=.i64∧aa (decide ((aB Gg MG)<((l.getD 0 default).f1))) (Q (.tuple [.ak,.int .i64 (10:Int)]) ⟨(St.new (St.new Go.Ev.start 0 (.cells 18 [] (ai (an.cells c) .leaf 0) true false)) 1 (.cells 3 [] (ai (af.cells (l.getD 0 default)) .leaf 0) true false)).heap,2⟩) ((∃BJ:List aj,[ae aj.enc 7 ((l.getD 0 default).f2)]=[ae aj.enc 7 BJ]∧(0<BJ.length∧BJ.length≤1000)∧(∃(yp:List aj) (Gh:Nat),(BJ.length=yp.length∧(aB Gg MG)=Gh∧(IntKind.i64.wrap ((aB Gg MG)+(1:Int)))=(Gh:Int)+1)∧(⟨(St.new (St.new (St.new Go.Ev.start 0 (.cells 18 [] (ai (an.cells c) .leaf 0) true false)) 1 (.cells 3 [] (ai (af.cells (l.getD 0 default)) .leaf 0) true false)) 2 (.row BJ.length (fun i=>aj.enc (BJ.getD i default)) 7 false)).heap,3⟩:St).heap.get 2=some (.row yp.length (fun j=>aj.enc (yp.getD j default)) 7 false)∧(0<Gh∧Gh<yp.length∧yp.length≤8)∧∀MH aa3,bu MH aa3 (br (fun j=>decide (j≠Gh)) (fun j=>yp.getD j default) yp.length)→(∃(aa4:af) (MI:Int),bH ⟨(St.new (St.new (St.new Go.Ev.start 0 (.cells 18 [] (ai (an.cells c) .leaf 0) true false)) 1 (.cells 3 [] (ai [.str ((l.getD 0 default).f0),.int .i64 ((l.getD 0 default).f1),.own 3 MH 7] .leaf 0) true false)) 3 (.row MH aa3 7 false)).heap,4⟩ [.agg [.str ((l.getD 0 default).f0),.int .i64 ((l.getD 0 default).f1),.own 3 MH 7],.int .i64 (0:Int)] [af.enc aa4,.int .i64 MI]∧(MI=0→Q (.tuple [.own 4 (1) 3,.int .i64 (0:Int)]) ⟨(St.new Go.Ev.start 4 (.row (1) (fun i=>af.enc (([aa4]).getD i default)) 3 false)).heap,5⟩)∧(MI≠0→Q (.tuple [.ak,.int .i64 MI]) ⟨Go.Ev.start.heap,4⟩))))))))):=by kernel_rfl
def aa5 [Env] (vs:List V) (σ:St) (k:ah):Prop:=
 ∃(c:an) (l:List af),bH σ vs [an.enc c,ae af.enc 3 l]∧(gL c∧c.f0=3∧c.f7.length≤1000000∧1≤l.length∧l.length≤16∧∀t∈l,e8 t∧bR t=0)∧(kE c (l.getD 0 default) (l.getD 1 default)=0→k (.tuple [.own σ.next (kT c (l.getD 0 default)).length 3,.int .i64 0]) ((void σ.next).new σ.next (.row (kT c (l.getD 0 default)).length (fun i=>af.enc ((kT c (l.getD 0 default)).getD i default)) 3 false)))∧(kE c (l.getD 0 default) (l.getD 1 default)≠0→k (.tuple [.ak,.int .i64 (kE c (l.getD 0 default) (l.getD 1 default))]) (void σ.next))
def Dr [Env]:=kS 306 aa5 Dq
def Kt:Nat→List Nat:=(fun _=>[])
abbrev Sm [Env] (A:Nat→List SV→Prop) (Q:V→St→Prop) (c:an) (l:List af):Prop:=
 (∃b0:List aj,[ae aj.enc 7 ((l.getD 0 default).f2)]=[ae aj.enc 7 b0]∧(0<b0.length∧b0.length≤1000)∧aa (V.beq (.str c.f3) (.str c.f3)&&true) ((∃(b1:af) (b2:Int),bH ⟨(St.new (St.new (St.new Go.Ev.start 0 (.cells 18 [] (ai (an.cells c) .leaf 0) true false)) 1 (.cells 3 [] (ai [.str c.f3,.int .i64 ((l.getD 0 default).f1),.own 32 b0.length 7] .leaf 0) true false)) 32 (.row b0.length (fun i=>aj.enc (b0.getD i default)) 7 false)).heap,33⟩ [.agg [.str c.f3,.int .i64 ((l.getD 0 default).f1),.own 32 b0.length 7],.int .i64 (aK c.f3)] [af.enc b1,.int .i64 b2]∧(b2=0→Q (.tuple [.own 33 (1) 3,.int .i64 (0:Int)]) ⟨(St.new Go.Ev.start 33 (.row (1) (fun i=>af.enc (([b1]).getD i default)) 3 false)).heap,34⟩)∧(b2≠0→Q (.tuple [.ak,.int .i64 b2]) ⟨Go.Ev.start.heap,33⟩))) False)
abbrev Sn [Env] (A:Nat→List SV→Prop) (Q:V→St→Prop) (c:an) (l:List af):Prop:=
 (∃b0:List aj,[ae aj.enc 7 ((l.getD 0 default).f2)]=[ae aj.enc 7 b0]∧(0<b0.length∧b0.length≤1000)∧aa (V.beq (.str c.f3) (.str c.f3)&&true) ((∃(b1:af) (b2:Int),bH ⟨(St.new (St.new (St.new Go.Ev.start 0 (.cells 18 [] (ai (an.cells c) .leaf 0) true false)) 1 (.cells 3 [] (ai [.str c.f3,.int .i64 ((l.getD 0 default).f1),.own 32 b0.length 7] .leaf 0) true false)) 32 (.row b0.length (fun i=>aj.enc (b0.getD i default)) 7 false)).heap,33⟩ [.agg [.str c.f3,.int .i64 ((l.getD 0 default).f1),.own 32 b0.length 7],.int .i64 (11:Int)] [af.enc b1,.int .i64 b2]∧(b2=0→Q (.tuple [.own 33 (1) 3,.int .i64 (0:Int)]) ⟨(St.new Go.Ev.start 33 (.row (1) (fun i=>af.enc (([b1]).getD i default)) 3 false)).heap,34⟩)∧(b2≠0→Q (.tuple [.ak,.int .i64 b2]) ⟨Go.Ev.start.heap,33⟩))) False)
theorem ahR [Env] (A:Nat→List SV→Prop) (Q:V→St→Prop) (c:an) (l:List af):WE Tryz.prog 314 Tryz.f314 Dr 0 Kt A Q [an.enc c,ae af.enc 3 l] Go.Ev.start=
  (aa (decide (c.f1=c.f2)) (Q (.tuple [.ak,.int .i64 (12:Int)]) ⟨(St.new Go.Ev.start 0 (.cells 18 [] (ai (an.cells c) .leaf 0) true false)).heap,1⟩) (((0≤(0:Int)∧(0:Int)<((l.length:Nat):Int))∧((.i64:IntKind)=.i64∧aa (decide ((aK c.f3)=(0:Int))) (((0≤(1:Int)∧(1:Int)<((l.length:Nat):Int))∧((.i64:IntKind)=.i64∧aa (decide (((l.getD 0 default).f1)≠((l.getD 1 default).f1))) ((Sn A Q c l)) (((0≤(1:Int)∧(1:Int)<((l.length:Nat):Int))∧(∃So aa6:List aj,[ae aj.enc 7 ((l.getD 0 default).f2),ae aj.enc 7 ((l.getD 1 default).f2)]=[ae aj.enc 7 So,ae aj.enc 7 aa6]∧So.length≤1000000∧∀Mi:Bool,(Mi=true↔So=aa6)→aa ((!Mi)) ((Sn A Q c l)) ((Sm A Q c l)))))))) ((Sm A Q c l)))))):=by kernel_rfl
def aa7 [Env] (vs:List V) (σ:St) (k:ah):Prop:=
 ∃(c:an) (l:List af),bH σ vs [an.enc c,ae af.enc 3 l]∧(gL c∧c.f0=6∧c.f7.length≤1000000∧2≤l.length∧l.length≤16∧∀t∈l,e8 t∧bR t=0)∧(kE c (l.getD 0 default) (l.getD 1 default)=0→k (.tuple [.own σ.next (kT c (l.getD 0 default)).length 3,.int .i64 0]) ((void σ.next).new σ.next (.row (kT c (l.getD 0 default)).length (fun i=>af.enc ((kT c (l.getD 0 default)).getD i default)) 3 false)))∧(kE c (l.getD 0 default) (l.getD 1 default)≠0→k (.tuple [.ak,.int .i64 (kE c (l.getD 0 default) (l.getD 1 default))]) (void σ.next))
def iM [Env]:=kS 314 aa7 Dr
end Go.Proofs.YtbajncpfmemdgaaGreatDoor
end
