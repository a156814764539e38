/- Proved: parts of the way: OpsD, OpsE, OpsF, OpsG. -/
import Derived.Test.YtbajncpfmemdgaaGreatDoorEvQ04
import Derived.Laws.BytesString
set_option linter.unusedVariables false
set_option linter.unusedSimpArgs false
section
namespace Go.Ev
open Go
section
variable {P:Program} {ρ:Ren} {σ:St} {w:World} {id:Nat} {p:V×St→Prop}
theorem JP [Env] (hr:R ρ σ w) {tys:Array TypeId} {ty t:TypeId} (ht:tys[0]? =some t) {d v:V} {σ':St} (h:evalClear P σ t d=some (v,σ')) {d':Value} (hd:aq ρ d d'):
  ∃w',(Builtin.clear_ tys ty #[d']).run P w=.ok (.tuple #[]) w'∧v=.tuple []∧bf (fun b=>b=id) ρ σ w ρ σ' w':=by
 unfold evalClear at h
 split at h
 ·rename_i e hu
  split at h
  ·rename_i z hz
   split at h
   ·cases h
   ·rename_i h0
    rw[bc] at h0 h
    obtain⟨zv,gC,pq⟩:=gN hz ρ
    have j0:(#[d']:Array Value)[0]? =some d':=rfl
    unfold Ek at h
    split at h
    ·cases h;cases hd
     exact⟨w,by simp only[Builtin.clear_,ht,j0,Sem.run_bind,run_underlying hu,Result.andThen_ok];rfl,rfl,bf.refl hr⟩
    ·rename_i b off n cap ex esz
     cases hd with
     | slice ku hex dy hN ja=>
      rename_i cr off' cap'
      split at h
      ·rename_i hn
       have hn:=Nat.eq_of_beq_eq_true hn
       subst hn
       cases h
       exact⟨w,by simp only[Builtin.clear_,ht,j0,Sem.run_bind,run_underlying hu,Result.andThen_ok];rfl,rfl,bf.refl hr⟩
      ·rename_i hn iN
       rw[Option.map_eq_some_iff] at h
       obtain⟨aB,az,he⟩:=h
       cases he
       have hz0:off'=cr.o+off:=by
        cases ex with
        | true=>exact(hex rfl).2
        | false=>
         rcases(dy rfl).2 with h' | ⟨_,h'⟩
         ·exact h'
         ·subst h';simp at iN
       subst hz0
       obtain⟨w',hsr,fY⟩:=hr.store (P:=P) (ids:=fun b=>b=id) az ku (wc (n:=n) pq rfl h0)
       obtain⟨m,rfl⟩:∃m,n=m+1:=⟨n-1,by
        have:n≠0:=fun e=>by subst e;simp at hn
        omega⟩
       refine⟨w',?_,rfl,fY⟩
       simp only[Builtin.clear_,ht,j0,Sem.run_bind,run_underlying hu,Result.andThen_ok,gC]
       simp only[hsr,Result.andThen_ok]
       rfl
      ·cases h
    ·cases h
  ·cases h
 ·cases h
theorem PJ [Env] (hr:R ρ σ w) {tys:Array TypeId} {ty t:TypeId} (ht:tys[0]? =some t) {x v:V} (h:eD P σ t x=some v) {x':Value} (hx:aq ρ x x'):
  ∃v',(Builtin.len_ tys ty #[x']).run P w=.ok v' w∧aq ρ v v':=by
 have j0:(#[x']:Array Value)[0]? =some x':=rfl
 unfold eD at h
 split at h
 ·rename_i hu
  split at h
  ·cases h;cases hx
   rw[bc]
   exact⟨_,by simp only[Builtin.len_,ht,j0,Sem.run_bind,run_underlying hu,Result.andThen_ok];rfl,.int _ _⟩
  ·cases h
 ·rename_i n e hu
  cases h
  exact⟨_,by simp only[Builtin.len_,ht,j0,Sem.run_bind,run_underlying hu,Result.andThen_ok];rfl,.int _ _⟩
 ·rename_i hu
  split at h
  ·cases h;cases hx
   exact⟨_,by simp only[Builtin.len_,ht,j0,Sem.run_bind,run_underlying hu,Result.andThen_ok];rfl,.int _ _⟩
  ·cases h;cases hx
   exact⟨_,by simp only[Builtin.len_,ht,j0,Sem.run_bind,run_underlying hu,Result.andThen_ok];rfl,.int _ _⟩
  ·cases h
   rw[bc]
   cases hx<;>exact⟨_,by simp only[Builtin.len_,ht,j0,Sem.run_bind,run_underlying hu,Result.andThen_ok];rfl,.int _ _⟩
  ·rename_i n f esz ex nn
   cases h
   cases hx with
   | arr _ hx=>
    obtain⟨a,cap,rfl⟩:=hx.PG rfl
    refine⟨.int .i64 (b9 n f).length,by simp only[Builtin.len_,ht,j0,Sem.run_bind,run_underlying hu,Result.andThen_ok];rfl,?_⟩
    rw[aS];exact .int _ _
  ·cases h;cases hx
   exact⟨_,by simp only[Builtin.len_,ht,j0,Sem.run_bind,run_underlying hu,Result.andThen_ok];rfl,.int _ _⟩
  ·cases h
 ·rename_i hu
  unfold s0 at h
  split at h
  ·cases h;cases hx
   exact⟨_,by simp only[Builtin.len_,ht,j0,Sem.run_bind,run_underlying hu,Result.andThen_ok];rfl,.int _ _⟩
  ·rename_i r
   split at h
   ·rename_i es clock hb
    cases h;cases hx with
    | map hl=>
     obtain⟨l,cF,hk⟩:=hr.cP _ _ hb
     rw[hl] at cF;cases cF
     cases hk with
     | map hm he=>
      rename_i BD
      have hlen:es.length=BD.size:=by
       have:∀(l:List (V×V×Nat)) (l':List MapEntry),dK ρ l l'→l.length=l'.length:=by
        intro l
        induction l with
        | nil=>intro l' h;cases h;rfl
        | cons a l ih=>intro l' h;cases h with | cons _ h=>simp [ih _ h]
       simpa using this _ _ he
      rw[bc,hlen]
      refine⟨.int .i64 BD.size,?_,.int _ _⟩
      simp only[Builtin.len_,ht,j0,Sem.run_bind,run_underlying hu,Result.andThen_ok,getObj,Sem.run,hm]
      rfl
   ·cases h
  ·cases h
 ·cases h
theorem oL [Env]:∀ {l:List V} {s:List UInt8} {l':List Value},eL l=some s→au ρ l l'→∃ns:List Int,l'=ns.map (Value.int .u8)∧s=ns.map fun n=>UInt8.ofNat n.toNat:=by
 intro l
 induction l with
 | nil=>
  intro s l' h hl
  cases hl
  simp only[eL,Option.some.injEq] at h
  subst h
  exact⟨[],rfl,rfl⟩
 | cons v l ih=>
  intro s l' h hl
  cases hl with
  | cons hv hl=>
   cases v with
   | int k n=>
    cases k<;>first
     | (simp [eL] at h;done)
     | (simp only[eL,Option.map_eq_some_iff] at h
        obtain⟨s',nt,rfl⟩:=h
        obtain⟨ns,rfl,rfl⟩:=ih nt hl
        cases hv
        exact⟨n::ns,rfl,rfl⟩)
   | _=>simp [eL] at h
theorem pX:∀(ns:List Int) (acc:ByteArray),ns.foldl (fun(r:ByteArray) n=>r.push (UInt8.ofNat n.toNat)) acc=acc++⟨⟨ns.map fun n=>UInt8.ofNat n.toNat⟩⟩:=by
 intro ns
 induction ns with
 | nil=>intro acc;apply ByteArray.ext;simp
 | cons n ns ih=>
  intro acc
  rw[List.foldl_cons,ih]
  apply ByteArray.ext
  simp [ByteArray.data_push,ByteArray.data_append]
theorem LH [Env] (hr:R ρ σ w) (cq:ρ id=none) {src dst:TypeId} {x v:V} {σ':St} (h:evalConv P σ id src dst x=some (v,σ')) {x':Value} (hx:aq ρ x x'):
  ∃ρ' v' w',(convert src dst x').run P w=.ok v' w'∧aq ρ' v v'∧bf (fun b=>b=id) ρ σ w ρ' σ' w':=by
 unfold evalConv at h
 split at h
 ·rename_i k k' RW n hs hd
  cases h;cases hx
  exact⟨ρ,_,w,by simp only[convert,Sem.run_bind,run_underlying hs,run_underlying hd,Result.andThen_ok];rfl,.int _ _,bf.refl hr⟩
 ·rename_i k k' RW n hs hd
  cases h;cases hx
  exact⟨ρ,_,w,by simp only[convert,Sem.run_bind,run_underlying hs,run_underlying hd,Result.andThen_ok];rfl,.dM _ _,bf.refl hr⟩
 ·rename_i hs hd
  split at h
  ·rename_i n hn
   split at h
   ·rename_i dy
    cases h;cases hx
    exact⟨ρ,_,w,by simp only[convert,Sem.run_bind,run_underlying hs,run_underlying hd,Result.andThen_ok,Conv.floatToInt,hn,if_pos dy];rfl,.int _ _,bf.refl hr⟩
   ·cases h
  ·cases h
 ·rename_i s hs hd
  cases h;cases hx
  exact⟨ρ,_,w,by simp only[convert,Sem.run_bind,run_underlying hs,run_underlying hd,Result.andThen_ok];rfl,.str _,bf.refl hr⟩
 ·rename_i e s hs hd
  split at h
  ·rename_i he
   split at h
   ·rename_i hc
    cases h;cases hx
    obtain⟨bd,oK,hle⟩:=hc
    rw[bc]
    obtain⟨cap,oJ⟩:∃cap,cap=(Question.appendCap s.length 0 e).cut (w.tape w.drawn (.appendCap s.length 0 e)):=⟨_,rfl⟩
    have nM:s.length≤cap:=by rw[oJ];simp [Question.cut]
    let C:Array Value:=(s.map fun c=>Value.int .u8 c.toNat).toArray++Array.replicate (cap-s.length) (.int .u8 0)
    have hC:C.size=cap:=by simp [C];omega
    let w':World:={w with drawn:=w.drawn+1,heap:=w.heap.push (.cells C e (cap,cap+1))}
    have kf:w'.heap[w.heap.size]? =some (.cells C e (cap,cap+1)):=by show(w.heap.push _)[w.heap.size]? =_;simp
    refine⟨k8 ρ id ⟨w.heap.size,0,cap⟩,.slice (some ⟨w.heap.size,0,none⟩) s.length cap,w',?_,?_,?_⟩
    ·have qL:(Question.appendCap s.length 0 e).forced=false:=rfl
     have ZG:(⟨⟨s⟩⟩:ByteArray).data.map (fun b=>Value.int .u8 (b.toNat:Int))++Array.replicate (cap-s.length) (.int .u8 0)=C:=by
      simp [C]
     simp only[convert,Sem.run_bind,run_underlying hs,run_underlying hd,run_underlying he,Result.andThen_ok,Conv.stringToBytes,xL,run_choose,qL,Bool.false_eq_true,if_false,←oJ,Go.newRow,run_newObj,ZG,Sem.run_pure,markStringish,run_shape]
     have RX:World.shape? {heap:=w.heap.push (.cells C e),tape:=w.tape,drawn:=w.drawn+1,os:=w.os,output:=w.output} w.heap.size=some (e,C.size):=by simp [World.shape?]
     rw[RX]
     simp only[run_freeze,Result.andThen_ok,World.freeze,hC]
     congr 1
     simp only[Nat.one_ne_zero,if_false,w']
     congr 1
     apply Array.ext_getElem?
     intro j
     rw[Array.getElem?_modify]
     by_cases hj:w.heap.size=j
     ·subst hj;simp
     ·rw[if_neg hj,Array.getElem?_push,Array.getElem?_push]
      by_cases iY:j=w.heap.size
      ·exact absurd iY.symm hj
      ·rw[if_neg iY,if_neg iY]
    ·exact .own (l:=⟨w.heap.size,0,cap⟩) (jy _ _ _) nM (by simp)
    ·refine bf.alloc hr cq (w':=w') rfl rfl rfl rfl (.row ⟨e,?_⟩ (by simpa using nM) (fun i _=>rfl) (fun i hi k v hk=>?_) (fun i hi=>?_) (by simp))
     ·unfold World.shape?;rw[kf];simp only[hC]
     ·have Ey:k=0∧dx s i=v:=by
       cases k with
       | zero=>exact⟨rfl,by simpa [V.cells,dx] using hk⟩
       | succ k=>simp [V.cells,dx] at hk
      obtain⟨rfl,rfl⟩:=Ey
      refine⟨.int .u8 (s[i]'hi).toNat,?_,?_⟩
      ·simp only[World.cell?,kf,Option.isSome_none,Bool.false_eq_true,if_false]
       show((s.map fun c=>Value.int .u8 c.toNat).toArray++_)[0+(i*1+0)]? =_
       rw[show 0+(i*1+0)=i by omega,Array.getElem?_append_left (by simpa using hi)]
       simp [List.getElem?_eq_getElem hi]
      ·unfold dx aH
       rw[dA,List.getElem?_eq_getElem hi]
       exact .int _ _
     ·simp only[World.frozen?,kf]
      have:i<cap:=hi
      simp;omega
   ·cases h
  ·cases h
 ·rename_i e hs hd
  split at h
  ·rename_i he
   cases h;cases hx
   exact⟨ρ,_,w,by simp only[convert,Sem.run_bind,run_underlying hs,run_underlying hd,Result.andThen_ok,run_underlying he];rfl,.str _,bf.refl hr⟩
  ·cases h
 ·rename_i e b off n cap ex esz hs hd
  split at h
  ·rename_i he
   split at h
   ·rename_i l hl
    rw[Option.map_eq_some_iff] at h
    obtain⟨s,nt,jC⟩:=h
    cases jC
    cases hx with
    | slice ku hex dy hN ja=>
     rename_i cr off' cap'
     have xQ:∃xs:List Value,(loadCells ⟨cr.c,off',none⟩ n).run P w=.ok ⟨xs⟩ w∧au ρ l xs:=by
      by_cases hz:off'=cr.o+off
      ·subst hz
       obtain⟨xs,aI,aO,_⟩:=hr.loadCells (P:=P) hl ku
       exact⟨xs,aI w rfl,aO⟩
      ·have hzero:n=0:=by
        cases ex with
        | true=>exact absurd (hex rfl).2 hz
        | false=>
         rcases(dy rfl).2 with h' | h'
         ·exact absurd h' hz
         ·exact h'.1
       subst hzero
       unfold St.cells at hl
       split at hl
       ·have h':some ([]:List V)=some _:=hl
        cases h'
        exact⟨[],rfl,.nil⟩
       ·cases hl
     obtain⟨xs,aI,aO⟩:=xQ
     obtain⟨ns,rfl,rfl⟩:=oL nt aO
     refine⟨ρ,.string ⟨⟨ns.map fun n=>UInt8.ofNat n.toNat⟩⟩,w,?_,.str _,bf.refl hr⟩
     rw[run_convert_bytes_string w src dst e _ _ _ hs he hd,run_bytesToString w _ _ _ ns (by simpa using aI),pX]
     congr 2
   ·cases h
  ·cases h
 ·rename_i e es esz ex hs hd
  split at h
  ·rename_i he
   split at h
   ·rename_i h1
    have h1:=Nat.eq_of_beq_eq_true h1
    rw[Option.map_eq_some_iff] at h
    obtain⟨s,nt,jC⟩:=h
    cases jC
    have fin:∀(a:Option Addr) (n cap:Nat) (xs:List Value),(a=none→n=0)→x'=.slice a n cap→(∀a',a=some a'→(loadCells a' n).run P w=.ok ⟨xs⟩ w)→(a=none→xs=[])→au ρ (ar es) xs→
      ∃ρ' v' w',(convert src dst x').run P w=.ok v' w'∧aq ρ' (.str s) v'∧bf (fun b=>b=id) ρ σ w ρ' σ w':=by
     rintro a n cap xs hn rfl xQ gS aO
     obtain⟨ns,rfl,rfl⟩:=oL nt aO
     cases a with
     | none=>
      have Ox:ns=[]:=by simpa using gS rfl
      subst Ox
      have:=hn rfl
      subst this
      exact⟨ρ,_,w,by simp only[convert,Sem.run_bind,run_underlying hs,run_underlying hd,Result.andThen_ok,run_underlying he];rfl,.str _,bf.refl hr⟩
     | some a=>
      refine⟨ρ,.string ⟨⟨ns.map fun n=>UInt8.ofNat n.toNat⟩⟩,w,?_,.str _,bf.refl hr⟩
      rw[run_convert_bytes_string w src dst e _ _ _ hs he hd,run_bytesToString w _ _ _ ns (by simpa using xQ a rfl),pX]
      congr 2
    cases hx with
    | bk hu hx hi hc hex=>
     rename_i c off cap xs
     have hl:(ar _).length=_:=cX hu
     have Ag:=hx.length
     refine fin _ _ _ xs (fun h=>by cases h) rfl (fun a' ha=>?_) (fun h=>by cases h) hx
     cases ha
     have:=hr.va (P:=P) hi w rfl
     rw[←Ag,hl,h1,Nat.mul_one] at this
     exact this
    | dO=>exact fin _ _ _ [] (fun _=>rfl) rfl (fun _ h=>by cases h) (fun _=>rfl) .nil
    | dh hex=>exact fin _ _ _ [] (fun _=>rfl) rfl (fun a' ha=>by simp [loadCells,loadCellsFrom]) (fun _=>rfl) .nil
   ·cases h
  ·cases h
 ·rename_i e b n esz hs hd
  split at h
  ·rename_i he
   split at h
   ·rename_i n' f z p hb
    split at h
    ·rename_i hc
     obtain⟨rfl,rfl⟩:=hc
     rw[Option.map_eq_some_iff] at h
     obtain⟨s,nt,jC⟩:=h
     cases jC
     let lb:=σ.set b (.cells (n'*1) [] (an (ar (b9 n' f)) .leaf 0) p false)
     have fE:∀b',lb.heap.get b'=if b'=b then some (.cells (n'*1) [] (an (ar (b9 n' f)) .leaf 0) p false) else σ.heap.get b':=fun b'=>by
      show(σ.set b _).heap.get b'=_
      rw[mo,Trie.bP]
     have az:=bf.Ew (σ':=lb) (bf.refl (ids:=fun b=>b=id) hr) hb fE (by show(σ.set b _).next=_;rw[rH])
     obtain⟨l,hl,dD⟩:=hr.cP _ _ hb
     have hu:∀i,i<n'→(f i).cells.length=1:=by cases dD with | row hs hn hu=>exact hu
     have iZ:(ar (b9 n' f)).length=n':=by rw[cX (fZ hu),aS,Nat.mul_one]
     have xN:lb.cells b 0 n'=some (ar (b9 n' f)):=by
      unfold St.cells
      rw[fE,if_pos rfl]
      show cellsOf (n'*1) [] (an (ar (b9 n' f)) .leaf 0) n' 0=_
      have:=qM (ar (b9 n' f))
      rw[iZ] at this
      rw[Nat.mul_one];exact this
     cases hx with
     | own cF oJ hN=>
      rename_i l' cap
      obtain⟨xs,aI,aO,_⟩:=az.r.loadCells (P:=P) xN cF
      obtain⟨ns,rfl,rfl⟩:=oL nt aO
      refine⟨ρ,.string ⟨⟨ns.map fun n=>UInt8.ofNat n.toNat⟩⟩,w,?_,.str _,bf.refl hr⟩
      rw[run_convert_bytes_string w src dst e _ _ _ hs he hd,run_bytesToString w _ _ _ ns (by simpa using aI w rfl),pX]
      congr 2
    ·cases h
   ·cases h
  ·cases h
 ·cases h
end
end Go.Ev
end
section
namespace Go.Ev
open Go
section
variable {P:Program} {ρ:Ren} {σ:St} {w:World} {id:Nat} {p:V×St→Prop}
theorem dK.length [Env] {l:List (V×V×Nat)} {l':List MapEntry}:dK ρ l l'→l.length=l'.length
 | .nil=>rfl
 | .cons _ hl=>congrArg (·+1) hl.length
theorem dK.append [Env] {a b:List (V×V×Nat)} {a' b':List MapEntry} (h:dK ρ a a') (k:dK ρ b b'):dK ρ (a++b) (a'++b'):=by
 induction a generalizing a' with
 | nil=>cases h;exact k
 | cons e a ih=>cases h with | cons h hl=>exact .cons h (ih hl)
end
end Go.Ev
end
section
namespace Go.Ev
open Go
section
variable {P:Program} {ρ:Ren} {σ:St} {w:World} {id:Nat} {p:V×St→Prop}
theorem dK.filter [Env] {q:Nat→Bool}:∀ {l:List (V×V×Nat)} {l':List MapEntry},dK ρ l l'→dK ρ (l.filter fun e=>q e.2.2) (l'.filter fun e=>q e.born):=by
 intro l
 induction l with
 | nil=>intro l' h;cases h;exact .nil
 | cons e l ih=>
  intro l' h
  cases h with
  | cons he hl=>
   rename_i e' l'
   simp only[List.filter_cons,he.born]
   cases q e'.born with
   | true=>exact .cons he (ih hl)
   | false=>exact ih hl
theorem dK.all [Env] {q:Nat→Bool}:∀ {l:List (V×V×Nat)} {l':List MapEntry},dK ρ l l'→(l.all fun e=>q e.2.2)=l'.all fun e=>q e.born:=by
 intro l
 induction l with
 | nil=>intro l' h;cases h;rfl
 | cons e l ih=>intro l' h;cases h with | cons he hl=>simp only[List.all_cons,he.born,ih hl]
theorem dK.isEmpty [Env] {l:List (V×V×Nat)} {l':List MapEntry} (h:dK ρ l l'):l.isEmpty=l'.isEmpty:=by
 cases h<;>rfl
inductive vd [Env] (ρ:Ren):Option (V×V×Nat)→Option MapEntry→Prop
 | none:vd ρ none none
 | some {e:V×V×Nat} {e':MapEntry} (h:Jz ρ e e'):vd ρ (some e) (some e')
inductive kI [Env] (ρ:Ren):List (Option (V×V×Nat))→List (Option MapEntry)→Prop
 | nil:kI ρ [] []
 | cons {e:Option (V×V×Nat)} {e':Option MapEntry} {l:List (Option (V×V×Nat))} {l':List (Option MapEntry)} (h:vd ρ e e') (hl:kI ρ l l'):kI ρ (e::l) (e'::l')
theorem kI.length [Env] {l:List (Option (V×V×Nat))} {l':List (Option MapEntry)}:kI ρ l l'→l.length=l'.length
 | .nil=>rfl
 | .cons _ hl=>congrArg (·+1) hl.length
theorem kI.get [Env] {l:List (Option (V×V×Nat))} {l':List (Option MapEntry)} (h:kI ρ l l') (i:Nat) {c:Option (V×V×Nat)} (hc:l[i]? =some c):∃c',l'[i]? =some c'∧vd ρ c c':=by
 induction i generalizing l l' with
 | zero=>cases h with
  | nil=>simp at hc
  | cons h hl=>simp at hc;subst hc;exact⟨_,rfl,h⟩
 | succ i ih=>cases h with
  | nil=>simp at hc
  | cons h hl=>exact ih hl (by simpa using hc)
end
end Go.Ev
end
section
namespace Go.Ev
open Go
section
variable {P:Program} {ρ:Ren} {σ:St} {w:World} {id:Nat} {p:V×St→Prop}
theorem BN {place:Nat→Option (Nat×Nat)}:∀ {ps:List (Nat×V)} {cs r:List V},rr place ps cs=some r→r.length=cs.length:=by
 intro ps
 induction ps with
 | nil=>intro cs r h;have h':some cs=some r:=h;cases h';rfl
 | cons q ps ih=>
  intro cs r h
  have h':(match mi cs q.2.cells (place q.1) with | some xK=>rr place ps xK | none=>none)=some r:=h
  cases hf:mi cs q.2.cells (place q.1) with
  | none=>rw[hf] at h';cases h'
  | some xK=>
   rw[hf] at h'
   rw[ih h']
   unfold mi at hf
   split at hf
   ·cases hf
   ·split at hf
    ·rename_i hb
     cases hf
     rw[Bool.and_eq_true,bc,bc] at hb
     have h1:=Nat.eq_of_beq_eq_true hb.1
     have h2:=Nat.le_of_ble_eq_true hb.2
     rw[gI,gI,eP,ew]
     simp only[List.length_append,List.length_take,List.length_drop]
     simp only[Nat.add_eq] at h2⊢
     omega
    ·cases hf
theorem Aj [Env]:aq ρ cO undef:=.tuple .nil
theorem aq.qN [Env] {b:Bool} {x:Value} (h:aq ρ (.bool b) x):x=.bool b:=by cases h;rfl
theorem aq.n3 [Env] {v:V} {x:Value} (h:aq ρ v x):x.cells.size=len v.cells:=by
 rw[bc,h.cells.length];simp
theorem JQ [Env] (hr:R ρ σ w) {t:TypeId} {v u:V} (h:(oh P σ t v u).Holds p) {v' u':Value} (hv:aq ρ v v') (hu:aq ρ u u'):
  ∃σ' w',p (cO,σ')∧(Instr.storeAt t u' v').run P w=.ok () w'∧bf (fun b=>b=id) ρ σ w ρ σ' w':=by
 unfold oh at h
 split at h
 ·rename_i b i esz off
  cases hu with
  | fy hl=>
   split at h
   ·rename_i n hn
    split at h
    ·rename_i hlen
     cases az:σ.js b i esz off v with
     | none=>rw[az] at h;exact h.elim
     | some σ'=>
      rw[az] at h
      obtain⟨w',aI,fY⟩:=hr.js (P:=P) (ids:=fun b=>b=id) az hl hv
      refine⟨σ',w',h,?_,fY⟩
      have bd:¬v'.cells.size≠n:=by rw[hv.n3,hlen];simp
      simp only[Instr.storeAt,Instr.sureAddr,storeVar,Sem.run_bind,Sem.run_pure,Result.andThen_ok,br hn,if_neg bd,aI]
    ·exact h.elim
   ·exact h.elim
 ·rename_i b off
  cases hu with
  | ptr hl=>
   split at h
   ·rename_i n hn
    split at h
    ·rename_i hlen
     cases az:σ.store b off v.cells with
     | none=>rw[az] at h;exact h.elim
     | some σ'=>
      rw[az] at h
      obtain⟨w',aI,fY⟩:=hr.store (P:=P) (ids:=fun b=>b=id) az hl hv.cells
      refine⟨σ',w',h,?_,fY⟩
      have bd:¬v'.cells.size≠n:=by rw[hv.n3,hlen];simp
      simp only[Instr.storeAt,Instr.sureAddr,storeVar,Sem.run_bind,Sem.run_pure,Result.andThen_ok,br hn,if_neg bd,aI]
    ·exact h.elim
   ·exact h.elim
 ·exact h.elim
theorem Ak [Env] {sz n i:Nat} {z:V} {zv:Value} (hz:aq ρ z zv) (hlen:len z.cells=sz) (bd:sz≠0) (hi:i<n):
  ∃x,((Array.range n).map (zv.cells[·% zv.cells.size]!))[i]? =some x∧aq ρ (z.cells.getD (i%sz) cO) x:=by
 have dE:=hz.cells
 have nO:zv.cells.size=sz:=by rw[hz.n3,hlen]
 rw[bc] at hlen
 have hm:i%sz<z.cells.length:=by rw[hlen];exact Nat.mod_lt _ (by omega)
 obtain⟨x,hx,aO⟩:=dE.get (i%sz) (v:=z.cells[i%sz]) (by simp [hm])
 refine⟨x,?_,?_⟩
 ·have:(Array.range n)[i]? =some i:=by simp [hi]
  rw[Array.getElem?_map,this]
  simp only[Option.map_some,nO,Option.some.injEq]
  have cG:zv.cells[i%sz]? =some x:=by simpa using hx
  simp [getElem!_def,cG]
 ·simpa [List.getD_eq_getElem?_getD,hm] using aO
theorem tq [Env] {t e:TypeId} {n sz:Nat} {z:V} {l:List (Nat×V)} {cs:List V} (he:gu P t=some e) (bd:bN P e=some sz) (hz:gy P e=some z) (Al:sz≠0) (RY:n*sz≤65536) (BO:len z.cells=sz)
  (dE:nV sz n z.cells l=some cs) {l':List (Nat×Value)} (hl:jA ρ l l') (w:World):
  ∃r':List Value,au ρ cs r'∧cs.length=n*sz∧(Instr.buildSlice t n ⟨l'⟩).run P w=.ok (.slice (some ⟨w.heap.size,0,none⟩) n n) {w with heap:=w.heap.push (.cells ⟨r'⟩ e)}:=by
 obtain⟨zv,gC,Be⟩:=gN (P:=P) hz ρ
 have WD:au ρ ((List.range (n*sz)).map fun i=>z.cells.getD (i%sz) cO) ((Array.range (n*sz)).map (zv.cells[·% zv.cells.size]!)).toList:=by
  refine au.RH (by simp) fun i v x hv hx=>?_
  have hi:i<n*sz:=by
   have:=List.getElem?_eq_some_iff.1 hv
   obtain⟨bB,_⟩:=this
   simpa using bB
  obtain⟨x',cG,aO⟩:=Ak (n:=n*sz) Be BO Al hi
  have e1:v=z.cells.getD (i%sz) cO:=by
   simpa [hi] using hv.symm
  have e2:x=x':=by
   rw[Array.getElem?_toList,cG] at hx
   exact(Option.some.inj hx).symm
  rw[e1,e2];exact aO
 unfold nV at dE
 obtain⟨r',WG,aO⟩:=wU (place:=fun i=>some (i*sz,sz)) l l' _ _ hl WD dE
 have iZ:cs.length=n*sz:=by
  have:=BN dE
  simpa using this
 refine⟨r',aO,iZ,?_⟩
 have nr:¬n*sz>2^24:=by omega
 have BP:Instr.fill (fun i=>some (i*sz,sz)) ((Array.range (n*sz)).map (zv.cells[·% zv.cells.size]!)) l'=some ⟨r'⟩:=by
  exact WG
 by_cases j4:n*sz=0
 ·have e0:∀f:Nat→Value,(Array.range 0).map f=#[]:=by simp
  have hn:n=0:=by
   rcases Nat.mul_eq_zero.1 j4 with h | h
   ·exact h
   ·exact absurd h Al
  subst hn
  have h00:¬(0:Nat)>2^24:=by decide
  rw[j4,e0] at BP
  simp only[Instr.buildSlice,Sem.run_bind,run_underlying (gP he),Result.andThen_ok,br bd,if_neg h00,Sem.run_pure,if_true,j4,e0,BP,Go.newRow,run_newObj]
 ·simp only[Instr.buildSlice,Sem.run_bind,run_underlying (gP he),Result.andThen_ok,br bd,if_neg nr,Sem.run_pure,if_neg j4,gC,BP,Go.newRow,run_newObj]
theorem bf.lit [Env] (h:R ρ σ w) {ids:Nat→Prop} (r:Array Value) (e:TypeId):
  bf ids ρ σ w ⟨ρ.at',fun c o=>if c=w.heap.size then r[o]? else ρ.aL c o⟩ σ {w with heap:=w.heap.push (.cells r e)}:=by
 have hold:∀c,c<w.heap.size→(w.heap.push (.cells r e))[c]? =w.heap[c]? :=fun c hc=>by rw[Array.getElem?_push,if_neg (by omega)]
 have hle:ρ.le ⟨ρ.at',fun c o=>if c=w.heap.size then r[o]? else ρ.aL c o⟩:=⟨fun _ _ h=>h,fun c o x hx=>by
  have:=eX (h.aL c o x hx).1
  show(if c=w.heap.size then r[o]? else ρ.aL c o)=some x
  rw[if_neg (by omega)];exact hx⟩
 refine⟨⟨fun b k hb=>?_,h.inj,h.fresh,fun b l hb=>?_,fun c o x hx=>?_,h.qG hle⟩,hle,Nat.le_refl _,fun _ _ hb=>.inl hb,by simp,rfl,rfl,rfl,fun c hc _=>hold c hc,fun _ _ h=>h,fun _ k hb=>.inl ⟨k,hb⟩,fun c o x hx=>?_⟩
 ·obtain⟨l,hl,hk⟩:=h.cP b k hb
  exact⟨l,hl,hk.same hle (hold l.c (h.valid b l hl))⟩
 ·have:=h.valid b l hb
  simp;omega
 ·have cG:(if c=w.heap.size then r[o]? else ρ.aL c o)=some x:=hx
  by_cases e:c=w.heap.size
  ·rw[if_pos e] at cG
   subst e
   refine⟨by simp [World.cell?,cG],?_⟩
   rintro⟨b,k,l,h1,_,h3,h4⟩
   have:=h.valid b l h3
   omega
  ·rw[if_neg e] at cG
   obtain⟨a1,a2⟩:=h.aL c o x cG
   exact⟨by rw[cell?_of_block (hold c (eX a1))];exact a1,a2⟩
 ·have cG:(if c=w.heap.size then r[o]? else ρ.aL c o)=some x:=hx
  by_cases e:c=w.heap.size
  ·exact .inr (.inl (by omega))
  ·rw[if_neg e] at cG;exact .inl cG
theorem oM:∀ {cs:List V},(∀v∈cs,v.scalar=true)→ar cs=cs∧∀v∈cs,v.cells.length=1
 | [],_=>⟨rfl,fun _ h=>by cases h⟩
 | v::cs,h=>by
  obtain⟨h1,h2⟩:=oM (cs:=cs) fun u hu=>h u (List.mem_cons_of_mem _ hu)
  have hv:v.cells=[v]:=by
   have:=h v List.mem_cons_self
   cases v<;>first | rfl | cases this
  refine⟨by rw[bS,hv,h1];rfl,fun u hu=>?_⟩
  rcases List.mem_cons.1 hu with rfl | hu
  ·rw[hv];rfl
  ·exact h2 u hu
theorem yY [Env] (hr:R ρ σ w) (cq:ρ id=none) {t:TypeId} {n:Nat} {l:List (Nat×V)} (h:(fJ P σ id t n (some l)).Holds p) {l':List (Nat×Value)} (hl:jA ρ l l'):
  ∃v σ' ρ' v' w',p (v,σ')∧aq ρ' v v'∧(Instr.buildSlice t n ⟨l'⟩).run P w=.ok v' w'∧bf (fun b=>b=id) ρ σ w ρ' σ' w':=by
 have h':(match gu P t with
  | some e=>match bN P e,gy P e with
   | some sz,some z=>match isByte P e with
    | true=>nW σ sz n l z.cells
    | false=>kt σ id sz n l z.cells
   | _,_=>.fail "buildSlice type"
  | none=>.fail "buildSlice type":VS).Holds p:=h
 clear h
 split at h'
 ·rename_i e he
  split at h'
  ·rename_i sz z bd hz
   split at h'
   ·unfold nW at h'
    split at h'
    ·exact h'.elim
    ·rename_i hc
     rw[not_or,not_or] at hc
     obtain⟨Al,RY,BO⟩:=hc
     have Al:sz=1:=Decidable.not_not.1 Al
     have BO:len z.cells=1:=Decidable.not_not.1 BO
     subst Al
     split at h'
     ·rename_i cs dE
      split at h'
      ·rename_i nM
       obtain⟨r',aO,iZ,aI⟩:=tq (P:=P) he bd hz (by decide) (by omega) BO dE hl w
       have az:=bf.lit (ids:=fun b=>b=id) hr ⟨r'⟩ e
       obtain⟨g1,g2⟩:=oM (cs:=cs) (fun v hv=>List.all_eq_true.1 (by rw[←rp];exact nM) v hv)
       rw[Nat.mul_one] at iZ
       refine⟨_,_,_,_,_,h',?_,aI,az⟩
       have key:=aq.bk (ρ:=⟨ρ.at',fun c o=>if c=w.heap.size then(⟨r'⟩:Array Value)[o]? else ρ.aL c o⟩) (es:=cs) (esz:=1) (c:=w.heap.size) (off:=0) (cap:=n) (ex:=true) (xs:=r') g2
        (by rw[g1];exact aO.mono az.le) (fun k x hk=>by
         show(if w.heap.size=w.heap.size then(⟨r'⟩:Array Value)[0+k]? else ρ.aL w.heap.size (0+k))=some x
         rw[if_pos rfl,Nat.zero_add];simpa using hk) (by omega) (fun _=>iZ.symm)
       rw[iZ] at key
       exact key
      ·exact h'.elim
     ·exact h'.elim
   ·unfold kt at h'
    split at h'
    ·exact h'.elim
    ·rename_i hc
     have Al:sz≠0:=fun e=>hc (.inl e)
     have RY:n*sz≤65536:=by
      apply Nat.le_of_not_lt;intro e;exact hc (.inr (.inl e))
     have BO:len z.cells=sz:=Decidable.byContradiction fun e=>hc (.inr (.inr e))
     split at h'
     ·rename_i cs dE
      split at h'
      ·rename_i nM
       obtain⟨r',aO,iZ,aI⟩:=tq (P:=P) he bd hz Al RY BO dE hl w
       have az:=Ai hr cq aO (ty:=e) (w':={w with heap:=w.heap.push (.cells ⟨r'⟩ e)}) rfl rfl rfl rfl
       rw[iZ] at az
       refine⟨_,_,_,_,_,h',.slice (l:=⟨w.heap.size,0,r'.length⟩) (off':=0) (cap':=n) (jy _ _ _) (fun _=>⟨rfl,rfl⟩) (by simp) ?_ (Nat.le_refl _),aI,az⟩
       show 0+n*sz≤r'.length
       rw[←aO.length,iZ];omega
      ·exact h'.elim
     ·exact h'.elim
  ·exact h'.elim
 ·exact h'.elim
theorem A5 [Env] (hr:R ρ σ w) (cq:ρ id=none) {t:TypeId} {n m:V} (h:(gl P σ id t n m).Holds p) {n' m':Value} (hn:aq ρ n n') (hm:aq ρ m m'):
  ∃v σ' ρ' v' w',p (v,σ')∧aq ρ' v v'∧(Instr.makeSlice t n' m').run P w=.ok v' w'∧bf (fun b=>b=id) ρ σ w ρ' σ' w':=by
 unfold gl at h
 split at h
 ·rename_i kn n km m
  cases hn;cases hm
  split at h
  ·rename_i e he
   split at h
   ·rename_i sz dc z bd oK hz
    obtain⟨zv,gC,Be⟩:=gN (P:=P) hz ρ
    obtain⟨i,hi,hib⟩:=rI oK
    unfold lA at h
    split at h
    ·rename_i hc
     obtain⟨c0,c1,c2,c3,c4,c5,c6⟩:=hc
     have nO:zv.cells.size=sz:=by rw[Be.n3,c5]
     obtain⟨M,rfl⟩:∃M:Nat,m=(M:Int):=⟨m.toNat,by omega⟩
     obtain⟨N,rfl⟩:∃N:Nat,n=(N:Int):=⟨n.toNat,by omega⟩
     simp only[Int.toNat_natCast] at c2 h
     have Yf:IntKind.i64.wrap (N:Int)=N:=by
      simp [IntKind.wrap,IntKind.bits,IntKind.signed];omega
     have Yg:IntKind.i64.wrap (M:Int)=M:=by
      simp [IntKind.wrap,IntKind.bits,IntKind.signed];omega
     let row:Array Value:=(Array.range (M*sz)).map (zv.cells[·% zv.cells.size]!)
     have ZH:i.bytes*M≤1099511627776:=by rw[hib,Nat.mul_comm];exact c2
     have aI:(Instr.makeSlice t (.int kn N) (.int km M)).run P w=.ok (.slice (some ⟨w.heap.size,0,none⟩) N M) {w with heap:=w.heap.push (.cells row e)}:=by
      have t1:(decide ((M:Int)<0)||decide ((i.bytes:Int)*M>2^48)||decide ((N:Int)<0)||decide ((N:Int)>M))=false:=by
       have:((i.bytes*M:Nat):Int)≤((1099511627776:Nat):Int):=Int.ofNat_le.2 ZH
       rw[Int.natCast_mul] at this
       have h1:¬((M:Int)<0):=by omega
       have h2:¬((i.bytes:Int)*M>281474976710656):=by omega
       have h48:(2:Int)^48=281474976710656:=by decide
       have h3:¬((N:Int)<0):=by omega
       have h4:¬((N:Int)>M):=by omega
       rw[h48];simp only[h1,h2,h3,h4,decide_false,Bool.or_false]
      by_cases j4:M*sz=0
      ·have e0:∀f:Nat→Value,(Array.range 0).map f=#[]:=by simp
       have rO:row=#[]:=by
        show(Array.range (M*sz)).map _=_
        rw[j4,e0]
       simp only[Instr.makeSlice,Sem.run_bind,run_underlying (gP he),Result.andThen_ok,asInt,asIntOf,Sem.run_pure,run_typeInfo hi,Yf,Yg,t1,Bool.false_eq_true,if_false,run_askRoom,Int.toNat_natCast,br bd,if_true,j4,e0,rO,Go.newRow,run_newObj]
      ·simp only[Instr.makeSlice,Sem.run_bind,run_underlying (gP he),Result.andThen_ok,asInt,asIntOf,Sem.run_pure,run_typeInfo hi,Yf,Yg,t1,Bool.false_eq_true,if_false,run_askRoom,Int.toNat_natCast,br bd,if_neg j4,gC,Go.newRow,run_newObj]
       rfl
     have hrs:row.size=M*sz:=by simp [row]
     refine⟨_,_,_,_,_,h,.slice (l:=⟨w.heap.size,0,M*sz⟩) (off':=0) (cap':=M) (jy ρ _ _) (fun _=>⟨rfl,rfl⟩) (by simp) (by show 0+M*sz≤M*sz;omega) (by omega),aI,?_⟩
     have kf:(w.heap.push (.cells row e))[w.heap.size]? =some (.cells row e (0,0)):=by simp
     refine bf.alloc hr cq (w':={w with heap:=w.heap.push (.cells row e)}) rfl rfl rfl rfl (.cells ⟨e,?_⟩ (by simp) (fun k v hk=>?_) (fun _ k _=>?_) (fun _ k=>?_))
     ·simp [World.shape?,hrs]
     ·have ed:=tf hk
      have hv:v=z.cells.getD (k%sz) cO:=by
       unfold cellOf at hk
       rw[Trie.eK] at hk
       split at hk
       ·rw[dA,c5] at hk
        have ZI:z.cells[k%sz]? =some v:=hk
        simp [List.getD_eq_getElem?_getD,ZI]
       ·cases hk
      obtain⟨x,hx,aO⟩:=Ak (n:=M*sz) Be c5 c4 ed
      refine⟨x,?_,hv▸aO.mono (jz ρ _ cq)⟩
      have cG:row[k]? =some x:=hx
      unfold World.cell?
      dsimp only
      rw[kf,Nat.zero_add]
      exact cG
     ·simp [World.frozen?]
     ·simp [World.frozen?]
    ·exact h.elim
   ·exact h.elim
  ·exact h.elim
 ·exact h.elim
theorem Hg [Env] {x v:V} {t xt:TypeId} {ok:Bool} (h:ru P x t ok=some v) {x':Value} (hx:aq ρ x x') (w:World):∃v',(Instr.typeAssert x' xt t ok).run P w=.ok v' w∧aq ρ v v':=by
 have hold:∀ {u:V} {u':Value},aq ρ u u'→(some (if ok then .tuple [u,.bool true] else u:V)=some v)→aq ρ v (if ok then .tuple #[u',.bool true] else u'):=by
  intro u u' hu he
  cases he
  cases ok with
  | true=>exact .tuple (.cons hu (.cons (.bool true) .nil))
  | false=>exact hu
 have Bf:(if ok then(gy P t).map fun z=>(.tuple [z,.bool false]:V) else none)=some v→ok=true∧∃zv,(∀w,(zeroValue t).run P w=.ok zv w)∧aq ρ v (.tuple #[zv,.bool false]):=by
  intro he
  cases ok with
  | false=>simp at he
  | true=>
   simp only[if_true,Option.map_eq_some_iff] at he
   obtain⟨z,hz,rfl⟩:=he
   obtain⟨zv,gC,pq⟩:=gN (P:=P) hz ρ
   exact⟨rfl,zv,gC,.tuple (.cons pq (.cons (.bool false) .nil))⟩
 unfold ru at h
 dsimp only at h
 split at h
 ·rename_i ms hu
  obtain⟨rfl,zv,gC,hv⟩:=Bf h
  cases hx
  exact⟨_,by simp [Instr.typeAssert,run_underlying hu,gC],hv⟩
 ·rename_i want ty vv hu
  cases hx with
  | iface hx=>
   split at h
   ·rename_i i hi
    split at h
    ·rename_i hm
     refine⟨_,?_,hold (.iface hx) h⟩
     simp only[Instr.typeAssert,Sem.run_bind,run_underlying hu,Result.andThen_ok,run_typeInfo hi,hm,Sem.run_pure]
    ·rename_i mm hm
     obtain⟨rfl,zv,gC,hv⟩:=Bf h
     exact⟨_,by simp [Instr.typeAssert,run_underlying hu,run_typeInfo hi,hm,gC],hv⟩
   ·cases h
 ·rename_i hn hu
  obtain⟨rfl,zv,gC,hv⟩:=Bf h
  cases hx
  refine⟨_,?_,hv⟩
  rename_i d _
  cases d<;>simp [Instr.typeAssert,run_underlying hu,gC]
 ·rename_i d ty vv hn hu
  cases hx with
  | iface hx=>
   split at h
   ·rename_i ht
    refine⟨_,?_,hold hx h⟩
    cases d<;>first
     | exact(hn _ rfl).elim
     | (simp only[Instr.typeAssert,Sem.run_bind,run_underlying hu,Result.andThen_ok,if_pos ht,Sem.run_pure])
   ·rename_i ht
    obtain⟨rfl,zv,gC,hv⟩:=Bf h
    refine⟨_,?_,hv⟩
    cases d<;>first
     | exact(hn _ rfl).elim
     | (simp only[Instr.typeAssert,Sem.run_bind,run_underlying hu,Result.andThen_ok,if_neg ht,if_true,gC,Sem.run_pure])
 ·cases h
theorem Hh [Env] (_hr:R ρ σ w) {t e:TypeId} {es:List V} {esz sz:Nat} {ex:Bool} {u:V} {k:IntKind} {i:Int} (he:gu P t=some e) (bd:bN P e=some sz) (c1:0≤i) (c2:i<es.length) (c3:sz=esz) (_c4:sz≠0) (pY:es[i.toNat]? =some u) {x':Value} (gp:aq ρ (.bk es esz ex) x'):
  ∃v',(Instr.indexAt t x' (.int k i)).run P w=.ok v' w∧aq ρ (.aM u.cells 0) v':=by
 subst c3
 cases gp with
 | bk hu cG eR oJ hex=>
  rename_i c off cap xs
  have RZ:ar (es.drop i.toNat)=(ar es).drop (i.toNat*sz):=mr hu _
  have Hi:es.drop i.toNat=u::es.drop (i.toNat+1):=by
   have bB:=(List.getElem?_eq_some_iff.1 pY)
   obtain⟨h1,h2⟩:=bB
   rw[List.drop_eq_getElem_cons h1,h2]
  have BQ:u.cells.length=sz:=hu u (List.mem_of_getElem? pY)
  have aO:au ρ u.cells ((xs.drop (i.toNat*sz)).take sz):=by
   have h1:=(cG.drop (i.toNat*sz)).take sz
   rw[←RZ,Hi,bS,←BQ,List.take_left' rfl] at h1
   rw[←BQ];exact h1
  refine⟨.pointer (some ⟨c,off+i.toNat*sz+0,none⟩),?_,.aM aO fun k x hk=>?_⟩
  ·simp [Instr.indexAt,asIntOf,run_underlying (gP he),c1,c2,br bd,ek]
  ·rw[List.getElem?_take] at hk
   split at hk
   ·rw[List.getElem?_drop] at hk
    rw[Nat.add_assoc];exact eR _ x hk
   ·cases hk
 | dO=>simp at pY
 | dh he=>simp at pY
theorem LI [Env] (hr:R ρ σ w) (cq:ρ id=none) {a:Act} {a':Go.Act} (ha:bC ρ a a') (o:Oper) (h:((me P o.op).f a σ id).Holds p) (ja:∀c,o.op≠.call c):
  Ha P (execOp a'.eval o) id ρ σ w p:=by
 unfold execOp
 cases bL:o.op with
 | move x=>
  rw[bL] at h
  obtain⟨v,hv,hp⟩:=dd h
  exact .value hr hp (ha.eval x hv) rfl
 | assign x=>
  rw[bL] at h
  obtain⟨v,hv,hp⟩:=dd h
  exact .value hr hp (ha.eval x hv) rfl
 | pick c x y=>
  rw[bL] at h
  obtain⟨cv,hc,h⟩:=eb h
  unfold nj at h
  split at h
  ·rename_i b
   obtain⟨v,hv,hp⟩:=dd h
   have tg:=ha.eval c hc
   have hcb:a'.eval c=.bool b:=tg.qN
   refine .value hr hp (v':=if b then a'.eval x else a'.eval y) ?_ ?_
   ·cases b with
    | true=>exact ha.eval x hv
    | false=>exact ha.eval y hv
   ·dsimp only;rw[hcb];rfl
  ·exact h.elim
 | alloc e=>
  rw[bL] at h
  have h':(oo P σ id e).Holds p:=h
  unfold oo at h'
  split at h'
  ·rename_i z hz
   obtain⟨zv,gC,pq⟩:=gN (P:=P) hz ρ
   split at h'
   ·exact Ep hr cq pq e h' (by dsimp only;simp [Instr.alloc,gC,newVar,Go.newRow])
   ·exact h'.elim
  ·exact h'.elim
 | box e x=>
  rw[bL] at h
  obtain⟨v,hv,h⟩:=eb h
  unfold xC at h
  split at h
  ·exact Ep hr cq (ha.eval x hv) e h (by dsimp only;simp [Instr.box,newVar,Go.newRow])
  ·exact h.elim
 | build t ps=>
  rw[bL] at h
  have h':(mj P σ t (a.parts ps.toList)).Holds p:=h
  cases po:a.parts ps.toList with
  | none=>rw[po] at h';exact h'.elim
  | some l=>
   rw[po] at h'
   obtain⟨v,hv,hp⟩:=dd h'
   obtain⟨v',aI,aO⟩:=JD (P:=P) (ha.parts ps.toList po) hv
   refine .value hr hp aO ?_
   have e:(ps.map fun(q:Nat×Operand)=>(q.1,a'.eval q.2))=⟨ps.toList.map fun q=>(q.1,a'.eval q.2)⟩:=Array.ext' (by simp)
   dsimp only
   rw[show(ps.map fun x=>match x with | (i,x)=>(i,a'.eval x))=⟨ps.toList.map fun q=>(q.1,a'.eval q.2)⟩ from e]
   simp [aI]
 | buildSlice t n ps=>
  rw[bL] at h
  have h':(fJ P σ id t n (a.parts ps.toList)).Holds p:=h
  cases po:a.parts ps.toList with
  | none=>rw[po] at h';exact h'.elim
  | some l=>
   rw[po] at h'
   obtain⟨v,σ',ρ',v',w',hp,hv,aI,az⟩:=yY hr cq h' (ha.parts ps.toList po)
   refine⟨v,σ',ρ',v',w',hp,hv,az,.inl ?_⟩
   dsimp only
   rw[show(ps.map fun x=>match x with | (i,x)=>(i,a'.eval x))=⟨ps.toList.map fun q=>(q.1,a'.eval q.2)⟩ from Array.ext' (by simp)]
   simp [aI]
 | insert t m k v=>rw[bL] at h;exact h.elim
 | load t x=>
  rw[bL] at h
  obtain⟨xv,hx,h⟩:=eb h
  obtain⟨v,hv,hp⟩:=dd h
  obtain⟨v',aI,aO,_⟩:=Ah (P:=P) hr (ha.eval x hx) hv
  exact .value hr hp aO (by dsimp only;simp [aI])
 | store t x y=>
  rw[bL] at h
  obtain⟨yv,xv,hy,hx,h⟩:=k9 h
  obtain⟨σ',w',hp,aI,az⟩:=JQ hr h (ha.eval y hy) (ha.eval x hx)
  exact⟨_,_,_,_,_,hp,Aj,az,.inr ⟨rfl,by dsimp only;simp [aI]⟩⟩
 | ready g=>rw[bL] at h;exact h.elim
 | waits g=>rw[bL] at h;exact h.elim
 | nilCheck x=>
  rw[bL] at h
  obtain⟨xv,hx,h⟩:=eb h
  have gp:=ha.eval x hx
  unfold nX at h
  dsimp only
  generalize a'.eval x=x' at gp⊢
  split at h
  ·cases gp with
   | ptr hl=>exact .value hr h (.ptr hl) rfl
  ·cases gp with
   | aM hx hi=>exact .value hr h (.aM hx hi) rfl
  ·cases gp with
   | fy hl=>exact .value hr h (.fy hl) rfl
  ·exact h.elim
  ·rename_i f x y hnm
   cases gp with
   | func hf hx hy=>
    refine .value hr h (.func hf hx hy) ?_
    cases hf with
    | yield _=>rfl
    | same _=>
     cases f<;>first
      | exact absurd rfl (hnm _)
      | rfl
  ·cases gp with
   | iface hv=>exact .value hr h (.iface hv) rfl
  ·exact h.elim
 | binOp op t x y yt=>
  rw[bL] at h
  obtain⟨xv,yv,hx,hy,h⟩:=k9 h
  obtain⟨v,hv,hp⟩:=dd h
  obtain⟨v',aI,aO⟩:=DS (P:=P) hr hv (ha.eval x hx) (ha.eval y hy)
  refine .value hr hp aO ?_
  dsimp only
  rw[Sem.run_bind,aI];rfl
 | unOp op t x=>
  rw[bL] at h
  obtain⟨xv,hx,h⟩:=eb h
  obtain⟨v,hv,hp⟩:=dd h
  obtain⟨v',aI,aO⟩:=Hd (P:=P) hv (ha.eval x hx)
  exact .value hr hp aO (by dsimp only;simp [aI])
 | convert s d x=>
  rw[bL] at h
  obtain⟨xv,hx,h⟩:=eb h
  unfold c7 at h
  cases hc:evalConv P σ id s d xv with
  | none=>rw[hc] at h;exact h.elim
  | some r=>
   rw[hc] at h
   obtain⟨ρ',v',w',aI,hv,az⟩:=LH hr cq hc (ha.eval x hx)
   exact⟨_,_,_,_,_,h,hv,az,.inl (by dsimp only;simp [aI])⟩
 | sliceToArrayPointer d x=>rw[bL] at h;exact h.elim
 | makeInterface t x=>
  rw[bL] at h
  obtain⟨xv,hx,h⟩:=eb h
  unfold gK at h
  split at h
  ·exact h.elim
  ·rename_i d iz hd
   refine .value hr h (.iface (ha.eval x hx)) ?_
   dsimp only
   cases d<;>first
    | exact(iz _ hd).elim
    | exact(iz _ rfl).elim
    | simp [Instr.makeInterface,run_underlying hd]
  ·exact h.elim
 | makeFunc fn f c=>
  rw[bL] at h
  have h':(iH σ fn (a.bO f.toList) (a.bO c.toList)).Holds p:=h
  cases hf:a.bO f.toList with
  | none=>rw[hf] at h';exact h'.elim
  | some fs=>cases hc:a.bO c.toList with
   | none=>rw[hf,hc] at h';exact h'.elim
   | some cs=>
    rw[hf,hc] at h'
    unfold iH at h'
    dsimp only at h'⊢
    split at h'
    ·exact h'.elim
    ·rename_i hny
     refine .value hr h' (.func (.same hny) (ha.bO _ hf) (ha.bO _ hc)) ?_
     rw[show f.map a'.eval=⟨f.toList.map a'.eval⟩ from Array.ext' (by simp),show c.map a'.eval=⟨c.toList.map a'.eval⟩ from Array.ext' (by simp)]
     rfl
 | makeMap t r=>rw[bL] at h;exact h.elim
 | makeChan t s=>rw[bL] at h;exact h.elim
 | makeSlice t l c=>
  rw[bL] at h
  obtain⟨lv,cv,hl,hc,h⟩:=k9 h
  obtain⟨v,σ',ρ',v',w',hp,hv,aI,az⟩:=A5 hr cq h (ha.eval l hl) (ha.eval c hc)
  exact⟨v,σ',ρ',v',w',hp,hv,az,.inl (by dsimp only;simp [aI])⟩
 | slice t x lo hi mx=>
  rw[bL] at h
  obtain⟨xv,hx,h⟩:=eb h
  unfold fA at h
  split at h
  ·rename_i l hh m h1 h2 h3
   split at h
   ·rename_i k e hk
    obtain⟨v,hv,hp⟩:=dd h
    obtain⟨v',aI,aO⟩:=yW (P:=P) hr (rJ hk) hv (ha.eval x hx) (ha.hZ h1) (ha.hZ h2) (ha.hZ h3)
    exact .value hr hp aO (by dsimp only;simp [aI])
   ·obtain⟨v,hv,hp⟩:=dd h
    obtain⟨v',aI,aO⟩:=A2 (P:=P) hv (ha.eval x hx) (ha.hZ h1) (ha.hZ h2) (ha.hZ h3) w
    exact .value hr hp aO (by dsimp only;simp [aI])
  ·exact h.elim
 | fieldAddr s x f=>
  rw[bL] at h
  obtain⟨xv,hx,h⟩:=eb h
  have gp:=ha.eval x hx
  unfold kb at h
  dsimp only
  generalize a'.eval x=x' at gp⊢
  split at h
  ·cases gp with
   | ptr hl=>
    rename_i b off l
    split at h
    ·rename_i fd lK
     split at h
     ·rename_i n hn
      unfold kX at lK
      split at lK
      ·rename_i fs hu
       refine .value hr h (v':=.pointer (some ⟨l.c,l.o+(off+fd.offset),none⟩)) (.ptr hl) ?_
       simp [Instr.fieldAt,run_underlying hu,lK,Instr.sureAddr,fieldPlace,br hn,ek,Nat.add_assoc]
      ·cases lK
     ·exact h.elim
    ·exact h.elim
  ·cases gp with
   | aM cG eR=>
    rename_i cs off c o xs
    split at h
    ·rename_i fd lK
     split at h
     ·rename_i n hn
      unfold kX at lK
      split at lK
      ·rename_i fs hu
       refine .value hr h (v':=.pointer (some ⟨c,o+(off+fd.offset),none⟩)) (.aM cG eR) ?_
       simp [Instr.fieldAt,run_underlying hu,lK,Instr.sureAddr,fieldPlace,br hn,ek,Nat.add_assoc]
      ·cases lK
     ·exact h.elim
    ·exact h.elim
  ·cases gp with
   | fy hl=>
    rename_i b i esz off l
    split at h
    ·rename_i fd lK
     split at h
     ·rename_i n hn
      unfold kX at lK
      split at lK
      ·rename_i fs hu
       refine .value hr h (v':=.pointer (some ⟨l.c,l.o+(i*esz+(off+fd.offset)),none⟩)) (.fy hl) ?_
       simp [Instr.fieldAt,run_underlying hu,lK,Instr.sureAddr,fieldPlace,br hn,ek,Nat.add_assoc]
      ·cases lK
     ·exact h.elim
    ·exact h.elim
  ·exact h.elim
 | field t x f=>
  rw[bL] at h
  obtain⟨xv,hx,h⟩:=eb h
  have gp:=ha.eval x hx
  unfold qA at h
  dsimp only
  generalize a'.eval x=x' at gp⊢
  split at h
  ·cases gp with
   | agg hc=>
    split at h
    ·rename_i fd lK
     obtain⟨v,hv,hp⟩:=dd h
     obtain⟨v',aI,aO⟩:=la (P:=P) hc hv
     unfold kX at lK
     split at lK
     ·rename_i fs hu
      exact .value hr hp aO (by simp [Instr.field,run_underlying hu,lK,asAgg,aI])
     ·cases lK
    ·exact h.elim
  ·exact h.elim
 | indexAddr t x ix=>
  rw[bL] at h
  obtain⟨xv,iv,hx,hi,h⟩:=k9 h
  have gp:=ha.eval x hx
  have we:=ha.eval ix hi
  unfold jg at h
  dsimp only
  generalize a'.eval x=x' at gp⊢
  generalize a'.eval ix=i' at we⊢
  split at h
  ·rename_i b n esz k i
   cases we
   unfold jv at h
   split at h
   ·rename_i e he
    split at h
    ·rename_i sz bd
     split at h
     ·rename_i hc
      obtain⟨c1,c2,c3,c4⟩:=hc
      subst c3
      cases gp with
      | own hl oJ hN=>
       rename_i l cap
       refine .value hr h (v':=.pointer (some ⟨l.c,l.o+(i.toNat*sz+0),none⟩)) (.fy hl) ?_
       simp [Instr.indexAt,asIntOf,run_underlying (gP he),c1,c2,br bd,ek]
     ·exact h.elim
    ·exact h.elim
   ·exact h.elim
  ·rename_i n f esz ex nn k i
   cases we
   unfold ju at h
   split at h
   ·rename_i e he
    split at h
    ·rename_i sz bd
     split at h
     ·rename_i hc
      obtain⟨c1,c2,c3,c4⟩:=hc
      cases gp with
      | arr _ gp=>
       obtain⟨v',aI,aO⟩:=Hh (P:=P) (k:=k) hr he bd c1 (by rw[aS];exact c2) c3 c4 (dg (f:=f) (i:=i.toNat) (by omega)) gp
       exact .value hr h aO (by simp [aI])
     ·exact h.elim
    ·exact h.elim
   ·exact h.elim
  ·rename_i b off len cap ex esz k i
   cases we
   unfold oC at h
   split at h
   ·rename_i e he
    split at h
    ·rename_i sz bd
     split at h
     ·rename_i hc
      obtain⟨c1,c2,c3⟩:=hc
      cases gp with
      | slice hl hex dy hN hn=>
       rename_i l off' cap'
       have ho:off'=l.o+off:=by
        cases ex with
        | true=>exact(hex rfl).2
        | false=>rcases(dy rfl).2 with h | h
                 ·exact h
                 ·omega
       refine .value hr h (v':=.pointer (some ⟨l.c,l.o+(off+i.toNat*sz),none⟩)) (.ptr hl) ?_
       simp [Instr.indexAt,asIntOf,run_underlying (gP he),c1,c2,br bd,ek,ho,Nat.add_assoc]
     ·exact h.elim
    ·exact h.elim
   ·exact h.elim
  ·rename_i es esz ex k i
   cases we
   unfold oE at h
   split at h
   ·rename_i e he
    split at h
    ·rename_i sz bd
     split at h
     ·rename_i hc
      obtain⟨c1,c2,c3,c4⟩:=hc
      subst c3
      rw[bc] at c2
      split at h
      ·rename_i u pY
       rw[dA] at pY
       cases gp with
       | bk hu cG eR oJ hex=>
        rename_i c off cap xs
        have RZ:ar (es.drop i.toNat)=(ar es).drop (i.toNat*sz):=mr hu _
        have Hi:es.drop i.toNat=u::es.drop (i.toNat+1):=by
         have bB:=(List.getElem?_eq_some_iff.1 pY)
         obtain⟨h1,h2⟩:=bB
         rw[List.drop_eq_getElem_cons h1,h2]
        have BQ:u.cells.length=sz:=hu u (List.mem_of_getElem? pY)
        have aO:au ρ u.cells ((xs.drop (i.toNat*sz)).take sz):=by
         have h1:=(cG.drop (i.toNat*sz)).take sz
         rw[←RZ,Hi,bS,←BQ,List.take_left' rfl] at h1
         rw[←BQ];exact h1
        refine .value hr h (v':=.pointer (some ⟨c,off+i.toNat*sz+0,none⟩)) (.aM aO fun k x hk=>?_) ?_
        ·rw[List.getElem?_take] at hk
         split at hk
         ·rw[List.getElem?_drop] at hk
          rw[Nat.add_assoc];exact eR _ x hk
         ·cases hk
        ·simp [Instr.indexAt,asIntOf,run_underlying (gP he),c1,c2,br bd,ek]
       | dO=>simp at pY
       | dh he=>simp at pY
      ·exact h.elim
     ·exact h.elim
    ·exact h.elim
   ·exact h.elim
  ·rename_i b off k i
   cases we
   unfold oD at h
   split at h
   ·rename_i n e he
    split at h
    ·rename_i sz bd
     split at h
     ·rename_i hc
      obtain⟨c1,c2⟩:=hc
      cases gp with
      | ptr hl=>
       rename_i l
       refine .value hr h (v':=.pointer (some ⟨l.c,l.o+(off+i.toNat*sz),none⟩)) (.ptr hl) ?_
       simp [Instr.indexAt,asIntOf,run_underlying (rJ he),c1,c2,br bd,Instr.sureAddr,ek,Nat.add_assoc]
     ·exact h.elim
    ·exact h.elim
   ·exact h.elim
  ·exact h.elim
 | index t x ix=>
  rw[bL] at h
  obtain⟨xv,iv,hx,hi,h⟩:=k9 h
  have gp:=ha.eval x hx
  have we:=ha.eval ix hi
  unfold om at h
  dsimp only
  generalize a'.eval x=x' at gp⊢
  generalize a'.eval ix=i' at we⊢
  split at h
  ·rename_i s k i
   cases we;cases gp
   unfold lB at h
   split at h
   ·rename_i hu
    split at h
    ·rename_i hi0
     split at h
     ·rename_i c hc
      rw[dA] at hc
      refine .value hr h (.int _ _) ?_
      have hb:(⟨⟨s⟩⟩:ByteArray)[i.toNat]? =some c:=by
       obtain⟨hl,he⟩:=List.getElem?_eq_some_iff.1 hc
       rw[getElem?_pos _ _ (by exact hl)];exact congrArg some he
      simp [Instr.index,asIntOf,run_underlying hu,hi0,hb]
     ·exact h.elim
    ·exact h.elim
   ·exact h.elim
  ·rename_i cs k i
   cases we
   cases gp with
   | agg dE=>
    unfold ry at h
    split at h
    ·rename_i n e he
     split at h
     ·rename_i sz bd
      split at h
      ·rename_i hc
       obtain⟨c1,c2⟩:=hc
       obtain⟨v,hv,hp⟩:=dd h
       obtain⟨v',aI,aO⟩:=la (P:=P) dE hv
       exact .value hr hp aO (by simp [Instr.index,asIntOf,run_underlying (rJ he),c1,c2,br bd,aI])
      ·exact h.elim
     ·exact h.elim
    ·exact h.elim
  ·exact h.elim
 | lookup t x k ok=>rw[bL] at h;exact h.elim
 | mapUpdate t m k v=>rw[bL] at h;exact h.elim
 | mapEntry t m k=>rw[bL] at h;exact h.elim
 | entryStore t m s v=>rw[bL] at h;exact h.elim
 | range t x=>rw[bL] at h;exact h.elim
 | next it s=>rw[bL] at h;exact h.elim
 | entry it=>rw[bL] at h;exact h.elim
 | typeAssert x xt t ok=>
  rw[bL] at h
  obtain⟨xv,hx,h⟩:=eb h
  obtain⟨v,hv,hp⟩:=dd h
  obtain⟨v',aI,aO⟩:=Hg (P:=P) (xt:=xt) hv (ha.eval x hx) w
  exact .value hr hp aO (by dsimp only;simp [aI])
 | extract x i=>
  rw[bL] at h
  obtain⟨xv,hx,h⟩:=eb h
  have gp:=ha.eval x hx
  unfold ph at h
  dsimp only
  generalize a'.eval x=x' at gp⊢
  split at h
  ·cases gp with
   | tuple gO=>
    obtain⟨v,hv,hp⟩:=dd h
    rw[dA] at hv
    obtain⟨v',mf,aO⟩:=gO.get i hv
    exact .value hr hp aO (by simp [Instr.extract,mf])
  ·exact h.elim
 | call c=>exact absurd bL (ja c)
 | go c=>rw[bL] at h;exact h.elim
 | defer c=>rw[bL] at h;exact h.elim
 | panic x=>rw[bL] at h;exact h.elim
 | send c x=>rw[bL] at h;exact h.elim
 | recv t c ok=>rw[bL] at h;exact h.elim
 | select cs b=>rw[bL] at h;exact h.elim
end
end Go.Ev
end
