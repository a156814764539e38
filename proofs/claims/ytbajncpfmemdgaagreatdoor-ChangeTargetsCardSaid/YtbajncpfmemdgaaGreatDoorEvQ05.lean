/- Proved: parts of the way: OpsD, OpsE, OpsF. -/
import Derived.Test.YtbajncpfmemdgaaGreatDoorEvQ04
import Derived.Laws.BytesString
section
namespace Go.Ev
open Go
section
variable {P:Program} {ρ:aA} {σ:St} {w:World} {id:Nat} {p:V×St→Prop}
theorem Px [Env] {x:V} {n:Nat} (h:DB x=some n) {x':Value} (hx:au ρ x x') (w:World):(Builtin.lenOf x').run P w=.ok n w:=by
 unfold DB at h
 split at h
 ·cases h;cases hx;rfl
 ·cases h;cases hx;rfl
 ·cases h;cases hx;rw[aP];rfl
 ·cases h;rw[aP];cases hx<;>rfl
 ·cases h
theorem GY [Env] (hr:R ρ σ w) {x:V} {n sz:Nat} {l:List V} (h:Ab σ x n sz=some l) {x':Value} (hx:au ρ x x') (hn:∃m,DB x=some m∧n≤m):
  ∃l':List Value,(Builtin.firstCells sz n x').run P w=.ok ⟨l'⟩ w∧ay ρ l l':=by
 unfold Ab at h
 split at h
 ·split at h
  ·rename_i kg
   cases h;cases hx
   exact⟨[],by simp [Builtin.firstCells],.nil⟩
  ·cases h
 ·rename_i b off m cap ex esz
  cases hx with
  | slice hl hex cW hN jc=>
   rename_i cx off' cap'
   obtain⟨k,hk,hnk⟩:=hn
   cases hk
   by_cases hz:off'=cx.o+off
   ·subst hz
    obtain⟨xs,aE,aO,_⟩:=hr.loadCells (P:=P) h hl
    exact⟨xs,by simpa [Builtin.firstCells] using aE w rfl,aO⟩
   ·have hzero:m=0:=by
     cases ex with
     | true=>exact absurd (hex rfl).2 hz
     | false=>
      rcases(cW rfl).2 with h' | h'
      ·exact absurd h' hz
      ·exact h'.1
    have:n=0:=by omega
    subst this
    rw[Nat.zero_mul] at h
    unfold St.cells at h
    split at h
    ·have h':some ([]:List V)=some _:=h
     cases h'
     exact⟨[],by simp [Builtin.firstCells,loadCells,loadCellsFrom],.nil⟩
    ·cases h
 ·split at h
  ·rename_i hs
   cases h;cases hx
   subst hs
   rename_i l
   rw[Dy,dW]
   refine⟨_,?_,ay.bytes _⟩
   have:((⟨⟨l⟩⟩:ByteArray).extract 0 n)=⟨⟨l.take n⟩⟩:=by rw[Lib.extract_eq];simp
   simp only[Builtin.firstCells,this,Sem.run_pure]
   simp
  ·cases h
 ·split at h
  ·rename_i hs
   obtain⟨hs,oN⟩:=hs
   cases h
   subst hs
   rw[aP] at oN
   rw[dW]
   cases hx with
   | bX hu hx hi hc he=>
    rename_i c off cap xs
    have hl:=cV hu
    have xh:=hx.length
    have hlen:(xs.take (n*sz)).length=n*sz:=by
     rw[List.length_take,←xh,hl]
     exact Nat.min_eq_left (Nat.mul_le_mul_right sz oN)
    refine⟨xs.take (n*sz),?_,hx.take _⟩
    have:=hr.rO (P:=P) (c:=c) (o:=off) (xs:=xs.take (n*sz)) (fun k x hk=>by
     rw[List.getElem?_take] at hk
     split at hk
     ·exact hi k x hk
     ·cases hk) w rfl
    rw[hlen] at this
    simpa [Builtin.firstCells] using this
   | dP=>
    have kg:n=0:=by simpa using oN
    subst kg
    exact⟨[],by simp [Builtin.firstCells],by simp [ax];exact .nil⟩
   | dt he=>
    have kg:n=0:=by simpa using oN
    subst kg
    exact⟨[],by simp [Builtin.firstCells,loadCells,loadCellsFrom],by simp [ax];exact .nil⟩
  ·cases h
 ·cases h
theorem Py [Env] (hr:R ρ σ w) {tys:Array TypeId} {ty t:TypeId} (ht:tys[0]? =some t) {d x v:V} {σ':St} (h:xP P σ t d x=some (v,σ')) {d' x':Value} (hd:au ρ d d') (hx:au ρ x x'):
  ∃v' w',(Builtin.copy_ tys ty #[d',x']).run P w=.ok v' w'∧au ρ v v'∧aW (fun b=>b=id) ρ σ w ρ σ' w':=by
 unfold xP at h
 split at h
 ·rename_i e hu
  split at h
  ·rename_i sz n m bk hn hm
   split at h
   ·cases h
   ·split at h
    ·cases h
    ·rename_i l hl
     obtain⟨l',aE,aO⟩:=GY (P:=P) hr hl hx ⟨n,hn,Nat.min_le_left _ _⟩
     have Hs:=Px (P:=P) hn hx w
     have gV:(#[d',x']:Array Value)[0]? =some d':=rfl
     have pF:(#[d',x']:Array Value)[1]? =some x':=rfl
     unfold Nd at h
     split at h
     ·cases h;cases hd
      cases hm
      refine⟨_,w,?_,.int _ _,aW.refl hr⟩
      simp only[Builtin.copy_,ht,gV,pF,Sem.run_bind,run_underlying hu,Result.andThen_ok,Hs,bB bk]
      rw[show Nat.min n 0=min n 0 from rfl,aE]
      rfl
     ·rename_i b off k cap ex esz
      split at h
      case h_2=>cases h
      rename_i fO
      rw[Option.map_eq_some_iff] at h
      obtain⟨aI,aF,he⟩:=h
      cases he
      cases hm
      cases hd with
      | slice jX hex cW hN jc=>
       rename_i cx off' cap'
       obtain⟨w',Xw,gm⟩:=hr.store (P:=P) (ids:=fun b=>b=id) aF jX aO
       refine⟨_,w',?_,.int _ _,gm⟩
       have hz:off'=cx.o+off:=by
        cases ex with
        | true=>exact(hex rfl).2
        | false=>
         rcases(cW rfl).2 with h' | ⟨_,h'⟩
         ·exact h'
         ·subst h';simp at fO
       subst hz
       simp only[Builtin.copy_,ht,gV,pF,Sem.run_bind,run_underlying hu,Result.andThen_ok,Hs,bB bk]
       rw[show Nat.min n m=min n m from rfl,aE]
       simp only[Result.andThen_ok,Xw]
       rfl
     ·cases h
  ·cases h
 ·cases h
theorem Nz [Env] (hr:R ρ σ w) {tys:Array TypeId} {ty t:TypeId} (ht:tys[0]? =some t) {d v:V} {σ':St} (h:evalClear P σ t d=some (v,σ')) {d':Value} (hd:au ρ d d'):
  ∃w',(Builtin.clear_ tys ty #[d']).run P w=.ok (.tuple #[]) w'∧v=.tuple []∧aW (fun b=>b=id) ρ σ w ρ σ' w':=by
 unfold evalClear at h
 split at h
 ·rename_i e hu
  split at h
  ·rename_i z hz
   split at h
   ·cases h
   ·rename_i h0
    rw[aP] at h0 h
    obtain⟨zv,gC,oa⟩:=gU hz ρ
    have gV:(#[d']:Array Value)[0]? =some d':=rfl
    unfold Hn at h
    split at h
    ·cases h;cases hd
     exact⟨w,by simp only[Builtin.clear_,ht,gV,Sem.run_bind,run_underlying hu,Result.andThen_ok];rfl,rfl,aW.refl hr⟩
    ·rename_i b off n cap ex esz
     cases hd with
     | slice jX hex cW hN jc=>
      rename_i cx off' cap'
      split at h
      ·rename_i hn
       have hn:=Nat.eq_of_beq_eq_true hn
       subst hn
       cases h
       exact⟨w,by simp only[Builtin.clear_,ht,gV,Sem.run_bind,run_underlying hu,Result.andThen_ok];rfl,rfl,aW.refl hr⟩
      ·rename_i hn fO
       rw[Option.map_eq_some_iff] at h
       obtain⟨aI,aF,he⟩:=h
       cases he
       have hz0:off'=cx.o+off:=by
        cases ex with
        | true=>exact(hex rfl).2
        | false=>
         rcases(cW rfl).2 with h' | ⟨_,h'⟩
         ·exact h'
         ·subst h';simp at fO
       subst hz0
       obtain⟨w',Xw,gm⟩:=hr.store (P:=P) (ids:=fun b=>b=id) aF jX (xl (n:=n) oa rfl h0)
       obtain⟨m,rfl⟩:∃m,n=m+1:=⟨n-1,by
        have:n≠0:=fun e=>by subst e;simp at hn
        omega⟩
       refine⟨w',?_,rfl,gm⟩
       simp only[Builtin.clear_,ht,gV,Sem.run_bind,run_underlying hu,Result.andThen_ok,gC]
       simp only[Xw,Result.andThen_ok]
       rfl
      ·cases h
    ·cases h
  ·cases h
 ·cases h
theorem UX [Env] (hr:R ρ σ w) {tys:Array TypeId} {ty t:TypeId} (ht:tys[0]? =some t) {x v:V} (h:eT P σ t x=some v) {x':Value} (hx:au ρ x x'):
  ∃v',(Builtin.len_ tys ty #[x']).run P w=.ok v' w∧au ρ v v':=by
 have gV:(#[x']:Array Value)[0]? =some x':=rfl
 unfold eT at h
 split at h
 ·rename_i hu
  split at h
  ·cases h;cases hx
   rw[aP]
   exact⟨_,by simp only[Builtin.len_,ht,gV,Sem.run_bind,run_underlying hu,Result.andThen_ok];rfl,.int _ _⟩
  ·cases h
 ·rename_i n e hu
  cases h
  exact⟨_,by simp only[Builtin.len_,ht,gV,Sem.run_bind,run_underlying hu,Result.andThen_ok];rfl,.int _ _⟩
 ·rename_i hu
  split at h
  ·cases h;cases hx
   exact⟨_,by simp only[Builtin.len_,ht,gV,Sem.run_bind,run_underlying hu,Result.andThen_ok];rfl,.int _ _⟩
  ·cases h;cases hx
   exact⟨_,by simp only[Builtin.len_,ht,gV,Sem.run_bind,run_underlying hu,Result.andThen_ok];rfl,.int _ _⟩
  ·cases h
   rw[aP]
   cases hx<;>exact⟨_,by simp only[Builtin.len_,ht,gV,Sem.run_bind,run_underlying hu,Result.andThen_ok];rfl,.int _ _⟩
  ·rename_i n f esz ex nn
   cases h
   cases hx with
   | arr _ hx=>
    obtain⟨a,cap,rfl⟩:=hx.UT rfl
    refine⟨.int .i64 (cn n f).length,by simp only[Builtin.len_,ht,gV,Sem.run_bind,run_underlying hu,Result.andThen_ok];rfl,?_⟩
    rw[bg];exact .int _ _
  ·cases h;cases hx
   exact⟨_,by simp only[Builtin.len_,ht,gV,Sem.run_bind,run_underlying hu,Result.andThen_ok];rfl,.int _ _⟩
  ·cases h
 ·rename_i hu
  unfold u9 at h
  split at h
  ·cases h;cases hx
   exact⟨_,by simp only[Builtin.len_,ht,gV,Sem.run_bind,run_underlying hu,Result.andThen_ok];rfl,.int _ _⟩
  ·rename_i r
   split at h
   ·rename_i es clock hb
    cases h;cases hx with
    | map hl=>
     obtain⟨l,cm,hk⟩:=hr.di _ _ hb
     rw[hl] at cm;cases cm
     cases hk with
     | map hm he=>
      rename_i es'
      have hlen:es.length=es'.size:=by
       have:∀(l:List (V×V×Nat)) (l':List MapEntry),cq ρ l l'→l.length=l'.length:=by
        intro l
        induction l with
        | nil=>intro l' h;cases h;rfl
        | cons a l ih=>intro l' h;cases h with | cons _ h=>simp [ih _ h]
       simpa using this _ _ he
      rw[aP,hlen]
      refine⟨.int .i64 es'.size,?_,.int _ _⟩
      simp only[Builtin.len_,ht,gV,Sem.run_bind,run_underlying hu,Result.andThen_ok,getObj,Sem.run,hm]
      rfl
   ·cases h
  ·cases h
 ·cases h
theorem pL [Env]:∀ {l:List V} {s:List UInt8} {l':List Value},eI l=some s→ay ρ l l'→∃ns:List Int,l'=ns.map (Value.int .u8)∧s=ns.map fun n=>UInt8.ofNat n.toNat:=by
 intro l
 induction l with
 | nil=>
  intro s l' h hl
  cases hl
  simp only[eI,Option.some.injEq] at h
  subst h
  exact⟨[],rfl,rfl⟩
 | cons v l ih=>
  intro s l' h hl
  cases hl with
  | cons hv hl=>
   cases v with
   | int k n=>
    cases k<;>first
     | (simp [eI] at h;done)
     | (simp only[eI,Option.map_eq_some_iff] at h
        obtain⟨s',ob,rfl⟩:=h
        obtain⟨ns,rfl,rfl⟩:=ih ob hl
        cases hv
        exact⟨n::ns,rfl,rfl⟩)
   | _=>simp [eI] at h
theorem qZ:∀(ns:List Int) (acc:ByteArray),ns.foldl (fun(r:ByteArray) n=>r.push (UInt8.ofNat n.toNat)) acc=acc++⟨⟨ns.map fun n=>UInt8.ofNat n.toNat⟩⟩:=by
 intro ns
 induction ns with
 | nil=>intro acc;apply ByteArray.ext;simp
 | cons n ns ih=>
  intro acc
  rw[List.foldl_cons,ih]
  apply ByteArray.ext
  simp [ByteArray.data_push,ByteArray.data_append]
theorem Pz [Env] (hr:R ρ σ w) (cg:ρ id=none) {src dst:TypeId} {x v:V} {σ':St} (h:evalConv P σ id src dst x=some (v,σ')) {x':Value} (hx:au ρ x x'):
  ∃ρ' v' w',(convert src dst x').run P w=.ok v' w'∧au ρ' v v'∧aW (fun b=>b=id) ρ σ w ρ' σ' w':=by
 unfold evalConv at h
 split at h
 ·rename_i k k' Xx n hs hd
  cases h;cases hx
  exact⟨ρ,_,w,by simp only[convert,Sem.run_bind,run_underlying hs,run_underlying hd,Result.andThen_ok];rfl,.int _ _,aW.refl hr⟩
 ·rename_i k k' Xx n hs hd
  cases h;cases hx
  exact⟨ρ,_,w,by simp only[convert,Sem.run_bind,run_underlying hs,run_underlying hd,Result.andThen_ok];rfl,.dO _ _,aW.refl hr⟩
 ·rename_i hs hd
  split at h
  ·rename_i n hn
   split at h
   ·rename_i cW
    cases h;cases hx
    exact⟨ρ,_,w,by simp only[convert,Sem.run_bind,run_underlying hs,run_underlying hd,Result.andThen_ok,Conv.floatToInt,hn,if_pos cW];rfl,.int _ _,aW.refl hr⟩
   ·cases h
  ·cases h
 ·rename_i s hs hd
  cases h;cases hx
  exact⟨ρ,_,w,by simp only[convert,Sem.run_bind,run_underlying hs,run_underlying hd,Result.andThen_ok];rfl,.str _,aW.refl hr⟩
 ·rename_i e s hs hd
  split at h
  ·rename_i he
   split at h
   ·rename_i hc
    cases h;cases hx
    obtain⟨bk,pK,hle⟩:=hc
    rw[aP]
    obtain⟨cap,pJ⟩:∃cap,cap=(Question.appendCap s.length 0 e).cut (w.tape w.drawn (.appendCap s.length 0 e)):=⟨_,rfl⟩
    have oI:s.length≤cap:=by rw[pJ];simp [Question.cut]
    let C:Array Value:=(s.map fun c=>Value.int .u8 c.toNat).toArray++Array.replicate (cap-s.length) (.int .u8 0)
    have hC:C.size=cap:=by simp [C];omega
    let w':World:={w with drawn:=w.drawn+1,heap:=w.heap.push (.cells C e (cap,cap+1))}
    have lb:w'.heap[w.heap.size]? =some (.cells C e (cap,cap+1)):=by show(w.heap.push _)[w.heap.size]? =_;simp
    refine⟨jb ρ id ⟨w.heap.size,0,cap⟩,.slice (some ⟨w.heap.size,0,none⟩) s.length cap,w',?_,?_,?_⟩
    ·have rT:(Question.appendCap s.length 0 e).forced=false:=rfl
     have PA:(⟨⟨s⟩⟩:ByteArray).data.map (fun b=>Value.int .u8 (b.toNat:Int))++Array.replicate (cap-s.length) (.int .u8 0)=C:=by
      simp [C]
     simp only[convert,Sem.run_bind,run_underlying hs,run_underlying hd,run_underlying he,Result.andThen_ok,Conv.stringToBytes,yK,run_choose,rT,Bool.false_eq_true,if_false,←pJ,Go.newRow,run_newObj,PA,Sem.run_pure,markStringish,run_shape]
     have hsh:World.shape? {heap:=w.heap.push (.cells C e),tape:=w.tape,drawn:=w.drawn+1,os:=w.os,output:=w.output} w.heap.size=some (e,C.size):=by simp [World.shape?]
     rw[hsh]
     simp only[run_freeze,Result.andThen_ok,World.freeze,hC]
     congr 1
     simp only[Nat.one_ne_zero,if_false,w']
     congr 1
     apply Array.ext_getElem?
     intro j
     rw[Array.getElem?_modify]
     by_cases hj:w.heap.size=j
     ·subst hj;simp
     ·rw[if_neg hj,Array.getElem?_push,Array.getElem?_push]
      by_cases gS:j=w.heap.size
      ·exact absurd gS.symm hj
      ·rw[if_neg gS,if_neg gS]
    ·exact .own (l:=⟨w.heap.size,0,cap⟩) (fV _ _ _) oI (by simp)
    ·refine aW.alloc hr cg (w':=w') rfl rfl rfl rfl (.row ⟨e,?_⟩ (by simpa using oI) (fun i _=>rfl) (fun i hi k v hk=>?_) (fun i hi=>?_) (by simp))
     ·unfold World.shape?;rw[lb];simp only[hC]
     ·have HA:k=0∧dM s i=v:=by
       cases k with
       | zero=>exact⟨rfl,by simpa [V.cells,dM] using hk⟩
       | succ k=>simp [V.cells,dM] at hk
      obtain⟨rfl,rfl⟩:=HA
      refine⟨.int .u8 (s[i]'hi).toNat,?_,?_⟩
      ·simp only[World.cell?,lb,Option.isSome_none,Bool.false_eq_true,if_false]
       show((s.map fun c=>Value.int .u8 c.toNat).toArray++_)[0+(i*1+0)]? =_
       rw[show 0+(i*1+0)=i by omega,Array.getElem?_append_left (by simpa using hi)]
       simp [List.getElem?_eq_getElem hi]
      ·unfold dM aw
       rw[ea,List.getElem?_eq_getElem hi]
       exact .int _ _
     ·simp only[World.frozen?,lb]
      have:i<cap:=hi
      simp;omega
   ·cases h
  ·cases h
 ·rename_i e hs hd
  split at h
  ·rename_i he
   cases h;cases hx
   exact⟨ρ,_,w,by simp only[convert,Sem.run_bind,run_underlying hs,run_underlying hd,Result.andThen_ok,run_underlying he];rfl,.str _,aW.refl hr⟩
  ·cases h
 ·rename_i e b off n cap ex esz hs hd
  split at h
  ·rename_i he
   split at h
   ·rename_i l hl
    rw[Option.map_eq_some_iff] at h
    obtain⟨s,ob,kh⟩:=h
    cases kh
    cases hx with
    | slice jX hex cW hN jc=>
     rename_i cx off' cap'
     have yP:∃xs:List Value,(loadCells ⟨cx.c,off',none⟩ n).run P w=.ok ⟨xs⟩ w∧ay ρ l xs:=by
      by_cases hz:off'=cx.o+off
      ·subst hz
       obtain⟨xs,aE,aO,_⟩:=hr.loadCells (P:=P) hl jX
       exact⟨xs,aE w rfl,aO⟩
      ·have hzero:n=0:=by
        cases ex with
        | true=>exact absurd (hex rfl).2 hz
        | false=>
         rcases(cW rfl).2 with h' | h'
         ·exact absurd h' hz
         ·exact h'.1
       subst hzero
       unfold St.cells at hl
       split at hl
       ·have h':some ([]:List V)=some _:=hl
        cases h'
        exact⟨[],rfl,.nil⟩
       ·cases hl
     obtain⟨xs,aE,aO⟩:=yP
     obtain⟨ns,rfl,rfl⟩:=pL ob aO
     refine⟨ρ,.string ⟨⟨ns.map fun n=>UInt8.ofNat n.toNat⟩⟩,w,?_,.str _,aW.refl hr⟩
     rw[run_convert_bytes_string w src dst e _ _ _ hs he hd,run_bytesToString w _ _ _ ns (by simpa using aE),qZ]
     congr 2
   ·cases h
  ·cases h
 ·rename_i e es esz ex hs hd
  split at h
  ·rename_i he
   split at h
   ·rename_i h1
    have h1:=Nat.eq_of_beq_eq_true h1
    rw[Option.map_eq_some_iff] at h
    obtain⟨s,ob,kh⟩:=h
    cases kh
    have fin:∀(a:Option Addr) (n cap:Nat) (xs:List Value),(a=none→n=0)→x'=.slice a n cap→(∀a',a=some a'→(loadCells a' n).run P w=.ok ⟨xs⟩ w)→(a=none→xs=[])→ay ρ (ax es) xs→
      ∃ρ' v' w',(convert src dst x').run P w=.ok v' w'∧au ρ' (.str s) v'∧aW (fun b=>b=id) ρ σ w ρ' σ w':=by
     rintro a n cap xs hn rfl yP iC aO
     obtain⟨ns,rfl,rfl⟩:=pL ob aO
     cases a with
     | none=>
      have Tc:ns=[]:=by simpa using iC rfl
      subst Tc
      have:=hn rfl
      subst this
      exact⟨ρ,_,w,by simp only[convert,Sem.run_bind,run_underlying hs,run_underlying hd,Result.andThen_ok,run_underlying he];rfl,.str _,aW.refl hr⟩
     | some a=>
      refine⟨ρ,.string ⟨⟨ns.map fun n=>UInt8.ofNat n.toNat⟩⟩,w,?_,.str _,aW.refl hr⟩
      rw[run_convert_bytes_string w src dst e _ _ _ hs he hd,run_bytesToString w _ _ _ ns (by simpa using yP a rfl),qZ]
      congr 2
    cases hx with
    | bX hu hx hi hc hex=>
     rename_i c off cap xs
     have hl:(ax _).length=_:=cV hu
     have xh:=hx.length
     refine fin _ _ _ xs (fun h=>by cases h) rfl (fun a' ha=>?_) (fun h=>by cases h) hx
     cases ha
     have:=hr.rO (P:=P) hi w rfl
     rw[←xh,hl,h1,Nat.mul_one] at this
     exact this
    | dP=>exact fin _ _ _ [] (fun _=>rfl) rfl (fun _ h=>by cases h) (fun _=>rfl) .nil
    | dt hex=>exact fin _ _ _ [] (fun _=>rfl) rfl (fun a' ha=>by simp [loadCells,loadCellsFrom]) (fun _=>rfl) .nil
   ·cases h
  ·cases h
 ·rename_i e b n esz hs hd
  split at h
  ·rename_i he
   split at h
   ·rename_i n' f z p hb
    split at h
    ·rename_i hc
     obtain⟨rfl,rfl⟩:=hc
     rw[Option.map_eq_some_iff] at h
     obtain⟨s,ob,kh⟩:=h
     cases kh
     let mc:=σ.set b (.cells (n'*1) [] (ai (ax (cn n' f)) .leaf 0) p false)
     have fe:∀b',mc.heap.get b'=if b'=b then some (.cells (n'*1) [] (ai (ax (cn n' f)) .leaf 0) p false) else σ.heap.get b':=fun b'=>by
      show(σ.set b _).heap.get b'=_
      rw[nk,Trie.b9]
     have aF:=aW.Hz (σ':=mc) (aW.refl (ids:=fun b=>b=id) hr) hb fe (by show(σ.set b _).next=_;rw[sX])
     obtain⟨l,hl,cE⟩:=hr.di _ _ hb
     have hu:∀i,i<n'→(f i).cells.length=1:=by cases cE with | row hs hn hu=>exact hu
     have jo:(ax (cn n' f)).length=n':=by rw[cV (gI hu),bg,Nat.mul_one]
     have yM:mc.cells b 0 n'=some (ax (cn n' f)):=by
      unfold St.cells
      rw[fe,if_pos rfl]
      show cellsOf (n'*1) [] (ai (ax (cn n' f)) .leaf 0) n' 0=_
      have:=rU (ax (cn n' f))
      rw[jo] at this
      rw[Nat.mul_one];exact this
     cases hx with
     | own cm pJ hN=>
      rename_i l' cap
      obtain⟨xs,aE,aO,_⟩:=aF.r.loadCells (P:=P) yM cm
      obtain⟨ns,rfl,rfl⟩:=pL ob aO
      refine⟨ρ,.string ⟨⟨ns.map fun n=>UInt8.ofNat n.toNat⟩⟩,w,?_,.str _,aW.refl hr⟩
      rw[run_convert_bytes_string w src dst e _ _ _ hs he hd,run_bytesToString w _ _ _ ns (by simpa using aE w rfl),qZ]
      congr 2
    ·cases h
   ·cases h
  ·cases h
 ·cases h
end
end Go.Ev
end
section
namespace Go.Ev
open Go
section
variable {P:Program} {ρ:aA} {σ:St} {w:World} {id:Nat} {p:V×St→Prop}
theorem cq.length [Env] {l:List (V×V×Nat)} {l':List MapEntry}:cq ρ l l'→l.length=l'.length
 | .nil=>rfl
 | .cons _ hl=>congrArg (·+1) hl.length
def PB [Env] (P:Program) (ρ:aA) (ok:TypeId→V→Bool) (d:Nat):Prop:=
 ∀t x,ok t x=true→∀x',au ρ x x'→∀n,d≤n→∀em w,(Instr.checkKey em n t x').run P w=.ok () w
theorem NA [Env]:∀(d:Nat),PB P ρ (nK P d) d:=by
 intro d
 induction d with
 | zero=>intro t x h;cases h
 | succ d ih=>
  intro t x h x' hx n hn em w
  obtain⟨n,rfl⟩:∃m,n=m+1:=⟨n-1,by omega⟩
  have h':yA P (nK P d) x (P.underlying t)=true:=h
  unfold yA at h'
  split at h'
  ·rename_i hu;simp [Instr.checkKey,run_underlying hu]
  ·rename_i hu;simp [Instr.checkKey,run_underlying hu]
  ·rename_i hu;simp [Instr.checkKey,run_underlying hu]
  ·rename_i fs hu
   split at h'
   ·cases hx with | agg hx=>
    rename_i cs l3
    simp only[Instr.checkKey,Sem.run_bind,run_underlying hu,Result.andThen_ok]
    rw[←Array.forIn_toList]
    generalize fs.toList=l at h'
    induction l with
    | nil=>simp
    | cons f l Xy=>
     have xm:(match f.name== "_",dT P f.type cs f.offset with
      | false,some a=>match nK P d f.type a with
       | true=>Nb P (nK P d) cs l
       | false=>false
      | _,_=>false)=true:=h'
     split at xm
     ·rename_i a ed ha
      split at xm
      ·rename_i hk
       obtain⟨a',Nq,DM⟩:=ke (P:=P) hx ha
       have DN:f.name≠ "_":=by simpa using ed
       simp only[List.forIn_cons,Sem.run_bind,if_pos DN,Nq,Result.andThen_ok,ih _ _ hk _ DM n (by omega) em w,Sem.run_pure]
       simpa using Xy xm
      ·cases xm
     ·cases xm
   ·cases h'
  ·cases h'
inductive Found [Env] (ρ:aA) (es':List MapEntry) (i:Nat):Option (Nat×V×V)→Option (Nat×Value)→Prop
 | none:Found ρ es' i none none
 | some {j:Nat} {k v:V} {e:MapEntry} (h:es'[j]? =some e) (hk:au ρ k e.key) (hv:au ρ v e.val):Found ρ es' i (some (i+j,k,v)) (some (i+j,e.val))
theorem HB [Env] {x:V} {k:IntKind} {n:Int} (h:au ρ x (.int k n)) (hn:∀i,x≠.any i):x=.int k n:=by
 generalize hz:Value.int k n=z at h
 cases h<;>first
  | exact absurd rfl (hn _)
  | (rename_i h;obtain⟨_,_,_,e⟩:=h.dG rfl;subst e;cases hz;done)
  | (rename_i h;obtain⟨_,_,_,e⟩:=h.dG rfl;cases e;done)
  | (cases hz;done)
  | (cases hz;rfl)
theorem DU [Env] {x:V} {b:Bool} (h:au ρ x (.bool b)) (hn:∀i,x≠.any i):x=.bool b:=by
 generalize hz:Value.bool b=z at h
 cases h<;>first
  | exact absurd rfl (hn _)
  | (rename_i h;obtain⟨_,_,_,e⟩:=h.dG rfl;subst e;cases hz;done)
  | (rename_i h;obtain⟨_,_,_,e⟩:=h.dG rfl;cases e;done)
  | (cases hz;done)
  | (cases hz;rfl)
theorem HC [Env] {x:V} {s:ByteArray} (h:au ρ x (.string s)) (hn:∀i,x≠.any i):∃l,s=⟨⟨l⟩⟩∧x=.str l:=by
 generalize hz:Value.string s=z at h
 cases h<;>first
  | exact absurd rfl (hn _)
  | (rename_i h;obtain⟨_,_,_,e⟩:=h.dG rfl;subst e;cases hz;done)
  | (rename_i h;obtain⟨_,_,_,e⟩:=h.dG rfl;cases e;done)
  | (cases hz;done)
  | (cases hz;exact⟨_,rfl,rfl⟩)
theorem GZ {eq:TypeId→V→V→Option Bool} {t:TypeId} {d:Option TypeDesc} {x y:V} {b:Bool} (h:fR P eq t x y d=some b):((∀i,x≠.any i)∧∀i,y≠.any i)∨∃i,eh≤i∧x=.any i∧y=.any i∧b=true:=by
 by_cases hx:∀i,x≠.any i
 ·by_cases hy:∀i,y≠.any i
  ·exact .inl ⟨hx,hy⟩
  ·obtain⟨j,rfl⟩:∃j,y=.any j:=Classical.byContradiction fun e=>hy fun j hj=>e ⟨j,hj⟩
   exfalso
   cases d with
   | none=>simp [fR] at h
   | some d=>cases d<;>cases x<;>first
    | (simp [fR] at h;done)
    | exact hx _ rfl
    | (simp only[fR,gZ] at h;split at h<;>cases h;done)
 ·obtain⟨i,rfl⟩:∃i,x=.any i:=Classical.byContradiction fun e=>hx fun j hj=>e ⟨j,hj⟩
  cases d with
  | none=>simp [fR] at h
  | some d=>cases d<;>cases y<;>first
   | (simp [fR] at h;done)
   | (simp only[fR,gZ] at h;split at h<;>cases h;done)
   | (obtain⟨rfl,rfl,hi⟩:=yz h;exact .inr ⟨_,hi,rfl,rfl,rfl⟩)
theorem yQ [Env] {t:TypeId} {d:TypeDesc} (hu:P.underlying t=some d) {k k₁:V} {b c:Bool} {k' CY:Value} (hk:au ρ k k') (C0:au ρ k₁ CY) (h:ir P cD t k k₁=some b) (hs:Instr.sameNow d k' CY=some c):b=c:=by
 have h':fR P (ir P 19) t k k₁ (P.underlying t)=some b:=h
 rw[hu] at h'
 have wL:=GZ h'
 by_cases KP:(∀i,k≠.any i)∧∀i,k₁≠.any i
 case neg=>
  rcases wL with h1 | ⟨i,hi,rfl,rfl,rfl⟩
  ·exact absurd h1 KP
  ·cases hk;cases C0
   obtain⟨q,hq⟩:=Env.int i hi
   rw[hq] at hs
   unfold Instr.sameNow at hs
   split at hs
   ·rename_i e1 e2
    cases e1;cases e2
    simp at hs
    exact hs.symm
   ·rename_i e1 _;cases e1
   ·rename_i e1 _;cases e1
   ·cases hs
 obtain⟨n1,n2⟩:=KP
 unfold Instr.sameNow at hs
 split at hs
 ·obtain rfl:=HB hk n1
  obtain rfl:=HB C0 n2
  rename_i k a k' c
  by_cases NB:k=k'
  ·simp only[fR,if_pos NB,Option.some.injEq] at h'
   simp only[if_pos NB,Option.some.injEq] at hs
   rw[←h',←hs]
  ·simp only[if_neg NB] at hs;cases hs
 ·obtain⟨l1,rfl,rfl⟩:=HC hk n1
  obtain⟨l2,rfl,rfl⟩:=HC C0 n2
  simp only[fR,Option.some.injEq] at h'
  simp only[Option.some.injEq] at hs
  rw[←h',←hs,vk]
 ·obtain rfl:=DU hk n1
  obtain rfl:=DU C0 n2
  simp only[fR,Option.some.injEq] at h'
  simp only[Option.some.injEq] at hs
  rw[←h',←hs]
 ·cases hs
theorem G0 [Env] {t:TypeId} {d:TypeDesc} (hu:P.underlying t=some d) {k:V} {k':Value} (hk:au ρ k k'):∀(es:List (V×V×Nat)) (es':List MapEntry) (i:Nat) {r:Option (Nat×V×V)},cq ρ es es'→ni P t k es i=some r→
  ∃r',Found ρ es' i r r'∧(∀w,(Instr.findAsking t k' es' i).run P w=.ok r' w)∧(∀q,Instr.findNow d k' es' i=some q→q=r'):=by
 intro es
 induction es with
 | nil=>
  intro es' i r he h
  cases he
  have h':some none=some r:=h
  cases h'
  exact⟨none,.none,fun w=>rfl,fun q hq=>by simp only[Instr.findNow,Option.some.injEq] at hq;exact hq.symm⟩
 | cons e es ih=>
  intro es' i r he h
  cases he with
  | cons he hl=>
   rename_i e' l'
   have h':(match ir P cD t k e.1 with
    | some true=>some (some (i,e.1,e.2.1))
    | some false=>ni P t k es (Nat.succ i)
    | none=>none)=some r:=h
   split at h'
   ·rename_i heq
    cases h'
    have aE:=fun w=>mH (P:=P) (ρ:=ρ) cD _ _ _ _ heq _ _ hk he.key 10000 (by decide) w
    refine⟨some (i,e'.val),?_,fun w=>?_,fun q hq=>?_⟩
    ·exact Found.some (j:=0) (e:=e') rfl he.key he.val
    ·have:(Op.equal t k' e'.key).run P w=.ok true w:=aE w
     simp [Instr.findAsking,this]
    ·unfold Instr.findNow at hq
     split at hq
     ·cases hq;rfl
     ·rename_i hs
      cases yQ hu hk he.key heq hs
     ·cases hq
   ·rename_i heq
    have aE:=fun w=>mH (P:=P) (ρ:=ρ) cD _ _ _ _ heq _ _ hk he.key 10000 (by decide) w
    obtain⟨r',hf,PC,DV⟩:=ih l' (i+1) hl h'
    refine⟨r',?_,fun w=>?_,fun q hq=>?_⟩
    ·cases hf with
     | none=>exact .none
     | some h1 h2 h3=>
      rename_i j k v e''
      have:=Found.some (ρ:=ρ) (es':=e'::l') (i:=i) (j:=j+1) (k:=k) (v:=v) (e:=e'') (by simpa using h1) h2 h3
      rwa [show i+(j+1)=i+1+j by omega] at this
    ·have:(Op.equal t k' e'.key).run P w=.ok false w:=aE w
     simp [Instr.findAsking,this,PC]
    ·unfold Instr.findNow at hq
     split at hq
     ·rename_i hs
      cases yQ hu hk he.key heq hs
     ·exact DV q hq
     ·cases hq
   ·cases h'
theorem im [Env] {t:TypeId} {d:TypeDesc} (hu:P.underlying t=some d) {k:V} {k':Value} (hk:au ρ k k') {es:List (V×V×Nat)} {es':List MapEntry} {r:Option (Nat×V×V)} (he:cq ρ es es') (h:ni P t k es 0=some r):
  ∃r',Found ρ es' 0 r r'∧∀w,(Instr.findKey t k' es').run P w=.ok r' w:=by
 obtain⟨r',hf,PC,DV⟩:=G0 hu hk es es' 0 he h
 refine⟨r',hf,fun w=>?_⟩
 unfold Instr.findKey
 simp only[Sem.run_bind,run_underlying hu,Result.andThen_ok]
 cases hq:Instr.findNow d k' es' 0 with
 | none=>exact PC w
 | some q=>rw[DV q hq];rfl
theorem lN {t:TypeId} {k:V} (h:nK P cD t k=true):∃d,P.underlying t=some d:=by
 have h':yA P (nK P 19) k (P.underlying t)=true:=h
 cases hu:P.underlying t with
 | none=>rw[hu] at h';cases h'
 | some d=>exact⟨d,rfl⟩
theorem kL [Env] {t:TypeId} {k:V} (h:nK P cD t k=true) {k':Value} (hk:au ρ k k') (em:Bool) (w:World):(Instr.checkKey em 10000 t k').run P w=.ok () w:=
 NA (P:=P) (ρ:=ρ) cD t k h k' hk 10000 (by decide) em w
theorem KQ [Env] (hr:R ρ σ w) {t:TypeId} {ok:Bool} {m k:V} (h:(gv P σ t ok m k).ar p) {m' k':Value} (hm:au ρ m m') (hk:au ρ k k'):
  ∃v v',p (v,σ)∧au ρ v v'∧(Instr.lookup t m' k' ok).run P w=.ok v' w:=by
 unfold gv at h
 split at h
 ·rename_i kt e es yR vr
  have hu:=pI yR
  split at h
  ·rename_i cE
   obtain⟨d,hd⟩:=lN cE
   have PA:∃es':Array MapEntry,cq ρ es es'.toList∧((∃r,m'=.map (some r)∧∃clock,w.heap[r]? =some (.map es' clock))∨(m'=.map none∧es'=#[])):=by
    unfold entriesOf at vr
    split at vr
    ·cases vr;cases hm;exact⟨#[],.nil,.inr ⟨rfl,rfl⟩⟩
    ·split at vr
     ·rename_i hb
      cases vr
      cases hm with
      | map hl=>
       obtain⟨l,cm,hk⟩:=hr.di _ _ hb
       rw[hl] at cm;cases cm
       cases hk with
       | map od he=>exact⟨_,he,.inl ⟨_,rfl,_,od⟩⟩
     ·cases vr
    ·cases vr
   obtain⟨es',he,wL⟩:=PA
   have vt:=kL (P:=P) cE hk es'.isEmpty w
   split at h
   ·rename_i j kk v hf
    obtain⟨r',ki,aE⟩:=im hd hk he hf
    cases ki with
    | some h1 h2 h3=>
     rename_i j Aj
     refine⟨_,if ok then .tuple #[Aj.val,.bool true] else Aj.val,h,?_,?_⟩
     ·unfold yC
      cases ok with
      | true=>exact .tuple (.cons h3 (.cons (.bool true) .nil))
      | false=>exact h3
     ·rcases wL with ⟨r,rfl,clock,nQ⟩ | ⟨rfl,rfl⟩
      ·simp only[Instr.lookup,Sem.run_bind,run_underlying hu,Result.andThen_ok,getObj,Sem.run,nQ,vt,aE,Sem.run_pure]
      ·simp at h1
   ·rename_i hf
    split at h
    ·rename_i z hz
     obtain⟨zv,gC,oa⟩:=gU (P:=P) hz ρ
     obtain⟨r',ki,aE⟩:=im hd hk he hf
     cases ki
     refine⟨_,if ok then .tuple #[zv,.bool false] else zv,h,?_,?_⟩
     ·unfold yC
      cases ok with
      | true=>exact .tuple (.cons oa (.cons (.bool false) .nil))
      | false=>exact oa
     ·rcases wL with ⟨r,rfl,clock,nQ⟩ | ⟨rfl,rfl⟩
      ·simp only[Instr.lookup,Sem.run_bind,run_underlying hu,Result.andThen_ok,getObj,Sem.run,nQ,vt,aE,Sem.run_pure,gC]
      ·simp only[Instr.lookup,Sem.run_bind,run_underlying hu,Result.andThen_ok,vt,aE,Sem.run_pure,gC]
    ·exact h.elim
   ·exact h.elim
  ·exact h.elim
 ·exact h.elim
theorem vu [Env] {v:V} (h:V.mr v=true) {x y:Value} (hx:au ρ v x) (hy:au ρ v y):x=y∧∀n,Instr.sameBits n x x=true:=by
 cases v<;>first
  | (simp [V.mr] at h;done)
  | (cases hx;cases hy;exact⟨rfl,fun n=>by simp [Instr.sameBits,vk]⟩)
theorem NC [Env]:∀ {l:List V},l.all V.mr=true→∀ {x y:List Value},ay ρ l x→ay ρ l y→x=y∧∀n,((x.zip x).all fun(a,b)=>Instr.sameBits n a b)=true:=by
 intro l
 induction l with
 | nil=>intro _ x y hx hy;cases hx;cases hy;exact⟨rfl,fun n=>rfl⟩
 | cons v l ih=>
  intro h x y hx hy
  simp only[List.all_cons,Bool.and_eq_true] at h
  cases hx with
  | cons hx Hs=>cases hy with
   | cons hy hly=>
    obtain⟨rfl,s1⟩:=vu h.1 hx hy
    obtain⟨rfl,s2⟩:=ih h.2 Hs hly
    exact⟨rfl,fun n=>by simp [s1 n,s2 n]⟩
theorem yS {v:V} (h:V.flat v=true):V.mr v=true∨∃cs,v=.agg cs∧cs.all V.mr=true:=by
 cases v with
 | agg cs=>
  have h':hY V.mr cs=true:=h
  rw[pr] at h'
  exact .inr ⟨cs,rfl,h'⟩
 | int k n=>exact .inl h
 | bool b=>exact .inl h
 | str s=>exact .inl h
 | dA=>exact .inl h
 | ptr a b=>exact .inl h
 | ak=>exact .inl h
 | slice a b c d e f=>exact .inl h
 | dc=>exact .inl h
 | map a=>exact .inl h
 | func a b c=>exact .inl h
 | cR=>exact .inl h
 | any i=>exact .inl h
 | dO k b=>exact .inl h
 | bX a b c=>exact .inl h
 | aU a b=>exact .inl h
 | arr a b c d e=>exact .inl h
 | own a b c=>exact .inl h
 | fH a b c d=>exact .inl h
 | iface a b=>exact .inl h
 | bh=>exact .inl h
 | tuple a=>exact .inl h
theorem PD [Env] {v:V} (h:V.flat v=true) {x y:Value} (hx:au ρ v x) (hy:au ρ v y):x=y∧Instr.sameBits 10000 x x=true:=by
 rcases yS h with h | ⟨cs,rfl,afs⟩
 ·exact⟨(vu h hx hy).1,(vu h hx hy).2 _⟩
 ·cases hx with | agg hx=>cases hy with | agg hy=>
  obtain⟨rfl,s⟩:=NC afs hx hy
  exact⟨rfl,by have:=s 9999;simpa [Instr.sameBits] using this⟩
theorem B4 {a b:V} (h:V.beq a b=true) (hb:V.mr b=true):a=b:=by
 cases b<;>first
  | (simp [V.mr] at hb;done)
  | (cases a<;>simp_all [V.beq])
theorem ND [Env]:∀ {a b:List V},V.fJ a b=true→b.all V.mr=true→a=b:=by
 intro a
 induction a with
 | nil=>intro b h _;cases b with
  | nil=>rfl
  | cons y b=>simp [V.fJ] at h
 | cons x a ih=>intro b h hb;cases b with
  | nil=>simp [V.fJ] at h
  | cons y b=>
   simp only[V.fJ,Bool.and_eq_true] at h
   simp only[List.all_cons,Bool.and_eq_true] at hb
   rw[B4 h.1 hb.1,ih h.2 hb.2]
theorem PE [Env] {a b:V} (h:V.beq a b=true) (hb:V.flat b=true):a=b:=by
 rcases yS hb with hb | ⟨cs,rfl,C1⟩
 ·exact B4 h hb
 ·cases a with
  | agg ds=>simp only[V.beq] at h;rw[ND h C1]
  | _=>simp [V.beq] at h
theorem DW [Env] {k v:V} {k' v':Value} (hk:au ρ k k') (hv:au ρ v v'):∀(es:List (V×V×Nat)) (es':List MapEntry) (j:Nat),cq ρ es es'→
  cq ρ (xO k v es j) (es'.modify j fun e=>{e with key:=k',val:=v'}):=by
 intro es
 induction es with
 | nil=>intro es' j h;cases h;simpa [xO] using cq.nil
 | cons e es ih=>
  intro es' j h
  cases h with
  | cons he hl=>
   cases j with
   | zero=>exact .cons ⟨hk,hv,he.born⟩ hl
   | succ j=>exact .cons he (ih _ j hl)
theorem CN [Env]:∀(es:List (V×V×Nat)) (es':List MapEntry) (j:Nat),cq ρ es es'→cq ρ (u4 es j) (es'.eraseIdx j):=by
 intro es
 induction es with
 | nil=>intro es' j h;cases h;simpa [u4] using cq.nil
 | cons e es ih=>
  intro es' j h
  cases h with
  | cons he hl=>
   cases j with
   | zero=>exact hl
   | succ j=>exact .cons he (ih _ j hl)
theorem cq.append [Env] {a b:List (V×V×Nat)} {a' b':List MapEntry} (h:cq ρ a a') (k:cq ρ b b'):cq ρ (a++b) (a'++b'):=by
 induction a generalizing a' with
 | nil=>cases h;exact k
 | cons e a ih=>cases h with | cons h hl=>exact .cons h (ih hl)
theorem yT [Env] (hr:R ρ σ w) {ids:Nat→Prop} {r:Nat} {kb:bU} (hb:σ.heap.get r=some kb) (pD:kb.j9=true) {l:Loc} (hl:ρ r=some l) {es:List (V×V×Nat)} {clock:Nat} {es':Array MapEntry}
  (bE:l.c<w.heap.size) (he:cq ρ es es'.toList):aW ids ρ σ w ρ (σ.set r (.map es clock)) {w with heap:=w.heap.setIfInBounds l.c (.map es' clock)}:=by
 refine aW.set hr hb hl pD (by simp) (fun c hc=>?_) rfl rfl rfl (.map ?_ he)
 ·show(w.heap.setIfInBounds l.c _)[c]? =_
  rw[Array.getElem?_setIfInBounds_ne (by omega)]
 ·show(w.heap.setIfInBounds l.c _)[l.c]? =_
  simp [bE]
theorem jE {r:Nat} {o o':Obj} (h:w.heap[r]? =some o') (hn:∀a b c,o'≠.cells a b c):(setObj r o).run P w=.ok () {w with heap:=w.heap.setIfInBounds r o}:=by
 cases o'<;>first | (simp only[setObj,Sem.run,h];done) | exact absurd rfl (hn _ _ _)
theorem uH [Env] (hr:R ρ σ w) {t:TypeId} {m k v:V} (h:(nL P σ t m k v).ar p) {m' k' v':Value} (hm:au ρ m m') (hk:au ρ k k') (hv:au ρ v v'):
  ∃σ' w',p (cI,σ')∧(Instr.mapUpdate t m' k' v').run P w=.ok () w'∧aW (fun b=>b=id) ρ σ w ρ σ' w':=by
 unfold nL at h
 split at h
 ·rename_i r kt e yR
  have hu:=pI yR
  split at h
  ·rename_i es clock cE hb
   obtain⟨d,hd⟩:=lN cE
   cases hm with
   | map hl=>
    obtain⟨l,cm,je⟩:=hr.di _ _ hb
    rw[hl] at cm;cases cm
    cases je with
    | map od he=>
     rename_i es'
     have bE:=hr.valid _ _ hl
     have vt:=kL (P:=P) cE hk false w
     unfold uD at h
     split at h
     ·rename_i j kk x hf
      split at h
      ·rename_i fO
       rw[Bool.and_eq_true] at fO
       have NB:=PE fO.1 fO.2
       subst NB
       obtain⟨r',ki,aE⟩:=im hd hk he hf
       cases ki with
       | some h1 h2 h3=>
        rename_i j Aj
        rw[Nat.zero_add] at h hf
        obtain⟨heq,ab3⟩:=PD fO.2 h2 hk
        subst heq
        have fe:es'[j]? =some Aj:=by simpa using h1
        refine⟨_,_,h,?_,yT hr hb rfl hl bE (es':=es'.modify j fun e=>{e with key:=Aj.key,val:=v'}) (by simpa using DW hk hv _ _ j he)⟩
        simp only[Instr.mapUpdate,Sem.run_bind,run_underlying hu,Result.andThen_ok,getObj,Sem.run,od,vt,aE,Nat.zero_add,fe,Option.map_some,Option.getD_some,Instr.keyThatStays,ab3,if_true,Sem.run_pure]
        exact jE od (by simp)
      ·exact h.elim
     ·rename_i hf
      obtain⟨r',ki,aE⟩:=im hd hk he hf
      cases ki
      rw[fi] at h
      refine⟨_,_,h,?_,yT hr hb rfl hl bE (es':=es'.push {key:=k',val:=v',born:=clock}) (by simpa using he.append (.cons ⟨hk,hv,rfl⟩ .nil))⟩
      simp only[Instr.mapUpdate,Sem.run_bind,run_underlying hu,Result.andThen_ok,getObj,Sem.run,od,vt,aE]
      exact jE od (by simp)
     ·exact h.elim
  ·exact h.elim
 ·exact h.elim
theorem KR [Env] (hr:R ρ σ w) {tys:Array TypeId} {ty t:TypeId} (ht:tys[0]? =some t) {m k v:V} {σ':St} (h:sK P σ t m k=some (v,σ')) {m' k':Value} (hm:au ρ m m') (hk:au ρ k k'):
  ∃w',(Builtin.delete_ tys ty #[m',k']).run P w=.ok (.tuple #[]) w'∧v=.tuple []∧aW (fun b=>b=id) ρ σ w ρ σ' w':=by
 have gV:(#[m',k']:Array Value)[0]? =some m':=rfl
 have pF:(#[m',k']:Array Value)[1]? =some k':=rfl
 unfold sK at h
 split at h
 ·rename_i kt e yR
  have hu:=pI yR
  split at h
  ·rename_i cE
   obtain⟨d,hd⟩:=lN cE
   split at h
   ·cases h;cases hm
    have vt:=kL (P:=P) cE hk true w
    exact⟨w,by simp only[Builtin.delete_,ht,gV,pF,Sem.run_bind,run_underlying hu,Result.andThen_ok,vt];rfl,rfl,aW.refl hr⟩
   ·rename_i r
    unfold DC at h
    split at h
    ·rename_i es clock hb
     cases hm with
     | map hl=>
      obtain⟨l,cm,je⟩:=hr.di _ _ hb
      rw[hl] at cm;cases cm
      cases je with
      | map od he=>
       rename_i es'
       have bE:=hr.valid _ _ hl
       have vt:=kL (P:=P) cE hk es'.isEmpty w
       split at h
       ·rename_i j kk x hf
        cases h
        obtain⟨r',ki,aE⟩:=im hd hk he hf
        cases ki with
        | some h1 h2 h3=>
         rename_i j Aj
         refine⟨_,?_,rfl,yT hr hb rfl hl bE (es':=es'.eraseIdxIfInBounds (0+j)) (by rw[Array.toList_eraseIdxIfInBounds];exact CN _ _ _ he)⟩
         simp only[Builtin.delete_,ht,gV,pF,Sem.run_bind,run_underlying hu,Result.andThen_ok,getObj,Sem.run,od,vt,aE]
         rw[jE od (by simp)]
         rfl
       ·rename_i hf
        cases h
        obtain⟨r',ki,aE⟩:=im hd hk he hf
        cases ki
        refine⟨_,?_,rfl,yT hr hb rfl hl bE (es':=es') he⟩
        simp only[Builtin.delete_,ht,gV,pF,Sem.run_bind,run_underlying hu,Result.andThen_ok,getObj,Sem.run,od,vt,aE]
        rw[jE od (by simp)]
        rfl
       ·cases h
    ·cases h
   ·cases h
  ·cases h
 ·cases h
end
end Go.Ev
end
section
namespace Go.Ev
open Go
section
variable {P:Program} {ρ:aA} {σ:St} {w:World} {id:Nat} {p:V×St→Prop}
theorem cq.filter [Env] {q:Nat→Bool}:∀ {l:List (V×V×Nat)} {l':List MapEntry},cq ρ l l'→cq ρ (l.filter fun e=>q e.2.2) (l'.filter fun e=>q e.born):=by
 intro l
 induction l with
 | nil=>intro l' h;cases h;exact .nil
 | cons e l ih=>
  intro l' h
  cases h with
  | cons he hl=>
   rename_i e' l'
   simp only[List.filter_cons,he.born]
   cases q e'.born with
   | true=>exact .cons he (ih hl)
   | false=>exact ih hl
theorem cq.all [Env] {q:Nat→Bool}:∀ {l:List (V×V×Nat)} {l':List MapEntry},cq ρ l l'→(l.all fun e=>q e.2.2)=l'.all fun e=>q e.born:=by
 intro l
 induction l with
 | nil=>intro l' h;cases h;rfl
 | cons e l ih=>intro l' h;cases h with | cons he hl=>simp only[List.all_cons,he.born,ih hl]
theorem cq.isEmpty [Env] {l:List (V×V×Nat)} {l':List MapEntry} (h:cq ρ l l'):l.isEmpty=l'.isEmpty:=by
 cases h<;>rfl
inductive wM [Env] (ρ:aA):Option (V×V×Nat)→Option MapEntry→Prop
 | none:wM ρ none none
 | some {e:V×V×Nat} {e':MapEntry} (h:DJ ρ e e'):wM ρ (some e) (some e')
inductive fX [Env] (ρ:aA):List (Option (V×V×Nat))→List (Option MapEntry)→Prop
 | nil:fX ρ [] []
 | cons {e:Option (V×V×Nat)} {e':Option MapEntry} {l:List (Option (V×V×Nat))} {l':List (Option MapEntry)} (h:wM ρ e e') (hl:fX ρ l l'):fX ρ (e::l) (e'::l')
theorem fX.length [Env] {l:List (Option (V×V×Nat))} {l':List (Option MapEntry)}:fX ρ l l'→l.length=l'.length
 | .nil=>rfl
 | .cons _ hl=>congrArg (·+1) hl.length
theorem fX.get [Env] {l:List (Option (V×V×Nat))} {l':List (Option MapEntry)} (h:fX ρ l l') (i:Nat) {c:Option (V×V×Nat)} (hc:l[i]? =some c):∃c',l'[i]? =some c'∧wM ρ c c':=by
 induction i generalizing l l' with
 | zero=>cases h with
  | nil=>simp at hc
  | cons h hl=>simp at hc;subst hc;exact⟨_,rfl,h⟩
 | succ i ih=>cases h with
  | nil=>simp at hc
  | cons h hl=>exact ih hl (by simpa using hc)
theorem fX.HD [Env] {l:List (V×V×Nat)} {l':List MapEntry} (h:cq ρ l l'):fX ρ (l.map some) (l'.map some):=by
 induction l generalizing l' with
 | nil=>cases h;exact .nil
 | cons e l ih=>cases h with | cons he hl=>exact .cons (.some he) (ih hl)
theorem Ak [Env] {es:List (V×V×Nat)} {es':List MapEntry} (h:cq ρ es es') (since:Nat) (seen:List Nat):
  fX ρ (candidates es since seen)
   ((if (((es'.filter fun e=> !seen.contains e.born).filter fun e=>decide (e.born<since)).isEmpty) then [none] else [])++
     ((((es'.filter fun e=> !seen.contains e.born).filter fun e=>decide (e.born<since))++((es'.filter fun e=> !seen.contains e.born).filter fun e=>decide (e.born≥since))).map some)):=by
 have h1:=h.filter (q:=fun b=> !seen.contains b)
 have h2:=h1.filter (q:=fun b=>decide (b<since))
 have h3:=h1.filter (q:=fun b=>decide (b≥since))
 unfold candidates
 dsimp only
 rw[h2.isEmpty]
 split
 ·exact .cons .none (fX.HD (h2.append h3))
 ·exact fX.HD (h2.append h3)
theorem setIter [Env] (hr:R ρ σ w) {ids:Nat→Prop} {r:Nat} {m:Option Nat} {since last:Nat} {seen:List Nat} {kb:bU} (hb:σ.heap.get r=some kb) (pD:kb.j9=true) {l:Loc} (hl:ρ r=some l) (ho:l.o=0) {m':Option Nat} (hm:n9 ρ m m'):
  aW ids ρ σ w ρ (σ.set r (.iter m since seen last)) {w with heap:=w.heap.setIfInBounds l.c (.mapIter m' since ⟨seen⟩ last)}:=by
 have bE:=hr.valid _ _ hl
 refine aW.set hr hb hl pD (by simp) (fun c hc=>?_) rfl rfl rfl (.iter ?_ ho hm)
 ·show(w.heap.setIfInBounds l.c _)[c]? =_
  rw[Array.getElem?_setIfInBounds_ne (by omega)]
 ·show(w.heap.setIfInBounds l.c _)[l.c]? =_
  simp [bE]
theorem PF [Env] (hr:R ρ σ w) {it:V} {Td:Bool} {ty:TypeId} (h:(evalNext σ it Td).ar p) {DX:Value} (Xz:au ρ it DX):
  ∃v σ' v' w',p (v,σ')∧au ρ v v'∧(Instr.next DX Td ty).run P w=.ok v' w'∧aW (fun b=>b=id) ρ σ w ρ σ' w':=by
 unfold evalNext at h
 split at h
 ·rename_i r
  cases Xz with
  | ptr hl=>
   rename_i l
   unfold Nc at h
   split at h
   ·rename_i s1 s2 s3 hb
    obtain⟨l',cm,je⟩:=hr.di _ _ hb
    rw[hl] at cm;cases cm
    cases je with
    | iter hh ho hm=>
     cases hm
     refine⟨_,_,.tuple #[.bool false],w,h,.tuple (.cons (.bool false) .nil),?_,aW.refl hr⟩
     simp only[Instr.next,ho,Nat.add_zero,Sem.run_bind,getObj,Sem.run,hh,Result.andThen_ok]
     rfl
   ·rename_i m since seen last hb
    obtain⟨l',cm,je⟩:=hr.di _ _ hb
    rw[hl] at cm;cases cm
    cases je with
    | iter hh ho hm=>
     cases hm with
     | some uG=>
      rename_i lm
      split at h
      ·rename_i es clock XA
       obtain⟨lm',DY,KS⟩:=hr.di _ _ XA
       rw[uG] at DY;cases DY
       cases KS with
       | map od he=>
        rename_i es'
        split at h
        ·exact h.elim
        ·rename_i ab4
         have XB:(!(⟨seen⟩:Array Nat).isEmpty&& !es'.isEmpty&&es'.all fun e=>decide (e.born≥last))=false:=by
          rw[←ab4]
          unfold Hm
          rw[he.all (q:=fun b=>decide (b≥last)),he.isEmpty]
          simp
         have ab5:=Ak he since seen
         let left:=es'.filter fun e=> !(⟨seen⟩:Array Nat).contains e.born
         let old:=left.filter fun e=>decide (e.born<since)
         let new:=left.filter fun e=>decide (e.born≥since)
         let C:Array (Option MapEntry):=(if old.isEmpty then#[none] else#[])++(old++new).map some
         have hC:fX ρ (candidates es since seen) C.toList:=by
          have:C.toList=((if (((es'.toList.filter fun e=> !seen.contains e.born).filter fun e=>decide (e.born<since)).isEmpty) then [none] else [])++
            ((((es'.toList.filter fun e=> !seen.contains e.born).filter fun e=>decide (e.born<since))++((es'.toList.filter fun e=> !seen.contains e.born).filter fun e=>decide (e.born≥since))).map some)):=by
           simp only[C,Array.toList_append,Array.toList_map,old,new,left,Array.toList_filter]
           congr 1
           ·simp only[Array.isEmpty_iff,List.isEmpty_iff]
            split<;>rename_i h1<;>split<;>rename_i h2<;>first
             | rfl
             | (exfalso;simp_all;done)
             | (exfalso;simp_all;obtain⟨x,a1,a2,a3⟩:=h1;exact a3 (h2 x a1 a2))
             | (exfalso;simp_all;obtain⟨x,a1,a2,a3⟩:=h2;exact a3 (h1 x a1 a2))
           ·simp
          rw[this];exact ab5
         have aE:∀(k:Nat) (aL:World),(choose (.mapNext C.size)).run P w=.ok k aL→aL.heap=w.heap→∀c',C[k]? =some c'→
           (Instr.next (.pointer (some ⟨l.c,l.o+0,none⟩)) false ty).run P w=
            (match c' with
             | some e=>.ok (.tuple #[.bool true,e.key,e.val]) {aL with heap:=aL.heap.setIfInBounds l.c (.mapIter (some lm.c) since ⟨seen++[e.born]⟩ clock)}
             | none=>.ok (.tuple #[.bool false]) aL):=by
          intro k aL jY nR c' fu
          simp only[Instr.next,ho,Nat.add_zero,Sem.run_bind,getObj,Sem.run,hh,Result.andThen_ok,od]
          rw[if_neg (by rw[XB];simp)]
          have XC:(choose (.mapNext ((if old.isEmpty=true then#[none] else#[])++(old++new).map some).size)).run P w=.ok k aL:=jY
          have Al:((if old.isEmpty=true then#[none] else#[])++(old++new).map some)[k]? =some c':=fu
          simp only[old,new,left] at XC Al
          simp only[Sem.run_bind,XC,Result.andThen_ok,Al]
          cases c' with
          | none=>rfl
          | some e=>
           simp only[Sem.run_bind]
           rw[jE (o':=.mapIter (some lm.c) since ⟨seen⟩ last) (by rw[nR];exact hh) (by simp)]
           simp
         unfold BV at h
         have fin:∀(k:Nat) (aL:World),(choose (.mapNext C.size)).run P w=.ok k aL→aL.heap=w.heap→aL.os=w.os→aL.tape=w.tape→aL.output=w.output→
           (qt σ r m since seen clock (candidates es since seen)[k]?).ar p→
           ∃v σ' v' w',p (v,σ')∧au ρ v v'∧(Instr.next (.pointer (some ⟨l.c,l.o+0,none⟩)) false ty).run P w=.ok v' w'∧aW (fun b=>b=id) ρ σ w ρ σ' w':=by
          intro k aL jY nR Ti C2 Tj yU
          unfold qt at yU
          split at yU
          ·rename_i a b c heq
           obtain⟨c',fu,aO⟩:=hC.get k heq
           have Al:C[k]? =some c':=by simpa using fu
           cases aO with
           | some aO=>
            rename_i e'
            have hb:=aO.born
            dsimp only at hb
            subst hb
            refine⟨_,_,_,_,yU,?_,aE k aL jY nR _ Al,(aW.drawn hr nR Ti C2 Tj).trans (setIter (hr.congr nR) hb rfl hl ho (.some uG))⟩
            exact .tuple (.cons (.bool true) (.cons aO.key (.cons aO.val .nil)))
          ·rename_i heq
           obtain⟨c',fu,aO⟩:=hC.get k heq
           have Al:C[k]? =some c':=by simpa using fu
           cases aO
           exact⟨_,_,_,_,yU,.tuple (.cons (.bool false) .nil),aE k aL jY nR _ Al,aW.drawn hr nR Ti C2 Tj⟩
          ·exact yU.elim
         have bk:(candidates es since seen).length=C.size:=by rw[hC.length];simp
         split at h
         ·rename_i hle
          exact fin 0 w (by rw[run_choose,if_pos (by simp [Question.forced];omega)]) rfl rfl rfl rfl h
         ·rename_i hle
          have Hv:(Question.mapNext C.size).forced=false:=by simp [Question.forced];omega
          have hk:(Question.mapNext C.size).cut (w.tape w.drawn (.mapNext C.size))<C.size:=by simp only[Question.cut];exact Nat.mod_lt _ (by omega)
          exact fin _ {w with drawn:=w.drawn+1} (by rw[run_choose,Hv];rfl) rfl rfl rfl rfl (h.2 _ (by rw[bk];exact hk))
      ·exact h.elim
   ·exact h.elim
 ·exact h.elim
end
end Go.Ev
end
