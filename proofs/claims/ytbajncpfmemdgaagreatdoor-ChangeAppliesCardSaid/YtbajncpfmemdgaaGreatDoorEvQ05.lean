/- Proved: parts of the way: OpsD, OpsE, OpsF, OpsG. -/
import Derived.Test.YtbajncpfmemdgaaGreatDoorEvQ04
import Derived.Laws.BytesString
set_option linter.unusedVariables false
set_option linter.unusedSimpArgs false
section
namespace Go.Ev
open Go
section
variable {P:Program} {ρ:Ren} {σ:St} {w:World} {id:Nat} {p:V×St→Prop}
theorem MZ [Env] (hr:R ρ σ w) {tys:Array TypeId} {ty t:TypeId} (ht:tys[0]? =some t) {d v:V} {σ':St} (h:evalClear P σ t d=some (v,σ')) {d':Value} (hd:au ρ d d'):
  ∃w',(Builtin.clear_ tys ty #[d']).run P w=.ok (.tuple #[]) w'∧v=.tuple []∧bn (fun b=>b=id) ρ σ w ρ σ' w':=by
 unfold evalClear at h
 split at h
 ·rename_i e hu
  split at h
  ·rename_i z hz
   split at h
   ·cases h
   ·rename_i h0
    rw[aO] at h0 h
    obtain⟨zv,hJ,qf⟩:=ig hz ρ
    have kH:(#[d']:Array Value)[0]? =some d':=rfl
    unfold GI at h
    split at h
    ·cases h;cases hd
     exact⟨w,by simp only[Builtin.clear_,ht,kH,Sem.run_bind,run_underlying hu,Result.andThen_ok];rfl,rfl,bn.refl hr⟩
    ·rename_i b off n cap ex esz
     cases hd with
     | slice la hex cW hN jB=>
      rename_i cy off' cap'
      split at h
      ·rename_i hn
       have hn:=Nat.eq_of_beq_eq_true hn
       subst hn
       cases h
       exact⟨w,by simp only[Builtin.clear_,ht,kH,Sem.run_bind,run_underlying hu,Result.andThen_ok];rfl,rfl,bn.refl hr⟩
      ·rename_i hn jq
       rw[Option.map_eq_some_iff] at h
       obtain⟨aJ,aH,he⟩:=h
       cases he
       have hz0:off'=cy.o+off:=by
        cases ex with
        | true=>exact(hex rfl).2
        | false=>
         rcases(cW rfl).2 with h' | ⟨_,h'⟩
         ·exact h'
         ·subst h';simp at jq
       subst hz0
       obtain⟨w',hsr,gA⟩:=hr.store (P:=P) (ids:=fun b=>b=id) aH la (wX (n:=n) qf rfl h0)
       obtain⟨m,rfl⟩:∃m,n=m+1:=⟨n-1,by
        have:n≠0:=fun e=>by subst e;simp at hn
        omega⟩
       refine⟨w',?_,rfl,gA⟩
       simp only[Builtin.clear_,ht,kH,Sem.run_bind,run_underlying hu,Result.andThen_ok,hJ]
       simp only[hsr,Result.andThen_ok]
       rfl
      ·cases h
    ·cases h
  ·cases h
 ·cases h
theorem Ud [Env] (hr:R ρ σ w) {tys:Array TypeId} {ty t:TypeId} (ht:tys[0]? =some t) {x v:V} (h:eO P σ t x=some v) {x':Value} (hx:au ρ x x'):
  ∃v',(Builtin.len_ tys ty #[x']).run P w=.ok v' w∧au ρ v v':=by
 have kH:(#[x']:Array Value)[0]? =some x':=rfl
 unfold eO at h
 split at h
 ·rename_i hu
  split at h
  ·cases h;cases hx
   rw[aO]
   exact⟨_,by simp only[Builtin.len_,ht,kH,Sem.run_bind,run_underlying hu,Result.andThen_ok];rfl,.int _ _⟩
  ·cases h
 ·rename_i n e hu
  cases h
  exact⟨_,by simp only[Builtin.len_,ht,kH,Sem.run_bind,run_underlying hu,Result.andThen_ok];rfl,.int _ _⟩
 ·rename_i hu
  split at h
  ·cases h;cases hx
   exact⟨_,by simp only[Builtin.len_,ht,kH,Sem.run_bind,run_underlying hu,Result.andThen_ok];rfl,.int _ _⟩
  ·cases h;cases hx
   exact⟨_,by simp only[Builtin.len_,ht,kH,Sem.run_bind,run_underlying hu,Result.andThen_ok];rfl,.int _ _⟩
  ·cases h
   rw[aO]
   cases hx<;>exact⟨_,by simp only[Builtin.len_,ht,kH,Sem.run_bind,run_underlying hu,Result.andThen_ok];rfl,.int _ _⟩
  ·rename_i n f esz ex nn
   cases h
   cases hx with
   | arr _ hx=>
    obtain⟨a,cap,rfl⟩:=hx.Ua rfl
    refine⟨.int .i64 (cj n f).length,by simp only[Builtin.len_,ht,kH,Sem.run_bind,run_underlying hu,Result.andThen_ok];rfl,?_⟩
    rw[aY];exact .int _ _
  ·cases h;cases hx
   exact⟨_,by simp only[Builtin.len_,ht,kH,Sem.run_bind,run_underlying hu,Result.andThen_ok];rfl,.int _ _⟩
  ·cases h
 ·rename_i hu
  unfold uB at h
  split at h
  ·cases h;cases hx
   exact⟨_,by simp only[Builtin.len_,ht,kH,Sem.run_bind,run_underlying hu,Result.andThen_ok];rfl,.int _ _⟩
  ·rename_i r
   split at h
   ·rename_i es clock hb
    cases h;cases hx with
    | map hl=>
     obtain⟨l,cS,hk⟩:=hr.di _ _ hb
     rw[hl] at cS;cases cS
     cases hk with
     | map hm he=>
      rename_i C5
      have hlen:es.length=C5.size:=by
       have:∀(l:List (V×V×Nat)) (l':List MapEntry),lL ρ l l'→l.length=l'.length:=by
        intro l
        induction l with
        | nil=>intro l' h;cases h;rfl
        | cons a l ih=>intro l' h;cases h with | cons _ h=>simp [ih _ h]
       simpa using this _ _ he
      rw[aO,hlen]
      refine⟨.int .i64 C5.size,?_,.int _ _⟩
      simp only[Builtin.len_,ht,kH,Sem.run_bind,run_underlying hu,Result.andThen_ok,getObj,Sem.run,hm]
      rfl
   ·cases h
  ·cases h
 ·cases h
theorem pr [Env]:∀ {l:List V} {s:List UInt8} {l':List Value},ez l=some s→aB ρ l l'→∃ns:List Int,l'=ns.map (Value.int .u8)∧s=ns.map fun n=>UInt8.ofNat n.toNat:=by
 intro l
 induction l with
 | nil=>
  intro s l' h hl
  cases hl
  simp only[ez,Option.some.injEq] at h
  subst h
  exact⟨[],rfl,rfl⟩
 | cons v l ih=>
  intro s l' h hl
  cases hl with
  | cons hv hl=>
   cases v with
   | int k n=>
    cases k<;>first
     | (simp [ez] at h;done)
     | (simp only[ez,Option.map_eq_some_iff] at h
        obtain⟨s',nV,rfl⟩:=h
        obtain⟨ns,rfl,rfl⟩:=ih nV hl
        cases hv
        exact⟨n::ns,rfl,rfl⟩)
   | _=>simp [ez] at h
theorem qH:∀(ns:List Int) (acc:ByteArray),ns.foldl (fun(r:ByteArray) n=>r.push (UInt8.ofNat n.toNat)) acc=acc++⟨⟨ns.map fun n=>UInt8.ofNat n.toNat⟩⟩:=by
 intro ns
 induction ns with
 | nil=>intro acc;apply ByteArray.ext;simp
 | cons n ns ih=>
  intro acc
  rw[List.foldl_cons,ih]
  apply ByteArray.ext
  simp [ByteArray.data_push,ByteArray.data_append]
theorem OY [Env] (hr:R ρ σ w) (cx:ρ id=none) {src dst:TypeId} {x v:V} {σ':St} (h:evalConv P σ id src dst x=some (v,σ')) {x':Value} (hx:au ρ x x'):
  ∃ρ' v' w',(convert src dst x').run P w=.ok v' w'∧au ρ' v v'∧bn (fun b=>b=id) ρ σ w ρ' σ' w':=by
 unfold evalConv at h
 split at h
 ·rename_i k k' WS n hs hd
  cases h;cases hx
  exact⟨ρ,_,w,by simp only[convert,Sem.run_bind,run_underlying hs,run_underlying hd,Result.andThen_ok];rfl,.int _ _,bn.refl hr⟩
 ·rename_i k k' WS n hs hd
  cases h;cases hx
  exact⟨ρ,_,w,by simp only[convert,Sem.run_bind,run_underlying hs,run_underlying hd,Result.andThen_ok];rfl,.dQ _ _,bn.refl hr⟩
 ·rename_i hs hd
  split at h
  ·rename_i n hn
   split at h
   ·rename_i cW
    cases h;cases hx
    exact⟨ρ,_,w,by simp only[convert,Sem.run_bind,run_underlying hs,run_underlying hd,Result.andThen_ok,Conv.floatToInt,hn,if_pos cW];rfl,.int _ _,bn.refl hr⟩
   ·cases h
  ·cases h
 ·rename_i s hs hd
  cases h;cases hx
  exact⟨ρ,_,w,by simp only[convert,Sem.run_bind,run_underlying hs,run_underlying hd,Result.andThen_ok];rfl,.str _,bn.refl hr⟩
 ·rename_i e s hs hd
  split at h
  ·rename_i he
   split at h
   ·rename_i hc
    cases h;cases hx
    obtain⟨bl,pq,hle⟩:=hc
    rw[aO]
    obtain⟨cap,po⟩:∃cap,cap=(Question.appendCap s.length 0 e).cut (w.tape w.drawn (.appendCap s.length 0 e)):=⟨_,rfl⟩
    have ou:s.length≤cap:=by rw[po];simp [Question.cut]
    let C:Array Value:=(s.map fun c=>Value.int .u8 c.toNat).toArray++Array.replicate (cap-s.length) (.int .u8 0)
    have hC:C.size=cap:=by simp [C];omega
    let w':World:={w with drawn:=w.drawn+1,heap:=w.heap.push (.cells C e (cap,cap+1))}
    have kU:w'.heap[w.heap.size]? =some (.cells C e (cap,cap+1)):=by show(w.heap.push _)[w.heap.size]? =_;simp
    refine⟨kR ρ id ⟨w.heap.size,0,cap⟩,.slice (some ⟨w.heap.size,0,none⟩) s.length cap,w',?_,?_,?_⟩
    ·have rr:(Question.appendCap s.length 0 e).forced=false:=rfl
     have ae6:(⟨⟨s⟩⟩:ByteArray).data.map (fun b=>Value.int .u8 (b.toNat:Int))++Array.replicate (cap-s.length) (.int .u8 0)=C:=by
      simp [C]
     simp only[convert,Sem.run_bind,run_underlying hs,run_underlying hd,run_underlying he,Result.andThen_ok,Conv.stringToBytes,yn,run_choose,rr,Bool.false_eq_true,if_false,←po,Go.newRow,run_newObj,ae6,Sem.run_pure,markStringish,run_shape]
     have WT:World.shape? {heap:=w.heap.push (.cells C e),tape:=w.tape,drawn:=w.drawn+1,os:=w.os,output:=w.output} w.heap.size=some (e,C.size):=by simp [World.shape?]
     rw[WT]
     simp only[run_freeze,Result.andThen_ok,World.freeze,hC]
     congr 1
     simp only[Nat.one_ne_zero,if_false,w']
     congr 1
     apply Array.ext_getElem?
     intro j
     rw[Array.getElem?_modify]
     by_cases hj:w.heap.size=j
     ·subst hj;simp
     ·rw[if_neg hj,Array.getElem?_push,Array.getElem?_push]
      by_cases gK:j=w.heap.size
      ·exact absurd gK.symm hj
      ·rw[if_neg gK,if_neg gK]
    ·exact .own (l:=⟨w.heap.size,0,cap⟩) (j2 _ _ _) ou (by simp)
    ·refine bn.alloc hr cx (w':=w') rfl rfl rfl rfl (.row ⟨e,?_⟩ (by simpa using ou) (fun i _=>rfl) (fun i hi k v hk=>?_) (fun i hi=>?_) (by simp))
     ·unfold World.shape?;rw[kU];simp only[hC]
     ·have GR:k=0∧dE s i=v:=by
       cases k with
       | zero=>exact⟨rfl,by simpa [V.cells,dE] using hk⟩
       | succ k=>simp [V.cells,dE] at hk
      obtain⟨rfl,rfl⟩:=GR
      refine⟨.int .u8 (s[i]'hi).toNat,?_,?_⟩
      ·simp only[World.cell?,kU,Option.isSome_none,Bool.false_eq_true,if_false]
       show((s.map fun c=>Value.int .u8 c.toNat).toArray++_)[0+(i*1+0)]? =_
       rw[show 0+(i*1+0)=i by omega,Array.getElem?_append_left (by simpa using hi)]
       simp [List.getElem?_eq_getElem hi]
      ·unfold dE av
       rw[dG,List.getElem?_eq_getElem hi]
       exact .int _ _
     ·simp only[World.frozen?,kU]
      have:i<cap:=hi
      simp;omega
   ·cases h
  ·cases h
 ·rename_i e hs hd
  split at h
  ·rename_i he
   cases h;cases hx
   exact⟨ρ,_,w,by simp only[convert,Sem.run_bind,run_underlying hs,run_underlying hd,Result.andThen_ok,run_underlying he];rfl,.str _,bn.refl hr⟩
  ·cases h
 ·rename_i e b off n cap ex esz hs hd
  split at h
  ·rename_i he
   split at h
   ·rename_i l hl
    rw[Option.map_eq_some_iff] at h
    obtain⟨s,nV,j6⟩:=h
    cases j6
    cases hx with
    | slice la hex cW hN jB=>
     rename_i cy off' cap'
     have yu:∃xs:List Value,(loadCells ⟨cy.c,off',none⟩ n).run P w=.ok ⟨xs⟩ w∧aB ρ l xs:=by
      by_cases hz:off'=cy.o+off
      ·subst hz
       obtain⟨xs,aP,aT,_⟩:=hr.loadCells (P:=P) hl la
       exact⟨xs,aP w rfl,aT⟩
      ·have hzero:n=0:=by
        cases ex with
        | true=>exact absurd (hex rfl).2 hz
        | false=>
         rcases(cW rfl).2 with h' | h'
         ·exact absurd h' hz
         ·exact h'.1
       subst hzero
       unfold St.cells at hl
       split at hl
       ·have h':some ([]:List V)=some _:=hl
        cases h'
        exact⟨[],rfl,.nil⟩
       ·cases hl
     obtain⟨xs,aP,aT⟩:=yu
     obtain⟨ns,rfl,rfl⟩:=pr nV aT
     refine⟨ρ,.string ⟨⟨ns.map fun n=>UInt8.ofNat n.toNat⟩⟩,w,?_,.str _,bn.refl hr⟩
     rw[run_convert_bytes_string w src dst e _ _ _ hs he hd,run_bytesToString w _ _ _ ns (by simpa using aP),qH]
     congr 2
   ·cases h
  ·cases h
 ·rename_i e es esz ex hs hd
  split at h
  ·rename_i he
   split at h
   ·rename_i h1
    have h1:=Nat.eq_of_beq_eq_true h1
    rw[Option.map_eq_some_iff] at h
    obtain⟨s,nV,j6⟩:=h
    cases j6
    have fin:∀(a:Option Addr) (n cap:Nat) (xs:List Value),(a=none→n=0)→x'=.slice a n cap→(∀a',a=some a'→(loadCells a' n).run P w=.ok ⟨xs⟩ w)→(a=none→xs=[])→aB ρ (aw es) xs→
      ∃ρ' v' w',(convert src dst x').run P w=.ok v' w'∧au ρ' (.str s) v'∧bn (fun b=>b=id) ρ σ w ρ' σ w':=by
     rintro a n cap xs hn rfl yu iq aT
     obtain⟨ns,rfl,rfl⟩:=pr nV aT
     cases a with
     | none=>
      have Sy:ns=[]:=by simpa using iq rfl
      subst Sy
      have:=hn rfl
      subst this
      exact⟨ρ,_,w,by simp only[convert,Sem.run_bind,run_underlying hs,run_underlying hd,Result.andThen_ok,run_underlying he];rfl,.str _,bn.refl hr⟩
     | some a=>
      refine⟨ρ,.string ⟨⟨ns.map fun n=>UInt8.ofNat n.toNat⟩⟩,w,?_,.str _,bn.refl hr⟩
      rw[run_convert_bytes_string w src dst e _ _ _ hs he hd,run_bytesToString w _ _ _ ns (by simpa using yu a rfl),qH]
      congr 2
    cases hx with
    | br hu hx hi hc hex=>
     rename_i c off cap xs
     have hl:(aw _).length=_:=c8 hu
     have Bv:=hx.length
     refine fin _ _ _ xs (fun h=>by cases h) rfl (fun a' ha=>?_) (fun h=>by cases h) hx
     cases ha
     have:=hr.v7 (P:=P) hi w rfl
     rw[←Bv,hl,h1,Nat.mul_one] at this
     exact this
    | dS=>exact fin _ _ _ [] (fun _=>rfl) rfl (fun _ h=>by cases h) (fun _=>rfl) .nil
    | du hex=>exact fin _ _ _ [] (fun _=>rfl) rfl (fun a' ha=>by simp [loadCells,loadCellsFrom]) (fun _=>rfl) .nil
   ·cases h
  ·cases h
 ·rename_i e b n esz hs hd
  split at h
  ·rename_i he
   split at h
   ·rename_i n' f z p hb
    split at h
    ·rename_i hc
     obtain⟨rfl,rfl⟩:=hc
     rw[Option.map_eq_some_iff] at h
     obtain⟨s,nV,j6⟩:=h
     cases j6
     let lP:=σ.set b (.cells (n'*1) [] (ah (aw (cj n' f)) .leaf 0) p false)
     have fK:∀b',lP.heap.get b'=if b'=b then some (.cells (n'*1) [] (ah (aw (cj n' f)) .leaf 0) p false) else σ.heap.get b':=fun b'=>by
      show(σ.set b _).heap.get b'=_
      rw[mR,Trie.bY]
     have aH:=bn.GQ (σ':=lP) (bn.refl (ids:=fun b=>b=id) hr) hb fK (by show(σ.set b _).next=_;rw[sv])
     obtain⟨l,hl,cT⟩:=hr.di _ _ hb
     have hu:∀i,i<n'→(f i).cells.length=1:=by cases cT with | row hs hn hu=>exact hu
     have jd:(aw (cj n' f)).length=n':=by rw[c8 (gB hu),aY,Nat.mul_one]
     have yp:lP.cells b 0 n'=some (aw (cj n' f)):=by
      unfold St.cells
      rw[fK,if_pos rfl]
      show cellsOf (n'*1) [] (ah (aw (cj n' f)) .leaf 0) n' 0=_
      have:=ru (aw (cj n' f))
      rw[jd] at this
      rw[Nat.mul_one];exact this
     cases hx with
     | own cS po hN=>
      rename_i l' cap
      obtain⟨xs,aP,aT,_⟩:=aH.r.loadCells (P:=P) yp cS
      obtain⟨ns,rfl,rfl⟩:=pr nV aT
      refine⟨ρ,.string ⟨⟨ns.map fun n=>UInt8.ofNat n.toNat⟩⟩,w,?_,.str _,bn.refl hr⟩
      rw[run_convert_bytes_string w src dst e _ _ _ hs he hd,run_bytesToString w _ _ _ ns (by simpa using aP w rfl),qH]
      congr 2
    ·cases h
   ·cases h
  ·cases h
 ·cases h
end
end Go.Ev
end
section
namespace Go.Ev
open Go
section
variable {P:Program} {ρ:Ren} {σ:St} {w:World} {id:Nat} {p:V×St→Prop}
end
end Go.Ev
end
section
namespace Go.Ev
open Go
section
variable {P:Program} {ρ:Ren} {σ:St} {w:World} {id:Nat} {p:V×St→Prop}
end
end Go.Ev
end
section
namespace Go.Ev
open Go
section
variable {P:Program} {ρ:Ren} {σ:St} {w:World} {id:Nat} {p:V×St→Prop}
theorem Df {place:Nat→Option (Nat×Nat)}:∀ {ps:List (Nat×V)} {cs r:List V},sf place ps cs=some r→r.length=cs.length:=by
 intro ps
 induction ps with
 | nil=>intro cs r h;have h':some cs=some r:=h;cases h';rfl
 | cons q ps ih=>
  intro cs r h
  have h':(match mN cs q.2.cells (place q.1) with | some ym=>sf place ps ym | none=>none)=some r:=h
  cases hf:mN cs q.2.cells (place q.1) with
  | none=>rw[hf] at h';cases h'
  | some ym=>
   rw[hf] at h'
   rw[ih h']
   unfold mN at hf
   split at hf
   ·cases hf
   ·split at hf
    ·rename_i hb
     cases hf
     rw[Bool.and_eq_true,aO,aO] at hb
     have h1:=Nat.eq_of_beq_eq_true hb.1
     have h2:=Nat.le_of_ble_eq_true hb.2
     rw[iS,iS,eG,ea]
     simp only[List.length_append,List.length_take,List.length_drop]
     simp only[Nat.add_eq] at h2⊢
     omega
    ·cases hf
theorem Bz [Env]:au ρ dg undef:=.tuple .nil
theorem au.rv [Env] {b:Bool} {x:Value} (h:au ρ (.bool b) x):x=.bool b:=by cases h;rfl
theorem au.oO [Env] {v:V} {x:Value} (h:au ρ v x):x.cells.size=len v.cells:=by
 rw[aO,h.cells.length];simp
theorem M0 [Env] (hr:R ρ σ w) {t:TypeId} {v u:V} (h:(oZ P σ t v u).Holds p) {v' u':Value} (hv:au ρ v v') (hu:au ρ u u'):
  ∃σ' w',p (dg,σ')∧(Instr.storeAt t u' v').run P w=.ok () w'∧bn (fun b=>b=id) ρ σ w ρ σ' w':=by
 unfold oZ at h
 split at h
 ·rename_i b i esz off
  cases hu with
  | fF hl=>
   split at h
   ·rename_i n hn
    split at h
    ·rename_i hlen
     cases aH:σ.jW b i esz off v with
     | none=>rw[aH] at h;exact h.elim
     | some σ'=>
      rw[aH] at h
      obtain⟨w',aP,gA⟩:=hr.jW (P:=P) (ids:=fun b=>b=id) aH hl hv
      refine⟨σ',w',h,?_,gA⟩
      have bl:¬v'.cells.size≠n:=by rw[hv.oO,hlen];simp
      simp only[Instr.storeAt,Instr.sureAddr,storeVar,Sem.run_bind,Sem.run_pure,Result.andThen_ok,bw hn,if_neg bl,aP]
    ·exact h.elim
   ·exact h.elim
 ·rename_i b off
  cases hu with
  | ptr hl=>
   split at h
   ·rename_i n hn
    split at h
    ·rename_i hlen
     cases aH:σ.store b off v.cells with
     | none=>rw[aH] at h;exact h.elim
     | some σ'=>
      rw[aH] at h
      obtain⟨w',aP,gA⟩:=hr.store (P:=P) (ids:=fun b=>b=id) aH hl hv.cells
      refine⟨σ',w',h,?_,gA⟩
      have bl:¬v'.cells.size≠n:=by rw[hv.oO,hlen];simp
      simp only[Instr.storeAt,Instr.sureAddr,storeVar,Sem.run_bind,Sem.run_pure,Result.andThen_ok,bw hn,if_neg bl,aP]
    ·exact h.elim
   ·exact h.elim
 ·exact h.elim
theorem BA [Env] {sz n i:Nat} {z:V} {zv:Value} (hz:au ρ z zv) (hlen:len z.cells=sz) (bl:sz≠0) (hi:i<n):
  ∃x,((Array.range n).map (zv.cells[·% zv.cells.size]!))[i]? =some x∧au ρ (z.cells.getD (i%sz) dg) x:=by
 have dI:=hz.cells
 have oC:zv.cells.size=sz:=by rw[hz.oO,hlen]
 rw[aO] at hlen
 have hm:i%sz<z.cells.length:=by rw[hlen];exact Nat.mod_lt _ (by omega)
 obtain⟨x,hx,aT⟩:=dI.get (i%sz) (v:=z.cells[i%sz]) (by simp [hm])
 refine⟨x,?_,?_⟩
 ·have:(Array.range n)[i]? =some i:=by simp [hi]
  rw[Array.getElem?_map,this]
  simp only[Option.map_some,oC,Option.some.injEq]
  have cX:zv.cells[i%sz]? =some x:=by simpa using hx
  simp [getElem!_def,cX]
 ·simpa [List.getD_eq_getElem?_getD,hm] using aT
theorem uT [Env] {t e:TypeId} {n sz:Nat} {z:V} {l:List (Nat×V)} {cs:List V} (he:gU P t=some e) (bl:bQ P e=some sz) (hz:gY P e=some z) (BB:sz≠0) (WU:n*sz≤65536) (Dg:len z.cells=sz)
  (dI:oH sz n z.cells l=some cs) {l':List (Nat×Value)} (hl:j4 ρ l l') (w:World):
  ∃r':List Value,aB ρ cs r'∧cs.length=n*sz∧(Instr.buildSlice t n ⟨l'⟩).run P w=.ok (.slice (some ⟨w.heap.size,0,none⟩) n n) {w with heap:=w.heap.push (.cells ⟨r'⟩ e)}:=by
 obtain⟨zv,hJ,Cu⟩:=ig (P:=P) hz ρ
 have abO:aB ρ ((List.range (n*sz)).map fun i=>z.cells.getD (i%sz) dg) ((Array.range (n*sz)).map (zv.cells[·% zv.cells.size]!)).toList:=by
  refine aB.Wv (by simp) fun i v x hv hx=>?_
  have hi:i<n*sz:=by
   have:=List.getElem?_eq_some_iff.1 hv
   obtain⟨bI,_⟩:=this
   simpa using bI
  obtain⟨x',cX,aT⟩:=BA (n:=n*sz) Cu Dg BB hi
  have e1:v=z.cells.getD (i%sz) dg:=by
   simpa [hi] using hv.symm
  have e2:x=x':=by
   rw[Array.getElem?_toList,cX] at hx
   exact(Option.some.inj hx).symm
  rw[e1,e2];exact aT
 unfold oH at dI
 obtain⟨r',abP,aT⟩:=xA (place:=fun i=>some (i*sz,sz)) l l' _ _ hl abO dI
 have jd:cs.length=n*sz:=by
  have:=Df dI
  simpa using this
 refine⟨r',aT,jd,?_⟩
 have nU:¬n*sz>2^24:=by omega
 have Dh:Instr.fill (fun i=>some (i*sz,sz)) ((Array.range (n*sz)).map (zv.cells[·% zv.cells.size]!)) l'=some ⟨r'⟩:=by
  exact abP
 by_cases jQ:n*sz=0
 ·have e0:∀f:Nat→Value,(Array.range 0).map f=#[]:=by simp
  have hn:n=0:=by
   rcases Nat.mul_eq_zero.1 jQ with h | h
   ·exact h
   ·exact absurd h BB
  subst hn
  have h00:¬(0:Nat)>2^24:=by decide
  rw[jQ,e0] at Dh
  simp only[Instr.buildSlice,Sem.run_bind,run_underlying (ik he),Result.andThen_ok,bw bl,if_neg h00,Sem.run_pure,if_true,jQ,e0,Dh,Go.newRow,run_newObj]
 ·simp only[Instr.buildSlice,Sem.run_bind,run_underlying (ik he),Result.andThen_ok,bw bl,if_neg nU,Sem.run_pure,if_neg jQ,hJ,Dh,Go.newRow,run_newObj]
theorem bn.lit [Env] (h:R ρ σ w) {ids:Nat→Prop} (r:Array Value) (e:TypeId):
  bn ids ρ σ w ⟨ρ.at',fun c o=>if c=w.heap.size then r[o]? else ρ.aW c o⟩ σ {w with heap:=w.heap.push (.cells r e)}:=by
 have hold:∀c,c<w.heap.size→(w.heap.push (.cells r e))[c]? =w.heap[c]? :=fun c hc=>by rw[Array.getElem?_push,if_neg (by omega)]
 have hle:ρ.le ⟨ρ.at',fun c o=>if c=w.heap.size then r[o]? else ρ.aW c o⟩:=⟨fun _ _ h=>h,fun c o x hx=>by
  have:=gy (h.aW c o x hx).1
  show(if c=w.heap.size then r[o]? else ρ.aW c o)=some x
  rw[if_neg (by omega)];exact hx⟩
 refine⟨⟨fun b k hb=>?_,h.inj,h.fresh,fun b l hb=>?_,fun c o x hx=>?_,h.vZ hle⟩,hle,Nat.le_refl _,fun _ _ hb=>.inl hb,by simp,rfl,rfl,rfl,fun c hc _=>hold c hc,fun _ _ h=>h,fun _ k hb=>.inl ⟨k,hb⟩,fun c o x hx=>?_⟩
 ·obtain⟨l,hl,hk⟩:=h.di b k hb
  exact⟨l,hl,hk.same hle (hold l.c (h.valid b l hl))⟩
 ·have:=h.valid b l hb
  simp;omega
 ·have cX:(if c=w.heap.size then r[o]? else ρ.aW c o)=some x:=hx
  by_cases e:c=w.heap.size
  ·rw[if_pos e] at cX
   subst e
   refine⟨by simp [World.cell?,cX],?_⟩
   rintro⟨b,k,l,h1,_,h3,h4⟩
   have:=h.valid b l h3
   omega
  ·rw[if_neg e] at cX
   obtain⟨a1,a2⟩:=h.aW c o x cX
   exact⟨by rw[cell?_of_block (hold c (gy a1))];exact a1,a2⟩
 ·have cX:(if c=w.heap.size then r[o]? else ρ.aW c o)=some x:=hx
  by_cases e:c=w.heap.size
  ·exact .inr (.inl (by omega))
  ·rw[if_neg e] at cX;exact .inl cX
theorem pt:∀ {cs:List V},(∀v∈cs,v.scalar=true)→aw cs=cs∧∀v∈cs,v.cells.length=1
 | [],_=>⟨rfl,fun _ h=>by cases h⟩
 | v::cs,h=>by
  obtain⟨h1,h2⟩:=pt (cs:=cs) fun u hu=>h u (List.mem_cons_of_mem _ hu)
  have hv:v.cells=[v]:=by
   have:=h v List.mem_cons_self
   cases v<;>first | rfl | cases this
  refine⟨by rw[ca,hv,h1];rfl,fun u hu=>?_⟩
  rcases List.mem_cons.1 hu with rfl | hu
  ·rw[hv];rfl
  ·exact h2 u hu
theorem zM [Env] (hr:R ρ σ w) (cx:ρ id=none) {t:TypeId} {n:Nat} {l:List (Nat×V)} (h:(fV P σ id t n (some l)).Holds p) {l':List (Nat×Value)} (hl:j4 ρ l l'):
  ∃v σ' ρ' v' w',p (v,σ')∧au ρ' v v'∧(Instr.buildSlice t n ⟨l'⟩).run P w=.ok v' w'∧bn (fun b=>b=id) ρ σ w ρ' σ' w':=by
 have h':(match gU P t with
  | some e=>match bQ P e,gY P e with
   | some sz,some z=>match isByte P e with
    | true=>oI σ sz n l z.cells
    | false=>k9 σ id sz n l z.cells
   | _,_=>.fail "buildSlice type"
  | none=>.fail "buildSlice type":VS).Holds p:=h
 clear h
 split at h'
 ·rename_i e he
  split at h'
  ·rename_i sz z bl hz
   split at h'
   ·unfold oI at h'
    split at h'
    ·exact h'.elim
    ·rename_i hc
     rw[not_or,not_or] at hc
     obtain⟨BB,WU,Dg⟩:=hc
     have BB:sz=1:=Decidable.not_not.1 BB
     have Dg:len z.cells=1:=Decidable.not_not.1 Dg
     subst BB
     split at h'
     ·rename_i cs dI
      split at h'
      ·rename_i ou
       obtain⟨r',aT,jd,aP⟩:=uT (P:=P) he bl hz (by decide) (by omega) Dg dI hl w
       have aH:=bn.lit (ids:=fun b=>b=id) hr ⟨r'⟩ e
       obtain⟨g1,g2⟩:=pt (cs:=cs) (fun v hv=>List.all_eq_true.1 (by rw[←sd];exact ou) v hv)
       rw[Nat.mul_one] at jd
       refine⟨_,_,_,_,_,h',?_,aP,aH⟩
       have key:=au.br (ρ:=⟨ρ.at',fun c o=>if c=w.heap.size then(⟨r'⟩:Array Value)[o]? else ρ.aW c o⟩) (es:=cs) (esz:=1) (c:=w.heap.size) (off:=0) (cap:=n) (ex:=true) (xs:=r') g2
        (by rw[g1];exact aT.mono aH.le) (fun k x hk=>by
         show(if w.heap.size=w.heap.size then(⟨r'⟩:Array Value)[0+k]? else ρ.aW w.heap.size (0+k))=some x
         rw[if_pos rfl,Nat.zero_add];simpa using hk) (by omega) (fun _=>jd.symm)
       rw[jd] at key
       exact key
      ·exact h'.elim
     ·exact h'.elim
   ·unfold k9 at h'
    split at h'
    ·exact h'.elim
    ·rename_i hc
     have BB:sz≠0:=fun e=>hc (.inl e)
     have WU:n*sz≤65536:=by
      apply Nat.le_of_not_lt;intro e;exact hc (.inr (.inl e))
     have Dg:len z.cells=sz:=Decidable.byContradiction fun e=>hc (.inr (.inr e))
     split at h'
     ·rename_i cs dI
      split at h'
      ·rename_i ou
       obtain⟨r',aT,jd,aP⟩:=uT (P:=P) he bl hz BB WU Dg dI hl w
       have aH:=Bx hr cx aT (ty:=e) (w':={w with heap:=w.heap.push (.cells ⟨r'⟩ e)}) rfl rfl rfl rfl
       rw[jd] at aH
       refine⟨_,_,_,_,_,h',.slice (l:=⟨w.heap.size,0,r'.length⟩) (off':=0) (cap':=n) (j2 _ _ _) (fun _=>⟨rfl,rfl⟩) (by simp) ?_ (Nat.le_refl _),aP,aH⟩
       show 0+n*sz≤r'.length
       rw[←aT.length,jd];omega
      ·exact h'.elim
     ·exact h'.elim
  ·exact h'.elim
 ·exact h'.elim
theorem Cm [Env] (hr:R ρ σ w) (cx:ρ id=none) {t:TypeId} {n m:V} (h:(gI P σ id t n m).Holds p) {n' m':Value} (hn:au ρ n n') (hm:au ρ m m'):
  ∃v σ' ρ' v' w',p (v,σ')∧au ρ' v v'∧(Instr.makeSlice t n' m').run P w=.ok v' w'∧bn (fun b=>b=id) ρ σ w ρ' σ' w':=by
 unfold gI at h
 split at h
 ·rename_i kn n km m
  cases hn;cases hm
  split at h
  ·rename_i e he
   split at h
   ·rename_i sz dp z bl pq hz
    obtain⟨zv,hJ,Cu⟩:=ig (P:=P) hz ρ
    obtain⟨i,hi,hib⟩:=sw pq
    unfold l4 at h
    split at h
    ·rename_i hc
     obtain⟨c0,c1,c2,c3,c4,c5,c6⟩:=hc
     have oC:zv.cells.size=sz:=by rw[Cu.oO,c5]
     obtain⟨M,rfl⟩:∃M:Nat,m=(M:Int):=⟨m.toNat,by omega⟩
     obtain⟨N,rfl⟩:∃N:Nat,n=(N:Int):=⟨n.toNat,by omega⟩
     simp only[Int.toNat_natCast] at c2 h
     have hwn:IntKind.i64.wrap (N:Int)=N:=by
      simp [IntKind.wrap,IntKind.bits,IntKind.signed];omega
     have hwm:IntKind.i64.wrap (M:Int)=M:=by
      simp [IntKind.wrap,IntKind.bits,IntKind.signed];omega
     let row:Array Value:=(Array.range (M*sz)).map (zv.cells[·% zv.cells.size]!)
     have ae7:i.bytes*M≤1099511627776:=by rw[hib,Nat.mul_comm];exact c2
     have aP:(Instr.makeSlice t (.int kn N) (.int km M)).run P w=.ok (.slice (some ⟨w.heap.size,0,none⟩) N M) {w with heap:=w.heap.push (.cells row e)}:=by
      have t1:(decide ((M:Int)<0)||decide ((i.bytes:Int)*M>2^48)||decide ((N:Int)<0)||decide ((N:Int)>M))=false:=by
       have:((i.bytes*M:Nat):Int)≤((1099511627776:Nat):Int):=Int.ofNat_le.2 ae7
       rw[Int.natCast_mul] at this
       have h1:¬((M:Int)<0):=by omega
       have h2:¬((i.bytes:Int)*M>281474976710656):=by omega
       have h48:(2:Int)^48=281474976710656:=by decide
       have h3:¬((N:Int)<0):=by omega
       have h4:¬((N:Int)>M):=by omega
       rw[h48];simp only[h1,h2,h3,h4,decide_false,Bool.or_false]
      by_cases jQ:M*sz=0
      ·have e0:∀f:Nat→Value,(Array.range 0).map f=#[]:=by simp
       have sD:row=#[]:=by
        show(Array.range (M*sz)).map _=_
        rw[jQ,e0]
       simp only[Instr.makeSlice,Sem.run_bind,run_underlying (ik he),Result.andThen_ok,asInt,asIntOf,Sem.run_pure,run_typeInfo hi,hwn,hwm,t1,Bool.false_eq_true,if_false,run_askRoom,Int.toNat_natCast,bw bl,if_true,jQ,e0,sD,Go.newRow,run_newObj]
      ·simp only[Instr.makeSlice,Sem.run_bind,run_underlying (ik he),Result.andThen_ok,asInt,asIntOf,Sem.run_pure,run_typeInfo hi,hwn,hwm,t1,Bool.false_eq_true,if_false,run_askRoom,Int.toNat_natCast,bw bl,if_neg jQ,hJ,Go.newRow,run_newObj]
       rfl
     have hrs:row.size=M*sz:=by simp [row]
     refine⟨_,_,_,_,_,h,.slice (l:=⟨w.heap.size,0,M*sz⟩) (off':=0) (cap':=M) (j2 ρ _ _) (fun _=>⟨rfl,rfl⟩) (by simp) (by show 0+M*sz≤M*sz;omega) (by omega),aP,?_⟩
     have kU:(w.heap.push (.cells row e))[w.heap.size]? =some (.cells row e (0,0)):=by simp
     refine bn.alloc hr cx (w':={w with heap:=w.heap.push (.cells row e)}) rfl rfl rfl rfl (.cells ⟨e,?_⟩ (by simp) (fun k v hk=>?_) (fun _ k _=>?_) (fun _ k=>?_))
     ·simp [World.shape?,hrs]
     ·have fB:=uM hk
      have hv:v=z.cells.getD (k%sz) dg:=by
       unfold cellOf at hk
       rw[Trie.eU] at hk
       split at hk
       ·rw[dG,c5] at hk
        have ae8:z.cells[k%sz]? =some v:=hk
        simp [List.getD_eq_getElem?_getD,ae8]
       ·cases hk
      obtain⟨x,hx,aT⟩:=BA (n:=M*sz) Cu c5 c4 fB
      refine⟨x,?_,hv▸aT.mono (j3 ρ _ cx)⟩
      have cX:row[k]? =some x:=hx
      unfold World.cell?
      dsimp only
      rw[kU,Nat.zero_add]
      exact cX
     ·simp [World.frozen?]
     ·simp [World.frozen?]
    ·exact h.elim
   ·exact h.elim
  ·exact h.elim
 ·exact h.elim
theorem Kh [Env] {x v:V} {t xt:TypeId} {ok:Bool} (h:sg P x t ok=some v) {x':Value} (hx:au ρ x x') (w:World):∃v',(Instr.typeAssert x' xt t ok).run P w=.ok v' w∧au ρ v v':=by
 have hold:∀ {u:V} {u':Value},au ρ u u'→(some (if ok then .tuple [u,.bool true] else u:V)=some v)→au ρ v (if ok then .tuple #[u',.bool true] else u'):=by
  intro u u' hu he
  cases he
  cases ok with
  | true=>exact .tuple (.cons hu (.cons (.bool true) .nil))
  | false=>exact hu
 have Cv:(if ok then(gY P t).map fun z=>(.tuple [z,.bool false]:V) else none)=some v→ok=true∧∃zv,(∀w,(zeroValue t).run P w=.ok zv w)∧au ρ v (.tuple #[zv,.bool false]):=by
  intro he
  cases ok with
  | false=>simp at he
  | true=>
   simp only[if_true,Option.map_eq_some_iff] at he
   obtain⟨z,hz,rfl⟩:=he
   obtain⟨zv,hJ,qf⟩:=ig (P:=P) hz ρ
   exact⟨rfl,zv,hJ,.tuple (.cons qf (.cons (.bool false) .nil))⟩
 unfold sg at h
 dsimp only at h
 split at h
 ·rename_i ms hu
  obtain⟨rfl,zv,hJ,hv⟩:=Cv h
  cases hx
  exact⟨_,by simp [Instr.typeAssert,run_underlying hu,hJ],hv⟩
 ·rename_i want ty vv hu
  cases hx with
  | iface hx=>
   split at h
   ·rename_i i hi
    split at h
    ·rename_i hm
     refine⟨_,?_,hold (.iface hx) h⟩
     simp only[Instr.typeAssert,Sem.run_bind,run_underlying hu,Result.andThen_ok,run_typeInfo hi,hm,Sem.run_pure]
    ·rename_i mm hm
     obtain⟨rfl,zv,hJ,hv⟩:=Cv h
     exact⟨_,by simp [Instr.typeAssert,run_underlying hu,run_typeInfo hi,hm,hJ],hv⟩
   ·cases h
 ·rename_i hn hu
  obtain⟨rfl,zv,hJ,hv⟩:=Cv h
  cases hx
  refine⟨_,?_,hv⟩
  rename_i d _
  cases d<;>simp [Instr.typeAssert,run_underlying hu,hJ]
 ·rename_i d ty vv hn hu
  cases hx with
  | iface hx=>
   split at h
   ·rename_i ht
    refine⟨_,?_,hold hx h⟩
    cases d<;>first
     | exact(hn _ rfl).elim
     | (simp only[Instr.typeAssert,Sem.run_bind,run_underlying hu,Result.andThen_ok,if_pos ht,Sem.run_pure])
   ·rename_i ht
    obtain⟨rfl,zv,hJ,hv⟩:=Cv h
    refine⟨_,?_,hv⟩
    cases d<;>first
     | exact(hn _ rfl).elim
     | (simp only[Instr.typeAssert,Sem.run_bind,run_underlying hu,Result.andThen_ok,if_neg ht,if_true,hJ,Sem.run_pure])
 ·cases h
theorem Ki [Env] (_hr:R ρ σ w) {t e:TypeId} {es:List V} {esz sz:Nat} {ex:Bool} {u:V} {k:IntKind} {i:Int} (he:gU P t=some e) (bl:bQ P e=some sz) (c1:0≤i) (c2:i<es.length) (c3:sz=esz) (_c4:sz≠0) (qI:es[i.toNat]? =some u) {x':Value} (gM:au ρ (.br es esz ex) x'):
  ∃v',(Instr.indexAt t x' (.int k i)).run P w=.ok v' w∧au ρ (.aQ u.cells 0) v':=by
 subst c3
 cases gM with
 | br hu cX eQ po hex=>
  rename_i c off cap xs
  have WV:aw (es.drop i.toNat)=(aw es).drop (i.toNat*sz):=mS hu _
  have Kj:es.drop i.toNat=u::es.drop (i.toNat+1):=by
   have bI:=(List.getElem?_eq_some_iff.1 qI)
   obtain⟨h1,h2⟩:=bI
   rw[List.drop_eq_getElem_cons h1,h2]
  have Di:u.cells.length=sz:=hu u (List.mem_of_getElem? qI)
  have aT:aB ρ u.cells ((xs.drop (i.toNat*sz)).take sz):=by
   have h1:=(cX.drop (i.toNat*sz)).take sz
   rw[←WV,Kj,ca,←Di,List.take_left' rfl] at h1
   rw[←Di];exact h1
  refine⟨.pointer (some ⟨c,off+i.toNat*sz+0,none⟩),?_,.aQ aT fun k x hk=>?_⟩
  ·simp [Instr.indexAt,asIntOf,run_underlying (ik he),c1,c2,bw bl,eA]
  ·rw[List.getElem?_take] at hk
   split at hk
   ·rw[List.getElem?_drop] at hk
    rw[Nat.add_assoc];exact eQ _ x hk
   ·cases hk
 | dS=>simp at qI
 | du he=>simp at qI
theorem OZ [Env] (hr:R ρ σ w) (cx:ρ id=none) {a:Act} {a':Go.Act} (ha:bO ρ a a') (o:Oper) (h:((mH P o.op).f a σ id).Holds p) (jB:∀c,o.op≠.call c):
  Kb P (execOp a'.eval o) id ρ σ w p:=by
 unfold execOp
 cases bP:o.op with
 | move x=>
  rw[bP] at h
  obtain⟨v,hv,hp⟩:=dq h
  exact .value hr hp (ha.eval x hv) rfl
 | assign x=>
  rw[bP] at h
  obtain⟨v,hv,hp⟩:=dq h
  exact .value hr hp (ha.eval x hv) rfl
 | pick c x y=>
  rw[bP] at h
  obtain⟨cv,hc,h⟩:=eh h
  unfold nO at h
  split at h
  ·rename_i b
   obtain⟨v,hv,hp⟩:=dq h
   have rn:=ha.eval c hc
   have hcb:a'.eval c=.bool b:=rn.rv
   refine .value hr hp (v':=if b then a'.eval x else a'.eval y) ?_ ?_
   ·cases b with
    | true=>exact ha.eval x hv
    | false=>exact ha.eval y hv
   ·dsimp only;rw[hcb];rfl
  ·exact h.elim
 | alloc e=>
  rw[bP] at h
  have h':(o4 P σ id e).Holds p:=h
  unfold o4 at h'
  split at h'
  ·rename_i z hz
   obtain⟨zv,hJ,qf⟩:=ig (P:=P) hz ρ
   split at h'
   ·exact GN hr cx qf e h' (by dsimp only;simp [Instr.alloc,hJ,newVar,Go.newRow])
   ·exact h'.elim
  ·exact h'.elim
 | box e x=>
  rw[bP] at h
  obtain⟨v,hv,h⟩:=eh h
  unfold yc at h
  split at h
  ·exact GN hr cx (ha.eval x hv) e h (by dsimp only;simp [Instr.box,newVar,Go.newRow])
  ·exact h.elim
 | build t ps=>
  rw[bP] at h
  have h':(mO P σ t (a.parts ps.toList)).Holds p:=h
  cases qe:a.parts ps.toList with
  | none=>rw[qe] at h';exact h'.elim
  | some l=>
   rw[qe] at h'
   obtain⟨v,hv,hp⟩:=dq h'
   obtain⟨v',aP,aT⟩:=MN (P:=P) (ha.parts ps.toList qe) hv
   refine .value hr hp aT ?_
   have e:(ps.map fun(q:Nat×Operand)=>(q.1,a'.eval q.2))=⟨ps.toList.map fun q=>(q.1,a'.eval q.2)⟩:=Array.ext' (by simp)
   dsimp only
   rw[show(ps.map fun x=>match x with | (i,x)=>(i,a'.eval x))=⟨ps.toList.map fun q=>(q.1,a'.eval q.2)⟩ from e]
   simp [aP]
 | buildSlice t n ps=>
  rw[bP] at h
  have h':(fV P σ id t n (a.parts ps.toList)).Holds p:=h
  cases qe:a.parts ps.toList with
  | none=>rw[qe] at h';exact h'.elim
  | some l=>
   rw[qe] at h'
   obtain⟨v,σ',ρ',v',w',hp,hv,aP,aH⟩:=zM hr cx h' (ha.parts ps.toList qe)
   refine⟨v,σ',ρ',v',w',hp,hv,aH,.inl ?_⟩
   dsimp only
   rw[show(ps.map fun x=>match x with | (i,x)=>(i,a'.eval x))=⟨ps.toList.map fun q=>(q.1,a'.eval q.2)⟩ from Array.ext' (by simp)]
   simp [aP]
 | insert t m k v=>rw[bP] at h;exact h.elim
 | load t x=>
  rw[bP] at h
  obtain⟨xv,hx,h⟩:=eh h
  obtain⟨v,hv,hp⟩:=dq h
  obtain⟨v',aP,aT,_⟩:=Bw (P:=P) hr (ha.eval x hx) hv
  exact .value hr hp aT (by dsimp only;simp [aP])
 | store t x y=>
  rw[bP] at h
  obtain⟨yv,xv,hy,hx,h⟩:=lM h
  obtain⟨σ',w',hp,aP,aH⟩:=M0 hr h (ha.eval y hy) (ha.eval x hx)
  exact⟨_,_,_,_,_,hp,Bz,aH,.inr ⟨rfl,by dsimp only;simp [aP]⟩⟩
 | ready g=>rw[bP] at h;exact h.elim
 | waits g=>rw[bP] at h;exact h.elim
 | nilCheck x=>
  rw[bP] at h
  obtain⟨xv,hx,h⟩:=eh h
  have gM:=ha.eval x hx
  unfold oJ at h
  dsimp only
  generalize a'.eval x=x' at gM⊢
  split at h
  ·cases gM with
   | ptr hl=>exact .value hr h (.ptr hl) rfl
  ·cases gM with
   | aQ hx hi=>exact .value hr h (.aQ hx hi) rfl
  ·cases gM with
   | fF hl=>exact .value hr h (.fF hl) rfl
  ·exact h.elim
  ·rename_i f x y hnm
   cases gM with
   | func hf hx hy=>
    refine .value hr h (.func hf hx hy) ?_
    cases hf with
    | yield _=>rfl
    | same _=>
     cases f<;>first
      | exact absurd rfl (hnm _)
      | rfl
  ·cases gM with
   | iface hv=>exact .value hr h (.iface hv) rfl
  ·exact h.elim
 | binOp op t x y yt=>
  rw[bP] at h
  obtain⟨xv,yv,hx,hy,h⟩:=lM h
  obtain⟨v,hv,hp⟩:=dq h
  obtain⟨v',aP,aT⟩:=Gj (P:=P) hr hv (ha.eval x hx) (ha.eval y hy)
  refine .value hr hp aT ?_
  dsimp only
  rw[Sem.run_bind,aP];rfl
 | unOp op t x=>
  rw[bP] at h
  obtain⟨xv,hx,h⟩:=eh h
  obtain⟨v,hv,hp⟩:=dq h
  obtain⟨v',aP,aT⟩:=Ke (P:=P) hv (ha.eval x hx)
  exact .value hr hp aT (by dsimp only;simp [aP])
 | convert s d x=>
  rw[bP] at h
  obtain⟨xv,hx,h⟩:=eh h
  unfold dh at h
  cases hc:evalConv P σ id s d xv with
  | none=>rw[hc] at h;exact h.elim
  | some r=>
   rw[hc] at h
   obtain⟨ρ',v',w',aP,hv,aH⟩:=OY hr cx hc (ha.eval x hx)
   exact⟨_,_,_,_,_,h,hv,aH,.inl (by dsimp only;simp [aP])⟩
 | sliceToArrayPointer d x=>rw[bP] at h;exact h.elim
 | makeInterface t x=>
  rw[bP] at h
  obtain⟨xv,hx,h⟩:=eh h
  unfold ib at h
  split at h
  ·exact h.elim
  ·rename_i d je hd
   refine .value hr h (.iface (ha.eval x hx)) ?_
   dsimp only
   cases d<;>first
    | exact(je _ hd).elim
    | exact(je _ rfl).elim
    | simp [Instr.makeInterface,run_underlying hd]
  ·exact h.elim
 | makeFunc fn f c=>
  rw[bP] at h
  have h':(jm σ fn (a.bR f.toList) (a.bR c.toList)).Holds p:=h
  cases hf:a.bR f.toList with
  | none=>rw[hf] at h';exact h'.elim
  | some fs=>cases hc:a.bR c.toList with
   | none=>rw[hf,hc] at h';exact h'.elim
   | some cs=>
    rw[hf,hc] at h'
    unfold jm at h'
    dsimp only at h'⊢
    split at h'
    ·exact h'.elim
    ·rename_i hny
     refine .value hr h' (.func (.same hny) (ha.bR _ hf) (ha.bR _ hc)) ?_
     rw[show f.map a'.eval=⟨f.toList.map a'.eval⟩ from Array.ext' (by simp),show c.map a'.eval=⟨c.toList.map a'.eval⟩ from Array.ext' (by simp)]
     rfl
 | makeMap t r=>rw[bP] at h;exact h.elim
 | makeChan t s=>rw[bP] at h;exact h.elim
 | makeSlice t l c=>
  rw[bP] at h
  obtain⟨lv,cv,hl,hc,h⟩:=lM h
  obtain⟨v,σ',ρ',v',w',hp,hv,aP,aH⟩:=Cm hr cx h (ha.eval l hl) (ha.eval c hc)
  exact⟨v,σ',ρ',v',w',hp,hv,aH,.inl (by dsimp only;simp [aP])⟩
 | slice t x lo hi mx=>
  rw[bP] at h
  obtain⟨xv,hx,h⟩:=eh h
  unfold fH at h
  split at h
  ·rename_i l hh m h1 h2 h3
   split at h
   ·rename_i k e hk
    obtain⟨v,hv,hp⟩:=dq h
    obtain⟨v',aP,aT⟩:=zJ (P:=P) hr (sx hk) hv (ha.eval x hx) (ha.iU h1) (ha.iU h2) (ha.iU h3)
    exact .value hr hp aT (by dsimp only;simp [aP])
   ·obtain⟨v,hv,hp⟩:=dq h
    obtain⟨v',aP,aT⟩:=Cj (P:=P) hv (ha.eval x hx) (ha.iU h1) (ha.iU h2) (ha.iU h3) w
    exact .value hr hp aT (by dsimp only;simp [aP])
  ·exact h.elim
 | fieldAddr s x f=>
  rw[bP] at h
  obtain⟨xv,hx,h⟩:=eh h
  have gM:=ha.eval x hx
  unfold kQ at h
  dsimp only
  generalize a'.eval x=x' at gM⊢
  split at h
  ·cases gM with
   | ptr hl=>
    rename_i b off l
    split at h
    ·rename_i fd mc
     split at h
     ·rename_i n hn
      unfold lH at mc
      split at mc
      ·rename_i fs hu
       refine .value hr h (v':=.pointer (some ⟨l.c,l.o+(off+fd.offset),none⟩)) (.ptr hl) ?_
       simp [Instr.fieldAt,run_underlying hu,mc,Instr.sureAddr,fieldPlace,bw hn,eA,Nat.add_assoc]
      ·cases mc
     ·exact h.elim
    ·exact h.elim
  ·cases gM with
   | aQ cX eQ=>
    rename_i cs off c o xs
    split at h
    ·rename_i fd mc
     split at h
     ·rename_i n hn
      unfold lH at mc
      split at mc
      ·rename_i fs hu
       refine .value hr h (v':=.pointer (some ⟨c,o+(off+fd.offset),none⟩)) (.aQ cX eQ) ?_
       simp [Instr.fieldAt,run_underlying hu,mc,Instr.sureAddr,fieldPlace,bw hn,eA,Nat.add_assoc]
      ·cases mc
     ·exact h.elim
    ·exact h.elim
  ·cases gM with
   | fF hl=>
    rename_i b i esz off l
    split at h
    ·rename_i fd mc
     split at h
     ·rename_i n hn
      unfold lH at mc
      split at mc
      ·rename_i fs hu
       refine .value hr h (v':=.pointer (some ⟨l.c,l.o+(i*esz+(off+fd.offset)),none⟩)) (.fF hl) ?_
       simp [Instr.fieldAt,run_underlying hu,mc,Instr.sureAddr,fieldPlace,bw hn,eA,Nat.add_assoc]
      ·cases mc
     ·exact h.elim
    ·exact h.elim
  ·exact h.elim
 | field t x f=>
  rw[bP] at h
  obtain⟨xv,hx,h⟩:=eh h
  have gM:=ha.eval x hx
  unfold re at h
  dsimp only
  generalize a'.eval x=x' at gM⊢
  split at h
  ·cases gM with
   | agg hc=>
    split at h
    ·rename_i fd mc
     obtain⟨v,hv,hp⟩:=dq h
     obtain⟨v',aP,aT⟩:=lN (P:=P) hc hv
     unfold lH at mc
     split at mc
     ·rename_i fs hu
      exact .value hr hp aT (by simp [Instr.field,run_underlying hu,mc,asAgg,aP])
     ·cases mc
    ·exact h.elim
  ·exact h.elim
 | indexAddr t x ix=>
  rw[bP] at h
  obtain⟨xv,iv,hx,hi,h⟩:=lM h
  have gM:=ha.eval x hx
  have wY:=ha.eval ix hi
  unfold jI at h
  dsimp only
  generalize a'.eval x=x' at gM⊢
  generalize a'.eval ix=i' at wY⊢
  split at h
  ·rename_i b n esz k i
   cases wY
   unfold jZ at h
   split at h
   ·rename_i e he
    split at h
    ·rename_i sz bl
     split at h
     ·rename_i hc
      obtain⟨c1,c2,c3,c4⟩:=hc
      subst c3
      cases gM with
      | own hl po hN=>
       rename_i l cap
       refine .value hr h (v':=.pointer (some ⟨l.c,l.o+(i.toNat*sz+0),none⟩)) (.fF hl) ?_
       simp [Instr.indexAt,asIntOf,run_underlying (ik he),c1,c2,bw bl,eA]
     ·exact h.elim
    ·exact h.elim
   ·exact h.elim
  ·rename_i n f esz ex nn k i
   cases wY
   unfold jY at h
   split at h
   ·rename_i e he
    split at h
    ·rename_i sz bl
     split at h
     ·rename_i hc
      obtain⟨c1,c2,c3,c4⟩:=hc
      cases gM with
      | arr _ gM=>
       obtain⟨v',aP,aT⟩:=Ki (P:=P) (k:=k) hr he bl c1 (by rw[aY];exact c2) c3 c4 (dt (f:=f) (i:=i.toNat) (by omega)) gM
       exact .value hr h aT (by simp [aP])
     ·exact h.elim
    ·exact h.elim
   ·exact h.elim
  ·rename_i b off len cap ex esz k i
   cases wY
   unfold pe at h
   split at h
   ·rename_i e he
    split at h
    ·rename_i sz bl
     split at h
     ·rename_i hc
      obtain⟨c1,c2,c3⟩:=hc
      cases gM with
      | slice hl hex cW hN hn=>
       rename_i l off' cap'
       have ho:off'=l.o+off:=by
        cases ex with
        | true=>exact(hex rfl).2
        | false=>rcases(cW rfl).2 with h | h
                 ·exact h
                 ·omega
       refine .value hr h (v':=.pointer (some ⟨l.c,l.o+(off+i.toNat*sz),none⟩)) (.ptr hl) ?_
       simp [Instr.indexAt,asIntOf,run_underlying (ik he),c1,c2,bw bl,eA,ho,Nat.add_assoc]
     ·exact h.elim
    ·exact h.elim
   ·exact h.elim
  ·rename_i es esz ex k i
   cases wY
   unfold pg at h
   split at h
   ·rename_i e he
    split at h
    ·rename_i sz bl
     split at h
     ·rename_i hc
      obtain⟨c1,c2,c3,c4⟩:=hc
      subst c3
      rw[aO] at c2
      split at h
      ·rename_i u qI
       rw[dG] at qI
       cases gM with
       | br hu cX eQ po hex=>
        rename_i c off cap xs
        have WV:aw (es.drop i.toNat)=(aw es).drop (i.toNat*sz):=mS hu _
        have Kj:es.drop i.toNat=u::es.drop (i.toNat+1):=by
         have bI:=(List.getElem?_eq_some_iff.1 qI)
         obtain⟨h1,h2⟩:=bI
         rw[List.drop_eq_getElem_cons h1,h2]
        have Di:u.cells.length=sz:=hu u (List.mem_of_getElem? qI)
        have aT:aB ρ u.cells ((xs.drop (i.toNat*sz)).take sz):=by
         have h1:=(cX.drop (i.toNat*sz)).take sz
         rw[←WV,Kj,ca,←Di,List.take_left' rfl] at h1
         rw[←Di];exact h1
        refine .value hr h (v':=.pointer (some ⟨c,off+i.toNat*sz+0,none⟩)) (.aQ aT fun k x hk=>?_) ?_
        ·rw[List.getElem?_take] at hk
         split at hk
         ·rw[List.getElem?_drop] at hk
          rw[Nat.add_assoc];exact eQ _ x hk
         ·cases hk
        ·simp [Instr.indexAt,asIntOf,run_underlying (ik he),c1,c2,bw bl,eA]
       | dS=>simp at qI
       | du he=>simp at qI
      ·exact h.elim
     ·exact h.elim
    ·exact h.elim
   ·exact h.elim
  ·rename_i b off k i
   cases wY
   unfold pf at h
   split at h
   ·rename_i n e he
    split at h
    ·rename_i sz bl
     split at h
     ·rename_i hc
      obtain⟨c1,c2⟩:=hc
      cases gM with
      | ptr hl=>
       rename_i l
       refine .value hr h (v':=.pointer (some ⟨l.c,l.o+(off+i.toNat*sz),none⟩)) (.ptr hl) ?_
       simp [Instr.indexAt,asIntOf,run_underlying (sx he),c1,c2,bw bl,Instr.sureAddr,eA,Nat.add_assoc]
     ·exact h.elim
    ·exact h.elim
   ·exact h.elim
  ·exact h.elim
 | index t x ix=>
  rw[bP] at h
  obtain⟨xv,iv,hx,hi,h⟩:=lM h
  have gM:=ha.eval x hx
  have wY:=ha.eval ix hi
  unfold o0 at h
  dsimp only
  generalize a'.eval x=x' at gM⊢
  generalize a'.eval ix=i' at wY⊢
  split at h
  ·rename_i s k i
   cases wY;cases gM
   unfold l5 at h
   split at h
   ·rename_i hu
    split at h
    ·rename_i hi0
     split at h
     ·rename_i c hc
      rw[dG] at hc
      refine .value hr h (.int _ _) ?_
      have hb:(⟨⟨s⟩⟩:ByteArray)[i.toNat]? =some c:=by
       obtain⟨hl,he⟩:=List.getElem?_eq_some_iff.1 hc
       rw[getElem?_pos _ _ (by exact hl)];exact congrArg some he
      simp [Instr.index,asIntOf,run_underlying hu,hi0,hb]
     ·exact h.elim
    ·exact h.elim
   ·exact h.elim
  ·rename_i cs k i
   cases wY
   cases gM with
   | agg dI=>
    unfold sj at h
    split at h
    ·rename_i n e he
     split at h
     ·rename_i sz bl
      split at h
      ·rename_i hc
       obtain⟨c1,c2⟩:=hc
       obtain⟨v,hv,hp⟩:=dq h
       obtain⟨v',aP,aT⟩:=lN (P:=P) dI hv
       exact .value hr hp aT (by simp [Instr.index,asIntOf,run_underlying (sx he),c1,c2,bw bl,aP])
      ·exact h.elim
     ·exact h.elim
    ·exact h.elim
  ·exact h.elim
 | lookup t x k ok=>rw[bP] at h;exact h.elim
 | mapUpdate t m k v=>rw[bP] at h;exact h.elim
 | mapEntry t m k=>rw[bP] at h;exact h.elim
 | entryStore t m s v=>rw[bP] at h;exact h.elim
 | range t x=>rw[bP] at h;exact h.elim
 | next it s=>rw[bP] at h;exact h.elim
 | entry it=>rw[bP] at h;exact h.elim
 | typeAssert x xt t ok=>
  rw[bP] at h
  obtain⟨xv,hx,h⟩:=eh h
  obtain⟨v,hv,hp⟩:=dq h
  obtain⟨v',aP,aT⟩:=Kh (P:=P) (xt:=xt) hv (ha.eval x hx) w
  exact .value hr hp aT (by dsimp only;simp [aP])
 | extract x i=>
  rw[bP] at h
  obtain⟨xv,hx,h⟩:=eh h
  have gM:=ha.eval x hx
  unfold pZ at h
  dsimp only
  generalize a'.eval x=x' at gM⊢
  split at h
  ·cases gM with
   | tuple ij=>
    obtain⟨v,hv,hp⟩:=dq h
    rw[dG] at hv
    obtain⟨v',ov,aT⟩:=ij.get i hv
    exact .value hr hp aT (by simp [Instr.extract,ov])
  ·exact h.elim
 | call c=>exact absurd bP (jB c)
 | go c=>rw[bP] at h;exact h.elim
 | defer c=>rw[bP] at h;exact h.elim
 | panic x=>rw[bP] at h;exact h.elim
 | send c x=>rw[bP] at h;exact h.elim
 | recv t c ok=>rw[bP] at h;exact h.elim
 | select cs b=>rw[bP] at h;exact h.elim
end
end Go.Ev
end
