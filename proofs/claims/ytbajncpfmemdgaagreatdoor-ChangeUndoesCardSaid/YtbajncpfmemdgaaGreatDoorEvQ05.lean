/- Proved: parts of the way: OpsD, OpsE, OpsF, OpsG. -/
import Derived.Test.YtbajncpfmemdgaaGreatDoorEvQ04
import Derived.Laws.BytesString
set_option linter.unusedVariables false
set_option linter.unusedSimpArgs false
section
namespace Go.Ev
open Go
section
variable {P:Program} {ρ:Ren} {σ:St} {w:World} {id:Nat} {p:V×St→Prop}
theorem Jb [Env] (hr:R ρ σ w) {tys:Array TypeId} {ty t:TypeId} (ht:tys[0]? =some t) {d v:V} {σ':St} (h:evalClear P σ t d=some (v,σ')) {d':Value} (hd:aq ρ d d'):
  ∃w',(Builtin.clear_ tys ty #[d']).run P w=.ok (.tuple #[]) w'∧v=.tuple []∧bc (fun b=>b=id) ρ σ w ρ σ' w':=by
 unfold evalClear at h
 split at h
 ·rename_i e hu
  split at h
  ·rename_i z hz
   split at h
   ·cases h
   ·rename_i h0
    rw[aZ] at h0 h
    obtain⟨zv,gy,pd⟩:=gI hz ρ
    have jT:(#[d']:Array Value)[0]? =some d':=rfl
    unfold DH at h
    split at h
    ·cases h;cases hd
     exact⟨w,by simp only[Builtin.clear_,ht,jT,Sem.run_bind,run_underlying hu,Result.andThen_ok];rfl,rfl,bc.refl hr⟩
    ·rename_i b off n cap ex esz
     cases hd with
     | slice kf hex dy hN iU=>
      rename_i cp off' cap'
      split at h
      ·rename_i hn
       have hn:=Nat.eq_of_beq_eq_true hn
       subst hn
       cases h
       exact⟨w,by simp only[Builtin.clear_,ht,jT,Sem.run_bind,run_underlying hu,Result.andThen_ok];rfl,rfl,bc.refl hr⟩
      ·rename_i hn iK
       rw[Option.map_eq_some_iff] at h
       obtain⟨aB,az,he⟩:=h
       cases he
       have hz0:off'=cp.o+off:=by
        cases ex with
        | true=>exact(hex rfl).2
        | false=>
         rcases(dy rfl).2 with h' | ⟨_,h'⟩
         ·exact h'
         ·subst h';simp at iK
       subst hz0
       obtain⟨w',hsr,fV⟩:=hr.store (P:=P) (ids:=fun b=>b=id) az kf (vA (n:=n) pd rfl h0)
       obtain⟨m,rfl⟩:∃m,n=m+1:=⟨n-1,by
        have:n≠0:=fun e=>by subst e;simp at hn
        omega⟩
       refine⟨w',?_,rfl,fV⟩
       simp only[Builtin.clear_,ht,jT,Sem.run_bind,run_underlying hu,Result.andThen_ok,gy]
       simp only[hsr,Result.andThen_ok]
       rfl
      ·cases h
    ·cases h
  ·cases h
 ·cases h
theorem OY [Env] (hr:R ρ σ w) {tys:Array TypeId} {ty t:TypeId} (ht:tys[0]? =some t) {x v:V} (h:ez P σ t x=some v) {x':Value} (hx:aq ρ x x'):
  ∃v',(Builtin.len_ tys ty #[x']).run P w=.ok v' w∧aq ρ v v':=by
 have jT:(#[x']:Array Value)[0]? =some x':=rfl
 unfold ez at h
 split at h
 ·rename_i hu
  split at h
  ·cases h;cases hx
   rw[aZ]
   exact⟨_,by simp only[Builtin.len_,ht,jT,Sem.run_bind,run_underlying hu,Result.andThen_ok];rfl,.int _ _⟩
  ·cases h
 ·rename_i n e hu
  cases h
  exact⟨_,by simp only[Builtin.len_,ht,jT,Sem.run_bind,run_underlying hu,Result.andThen_ok];rfl,.int _ _⟩
 ·rename_i hu
  split at h
  ·cases h;cases hx
   exact⟨_,by simp only[Builtin.len_,ht,jT,Sem.run_bind,run_underlying hu,Result.andThen_ok];rfl,.int _ _⟩
  ·cases h;cases hx
   exact⟨_,by simp only[Builtin.len_,ht,jT,Sem.run_bind,run_underlying hu,Result.andThen_ok];rfl,.int _ _⟩
  ·cases h
   rw[aZ]
   cases hx<;>exact⟨_,by simp only[Builtin.len_,ht,jT,Sem.run_bind,run_underlying hu,Result.andThen_ok];rfl,.int _ _⟩
  ·rename_i n f esz ex nn
   cases h
   cases hx with
   | arr _ hx=>
    obtain⟨a,cap,rfl⟩:=hx.OU rfl
    refine⟨.int .i64 (bY n f).length,by simp only[Builtin.len_,ht,jT,Sem.run_bind,run_underlying hu,Result.andThen_ok];rfl,?_⟩
    rw[aT];exact .int _ _
  ·cases h;cases hx
   exact⟨_,by simp only[Builtin.len_,ht,jT,Sem.run_bind,run_underlying hu,Result.andThen_ok];rfl,.int _ _⟩
  ·cases h
 ·rename_i hu
  unfold s8 at h
  split at h
  ·cases h;cases hx
   exact⟨_,by simp only[Builtin.len_,ht,jT,Sem.run_bind,run_underlying hu,Result.andThen_ok];rfl,.int _ _⟩
  ·rename_i r
   split at h
   ·rename_i es clock hb
    cases h;cases hx with
    | map hl=>
     obtain⟨l,cD,hk⟩:=hr.cS _ _ hb
     rw[hl] at cD;cases cD
     cases hk with
     | map hm he=>
      rename_i A3
      have hlen:es.length=A3.size:=by
       have:∀(l:List (V×V×Nat)) (l':List MapEntry),dH ρ l l'→l.length=l'.length:=by
        intro l
        induction l with
        | nil=>intro l' h;cases h;rfl
        | cons a l ih=>intro l' h;cases h with | cons _ h=>simp [ih _ h]
       simpa using this _ _ he
      rw[aZ,hlen]
      refine⟨.int .i64 A3.size,?_,.int _ _⟩
      simp only[Builtin.len_,ht,jT,Sem.run_bind,run_underlying hu,Result.andThen_ok,getObj,Sem.run,hm]
      rfl
   ·cases h
  ·cases h
 ·cases h
theorem ov [Env]:∀ {l:List V} {s:List UInt8} {l':List Value},eH l=some s→au ρ l l'→∃ns:List Int,l'=ns.map (Value.int .u8)∧s=ns.map fun n=>UInt8.ofNat n.toNat:=by
 intro l
 induction l with
 | nil=>
  intro s l' h hl
  cases hl
  simp only[eH,Option.some.injEq] at h
  subst h
  exact⟨[],rfl,rfl⟩
 | cons v l ih=>
  intro s l' h hl
  cases hl with
  | cons hv hl=>
   cases v with
   | int k n=>
    cases k<;>first
     | (simp [eH] at h;done)
     | (simp only[eH,Option.map_eq_some_iff] at h
        obtain⟨s',mU,rfl⟩:=h
        obtain⟨ns,rfl,rfl⟩:=ih mU hl
        cases hv
        exact⟨n::ns,rfl,rfl⟩)
   | _=>simp [eH] at h
theorem pP:∀(ns:List Int) (acc:ByteArray),ns.foldl (fun(r:ByteArray) n=>r.push (UInt8.ofNat n.toNat)) acc=acc++⟨⟨ns.map fun n=>UInt8.ofNat n.toNat⟩⟩:=by
 intro ns
 induction ns with
 | nil=>intro acc;apply ByteArray.ext;simp
 | cons n ns ih=>
  intro acc
  rw[List.foldl_cons,ih]
  apply ByteArray.ext
  simp [ByteArray.data_push,ByteArray.data_append]
theorem KX [Env] (hr:R ρ σ w) (cn:ρ id=none) {src dst:TypeId} {x v:V} {σ':St} (h:evalConv P σ id src dst x=some (v,σ')) {x':Value} (hx:aq ρ x x'):
  ∃ρ' v' w',(convert src dst x').run P w=.ok v' w'∧aq ρ' v v'∧bc (fun b=>b=id) ρ σ w ρ' σ' w':=by
 unfold evalConv at h
 split at h
 ·rename_i k k' Ra n hs hd
  cases h;cases hx
  exact⟨ρ,_,w,by simp only[convert,Sem.run_bind,run_underlying hs,run_underlying hd,Result.andThen_ok];rfl,.int _ _,bc.refl hr⟩
 ·rename_i k k' Ra n hs hd
  cases h;cases hx
  exact⟨ρ,_,w,by simp only[convert,Sem.run_bind,run_underlying hs,run_underlying hd,Result.andThen_ok];rfl,.dJ _ _,bc.refl hr⟩
 ·rename_i hs hd
  split at h
  ·rename_i n hn
   split at h
   ·rename_i dy
    cases h;cases hx
    exact⟨ρ,_,w,by simp only[convert,Sem.run_bind,run_underlying hs,run_underlying hd,Result.andThen_ok,Conv.floatToInt,hn,if_pos dy];rfl,.int _ _,bc.refl hr⟩
   ·cases h
  ·cases h
 ·rename_i s hs hd
  cases h;cases hx
  exact⟨ρ,_,w,by simp only[convert,Sem.run_bind,run_underlying hs,run_underlying hd,Result.andThen_ok];rfl,.str _,bc.refl hr⟩
 ·rename_i e s hs hd
  split at h
  ·rename_i he
   split at h
   ·rename_i hc
    cases h;cases hx
    obtain⟨ba,ou,hle⟩:=hc
    rw[aZ]
    obtain⟨cap,ot⟩:∃cap,cap=(Question.appendCap s.length 0 e).cut (w.tape w.drawn (.appendCap s.length 0 e)):=⟨_,rfl⟩
    have nv:s.length≤cap:=by rw[ot];simp [Question.cut]
    let C:Array Value:=(s.map fun c=>Value.int .u8 c.toNat).toArray++Array.replicate (cap-s.length) (.int .u8 0)
    have hC:C.size=cap:=by simp [C];omega
    let w':World:={w with drawn:=w.drawn+1,heap:=w.heap.push (.cells C e (cap,cap+1))}
    have hR:w'.heap[w.heap.size]? =some (.cells C e (cap,cap+1)):=by show(w.heap.push _)[w.heap.size]? =_;simp
    refine⟨kP ρ id ⟨w.heap.size,0,cap⟩,.slice (some ⟨w.heap.size,0,none⟩) s.length cap,w',?_,?_,?_⟩
    ·have qA:(Question.appendCap s.length 0 e).forced=false:=rfl
     have YJ:(⟨⟨s⟩⟩:ByteArray).data.map (fun b=>Value.int .u8 (b.toNat:Int))++Array.replicate (cap-s.length) (.int .u8 0)=C:=by
      simp [C]
     simp only[convert,Sem.run_bind,run_underlying hs,run_underlying hd,run_underlying he,Result.andThen_ok,Conv.stringToBytes,xb,run_choose,qA,Bool.false_eq_true,if_false,←ot,Go.newRow,run_newObj,YJ,Sem.run_pure,markStringish,run_shape]
     have Rb:World.shape? {heap:=w.heap.push (.cells C e),tape:=w.tape,drawn:=w.drawn+1,os:=w.os,output:=w.output} w.heap.size=some (e,C.size):=by simp [World.shape?]
     rw[Rb]
     simp only[run_freeze,Result.andThen_ok,World.freeze,hC]
     congr 1
     simp only[Nat.one_ne_zero,if_false,w']
     congr 1
     apply Array.ext_getElem?
     intro j
     rw[Array.getElem?_modify]
     by_cases hj:w.heap.size=j
     ·subst hj;simp
     ·rw[if_neg hj,Array.getElem?_push,Array.getElem?_push]
      by_cases jg:j=w.heap.size
      ·exact absurd jg.symm hj
      ·rw[if_neg jg,if_neg jg]
    ·exact .own (l:=⟨w.heap.size,0,cap⟩) (jo _ _ _) nv (by simp)
    ·refine bc.alloc hr cn (w':=w') rfl rfl rfl rfl (.row ⟨e,?_⟩ (by simpa using nv) (fun i _=>rfl) (fun i hi k v hk=>?_) (fun i hi=>?_) (by simp))
     ·unfold World.shape?;rw[hR];simp only[hC]
     ·have DS:k=0∧du s i=v:=by
       cases k with
       | zero=>exact⟨rfl,by simpa [V.cells,du] using hk⟩
       | succ k=>simp [V.cells,du] at hk
      obtain⟨rfl,rfl⟩:=DS
      refine⟨.int .u8 (s[i]'hi).toNat,?_,?_⟩
      ·simp only[World.cell?,hR,Option.isSome_none,Bool.false_eq_true,if_false]
       show((s.map fun c=>Value.int .u8 c.toNat).toArray++_)[0+(i*1+0)]? =_
       rw[show 0+(i*1+0)=i by omega,Array.getElem?_append_left (by simpa using hi)]
       simp [List.getElem?_eq_getElem hi]
      ·unfold du aI
       rw[dz,List.getElem?_eq_getElem hi]
       exact .int _ _
     ·simp only[World.frozen?,hR]
      have:i<cap:=hi
      simp;omega
   ·cases h
  ·cases h
 ·rename_i e hs hd
  split at h
  ·rename_i he
   cases h;cases hx
   exact⟨ρ,_,w,by simp only[convert,Sem.run_bind,run_underlying hs,run_underlying hd,Result.andThen_ok,run_underlying he];rfl,.str _,bc.refl hr⟩
  ·cases h
 ·rename_i e b off n cap ex esz hs hd
  split at h
  ·rename_i he
   split at h
   ·rename_i l hl
    rw[Option.map_eq_some_iff] at h
    obtain⟨s,mU,jt⟩:=h
    cases jt
    cases hx with
    | slice kf hex dy hN iU=>
     rename_i cp off' cap'
     have xg:∃xs:List Value,(loadCells ⟨cp.c,off',none⟩ n).run P w=.ok ⟨xs⟩ w∧au ρ l xs:=by
      by_cases hz:off'=cp.o+off
      ·subst hz
       obtain⟨xs,aH,aN,_⟩:=hr.loadCells (P:=P) hl kf
       exact⟨xs,aH w rfl,aN⟩
      ·have hzero:n=0:=by
        cases ex with
        | true=>exact absurd (hex rfl).2 hz
        | false=>
         rcases(dy rfl).2 with h' | h'
         ·exact absurd h' hz
         ·exact h'.1
       subst hzero
       unfold St.cells at hl
       split at hl
       ·have h':some ([]:List V)=some _:=hl
        cases h'
        exact⟨[],rfl,.nil⟩
       ·cases hl
     obtain⟨xs,aH,aN⟩:=xg
     obtain⟨ns,rfl,rfl⟩:=ov mU aN
     refine⟨ρ,.string ⟨⟨ns.map fun n=>UInt8.ofNat n.toNat⟩⟩,w,?_,.str _,bc.refl hr⟩
     rw[run_convert_bytes_string w src dst e _ _ _ hs he hd,run_bytesToString w _ _ _ ns (by simpa using aH),pP]
     congr 2
   ·cases h
  ·cases h
 ·rename_i e es esz ex hs hd
  split at h
  ·rename_i he
   split at h
   ·rename_i h1
    have h1:=Nat.eq_of_beq_eq_true h1
    rw[Option.map_eq_some_iff] at h
    obtain⟨s,mU,jt⟩:=h
    cases jt
    have fin:∀(a:Option Addr) (n cap:Nat) (xs:List Value),(a=none→n=0)→x'=.slice a n cap→(∀a',a=some a'→(loadCells a' n).run P w=.ok ⟨xs⟩ w)→(a=none→xs=[])→au ρ (ar es) xs→
      ∃ρ' v' w',(convert src dst x').run P w=.ok v' w'∧aq ρ' (.str s) v'∧bc (fun b=>b=id) ρ σ w ρ' σ w':=by
     rintro a n cap xs hn rfl xg gN aN
     obtain⟨ns,rfl,rfl⟩:=ov mU aN
     cases a with
     | none=>
      have NH:ns=[]:=by simpa using gN rfl
      subst NH
      have:=hn rfl
      subst this
      exact⟨ρ,_,w,by simp only[convert,Sem.run_bind,run_underlying hs,run_underlying hd,Result.andThen_ok,run_underlying he];rfl,.str _,bc.refl hr⟩
     | some a=>
      refine⟨ρ,.string ⟨⟨ns.map fun n=>UInt8.ofNat n.toNat⟩⟩,w,?_,.str _,bc.refl hr⟩
      rw[run_convert_bytes_string w src dst e _ _ _ hs he hd,run_bytesToString w _ _ _ ns (by simpa using xg a rfl),pP]
      congr 2
    cases hx with
    | bj hu hx hi hc hex=>
     rename_i c off cap xs
     have hl:(ar _).length=_:=cW hu
     have zC:=hx.length
     refine fin _ _ _ xs (fun h=>by cases h) rfl (fun a' ha=>?_) (fun h=>by cases h) hx
     cases ha
     have:=hr.uS (P:=P) hi w rfl
     rw[←zC,hl,h1,Nat.mul_one] at this
     exact this
    | dM=>exact fin _ _ _ [] (fun _=>rfl) rfl (fun _ h=>by cases h) (fun _=>rfl) .nil
    | dc hex=>exact fin _ _ _ [] (fun _=>rfl) rfl (fun a' ha=>by simp [loadCells,loadCellsFrom]) (fun _=>rfl) .nil
   ·cases h
  ·cases h
 ·rename_i e b n esz hs hd
  split at h
  ·rename_i he
   split at h
   ·rename_i n' f z p hb
    split at h
    ·rename_i hc
     obtain⟨rfl,rfl⟩:=hc
     rw[Option.map_eq_some_iff] at h
     obtain⟨s,mU,jt⟩:=h
     cases jt
     let kU:=σ.set b (.cells (n'*1) [] (an (ar (bY n' f)) .leaf 0) p false)
     have fu:∀b',kU.heap.get b'=if b'=b then some (.cells (n'*1) [] (an (ar (bY n' f)) .leaf 0) p false) else σ.heap.get b':=fun b'=>by
      show(σ.set b _).heap.get b'=_
      rw[l4,Trie.bN]
     have az:=bc.DR (σ':=kU) (bc.refl (ids:=fun b=>b=id) hr) hb fu (by show(σ.set b _).next=_;rw[rr])
     obtain⟨l,hl,dq⟩:=hr.cS _ _ hb
     have hu:∀i,i<n'→(f i).cells.length=1:=by cases dq with | row hs hn hu=>exact hu
     have iT:(ar (bY n' f)).length=n':=by rw[cW (fW hu),aT,Nat.mul_one]
     have xd:kU.cells b 0 n'=some (ar (bY n' f)):=by
      unfold St.cells
      rw[fu,if_pos rfl]
      show cellsOf (n'*1) [] (an (ar (bY n' f)) .leaf 0) n' 0=_
      have:=qB (ar (bY n' f))
      rw[iT] at this
      rw[Nat.mul_one];exact this
     cases hx with
     | own cD ot hN=>
      rename_i l' cap
      obtain⟨xs,aH,aN,_⟩:=az.r.loadCells (P:=P) xd cD
      obtain⟨ns,rfl,rfl⟩:=ov mU aN
      refine⟨ρ,.string ⟨⟨ns.map fun n=>UInt8.ofNat n.toNat⟩⟩,w,?_,.str _,bc.refl hr⟩
      rw[run_convert_bytes_string w src dst e _ _ _ hs he hd,run_bytesToString w _ _ _ ns (by simpa using aH w rfl),pP]
      congr 2
    ·cases h
   ·cases h
  ·cases h
 ·cases h
end
end Go.Ev
end
section
namespace Go.Ev
open Go
section
variable {P:Program} {ρ:Ren} {σ:St} {w:World} {id:Nat} {p:V×St→Prop}
theorem dH.length [Env] {l:List (V×V×Nat)} {l':List MapEntry}:dH ρ l l'→l.length=l'.length
 | .nil=>rfl
 | .cons _ hl=>congrArg (·+1) hl.length
theorem dH.append [Env] {a b:List (V×V×Nat)} {a' b':List MapEntry} (h:dH ρ a a') (k:dH ρ b b'):dH ρ (a++b) (a'++b'):=by
 induction a generalizing a' with
 | nil=>cases h;exact k
 | cons e a ih=>cases h with | cons h hl=>exact .cons h (ih hl)
end
end Go.Ev
end
section
namespace Go.Ev
open Go
section
variable {P:Program} {ρ:Ren} {σ:St} {w:World} {id:Nat} {p:V×St→Prop}
theorem dH.filter [Env] {q:Nat→Bool}:∀ {l:List (V×V×Nat)} {l':List MapEntry},dH ρ l l'→dH ρ (l.filter fun e=>q e.2.2) (l'.filter fun e=>q e.born):=by
 intro l
 induction l with
 | nil=>intro l' h;cases h;exact .nil
 | cons e l ih=>
  intro l' h
  cases h with
  | cons he hl=>
   rename_i e' l'
   simp only[List.filter_cons,he.born]
   cases q e'.born with
   | true=>exact .cons he (ih hl)
   | false=>exact ih hl
theorem dH.all [Env] {q:Nat→Bool}:∀ {l:List (V×V×Nat)} {l':List MapEntry},dH ρ l l'→(l.all fun e=>q e.2.2)=l'.all fun e=>q e.born:=by
 intro l
 induction l with
 | nil=>intro l' h;cases h;rfl
 | cons e l ih=>intro l' h;cases h with | cons he hl=>simp only[List.all_cons,he.born,ih hl]
theorem dH.isEmpty [Env] {l:List (V×V×Nat)} {l':List MapEntry} (h:dH ρ l l'):l.isEmpty=l'.isEmpty:=by
 cases h<;>rfl
inductive uV [Env] (ρ:Ren):Option (V×V×Nat)→Option MapEntry→Prop
 | none:uV ρ none none
 | some {e:V×V×Nat} {e':MapEntry} (h:IV ρ e e'):uV ρ (some e) (some e')
inductive kx [Env] (ρ:Ren):List (Option (V×V×Nat))→List (Option MapEntry)→Prop
 | nil:kx ρ [] []
 | cons {e:Option (V×V×Nat)} {e':Option MapEntry} {l:List (Option (V×V×Nat))} {l':List (Option MapEntry)} (h:uV ρ e e') (hl:kx ρ l l'):kx ρ (e::l) (e'::l')
theorem kx.length [Env] {l:List (Option (V×V×Nat))} {l':List (Option MapEntry)}:kx ρ l l'→l.length=l'.length
 | .nil=>rfl
 | .cons _ hl=>congrArg (·+1) hl.length
theorem kx.get [Env] {l:List (Option (V×V×Nat))} {l':List (Option MapEntry)} (h:kx ρ l l') (i:Nat) {c:Option (V×V×Nat)} (hc:l[i]? =some c):∃c',l'[i]? =some c'∧uV ρ c c':=by
 induction i generalizing l l' with
 | zero=>cases h with
  | nil=>simp at hc
  | cons h hl=>simp at hc;subst hc;exact⟨_,rfl,h⟩
 | succ i ih=>cases h with
  | nil=>simp at hc
  | cons h hl=>exact ih hl (by simpa using hc)
end
end Go.Ev
end
section
namespace Go.Ev
open Go
section
variable {P:Program} {ρ:Ren} {σ:St} {w:World} {id:Nat} {p:V×St→Prop}
theorem Bd {place:Nat→Option (Nat×Nat)}:∀ {ps:List (Nat×V)} {cs r:List V},rb place ps cs=some r→r.length=cs.length:=by
 intro ps
 induction ps with
 | nil=>intro cs r h;have h':some cs=some r:=h;cases h';rfl
 | cons q ps ih=>
  intro cs r h
  have h':(match lY cs q.2.cells (place q.1) with | some xa=>rb place ps xa | none=>none)=some r:=h
  cases hf:lY cs q.2.cells (place q.1) with
  | none=>rw[hf] at h';cases h'
  | some xa=>
   rw[hf] at h'
   rw[ih h']
   unfold lY at hf
   split at hf
   ·cases hf
   ·split at hf
    ·rename_i hb
     cases hf
     rw[Bool.and_eq_true,aZ,aZ] at hb
     have h1:=Nat.eq_of_beq_eq_true hb.1
     have h2:=Nat.le_of_ble_eq_true hb.2
     rw[gD,gD,eL,ek]
     simp only[List.length_append,List.length_take,List.length_drop]
     simp only[Nat.add_eq] at h2⊢
     omega
    ·cases hf
theorem zF [Env]:aq ρ cO undef:=.tuple .nil
theorem aq.qC [Env] {b:Bool} {x:Value} (h:aq ρ (.bool b) x):x=.bool b:=by cases h;rfl
theorem aq.nL [Env] {v:V} {x:Value} (h:aq ρ v x):x.cells.size=len v.cells:=by
 rw[aZ,h.cells.length];simp
theorem Jc [Env] (hr:R ρ σ w) {t:TypeId} {v u:V} (h:(nV P σ t v u).Holds p) {v' u':Value} (hv:aq ρ v v') (hu:aq ρ u u'):
  ∃σ' w',p (cO,σ')∧(Instr.storeAt t u' v').run P w=.ok () w'∧bc (fun b=>b=id) ρ σ w ρ σ' w':=by
 unfold nV at h
 split at h
 ·rename_i b i esz off
  cases hu with
  | fj hl=>
   split at h
   ·rename_i n hn
    split at h
    ·rename_i hlen
     cases az:σ.jj b i esz off v with
     | none=>rw[az] at h;exact h.elim
     | some σ'=>
      rw[az] at h
      obtain⟨w',aH,fV⟩:=hr.jj (P:=P) (ids:=fun b=>b=id) az hl hv
      refine⟨σ',w',h,?_,fV⟩
      have ba:¬v'.cells.size≠n:=by rw[hv.nL,hlen];simp
      simp only[Instr.storeAt,Instr.sureAddr,storeVar,Sem.run_bind,Sem.run_pure,Result.andThen_ok,br hn,if_neg ba,aH]
    ·exact h.elim
   ·exact h.elim
 ·rename_i b off
  cases hu with
  | ptr hl=>
   split at h
   ·rename_i n hn
    split at h
    ·rename_i hlen
     cases az:σ.store b off v.cells with
     | none=>rw[az] at h;exact h.elim
     | some σ'=>
      rw[az] at h
      obtain⟨w',aH,fV⟩:=hr.store (P:=P) (ids:=fun b=>b=id) az hl hv.cells
      refine⟨σ',w',h,?_,fV⟩
      have ba:¬v'.cells.size≠n:=by rw[hv.nL,hlen];simp
      simp only[Instr.storeAt,Instr.sureAddr,storeVar,Sem.run_bind,Sem.run_pure,Result.andThen_ok,br hn,if_neg ba,aH]
    ·exact h.elim
   ·exact h.elim
 ·exact h.elim
theorem zG [Env] {sz n i:Nat} {z:V} {zv:Value} (hz:aq ρ z zv) (hlen:len z.cells=sz) (ba:sz≠0) (hi:i<n):
  ∃x,((Array.range n).map (zv.cells[·% zv.cells.size]!))[i]? =some x∧aq ρ (z.cells.getD (i%sz) cO) x:=by
 have dC:=hz.cells
 have ny:zv.cells.size=sz:=by rw[hz.nL,hlen]
 rw[aZ] at hlen
 have hm:i%sz<z.cells.length:=by rw[hlen];exact Nat.mod_lt _ (by omega)
 obtain⟨x,hx,aN⟩:=dC.get (i%sz) (v:=z.cells[i%sz]) (by simp [hm])
 refine⟨x,?_,?_⟩
 ·have:(Array.range n)[i]? =some i:=by simp [hi]
  rw[Array.getElem?_map,this]
  simp only[Option.map_some,ny,Option.some.injEq]
  have cE:zv.cells[i%sz]? =some x:=by simpa using hx
  simp [getElem!_def,cE]
 ·simpa [List.getD_eq_getElem?_getD,hm] using aN
theorem tz [Env] {t e:TypeId} {n sz:Nat} {z:V} {l:List (Nat×V)} {cs:List V} (he:gp P t=some e) (ba:bL P e=some sz) (hz:gu P e=some z) (zH:sz≠0) (Rc:n*sz≤65536) (Be:len z.cells=sz)
  (dC:nF sz n z.cells l=some cs) {l':List (Nat×Value)} (hl:jr ρ l l') (w:World):
  ∃r':List Value,au ρ cs r'∧cs.length=n*sz∧(Instr.buildSlice t n ⟨l'⟩).run P w=.ok (.slice (some ⟨w.heap.size,0,none⟩) n n) {w with heap:=w.heap.push (.cells ⟨r'⟩ e)}:=by
 obtain⟨zv,gy,AE⟩:=gI (P:=P) hz ρ
 have VD:au ρ ((List.range (n*sz)).map fun i=>z.cells.getD (i%sz) cO) ((Array.range (n*sz)).map (zv.cells[·% zv.cells.size]!)).toList:=by
  refine au.QV (by simp) fun i v x hv hx=>?_
  have hi:i<n*sz:=by
   have:=List.getElem?_eq_some_iff.1 hv
   obtain⟨bz,_⟩:=this
   simpa using bz
  obtain⟨x',cE,aN⟩:=zG (n:=n*sz) AE Be zH hi
  have e1:v=z.cells.getD (i%sz) cO:=by
   simpa [hi] using hv.symm
  have e2:x=x':=by
   rw[Array.getElem?_toList,cE] at hx
   exact(Option.some.inj hx).symm
  rw[e1,e2];exact aN
 unfold nF at dC
 obtain⟨r',VE,aN⟩:=wk (place:=fun i=>some (i*sz,sz)) l l' _ _ hl VD dC
 have iT:cs.length=n*sz:=by
  have:=Bd dC
  simpa using this
 refine⟨r',aN,iT,?_⟩
 have mT:¬n*sz>2^24:=by omega
 have Bf:Instr.fill (fun i=>some (i*sz,sz)) ((Array.range (n*sz)).map (zv.cells[·% zv.cells.size]!)) l'=some ⟨r'⟩:=by
  exact VE
 by_cases jU:n*sz=0
 ·have e0:∀f:Nat→Value,(Array.range 0).map f=#[]:=by simp
  have hn:n=0:=by
   rcases Nat.mul_eq_zero.1 jU with h | h
   ·exact h
   ·exact absurd h zH
  subst hn
  have h00:¬(0:Nat)>2^24:=by decide
  rw[jU,e0] at Bf
  simp only[Instr.buildSlice,Sem.run_bind,run_underlying (gK he),Result.andThen_ok,br ba,if_neg h00,Sem.run_pure,if_true,jU,e0,Bf,Go.newRow,run_newObj]
 ·simp only[Instr.buildSlice,Sem.run_bind,run_underlying (gK he),Result.andThen_ok,br ba,if_neg mT,Sem.run_pure,if_neg jU,gy,Bf,Go.newRow,run_newObj]
theorem bc.lit [Env] (h:R ρ σ w) {ids:Nat→Prop} (r:Array Value) (e:TypeId):
  bc ids ρ σ w ⟨ρ.at',fun c o=>if c=w.heap.size then r[o]? else ρ.aL c o⟩ σ {w with heap:=w.heap.push (.cells r e)}:=by
 have hold:∀c,c<w.heap.size→(w.heap.push (.cells r e))[c]? =w.heap[c]? :=fun c hc=>by rw[Array.getElem?_push,if_neg (by omega)]
 have hle:ρ.le ⟨ρ.at',fun c o=>if c=w.heap.size then r[o]? else ρ.aL c o⟩:=⟨fun _ _ h=>h,fun c o x hx=>by
  have:=fB (h.aL c o x hx).1
  show(if c=w.heap.size then r[o]? else ρ.aL c o)=some x
  rw[if_neg (by omega)];exact hx⟩
 refine⟨⟨fun b k hb=>?_,h.inj,h.fresh,fun b l hb=>?_,fun c o x hx=>?_,h.qv hle⟩,hle,Nat.le_refl _,fun _ _ hb=>.inl hb,by simp,rfl,rfl,rfl,fun c hc _=>hold c hc,fun _ _ h=>h,fun _ k hb=>.inl ⟨k,hb⟩,fun c o x hx=>?_⟩
 ·obtain⟨l,hl,hk⟩:=h.cS b k hb
  exact⟨l,hl,hk.same hle (hold l.c (h.valid b l hl))⟩
 ·have:=h.valid b l hb
  simp;omega
 ·have cE:(if c=w.heap.size then r[o]? else ρ.aL c o)=some x:=hx
  by_cases e:c=w.heap.size
  ·rw[if_pos e] at cE
   subst e
   refine⟨by simp [World.cell?,cE],?_⟩
   rintro⟨b,k,l,h1,_,h3,h4⟩
   have:=h.valid b l h3
   omega
  ·rw[if_neg e] at cE
   obtain⟨a1,a2⟩:=h.aL c o x cE
   exact⟨by rw[cell?_of_block (hold c (fB a1))];exact a1,a2⟩
 ·have cE:(if c=w.heap.size then r[o]? else ρ.aL c o)=some x:=hx
  by_cases e:c=w.heap.size
  ·exact .inr (.inl (by omega))
  ·rw[if_neg e] at cE;exact .inl cE
theorem ow:∀ {cs:List V},(∀v∈cs,v.scalar=true)→ar cs=cs∧∀v∈cs,v.cells.length=1
 | [],_=>⟨rfl,fun _ h=>by cases h⟩
 | v::cs,h=>by
  obtain⟨h1,h2⟩:=ow (cs:=cs) fun u hu=>h u (List.mem_cons_of_mem _ hu)
  have hv:v.cells=[v]:=by
   have:=h v List.mem_cons_self
   cases v<;>first | rfl | cases this
  refine⟨by rw[bO,hv,h1];rfl,fun u hu=>?_⟩
  rcases List.mem_cons.1 hu with rfl | hu
  ·rw[hv];rfl
  ·exact h2 u hu
theorem yq [Env] (hr:R ρ σ w) (cn:ρ id=none) {t:TypeId} {n:Nat} {l:List (Nat×V)} (h:(fD P σ id t n (some l)).Holds p) {l':List (Nat×Value)} (hl:jr ρ l l'):
  ∃v σ' ρ' v' w',p (v,σ')∧aq ρ' v v'∧(Instr.buildSlice t n ⟨l'⟩).run P w=.ok v' w'∧bc (fun b=>b=id) ρ σ w ρ' σ' w':=by
 have h':(match gp P t with
  | some e=>match bL P e,gu P e with
   | some sz,some z=>match isByte P e with
    | true=>nG σ sz n l z.cells
    | false=>ke σ id sz n l z.cells
   | _,_=>.fail "buildSlice type"
  | none=>.fail "buildSlice type":VS).Holds p:=h
 clear h
 split at h'
 ·rename_i e he
  split at h'
  ·rename_i sz z ba hz
   split at h'
   ·unfold nG at h'
    split at h'
    ·exact h'.elim
    ·rename_i hc
     rw[not_or,not_or] at hc
     obtain⟨zH,Rc,Be⟩:=hc
     have zH:sz=1:=Decidable.not_not.1 zH
     have Be:len z.cells=1:=Decidable.not_not.1 Be
     subst zH
     split at h'
     ·rename_i cs dC
      split at h'
      ·rename_i nv
       obtain⟨r',aN,iT,aH⟩:=tz (P:=P) he ba hz (by decide) (by omega) Be dC hl w
       have az:=bc.lit (ids:=fun b=>b=id) hr ⟨r'⟩ e
       obtain⟨g1,g2⟩:=ow (cs:=cs) (fun v hv=>List.all_eq_true.1 (by rw[←q9];exact nv) v hv)
       rw[Nat.mul_one] at iT
       refine⟨_,_,_,_,_,h',?_,aH,az⟩
       have key:=aq.bj (ρ:=⟨ρ.at',fun c o=>if c=w.heap.size then(⟨r'⟩:Array Value)[o]? else ρ.aL c o⟩) (es:=cs) (esz:=1) (c:=w.heap.size) (off:=0) (cap:=n) (ex:=true) (xs:=r') g2
        (by rw[g1];exact aN.mono az.le) (fun k x hk=>by
         show(if w.heap.size=w.heap.size then(⟨r'⟩:Array Value)[0+k]? else ρ.aL w.heap.size (0+k))=some x
         rw[if_pos rfl,Nat.zero_add];simpa using hk) (by omega) (fun _=>iT.symm)
       rw[iT] at key
       exact key
      ·exact h'.elim
     ·exact h'.elim
   ·unfold ke at h'
    split at h'
    ·exact h'.elim
    ·rename_i hc
     have zH:sz≠0:=fun e=>hc (.inl e)
     have Rc:n*sz≤65536:=by
      apply Nat.le_of_not_lt;intro e;exact hc (.inr (.inl e))
     have Be:len z.cells=sz:=Decidable.byContradiction fun e=>hc (.inr (.inr e))
     split at h'
     ·rename_i cs dC
      split at h'
      ·rename_i nv
       obtain⟨r',aN,iT,aH⟩:=tz (P:=P) he ba hz zH Rc Be dC hl w
       have az:=zE hr cn aN (ty:=e) (w':={w with heap:=w.heap.push (.cells ⟨r'⟩ e)}) rfl rfl rfl rfl
       rw[iT] at az
       refine⟨_,_,_,_,_,h',.slice (l:=⟨w.heap.size,0,r'.length⟩) (off':=0) (cap':=n) (jo _ _ _) (fun _=>⟨rfl,rfl⟩) (by simp) ?_ (Nat.le_refl _),aH,az⟩
       show 0+n*sz≤r'.length
       rw[←aN.length,iT];omega
      ·exact h'.elim
     ·exact h'.elim
  ·exact h'.elim
 ·exact h'.elim
theorem Au [Env] (hr:R ρ σ w) (cn:ρ id=none) {t:TypeId} {n m:V} (h:(gg P σ id t n m).Holds p) {n' m':Value} (hn:aq ρ n n') (hm:aq ρ m m'):
  ∃v σ' ρ' v' w',p (v,σ')∧aq ρ' v v'∧(Instr.makeSlice t n' m').run P w=.ok v' w'∧bc (fun b=>b=id) ρ σ w ρ' σ' w':=by
 unfold gg at h
 split at h
 ·rename_i kn n km m
  cases hn;cases hm
  split at h
  ·rename_i e he
   split at h
   ·rename_i sz c7 z ba ou hz
    obtain⟨zv,gy,AE⟩:=gI (P:=P) hz ρ
    obtain⟨i,hi,hib⟩:=ru ou
    unfold k9 at h
    split at h
    ·rename_i hc
     obtain⟨c0,c1,c2,c3,c4,c5,c6⟩:=hc
     have ny:zv.cells.size=sz:=by rw[AE.nL,c5]
     obtain⟨M,rfl⟩:∃M:Nat,m=(M:Int):=⟨m.toNat,by omega⟩
     obtain⟨N,rfl⟩:∃N:Nat,n=(N:Int):=⟨n.toNat,by omega⟩
     simp only[Int.toNat_natCast] at c2 h
     have Xe:IntKind.i64.wrap (N:Int)=N:=by
      simp [IntKind.wrap,IntKind.bits,IntKind.signed];omega
     have Xf:IntKind.i64.wrap (M:Int)=M:=by
      simp [IntKind.wrap,IntKind.bits,IntKind.signed];omega
     let row:Array Value:=(Array.range (M*sz)).map (zv.cells[·% zv.cells.size]!)
     have YK:i.bytes*M≤1099511627776:=by rw[hib,Nat.mul_comm];exact c2
     have aH:(Instr.makeSlice t (.int kn N) (.int km M)).run P w=.ok (.slice (some ⟨w.heap.size,0,none⟩) N M) {w with heap:=w.heap.push (.cells row e)}:=by
      have t1:(decide ((M:Int)<0)||decide ((i.bytes:Int)*M>2^48)||decide ((N:Int)<0)||decide ((N:Int)>M))=false:=by
       have:((i.bytes*M:Nat):Int)≤((1099511627776:Nat):Int):=Int.ofNat_le.2 YK
       rw[Int.natCast_mul] at this
       have h1:¬((M:Int)<0):=by omega
       have h2:¬((i.bytes:Int)*M>281474976710656):=by omega
       have h48:(2:Int)^48=281474976710656:=by decide
       have h3:¬((N:Int)<0):=by omega
       have h4:¬((N:Int)>M):=by omega
       rw[h48];simp only[h1,h2,h3,h4,decide_false,Bool.or_false]
      by_cases jU:M*sz=0
      ·have e0:∀f:Nat→Value,(Array.range 0).map f=#[]:=by simp
       have rC:row=#[]:=by
        show(Array.range (M*sz)).map _=_
        rw[jU,e0]
       simp only[Instr.makeSlice,Sem.run_bind,run_underlying (gK he),Result.andThen_ok,asInt,asIntOf,Sem.run_pure,run_typeInfo hi,Xe,Xf,t1,Bool.false_eq_true,if_false,run_askRoom,Int.toNat_natCast,br ba,if_true,jU,e0,rC,Go.newRow,run_newObj]
      ·simp only[Instr.makeSlice,Sem.run_bind,run_underlying (gK he),Result.andThen_ok,asInt,asIntOf,Sem.run_pure,run_typeInfo hi,Xe,Xf,t1,Bool.false_eq_true,if_false,run_askRoom,Int.toNat_natCast,br ba,if_neg jU,gy,Go.newRow,run_newObj]
       rfl
     have hrs:row.size=M*sz:=by simp [row]
     refine⟨_,_,_,_,_,h,.slice (l:=⟨w.heap.size,0,M*sz⟩) (off':=0) (cap':=M) (jo ρ _ _) (fun _=>⟨rfl,rfl⟩) (by simp) (by show 0+M*sz≤M*sz;omega) (by omega),aH,?_⟩
     have hR:(w.heap.push (.cells row e))[w.heap.size]? =some (.cells row e (0,0)):=by simp
     refine bc.alloc hr cn (w':={w with heap:=w.heap.push (.cells row e)}) rfl rfl rfl rfl (.cells ⟨e,?_⟩ (by simp) (fun k v hk=>?_) (fun _ k _=>?_) (fun _ k=>?_))
     ·simp [World.shape?,hrs]
     ·have eA:=tj hk
      have hv:v=z.cells.getD (k%sz) cO:=by
       unfold cellOf at hk
       rw[Trie.eG] at hk
       split at hk
       ·rw[dz,c5] at hk
        have YL:z.cells[k%sz]? =some v:=hk
        simp [List.getD_eq_getElem?_getD,YL]
       ·cases hk
      obtain⟨x,hx,aN⟩:=zG (n:=M*sz) AE c5 c4 eA
      refine⟨x,?_,hv▸aN.mono (jq ρ _ cn)⟩
      have cE:row[k]? =some x:=hx
      unfold World.cell?
      dsimp only
      rw[hR,Nat.zero_add]
      exact cE
     ·simp [World.frozen?]
     ·simp [World.frozen?]
    ·exact h.elim
   ·exact h.elim
  ·exact h.elim
 ·exact h.elim
theorem GD [Env] {x v:V} {t xt:TypeId} {ok:Bool} (h:re P x t ok=some v) {x':Value} (hx:aq ρ x x') (w:World):∃v',(Instr.typeAssert x' xt t ok).run P w=.ok v' w∧aq ρ v v':=by
 have hold:∀ {u:V} {u':Value},aq ρ u u'→(some (if ok then .tuple [u,.bool true] else u:V)=some v)→aq ρ v (if ok then .tuple #[u',.bool true] else u'):=by
  intro u u' hu he
  cases he
  cases ok with
  | true=>exact .tuple (.cons hu (.cons (.bool true) .nil))
  | false=>exact hu
 have AF:(if ok then(gu P t).map fun z=>(.tuple [z,.bool false]:V) else none)=some v→ok=true∧∃zv,(∀w,(zeroValue t).run P w=.ok zv w)∧aq ρ v (.tuple #[zv,.bool false]):=by
  intro he
  cases ok with
  | false=>simp at he
  | true=>
   simp only[if_true,Option.map_eq_some_iff] at he
   obtain⟨z,hz,rfl⟩:=he
   obtain⟨zv,gy,pd⟩:=gI (P:=P) hz ρ
   exact⟨rfl,zv,gy,.tuple (.cons pd (.cons (.bool false) .nil))⟩
 unfold re at h
 dsimp only at h
 split at h
 ·rename_i ms hu
  obtain⟨rfl,zv,gy,hv⟩:=AF h
  cases hx
  exact⟨_,by simp [Instr.typeAssert,run_underlying hu,gy],hv⟩
 ·rename_i want ty vv hu
  cases hx with
  | iface hx=>
   split at h
   ·rename_i i hi
    split at h
    ·rename_i hm
     refine⟨_,?_,hold (.iface hx) h⟩
     simp only[Instr.typeAssert,Sem.run_bind,run_underlying hu,Result.andThen_ok,run_typeInfo hi,hm,Sem.run_pure]
    ·rename_i mm hm
     obtain⟨rfl,zv,gy,hv⟩:=AF h
     exact⟨_,by simp [Instr.typeAssert,run_underlying hu,run_typeInfo hi,hm,gy],hv⟩
   ·cases h
 ·rename_i hn hu
  obtain⟨rfl,zv,gy,hv⟩:=AF h
  cases hx
  refine⟨_,?_,hv⟩
  rename_i d _
  cases d<;>simp [Instr.typeAssert,run_underlying hu,gy]
 ·rename_i d ty vv hn hu
  cases hx with
  | iface hx=>
   split at h
   ·rename_i ht
    refine⟨_,?_,hold hx h⟩
    cases d<;>first
     | exact(hn _ rfl).elim
     | (simp only[Instr.typeAssert,Sem.run_bind,run_underlying hu,Result.andThen_ok,if_pos ht,Sem.run_pure])
   ·rename_i ht
    obtain⟨rfl,zv,gy,hv⟩:=AF h
    refine⟨_,?_,hv⟩
    cases d<;>first
     | exact(hn _ rfl).elim
     | (simp only[Instr.typeAssert,Sem.run_bind,run_underlying hu,Result.andThen_ok,if_neg ht,if_true,gy,Sem.run_pure])
 ·cases h
theorem GF [Env] (_hr:R ρ σ w) {t e:TypeId} {es:List V} {esz sz:Nat} {ex:Bool} {u:V} {k:IntKind} {i:Int} (he:gp P t=some e) (ba:bL P e=some sz) (c1:0≤i) (c2:i<es.length) (c3:sz=esz) (_c4:sz≠0) (pQ:es[i.toNat]? =some u) {x':Value} (gl:aq ρ (.bj es esz ex) x'):
  ∃v',(Instr.indexAt t x' (.int k i)).run P w=.ok v' w∧aq ρ (.aK u.cells 0) v':=by
 subst c3
 cases gl with
 | bj hu cE eN ot hex=>
  rename_i c off cap xs
  have Re:ar (es.drop i.toNat)=(ar es).drop (i.toNat*sz):=l6 hu _
  have GG:es.drop i.toNat=u::es.drop (i.toNat+1):=by
   have bz:=(List.getElem?_eq_some_iff.1 pQ)
   obtain⟨h1,h2⟩:=bz
   rw[List.drop_eq_getElem_cons h1,h2]
  have Bg:u.cells.length=sz:=hu u (List.mem_of_getElem? pQ)
  have aN:au ρ u.cells ((xs.drop (i.toNat*sz)).take sz):=by
   have h1:=(cE.drop (i.toNat*sz)).take sz
   rw[←Re,GG,bO,←Bg,List.take_left' rfl] at h1
   rw[←Bg];exact h1
  refine⟨.pointer (some ⟨c,off+i.toNat*sz+0,none⟩),?_,.aK aN fun k x hk=>?_⟩
  ·simp [Instr.indexAt,asIntOf,run_underlying (gK he),c1,c2,br ba,ee]
  ·rw[List.getElem?_take] at hk
   split at hk
   ·rw[List.getElem?_drop] at hk
    rw[Nat.add_assoc];exact eN _ x hk
   ·cases hk
 | dM=>simp at pQ
 | dc he=>simp at pQ
theorem KY [Env] (hr:R ρ σ w) (cn:ρ id=none) {a:Act} {a':Go.Act} (ha:bw ρ a a') (o:Oper) (h:((lU P o.op).f a σ id).Holds p) (iU:∀c,o.op≠.call c):
  Gx P (execOp a'.eval o) id ρ σ w p:=by
 unfold execOp
 cases bK:o.op with
 | move x=>
  rw[bK] at h
  obtain⟨v,hv,hp⟩:=c8 h
  exact .value hr hp (ha.eval x hv) rfl
 | assign x=>
  rw[bK] at h
  obtain⟨v,hv,hp⟩:=c8 h
  exact .value hr hp (ha.eval x hv) rfl
 | pick c x y=>
  rw[bK] at h
  obtain⟨cv,hc,h⟩:=dX h
  unfold mP at h
  split at h
  ·rename_i b
   obtain⟨v,hv,hp⟩:=c8 h
   have tk:=ha.eval c hc
   have hcb:a'.eval c=.bool b:=tk.qC
   refine .value hr hp (v':=if b then a'.eval x else a'.eval y) ?_ ?_
   ·cases b with
    | true=>exact ha.eval x hv
    | false=>exact ha.eval y hv
   ·dsimp only;rw[hcb];rfl
  ·exact h.elim
 | alloc e=>
  rw[bK] at h
  have h':(nX P σ id e).Holds p:=h
  unfold nX at h'
  split at h'
  ·rename_i z hz
   obtain⟨zv,gy,pd⟩:=gI (P:=P) hz ρ
   split at h'
   ·exact DM hr cn pd e h' (by dsimp only;simp [Instr.alloc,gy,newVar,Go.newRow])
   ·exact h'.elim
  ·exact h'.elim
 | box e x=>
  rw[bK] at h
  obtain⟨v,hv,h⟩:=dX h
  unfold w2 at h
  split at h
  ·exact DM hr cn (ha.eval x hv) e h (by dsimp only;simp [Instr.box,newVar,Go.newRow])
  ·exact h.elim
 | build t ps=>
  rw[bK] at h
  have h':(lZ P σ t (a.parts ps.toList)).Holds p:=h
  cases pc:a.parts ps.toList with
  | none=>rw[pc] at h';exact h'.elim
  | some l=>
   rw[pc] at h'
   obtain⟨v,hv,hp⟩:=c8 h'
   obtain⟨v',aH,aN⟩:=IZ (P:=P) (ha.parts ps.toList pc) hv
   refine .value hr hp aN ?_
   have e:(ps.map fun(q:Nat×Operand)=>(q.1,a'.eval q.2))=⟨ps.toList.map fun q=>(q.1,a'.eval q.2)⟩:=Array.ext' (by simp)
   dsimp only
   rw[show(ps.map fun x=>match x with | (i,x)=>(i,a'.eval x))=⟨ps.toList.map fun q=>(q.1,a'.eval q.2)⟩ from e]
   simp [aH]
 | buildSlice t n ps=>
  rw[bK] at h
  have h':(fD P σ id t n (a.parts ps.toList)).Holds p:=h
  cases pc:a.parts ps.toList with
  | none=>rw[pc] at h';exact h'.elim
  | some l=>
   rw[pc] at h'
   obtain⟨v,σ',ρ',v',w',hp,hv,aH,az⟩:=yq hr cn h' (ha.parts ps.toList pc)
   refine⟨v,σ',ρ',v',w',hp,hv,az,.inl ?_⟩
   dsimp only
   rw[show(ps.map fun x=>match x with | (i,x)=>(i,a'.eval x))=⟨ps.toList.map fun q=>(q.1,a'.eval q.2)⟩ from Array.ext' (by simp)]
   simp [aH]
 | insert t m k v=>rw[bK] at h;exact h.elim
 | load t x=>
  rw[bK] at h
  obtain⟨xv,hx,h⟩:=dX h
  obtain⟨v,hv,hp⟩:=c8 h
  obtain⟨v',aH,aN,_⟩:=zD (P:=P) hr (ha.eval x hx) hv
  exact .value hr hp aN (by dsimp only;simp [aH])
 | store t x y=>
  rw[bK] at h
  obtain⟨yv,xv,hy,hx,h⟩:=kQ h
  obtain⟨σ',w',hp,aH,az⟩:=Jc hr h (ha.eval y hy) (ha.eval x hx)
  exact⟨_,_,_,_,_,hp,zF,az,.inr ⟨rfl,by dsimp only;simp [aH]⟩⟩
 | ready g=>rw[bK] at h;exact h.elim
 | waits g=>rw[bK] at h;exact h.elim
 | nilCheck x=>
  rw[bK] at h
  obtain⟨xv,hx,h⟩:=dX h
  have gl:=ha.eval x hx
  unfold nH at h
  dsimp only
  generalize a'.eval x=x' at gl⊢
  split at h
  ·cases gl with
   | ptr hl=>exact .value hr h (.ptr hl) rfl
  ·cases gl with
   | aK hx hi=>exact .value hr h (.aK hx hi) rfl
  ·cases gl with
   | fj hl=>exact .value hr h (.fj hl) rfl
  ·exact h.elim
  ·rename_i f x y hnm
   cases gl with
   | func hf hx hy=>
    refine .value hr h (.func hf hx hy) ?_
    cases hf with
    | yield _=>rfl
    | same _=>
     cases f<;>first
      | exact absurd rfl (hnm _)
      | rfl
  ·cases gl with
   | iface hv=>exact .value hr h (.iface hv) rfl
  ·exact h.elim
 | binOp op t x y yt=>
  rw[bK] at h
  obtain⟨xv,yv,hx,hy,h⟩:=kQ h
  obtain⟨v,hv,hp⟩:=c8 h
  obtain⟨v',aH,aN⟩:=Di (P:=P) hr hv (ha.eval x hx) (ha.eval y hy)
  refine .value hr hp aN ?_
  dsimp only
  rw[Sem.run_bind,aH];rfl
 | unOp op t x=>
  rw[bK] at h
  obtain⟨xv,hx,h⟩:=dX h
  obtain⟨v,hv,hp⟩:=c8 h
  obtain⟨v',aH,aN⟩:=GA (P:=P) hv (ha.eval x hx)
  exact .value hr hp aN (by dsimp only;simp [aH])
 | convert s d x=>
  rw[bK] at h
  obtain⟨xv,hx,h⟩:=dX h
  unfold cX at h
  cases hc:evalConv P σ id s d xv with
  | none=>rw[hc] at h;exact h.elim
  | some r=>
   rw[hc] at h
   obtain⟨ρ',v',w',aH,hv,az⟩:=KX hr cn hc (ha.eval x hx)
   exact⟨_,_,_,_,_,h,hv,az,.inl (by dsimp only;simp [aH])⟩
 | sliceToArrayPointer d x=>rw[bK] at h;exact h.elim
 | makeInterface t x=>
  rw[bK] at h
  obtain⟨xv,hx,h⟩:=dX h
  unfold gF at h
  split at h
  ·exact h.elim
  ·rename_i d iy hd
   refine .value hr h (.iface (ha.eval x hx)) ?_
   dsimp only
   cases d<;>first
    | exact(iy _ hd).elim
    | exact(iy _ rfl).elim
    | simp [Instr.makeInterface,run_underlying hd]
  ·exact h.elim
 | makeFunc fn f c=>
  rw[bK] at h
  have h':(iE σ fn (a.bM f.toList) (a.bM c.toList)).Holds p:=h
  cases hf:a.bM f.toList with
  | none=>rw[hf] at h';exact h'.elim
  | some fs=>cases hc:a.bM c.toList with
   | none=>rw[hf,hc] at h';exact h'.elim
   | some cs=>
    rw[hf,hc] at h'
    unfold iE at h'
    dsimp only at h'⊢
    split at h'
    ·exact h'.elim
    ·rename_i hny
     refine .value hr h' (.func (.same hny) (ha.bM _ hf) (ha.bM _ hc)) ?_
     rw[show f.map a'.eval=⟨f.toList.map a'.eval⟩ from Array.ext' (by simp),show c.map a'.eval=⟨c.toList.map a'.eval⟩ from Array.ext' (by simp)]
     rfl
 | makeMap t r=>rw[bK] at h;exact h.elim
 | makeChan t s=>rw[bK] at h;exact h.elim
 | makeSlice t l c=>
  rw[bK] at h
  obtain⟨lv,cv,hl,hc,h⟩:=kQ h
  obtain⟨v,σ',ρ',v',w',hp,hv,aH,az⟩:=Au hr cn h (ha.eval l hl) (ha.eval c hc)
  exact⟨v,σ',ρ',v',w',hp,hv,az,.inl (by dsimp only;simp [aH])⟩
 | slice t x lo hi mx=>
  rw[bK] at h
  obtain⟨xv,hx,h⟩:=dX h
  unfold fp at h
  split at h
  ·rename_i l hh m h1 h2 h3
   split at h
   ·rename_i k e hk
    obtain⟨v,hv,hp⟩:=c8 h
    obtain⟨v',aH,aN⟩:=yo (P:=P) hr (rv hk) hv (ha.eval x hx) (ha.hP h1) (ha.hP h2) (ha.hP h3)
    exact .value hr hp aN (by dsimp only;simp [aH])
   ·obtain⟨v,hv,hp⟩:=c8 h
    obtain⟨v',aH,aN⟩:=Aq (P:=P) hv (ha.eval x hx) (ha.hP h1) (ha.hP h2) (ha.hP h3) w
    exact .value hr hp aN (by dsimp only;simp [aH])
  ·exact h.elim
 | fieldAddr s x f=>
  rw[bK] at h
  obtain⟨xv,hx,h⟩:=dX h
  have gl:=ha.eval x hx
  unfold j2 at h
  dsimp only
  generalize a'.eval x=x' at gl⊢
  split at h
  ·cases gl with
   | ptr hl=>
    rename_i b off l
    split at h
    ·rename_i fd lr
     split at h
     ·rename_i n hn
      unfold kJ at lr
      split at lr
      ·rename_i fs hu
       refine .value hr h (v':=.pointer (some ⟨l.c,l.o+(off+fd.offset),none⟩)) (.ptr hl) ?_
       simp [Instr.fieldAt,run_underlying hu,lr,Instr.sureAddr,fieldPlace,br hn,ee,Nat.add_assoc]
      ·cases lr
     ·exact h.elim
    ·exact h.elim
  ·cases gl with
   | aK cE eN=>
    rename_i cs off c o xs
    split at h
    ·rename_i fd lr
     split at h
     ·rename_i n hn
      unfold kJ at lr
      split at lr
      ·rename_i fs hu
       refine .value hr h (v':=.pointer (some ⟨c,o+(off+fd.offset),none⟩)) (.aK cE eN) ?_
       simp [Instr.fieldAt,run_underlying hu,lr,Instr.sureAddr,fieldPlace,br hn,ee,Nat.add_assoc]
      ·cases lr
     ·exact h.elim
    ·exact h.elim
  ·cases gl with
   | fj hl=>
    rename_i b i esz off l
    split at h
    ·rename_i fd lr
     split at h
     ·rename_i n hn
      unfold kJ at lr
      split at lr
      ·rename_i fs hu
       refine .value hr h (v':=.pointer (some ⟨l.c,l.o+(i*esz+(off+fd.offset)),none⟩)) (.fj hl) ?_
       simp [Instr.fieldAt,run_underlying hu,lr,Instr.sureAddr,fieldPlace,br hn,ee,Nat.add_assoc]
      ·cases lr
     ·exact h.elim
    ·exact h.elim
  ·exact h.elim
 | field t x f=>
  rw[bK] at h
  obtain⟨xv,hx,h⟩:=dX h
  have gl:=ha.eval x hx
  unfold qn at h
  dsimp only
  generalize a'.eval x=x' at gl⊢
  split at h
  ·cases gl with
   | agg hc=>
    split at h
    ·rename_i fd lr
     obtain⟨v,hv,hp⟩:=c8 h
     obtain⟨v',aH,aN⟩:=kR (P:=P) hc hv
     unfold kJ at lr
     split at lr
     ·rename_i fs hu
      exact .value hr hp aN (by simp [Instr.field,run_underlying hu,lr,asAgg,aH])
     ·cases lr
    ·exact h.elim
  ·exact h.elim
 | indexAddr t x ix=>
  rw[bK] at h
  obtain⟨xv,iv,hx,hi,h⟩:=kQ h
  have gl:=ha.eval x hx
  have vB:=ha.eval ix hi
  unfold jb at h
  dsimp only
  generalize a'.eval x=x' at gl⊢
  generalize a'.eval ix=i' at vB⊢
  split at h
  ·rename_i b n esz k i
   cases vB
   unfold jm at h
   split at h
   ·rename_i e he
    split at h
    ·rename_i sz ba
     split at h
     ·rename_i hc
      obtain⟨c1,c2,c3,c4⟩:=hc
      subst c3
      cases gl with
      | own hl ot hN=>
       rename_i l cap
       refine .value hr h (v':=.pointer (some ⟨l.c,l.o+(i.toNat*sz+0),none⟩)) (.fj hl) ?_
       simp [Instr.indexAt,asIntOf,run_underlying (gK he),c1,c2,br ba,ee]
     ·exact h.elim
    ·exact h.elim
   ·exact h.elim
  ·rename_i n f esz ex nn k i
   cases vB
   unfold jl at h
   split at h
   ·rename_i e he
    split at h
    ·rename_i sz ba
     split at h
     ·rename_i hc
      obtain⟨c1,c2,c3,c4⟩:=hc
      cases gl with
      | arr _ gl=>
       obtain⟨v',aH,aN⟩:=GF (P:=P) (k:=k) hr he ba c1 (by rw[aT];exact c2) c3 c4 (c9 (f:=f) (i:=i.toNat) (by omega)) gl
       exact .value hr h aN (by simp [aH])
     ·exact h.elim
    ·exact h.elim
   ·exact h.elim
  ·rename_i b off len cap ex esz k i
   cases vB
   unfold od at h
   split at h
   ·rename_i e he
    split at h
    ·rename_i sz ba
     split at h
     ·rename_i hc
      obtain⟨c1,c2,c3⟩:=hc
      cases gl with
      | slice hl hex dy hN hn=>
       rename_i l off' cap'
       have ho:off'=l.o+off:=by
        cases ex with
        | true=>exact(hex rfl).2
        | false=>rcases(dy rfl).2 with h | h
                 ·exact h
                 ·omega
       refine .value hr h (v':=.pointer (some ⟨l.c,l.o+(off+i.toNat*sz),none⟩)) (.ptr hl) ?_
       simp [Instr.indexAt,asIntOf,run_underlying (gK he),c1,c2,br ba,ee,ho,Nat.add_assoc]
     ·exact h.elim
    ·exact h.elim
   ·exact h.elim
  ·rename_i es esz ex k i
   cases vB
   unfold og at h
   split at h
   ·rename_i e he
    split at h
    ·rename_i sz ba
     split at h
     ·rename_i hc
      obtain⟨c1,c2,c3,c4⟩:=hc
      subst c3
      rw[aZ] at c2
      split at h
      ·rename_i u pQ
       rw[dz] at pQ
       cases gl with
       | bj hu cE eN ot hex=>
        rename_i c off cap xs
        have Re:ar (es.drop i.toNat)=(ar es).drop (i.toNat*sz):=l6 hu _
        have GG:es.drop i.toNat=u::es.drop (i.toNat+1):=by
         have bz:=(List.getElem?_eq_some_iff.1 pQ)
         obtain⟨h1,h2⟩:=bz
         rw[List.drop_eq_getElem_cons h1,h2]
        have Bg:u.cells.length=sz:=hu u (List.mem_of_getElem? pQ)
        have aN:au ρ u.cells ((xs.drop (i.toNat*sz)).take sz):=by
         have h1:=(cE.drop (i.toNat*sz)).take sz
         rw[←Re,GG,bO,←Bg,List.take_left' rfl] at h1
         rw[←Bg];exact h1
        refine .value hr h (v':=.pointer (some ⟨c,off+i.toNat*sz+0,none⟩)) (.aK aN fun k x hk=>?_) ?_
        ·rw[List.getElem?_take] at hk
         split at hk
         ·rw[List.getElem?_drop] at hk
          rw[Nat.add_assoc];exact eN _ x hk
         ·cases hk
        ·simp [Instr.indexAt,asIntOf,run_underlying (gK he),c1,c2,br ba,ee]
       | dM=>simp at pQ
       | dc he=>simp at pQ
      ·exact h.elim
     ·exact h.elim
    ·exact h.elim
   ·exact h.elim
  ·rename_i b off k i
   cases vB
   unfold oe at h
   split at h
   ·rename_i n e he
    split at h
    ·rename_i sz ba
     split at h
     ·rename_i hc
      obtain⟨c1,c2⟩:=hc
      cases gl with
      | ptr hl=>
       rename_i l
       refine .value hr h (v':=.pointer (some ⟨l.c,l.o+(off+i.toNat*sz),none⟩)) (.ptr hl) ?_
       simp [Instr.indexAt,asIntOf,run_underlying (rv he),c1,c2,br ba,Instr.sureAddr,ee,Nat.add_assoc]
     ·exact h.elim
    ·exact h.elim
   ·exact h.elim
  ·exact h.elim
 | index t x ix=>
  rw[bK] at h
  obtain⟨xv,iv,hx,hi,h⟩:=kQ h
  have gl:=ha.eval x hx
  have vB:=ha.eval ix hi
  unfold nW at h
  dsimp only
  generalize a'.eval x=x' at gl⊢
  generalize a'.eval ix=i' at vB⊢
  split at h
  ·rename_i s k i
   cases vB;cases gl
   unfold la at h
   split at h
   ·rename_i hu
    split at h
    ·rename_i hi0
     split at h
     ·rename_i c hc
      rw[dz] at hc
      refine .value hr h (.int _ _) ?_
      have hb:(⟨⟨s⟩⟩:ByteArray)[i.toNat]? =some c:=by
       obtain⟨hl,he⟩:=List.getElem?_eq_some_iff.1 hc
       rw[getElem?_pos _ _ (by exact hl)];exact congrArg some he
      simp [Instr.index,asIntOf,run_underlying hu,hi0,hb]
     ·exact h.elim
    ·exact h.elim
   ·exact h.elim
  ·rename_i cs k i
   cases vB
   cases gl with
   | agg dC=>
    unfold rh at h
    split at h
    ·rename_i n e he
     split at h
     ·rename_i sz ba
      split at h
      ·rename_i hc
       obtain⟨c1,c2⟩:=hc
       obtain⟨v,hv,hp⟩:=c8 h
       obtain⟨v',aH,aN⟩:=kR (P:=P) dC hv
       exact .value hr hp aN (by simp [Instr.index,asIntOf,run_underlying (rv he),c1,c2,br ba,aH])
      ·exact h.elim
     ·exact h.elim
    ·exact h.elim
  ·exact h.elim
 | lookup t x k ok=>rw[bK] at h;exact h.elim
 | mapUpdate t m k v=>rw[bK] at h;exact h.elim
 | mapEntry t m k=>rw[bK] at h;exact h.elim
 | entryStore t m s v=>rw[bK] at h;exact h.elim
 | range t x=>rw[bK] at h;exact h.elim
 | next it s=>rw[bK] at h;exact h.elim
 | entry it=>rw[bK] at h;exact h.elim
 | typeAssert x xt t ok=>
  rw[bK] at h
  obtain⟨xv,hx,h⟩:=dX h
  obtain⟨v,hv,hp⟩:=c8 h
  obtain⟨v',aH,aN⟩:=GD (P:=P) (xt:=xt) hv (ha.eval x hx) w
  exact .value hr hp aN (by dsimp only;simp [aH])
 | extract x i=>
  rw[bK] at h
  obtain⟨xv,hx,h⟩:=dX h
  have gl:=ha.eval x hx
  unfold o7 at h
  dsimp only
  generalize a'.eval x=x' at gl⊢
  split at h
  ·cases gl with
   | tuple gJ=>
    obtain⟨v,hv,hp⟩:=c8 h
    rw[dz] at hv
    obtain⟨v',lV,aN⟩:=gJ.get i hv
    exact .value hr hp aN (by simp [Instr.extract,lV])
  ·exact h.elim
 | call c=>exact absurd bK (iU c)
 | go c=>rw[bK] at h;exact h.elim
 | defer c=>rw[bK] at h;exact h.elim
 | panic x=>rw[bK] at h;exact h.elim
 | send c x=>rw[bK] at h;exact h.elim
 | recv t c ok=>rw[bK] at h;exact h.elim
 | select cs b=>rw[bK] at h;exact h.elim
end
end Go.Ev
end
