/- Proved: parts of the way: OpsG. -/
import Derived.Test.YtbajncpfmemdgaaGreatDoorEvQ05
namespace Go.Ev
open Go
section
variable {P:Program} {ρ:aA} {σ:St} {w:World} {id:Nat} {p:V×St→Prop}
theorem DZ {place:Nat→Option (Nat×Nat)}:∀ {ps:List (Nat×V)} {cs r:List V},sI place ps cs=some r→r.length=cs.length:=by
 intro ps
 induction ps with
 | nil=>intro cs r h;have h':some cs=some r:=h;cases h';rfl
 | cons q ps ih=>
  intro cs r h
  have h':(match nh cs q.2.cells (place q.1) with | some yJ=>sI place ps yJ | none=>none)=some r:=h
  cases hf:nh cs q.2.cells (place q.1) with
  | none=>rw[hf] at h';cases h'
  | some yJ=>
   rw[hf] at h'
   rw[ih h']
   unfold nh at hf
   split at hf
   ·cases hf
   ·split at hf
    ·rename_i hb
     cases hf
     rw[Bool.and_eq_true,aP,aP] at hb
     have h1:=Nat.eq_of_beq_eq_true hb.1
     have h2:=Nat.le_of_ble_eq_true hb.2
     rw[fi,fi,dW,er]
     simp only[List.length_append,List.length_take,List.length_drop]
     simp only[Nat.add_eq] at h2⊢
     omega
    ·cases hf
theorem oe [Env]:au ρ cI undef:=.tuple .nil
theorem au.rW [Env] {b:Bool} {x:Value} (h:au ρ (.bool b) x):x=.bool b:=by cases h;rfl
theorem au.int_eq [Env] {k:IntKind} {n:Int} {x:Value} (h:au ρ (.int k n) x):x=.int k n:=by cases h;rfl
theorem au.o0 [Env] {v:V} {x:Value} (h:au ρ v x):x.cells.size=len v.cells:=by
 rw[aP,h.cells.length];simp
theorem NF [Env] (hr:R ρ σ w) {t:TypeId} {v u:V} (h:(ph P σ t v u).ar p) {v' u':Value} (hv:au ρ v v') (hu:au ρ u u'):
  ∃σ' w',p (cI,σ')∧(Instr.storeAt t u' v').run P w=.ok () w'∧aW (fun b=>b=id) ρ σ w ρ σ' w':=by
 unfold ph at h
 split at h
 ·rename_i b i esz off
  cases hu with
  | fH hl=>
   split at h
   ·rename_i n hn
    split at h
    ·rename_i hlen
     cases aF:σ.j5 b i esz off v with
     | none=>rw[aF] at h;exact h.elim
     | some σ'=>
      rw[aF] at h
      obtain⟨w',aE,gm⟩:=hr.j5 (P:=P) (ids:=fun b=>b=id) aF hl hv
      refine⟨σ',w',h,?_,gm⟩
      have bk:¬v'.cells.size≠n:=by rw[hv.o0,hlen];simp
      simp only[Instr.storeAt,Instr.sureAddr,storeVar,Sem.run_bind,Sem.run_pure,Result.andThen_ok,bB hn,if_neg bk,aE]
    ·exact h.elim
   ·exact h.elim
 ·rename_i b off
  cases hu with
  | ptr hl=>
   split at h
   ·rename_i n hn
    split at h
    ·rename_i hlen
     cases aF:σ.store b off v.cells with
     | none=>rw[aF] at h;exact h.elim
     | some σ'=>
      rw[aF] at h
      obtain⟨w',aE,gm⟩:=hr.store (P:=P) (ids:=fun b=>b=id) aF hl hv.cells
      refine⟨σ',w',h,?_,gm⟩
      have bk:¬v'.cells.size≠n:=by rw[hv.o0,hlen];simp
      simp only[Instr.storeAt,Instr.sureAddr,storeVar,Sem.run_bind,Sem.run_pure,Result.andThen_ok,bB hn,if_neg bk,aE]
    ·exact h.elim
   ·exact h.elim
 ·exact h.elim
theorem B5 [Env] {sz n i:Nat} {z:V} {zv:Value} (hz:au ρ z zv) (hlen:len z.cells=sz) (bk:sz≠0) (hi:i<n):
  ∃x,((Array.range n).map (zv.cells[·% zv.cells.size]!))[i]? =some x∧au ρ (z.cells.getD (i%sz) cI) x:=by
 have dH:=hz.cells
 have oM:zv.cells.size=sz:=by rw[hz.o0,hlen]
 rw[aP] at hlen
 have hm:i%sz<z.cells.length:=by rw[hlen];exact Nat.mod_lt _ (by omega)
 obtain⟨x,hx,aO⟩:=dH.get (i%sz) (v:=z.cells[i%sz]) (by simp [hm])
 refine⟨x,?_,?_⟩
 ·have:(Array.range n)[i]? =some i:=by simp [hi]
  rw[Array.getElem?_map,this]
  simp only[Option.map_some,oM,Option.some.injEq]
  have cS:zv.cells[i%sz]? =some x:=by simpa using hx
  simp [getElem!_def,cS]
 ·simpa [List.getD_eq_getElem?_getD,hm] using aO
theorem vw [Env] {t e:TypeId} {n sz:Nat} {z:V} {l:List (Nat×V)} {cs:List V} (he:hG P t=some e) (bk:bV P e=some sz) (hz:gF P e=some z) (B6:sz≠0) (XD:n*sz≤65536) (D0:len z.cells=sz)
  (dH:oS sz n z.cells l=some cs) {l':List (Nat×Value)} (hl:kc ρ l l') (w:World):
  ∃r':List Value,ay ρ cs r'∧cs.length=n*sz∧(Instr.buildSlice t n ⟨l'⟩).run P w=.ok (.slice (some ⟨w.heap.size,0,none⟩) n n) {w with heap:=w.heap.push (.cells ⟨r'⟩ e)}:=by
 obtain⟨zv,gC,C3⟩:=gU (P:=P) hz ρ
 have ab6:ay ρ ((List.range (n*sz)).map fun i=>z.cells.getD (i%sz) cI) ((Array.range (n*sz)).map (zv.cells[·% zv.cells.size]!)).toList:=by
  refine ay.Xi (by simp) fun i v x hv hx=>?_
  have hi:i<n*sz:=by
   have:=List.getElem?_eq_some_iff.1 hv
   obtain⟨bE,_⟩:=this
   simpa using bE
  obtain⟨x',cS,aO⟩:=B5 (n:=n*sz) C3 D0 B6 hi
  have e1:v=z.cells.getD (i%sz) cI:=by
   simpa [hi] using hv.symm
  have e2:x=x':=by
   rw[Array.getElem?_toList,cS] at hx
   exact(Option.some.inj hx).symm
  rw[e1,e2];exact aO
 unfold oS at dH
 obtain⟨r',ab7,aO⟩:=xU (place:=fun i=>some (i*sz,sz)) l l' _ _ hl ab6 dH
 have jo:cs.length=n*sz:=by
  have:=DZ dH
  simpa using this
 refine⟨r',aO,jo,?_⟩
 have pH:¬n*sz>2^24:=by omega
 have D3:Instr.fill (fun i=>some (i*sz,sz)) ((Array.range (n*sz)).map (zv.cells[·% zv.cells.size]!)) l'=some ⟨r'⟩:=by
  exact ab7
 by_cases kg:n*sz=0
 ·have e0:∀f:Nat→Value,(Array.range 0).map f=#[]:=by simp
  have hn:n=0:=by
   rcases Nat.mul_eq_zero.1 kg with h | h
   ·exact h
   ·exact absurd h B6
  subst hn
  have h00:¬(0:Nat)>2^24:=by decide
  rw[kg,e0] at D3
  simp only[Instr.buildSlice,Sem.run_bind,run_underlying (iz he),Result.andThen_ok,bB bk,if_neg h00,Sem.run_pure,if_true,kg,e0,D3,Go.newRow,run_newObj]
 ·simp only[Instr.buildSlice,Sem.run_bind,run_underlying (iz he),Result.andThen_ok,bB bk,if_neg pH,Sem.run_pure,if_neg kg,gC,D3,Go.newRow,run_newObj]
theorem aW.lit [Env] (h:R ρ σ w) {ids:Nat→Prop} (r:Array Value) (e:TypeId):
  aW ids ρ σ w ⟨ρ.at',fun c o=>if c=w.heap.size then r[o]? else ρ.aV c o⟩ σ {w with heap:=w.heap.push (.cells r e)}:=by
 have hold:∀c,c<w.heap.size→(w.heap.push (.cells r e))[c]? =w.heap[c]? :=fun c hc=>by rw[Array.getElem?_push,if_neg (by omega)]
 have hle:ρ.le ⟨ρ.at',fun c o=>if c=w.heap.size then r[o]? else ρ.aV c o⟩:=⟨fun _ _ h=>h,fun c o x hx=>by
  have:=gG (h.aV c o x hx).1
  show(if c=w.heap.size then r[o]? else ρ.aV c o)=some x
  rw[if_neg (by omega)];exact hx⟩
 refine⟨⟨fun b k hb=>?_,h.inj,h.fresh,fun b l hb=>?_,fun c o x hx=>?_,h.rL hle⟩,hle,Nat.le_refl _,fun _ _ hb=>.inl hb,by simp,rfl,rfl,rfl,fun c hc _=>hold c hc,fun _ _ h=>h,fun _ k hb=>.inl ⟨k,hb⟩,fun c o x hx=>?_⟩
 ·obtain⟨l,hl,hk⟩:=h.di b k hb
  exact⟨l,hl,hk.same hle (hold l.c (h.valid b l hl))⟩
 ·have:=h.valid b l hb
  simp;omega
 ·have cS:(if c=w.heap.size then r[o]? else ρ.aV c o)=some x:=hx
  by_cases e:c=w.heap.size
  ·rw[if_pos e] at cS
   subst e
   refine⟨by simp [World.cell?,cS],?_⟩
   rintro⟨b,k,l,h1,_,h3,h4⟩
   have:=h.valid b l h3
   omega
  ·rw[if_neg e] at cS
   obtain⟨a1,a2⟩:=h.aV c o x cS
   exact⟨by rw[cell?_of_block (hold c (gG a1))];exact a1,a2⟩
 ·have cS:(if c=w.heap.size then r[o]? else ρ.aV c o)=some x:=hx
  by_cases e:c=w.heap.size
  ·exact .inr (.inl (by omega))
  ·rw[if_neg e] at cS;exact .inl cS
theorem pM:∀ {cs:List V},(∀v∈cs,v.scalar=true)→ax cs=cs∧∀v∈cs,v.cells.length=1
 | [],_=>⟨rfl,fun _ h=>by cases h⟩
 | v::cs,h=>by
  obtain⟨h1,h2⟩:=pM (cs:=cs) fun u hu=>h u (List.mem_cons_of_mem _ hu)
  have hv:v.cells=[v]:=by
   have:=h v List.mem_cons_self
   cases v<;>first | rfl | cases this
  refine⟨by rw[ca,hv,h1];rfl,fun u hu=>?_⟩
  rcases List.mem_cons.1 hu with rfl | hu
  ·rw[hv];rfl
  ·exact h2 u hu
theorem Am [Env] (hr:R ρ σ w) (cg:ρ id=none) {t:TypeId} {n:Nat} {l:List (Nat×V)} (h:(gk P σ id t n (some l)).ar p) {l':List (Nat×Value)} (hl:kc ρ l l'):
  ∃v σ' ρ' v' w',p (v,σ')∧au ρ' v v'∧(Instr.buildSlice t n ⟨l'⟩).run P w=.ok v' w'∧aW (fun b=>b=id) ρ σ w ρ' σ' w':=by
 have h':(match hG P t with
  | some e=>match bV P e,gF P e with
   | some sz,some z=>match isByte P e with
    | true=>oT σ sz n l z.cells
    | false=>lE σ id sz n l z.cells
   | _,_=>.fail "buildSlice type"
  | none=>.fail "buildSlice type":VS).ar p:=h
 clear h
 split at h'
 ·rename_i e he
  split at h'
  ·rename_i sz z bk hz
   split at h'
   ·unfold oT at h'
    split at h'
    ·exact h'.elim
    ·rename_i hc
     rw[not_or,not_or] at hc
     obtain⟨B6,XD,D0⟩:=hc
     have B6:sz=1:=Decidable.not_not.1 B6
     have D0:len z.cells=1:=Decidable.not_not.1 D0
     subst B6
     split at h'
     ·rename_i cs dH
      split at h'
      ·rename_i oI
       obtain⟨r',aO,jo,aE⟩:=vw (P:=P) he bk hz (by decide) (by omega) D0 dH hl w
       have aF:=aW.lit (ids:=fun b=>b=id) hr ⟨r'⟩ e
       obtain⟨g1,g2⟩:=pM (cs:=cs) (fun v hv=>List.all_eq_true.1 (by rw[←pr];exact oI) v hv)
       rw[Nat.mul_one] at jo
       refine⟨_,_,_,_,_,h',?_,aE,aF⟩
       have key:=au.bX (ρ:=⟨ρ.at',fun c o=>if c=w.heap.size then(⟨r'⟩:Array Value)[o]? else ρ.aV c o⟩) (es:=cs) (esz:=1) (c:=w.heap.size) (off:=0) (cap:=n) (ex:=true) (xs:=r') g2
        (by rw[g1];exact aO.mono aF.le) (fun k x hk=>by
         show(if w.heap.size=w.heap.size then(⟨r'⟩:Array Value)[0+k]? else ρ.aV w.heap.size (0+k))=some x
         rw[if_pos rfl,Nat.zero_add];simpa using hk) (by omega) (fun _=>jo.symm)
       rw[jo] at key
       exact key
      ·exact h'.elim
     ·exact h'.elim
   ·unfold lE at h'
    split at h'
    ·exact h'.elim
    ·rename_i hc
     have B6:sz≠0:=fun e=>hc (.inl e)
     have XD:n*sz≤65536:=by
      apply Nat.le_of_not_lt;intro e;exact hc (.inr (.inl e))
     have D0:len z.cells=sz:=Decidable.byContradiction fun e=>hc (.inr (.inr e))
     split at h'
     ·rename_i cs dH
      split at h'
      ·rename_i oI
       obtain⟨r',aO,jo,aE⟩:=vw (P:=P) he bk hz B6 XD D0 dH hl w
       have aF:=B3 hr cg aO (ty:=e) (w':={w with heap:=w.heap.push (.cells ⟨r'⟩ e)}) rfl rfl rfl rfl
       rw[jo] at aF
       refine⟨_,_,_,_,_,h',.slice (l:=⟨w.heap.size,0,r'.length⟩) (off':=0) (cap':=n) (fV _ _ _) (fun _=>⟨rfl,rfl⟩) (by simp) ?_ (Nat.le_refl _),aE,aF⟩
       show 0+n*sz≤r'.length
       rw[←aO.length,jo];omega
      ·exact h'.elim
     ·exact h'.elim
  ·exact h'.elim
 ·exact h'.elim
theorem CO [Env] (hr:R ρ σ w) (cg:ρ id=none) {t:TypeId} {n m:V} (h:(gQ P σ id t n m).ar p) {n' m':Value} (hn:au ρ n n') (hm:au ρ m m'):
  ∃v σ' ρ' v' w',p (v,σ')∧au ρ' v v'∧(Instr.makeSlice t n' m').run P w=.ok v' w'∧aW (fun b=>b=id) ρ σ w ρ' σ' w':=by
 unfold gQ at h
 split at h
 ·rename_i kn n km m
  cases hn;cases hm
  split at h
  ·rename_i e he
   split at h
   ·rename_i sz dy z bk pK hz
    obtain⟨zv,gC,C3⟩:=gU (P:=P) hz ρ
    obtain⟨i,hi,hib⟩:=s6 pK
    unfold mu at h
    split at h
    ·rename_i hc
     obtain⟨c0,c1,c2,c3,c4,c5,c6⟩:=hc
     have oM:zv.cells.size=sz:=by rw[C3.o0,c5]
     obtain⟨M,rfl⟩:∃M:Nat,m=(M:Int):=⟨m.toNat,by omega⟩
     obtain⟨N,rfl⟩:∃N:Nat,n=(N:Int):=⟨n.toNat,by omega⟩
     simp only[Int.toNat_natCast] at c2 h
     have hwn:IntKind.i64.wrap (N:Int)=N:=by
      simp [IntKind.wrap,IntKind.bits,IntKind.signed];omega
     have hwm:IntKind.i64.wrap (M:Int)=M:=by
      simp [IntKind.wrap,IntKind.bits,IntKind.signed];omega
     let row:Array Value:=(Array.range (M*sz)).map (zv.cells[·% zv.cells.size]!)
     have aft:i.bytes*M≤1099511627776:=by rw[hib,Nat.mul_comm];exact c2
     have aE:(Instr.makeSlice t (.int kn N) (.int km M)).run P w=.ok (.slice (some ⟨w.heap.size,0,none⟩) N M) {w with heap:=w.heap.push (.cells row e)}:=by
      have t1:(decide ((M:Int)<0)||decide ((i.bytes:Int)*M>2^48)||decide ((N:Int)<0)||decide ((N:Int)>M))=false:=by
       have:((i.bytes*M:Nat):Int)≤((1099511627776:Nat):Int):=Int.ofNat_le.2 aft
       rw[Int.natCast_mul] at this
       have h1:¬((M:Int)<0):=by omega
       have h2:¬((i.bytes:Int)*M>281474976710656):=by omega
       have h48:(2:Int)^48=281474976710656:=by decide
       have h3:¬((N:Int)<0):=by omega
       have h4:¬((N:Int)>M):=by omega
       rw[h48];simp only[h1,h2,h3,h4,decide_false,Bool.or_false]
      by_cases kg:M*sz=0
      ·have e0:∀f:Nat→Value,(Array.range 0).map f=#[]:=by simp
       have td:row=#[]:=by
        show(Array.range (M*sz)).map _=_
        rw[kg,e0]
       simp only[Instr.makeSlice,Sem.run_bind,run_underlying (iz he),Result.andThen_ok,asInt,asIntOf,Sem.run_pure,run_typeInfo hi,hwn,hwm,t1,Bool.false_eq_true,if_false,run_askRoom,Int.toNat_natCast,bB bk,if_true,kg,e0,td,Go.newRow,run_newObj]
      ·simp only[Instr.makeSlice,Sem.run_bind,run_underlying (iz he),Result.andThen_ok,asInt,asIntOf,Sem.run_pure,run_typeInfo hi,hwn,hwm,t1,Bool.false_eq_true,if_false,run_askRoom,Int.toNat_natCast,bB bk,if_neg kg,gC,Go.newRow,run_newObj]
       rfl
     have hrs:row.size=M*sz:=by simp [row]
     refine⟨_,_,_,_,_,h,.slice (l:=⟨w.heap.size,0,M*sz⟩) (off':=0) (cap':=M) (fV ρ _ _) (fun _=>⟨rfl,rfl⟩) (by simp) (by show 0+M*sz≤M*sz;omega) (by omega),aE,?_⟩
     have lb:(w.heap.push (.cells row e))[w.heap.size]? =some (.cells row e (0,0)):=by simp
     refine aW.alloc hr cg (w':={w with heap:=w.heap.push (.cells row e)}) rfl rfl rfl rfl (.cells ⟨e,?_⟩ (by simp) (fun k v hk=>?_) (fun _ k _=>?_) (fun _ k=>?_))
     ·simp [World.shape?,hrs]
     ·have eV:=B1 hk
      have hv:v=z.cells.getD (k%sz) cI:=by
       unfold cellOf at hk
       rw[Trie.fw] at hk
       split at hk
       ·rw[ea,c5] at hk
        have afu:z.cells[k%sz]? =some v:=hk
        simp [List.getD_eq_getElem?_getD,afu]
       ·cases hk
      obtain⟨x,hx,aO⟩:=B5 (n:=M*sz) C3 c5 c4 eV
      refine⟨x,?_,hv▸aO.mono (hJ ρ _ cg)⟩
      have cS:row[k]? =some x:=hx
      unfold World.cell?
      dsimp only
      rw[lb,Nat.zero_add]
      exact cS
     ·simp [World.frozen?]
     ·simp [World.frozen?]
    ·exact h.elim
   ·exact h.elim
  ·exact h.elim
 ·exact h.elim
theorem KT [Env] {x v:V} {t xt:TypeId} {ok:Bool} (h:sL P x t ok=some v) {x':Value} (hx:au ρ x x') (w:World):∃v',(Instr.typeAssert x' xt t ok).run P w=.ok v' w∧au ρ v v':=by
 have hold:∀ {u:V} {u':Value},au ρ u u'→(some (if ok then .tuple [u,.bool true] else u:V)=some v)→au ρ v (if ok then .tuple #[u',.bool true] else u'):=by
  intro u u' hu he
  cases he
  cases ok with
  | true=>exact .tuple (.cons hu (.cons (.bool true) .nil))
  | false=>exact hu
 have C4:(if ok then(gF P t).map fun z=>(.tuple [z,.bool false]:V) else none)=some v→ok=true∧∃zv,(∀w,(zeroValue t).run P w=.ok zv w)∧au ρ v (.tuple #[zv,.bool false]):=by
  intro he
  cases ok with
  | false=>simp at he
  | true=>
   simp only[if_true,Option.map_eq_some_iff] at he
   obtain⟨z,hz,rfl⟩:=he
   obtain⟨zv,gC,oa⟩:=gU (P:=P) hz ρ
   exact⟨rfl,zv,gC,.tuple (.cons oa (.cons (.bool false) .nil))⟩
 unfold sL at h
 dsimp only at h
 split at h
 ·rename_i ms hu
  obtain⟨rfl,zv,gC,hv⟩:=C4 h
  cases hx
  exact⟨_,by simp [Instr.typeAssert,run_underlying hu,gC],hv⟩
 ·rename_i want ty vv hu
  cases hx with
  | iface hx=>
   split at h
   ·rename_i i hi
    split at h
    ·rename_i hm
     refine⟨_,?_,hold (.iface hx) h⟩
     simp only[Instr.typeAssert,Sem.run_bind,run_underlying hu,Result.andThen_ok,run_typeInfo hi,hm,Sem.run_pure]
    ·rename_i mm hm
     obtain⟨rfl,zv,gC,hv⟩:=C4 h
     exact⟨_,by simp [Instr.typeAssert,run_underlying hu,run_typeInfo hi,hm,gC],hv⟩
   ·cases h
 ·rename_i hn hu
  obtain⟨rfl,zv,gC,hv⟩:=C4 h
  cases hx
  refine⟨_,?_,hv⟩
  rename_i d _
  cases d<;>simp [Instr.typeAssert,run_underlying hu,gC]
 ·rename_i d ty vv hn hu
  cases hx with
  | iface hx=>
   split at h
   ·rename_i ht
    refine⟨_,?_,hold hx h⟩
    cases d<;>first
     | exact(hn _ rfl).elim
     | (simp only[Instr.typeAssert,Sem.run_bind,run_underlying hu,Result.andThen_ok,if_pos ht,Sem.run_pure])
   ·rename_i ht
    obtain⟨rfl,zv,gC,hv⟩:=C4 h
    refine⟨_,?_,hv⟩
    cases d<;>first
     | exact(hn _ rfl).elim
     | (simp only[Instr.typeAssert,Sem.run_bind,run_underlying hu,Result.andThen_ok,if_neg ht,if_true,gC,Sem.run_pure])
 ·cases h
theorem NG [Env] (hr:R ρ σ w) {it v:V} (h:u7 σ it=some v) {DX:Value} (Xz:au ρ it DX):∃v',(Instr.entry DX).run P w=.ok v' w∧au ρ v v':=by
 unfold u7 at h
 split at h
 ·rename_i r
  cases Xz with
  | ptr hl=>
   rename_i l
   split at h
   ·rename_i m since seen last hb
    obtain⟨l',cm,je⟩:=hr.di _ _ hb
    rw[hl] at cm;cases cm
    cases je with
    | iter hh ho hm=>
     cases hm with
     | some uG=>
      rename_i lm
      split at h
      ·rename_i wE es clock aF XA
       obtain⟨lm',DY,KS⟩:=hr.di _ _ XA
       rw[uG] at DY;cases DY
       cases KS with
       | map od he=>
        rename_i es'
        split at h
        ·cases h
        ·rename_i jo
         split at h
         ·rename_i e ab8
          cases h
          have hf:∀(l:List (V×V×Nat)) (l':List MapEntry),cq ρ l l'→∀e,(l.find? fun e=>e.2.2==wE)=some e→∃e',(l'.find? fun e=>e.born==wE)=some e'∧DJ ρ e e':=by
           intro l
           induction l with
           | nil=>intro l' _ e h;simp at h
           | cons a l ih=>
            intro l' hl e h
            cases hl with
            | cons ha hl=>
             rename_i a' l'
             simp only[List.find?_cons,ha.born] at h⊢
             split at h
             ·rename_i hq;cases h;exact⟨a',rfl,ha⟩
             ·rename_i hq;obtain⟨e',h1,h2⟩:=ih l' hl e h;exact⟨e',h1,h2⟩
          obtain⟨e',XE,aO⟩:=hf _ _ he _ ab8
          have afv:(clock != last)=false:=by simpa using jo
          have C5:(⟨seen⟩:Array Nat).back? =some wE:=by simpa [List.getLast?_eq_getElem?,Array.back?] using aF
          refine⟨.tuple #[e'.key,e'.val],?_,.tuple (.cons aO.key (.cons aO.val .nil))⟩
          have hfa:es'.find? (fun e=>e.born==wE)=some e':=by rw[←Array.find?_toList];exact XE
          simp only[Instr.entry,ho,Nat.add_zero,Sem.run_bind,getObj,Sem.run,hh,Result.andThen_ok,C5,od,afv,Bool.false_eq_true,if_false,hfa]
          rfl
         ·cases h
      ·cases h
   ·cases h
 ·cases h
theorem NH [Env] (hr:R ρ σ w) (cg:ρ id=none) {t:TypeId} {x:V} (h:(Ad P σ id t x).ar p) {x':Value} (hx:au ρ x x'):
  ∃v σ' ρ' v' w',p (v,σ')∧au ρ' v v'∧(Instr.range t x').run P w=.ok v' w'∧aW (fun b=>b=id) ρ σ w ρ' σ' w':=by
 have fin:∀ {m m':Option Nat} {since last:Nat},n9 ρ m m'→p (.ptr id 0,σ.new id (.iter m since [] last))→
   ((Instr.range t x').run P w=.ok (.pointer (some ⟨w.heap.size,0,none⟩)) {w with heap:=w.heap.push (.mapIter m' since #[] last)})→
   ∃v σ' ρ' v' w',p (v,σ')∧au ρ' v v'∧(Instr.range t x').run P w=.ok v' w'∧aW (fun b=>b=id) ρ σ w ρ' σ' w':=by
  intro m m' since last hm hp aE
  refine⟨_,_,jb ρ id ⟨w.heap.size,0,0⟩,_,_,hp,.ptr (l:=⟨w.heap.size,0,0⟩) (fV _ _ _),aE,?_⟩
  exact aW.alloc hr cg (w':={w with heap:=w.heap.push (.mapIter m' since #[] last)}) rfl rfl rfl rfl
   (.iter (by show(w.heap.push _)[w.heap.size]? =_;simp) rfl (hm.mono (hJ ρ _ cg)))
 unfold Ad at h
 split at h
 ·rename_i hm
  obtain⟨⟨k,e⟩,he⟩:∃q,u5 P t=some q:=⟨_,hm⟩
  have hu:=pI he
  cases hx
  exact fin .none h (by simp only[Instr.range,Sem.run_bind,run_underlying hu,Result.andThen_ok];rfl)
 ·rename_i m q hm
  obtain⟨k,e⟩:=q
  have hu:=pI hm
  split at h
  ·rename_i es clock hb
   cases hx with
   | map hl=>
    obtain⟨l,cm,je⟩:=hr.di _ _ hb
    rw[hl] at cm;cases cm
    cases je with
    | map od he=>
     exact fin (.some hl) h (by simp only[Instr.range,Sem.run_bind,run_underlying hu,Result.andThen_ok,getObj,Sem.run,od];rfl)
  ·exact h.elim
 ·exact h.elim
theorem KU [Env] (_hr:R ρ σ w) {t e:TypeId} {es:List V} {esz sz:Nat} {ex:Bool} {u:V} {k:IntKind} {i:Int} (he:hG P t=some e) (bk:bV P e=some sz) (c1:0≤i) (c2:i<es.length) (c3:sz=esz) (_c4:sz≠0) (q0:es[i.toNat]? =some u) {x':Value} (gX:au ρ (.bX es esz ex) x'):
  ∃v',(Instr.indexAt t x' (.int k i)).run P w=.ok v' w∧au ρ (.aU u.cells 0) v':=by
 subst c3
 cases gX with
 | bX hu cS eW pJ hex=>
  rename_i c off cap xs
  have D4:ax (es.drop i.toNat)=(ax es).drop (i.toNat*sz):=np hu _
  have KV:es.drop i.toNat=u::es.drop (i.toNat+1):=by
   have bE:=(List.getElem?_eq_some_iff.1 q0)
   obtain⟨h1,h2⟩:=bE
   rw[List.drop_eq_getElem_cons h1,h2]
  have D5:u.cells.length=sz:=hu u (List.mem_of_getElem? q0)
  have aO:ay ρ u.cells ((xs.drop (i.toNat*sz)).take sz):=by
   have h1:=(cS.drop (i.toNat*sz)).take sz
   rw[←D4,KV,ca,←D5,List.take_left' rfl] at h1
   rw[←D5];exact h1
  refine⟨.pointer (some ⟨c,off+i.toNat*sz+0,none⟩),?_,.aU aO fun k x hk=>?_⟩
  ·simp [Instr.indexAt,asIntOf,run_underlying (iz he),c1,c2,bB bk,eJ]
  ·rw[List.getElem?_take] at hk
   split at hk
   ·rw[List.getElem?_drop] at hk
    rw[Nat.add_assoc];exact eW _ x hk
   ·cases hk
 | dP=>simp at q0
 | dt he=>simp at q0
theorem PG [Env] (hr:R ρ σ w) (cg:ρ id=none) {a:Act} {a':Go.Act} (ha:bD ρ a a') (o:Oper) (h:((m7 P o.op).f a σ id).ar p) (jc:∀c,o.op≠.call c):
  DK P (execOp a'.eval o) id ρ σ w p:=by
 unfold execOp
 cases bY:o.op with
 | move x=>
  rw[bY] at h
  obtain⟨v,hv,hp⟩:=dp h
  exact .value hr hp (ha.eval x hv) rfl
 | assign x=>
  rw[bY] at h
  obtain⟨v,hv,hp⟩:=dp h
  exact .value hr hp (ha.eval x hv) rfl
 | pick c x y=>
  rw[bY] at h
  obtain⟨cv,hc,h⟩:=cX h
  unfold n4 at h
  split at h
  ·rename_i b
   obtain⟨v,hv,hp⟩:=dp h
   have rQ:=ha.eval c hc
   have hcb:a'.eval c=.bool b:=rQ.rW
   refine .value hr hp (v':=if b then a'.eval x else a'.eval y) ?_ ?_
   ·cases b with
    | true=>exact ha.eval x hv
    | false=>exact ha.eval y hv
   ·dsimp only;rw[hcb];rfl
  ·exact h.elim
 | alloc e=>
  rw[bY] at h
  have h':(pk P σ id e).ar p:=h
  unfold pk at h'
  split at h'
  ·rename_i z hz
   obtain⟨zv,gC,oa⟩:=gU (P:=P) hz ρ
   split at h'
   ·exact Ht hr cg oa e h' (by dsimp only;simp [Instr.alloc,gC,newVar,Go.newRow])
   ·exact h'.elim
  ·exact h'.elim
 | box e x=>
  rw[bY] at h
  obtain⟨v,hv,h⟩:=cX h
  unfold yB at h
  split at h
  ·exact Ht hr cg (ha.eval x hv) e h (by dsimp only;simp [Instr.box,newVar,Go.newRow])
  ·exact h.elim
 | build t ps=>
  rw[bY] at h
  have h':(nj P σ t (a.parts ps.toList)).ar p:=h
  cases qB:a.parts ps.toList with
  | none=>rw[qB] at h';exact h'.elim
  | some l=>
   rw[qB] at h'
   obtain⟨v,hv,hp⟩:=dp h'
   obtain⟨v',aE,aO⟩:=Nn (P:=P) (ha.parts ps.toList qB) hv
   refine .value hr hp aO ?_
   have e:(ps.map fun(q:Nat×Operand)=>(q.1,a'.eval q.2))=⟨ps.toList.map fun q=>(q.1,a'.eval q.2)⟩:=Array.ext' (by simp)
   dsimp only
   rw[show(ps.map fun x=>match x with | (i,x)=>(i,a'.eval x))=⟨ps.toList.map fun q=>(q.1,a'.eval q.2)⟩ from e]
   simp [aE]
 | buildSlice t n ps=>
  rw[bY] at h
  have h':(gk P σ id t n (a.parts ps.toList)).ar p:=h
  cases qB:a.parts ps.toList with
  | none=>rw[qB] at h';exact h'.elim
  | some l=>
   rw[qB] at h'
   obtain⟨v,σ',ρ',v',w',hp,hv,aE,aF⟩:=Am hr cg h' (ha.parts ps.toList qB)
   refine⟨v,σ',ρ',v',w',hp,hv,aF,.inl ?_⟩
   dsimp only
   rw[show(ps.map fun x=>match x with | (i,x)=>(i,a'.eval x))=⟨ps.toList.map fun q=>(q.1,a'.eval q.2)⟩ from Array.ext' (by simp)]
   simp [aE]
 | insert t m k v=>
  rw[bY] at h
  obtain⟨mv,kv,hm,hk,h⟩:=gT h
  obtain⟨vv,hv,h⟩:=cX h
  obtain⟨σ',w',hp,aE,aF⟩:=uH hr h (ha.eval m hm) (ha.eval k hk) (ha.eval v hv)
  exact⟨_,_,_,_,_,hp,oe,aF,.inr ⟨rfl,by dsimp only;simp [aE]⟩⟩
 | load t x=>
  rw[bY] at h
  obtain⟨xv,hx,h⟩:=cX h
  obtain⟨v,hv,hp⟩:=dp h
  obtain⟨v',aE,aO,_⟩:=B2 (P:=P) hr (ha.eval x hx) hv
  exact .value hr hp aO (by dsimp only;simp [aE])
 | store t x y=>
  rw[bY] at h
  obtain⟨yv,xv,hy,hx,h⟩:=gT h
  obtain⟨σ',w',hp,aE,aF⟩:=NF hr h (ha.eval y hy) (ha.eval x hx)
  exact⟨_,_,_,_,_,hp,oe,aF,.inr ⟨rfl,by dsimp only;simp [aE]⟩⟩
 | ready g=>rw[bY] at h;exact h.elim
 | waits g=>rw[bY] at h;exact h.elim
 | nilCheck x=>
  rw[bY] at h
  obtain⟨xv,hx,h⟩:=cX h
  have gX:=ha.eval x hx
  unfold oU at h
  dsimp only
  generalize a'.eval x=x' at gX⊢
  split at h
  ·cases gX with
   | ptr hl=>exact .value hr h (.ptr hl) rfl
  ·cases gX with
   | aU hx hi=>exact .value hr h (.aU hx hi) rfl
  ·cases gX with
   | fH hl=>exact .value hr h (.fH hl) rfl
  ·exact h.elim
  ·rename_i f x y hnm
   cases gX with
   | func hf hx hy=>
    refine .value hr h (.func hf hx hy) ?_
    cases hf with
    | yield _=>rfl
    | same _=>
     cases f<;>first
      | exact absurd rfl (hnm _)
      | rfl
  ·cases gX with
   | iface hv=>exact .value hr h (.iface hv) rfl
  ·exact h.elim
 | binOp op t x y yt=>
  rw[bY] at h
  obtain⟨xv,yv,hx,hy,h⟩:=gT h
  obtain⟨v,hv,hp⟩:=dp h
  obtain⟨v',aE,aO⟩:=GS (P:=P) hr hv (ha.eval x hx) (ha.eval y hy)
  refine .value hr hp aO ?_
  dsimp only
  rw[Sem.run_bind,aE];rfl
 | unOp op t x=>
  rw[bY] at h
  obtain⟨xv,hx,h⟩:=cX h
  obtain⟨v,hv,hp⟩:=dp h
  obtain⟨v',aE,aO⟩:=KL (P:=P) hv (ha.eval x hx)
  exact .value hr hp aO (by dsimp only;simp [aE])
 | convert s d x=>
  rw[bY] at h
  obtain⟨xv,hx,h⟩:=cX h
  unfold dw at h
  cases hc:evalConv P σ id s d xv with
  | none=>rw[hc] at h;exact h.elim
  | some r=>
   rw[hc] at h
   obtain⟨ρ',v',w',aE,hv,aF⟩:=Pz hr cg hc (ha.eval x hx)
   exact⟨_,_,_,_,_,h,hv,aF,.inl (by dsimp only;simp [aE])⟩
 | sliceToArrayPointer d x=>rw[bY] at h;exact h.elim
 | makeInterface t x=>
  rw[bY] at h
  obtain⟨xv,hx,h⟩:=cX h
  unfold iu at h
  split at h
  ·exact h.elim
  ·rename_i d jq hd
   refine .value hr h (.iface (ha.eval x hx)) ?_
   dsimp only
   cases d<;>first
    | exact(jq _ hd).elim
    | exact(jq _ rfl).elim
    | simp [Instr.makeInterface,run_underlying hd]
  ·exact h.elim
 | makeFunc fn f c=>
  rw[bY] at h
  have h':(jz σ fn (a.bQ f.toList) (a.bQ c.toList)).ar p:=h
  cases hf:a.bQ f.toList with
  | none=>rw[hf] at h';exact h'.elim
  | some fs=>cases hc:a.bQ c.toList with
   | none=>rw[hf,hc] at h';exact h'.elim
   | some cs=>
    rw[hf,hc] at h'
    unfold jz at h'
    dsimp only at h'⊢
    split at h'
    ·exact h'.elim
    ·rename_i hny
     refine .value hr h' (.func (.same hny) (ha.bQ _ hf) (ha.bQ _ hc)) ?_
     rw[show f.map a'.eval=⟨f.toList.map a'.eval⟩ from Array.ext' (by simp),show c.map a'.eval=⟨c.toList.map a'.eval⟩ from Array.ext' (by simp)]
     rfl
 | makeMap t r=>
  rw[bY] at h
  have h':(jm P a σ id t r).ar p:=h
  have fin:p (.map id,σ.new id (.map [] 0))→(Instr.makeMap t (r.map a'.eval)).run P w=.ok (.map (some w.heap.size)) {w with heap:=w.heap.push (.map #[] 0)}→
    DK P (do pure (.value (←Instr.makeMap t (r.map a'.eval)))) id ρ σ w p:=by
   intro hp aE
   refine⟨_,_,jb ρ id ⟨w.heap.size,0,0⟩,_,_,hp,.map (l:=⟨w.heap.size,0,0⟩) (fV _ _ _),?_,.inl (by simp [aE];rfl)⟩
   exact aW.alloc hr cg (w':={w with heap:=w.heap.push (.map #[] 0)}) rfl rfl rfl rfl (.map (by show(w.heap.push _)[w.heap.size]? =_;simp) .nil)
  unfold jm at h'
  split at h'
  ·exact fin h' (by simp [Instr.makeMap])
  ·rename_i x
   split at h'
   ·rename_i k n e k' hx hu
    have hi:=(ha.eval x hx).int_eq
    exact fin h' (by simp [Instr.makeMap,run_underlying hu,hi,asInt,asIntOf])
   ·exact h'.elim
 | makeChan t s=>rw[bY] at h;exact h.elim
 | makeSlice t l c=>
  rw[bY] at h
  obtain⟨lv,cv,hl,hc,h⟩:=gT h
  obtain⟨v,σ',ρ',v',w',hp,hv,aE,aF⟩:=CO hr cg h (ha.eval l hl) (ha.eval c hc)
  exact⟨v,σ',ρ',v',w',hp,hv,aF,.inl (by dsimp only;simp [aE])⟩
 | slice t x lo hi mx=>
  rw[bY] at h
  obtain⟨xv,hx,h⟩:=cX h
  unfold fS at h
  split at h
  ·rename_i l hh m h1 h2 h3
   split at h
   ·rename_i k e hk
    obtain⟨v,hv,hp⟩:=dp h
    obtain⟨v',aE,aO⟩:=Ah (P:=P) hr (s7 hk) hv (ha.eval x hx) (ha.iZ h1) (ha.iZ h2) (ha.iZ h3)
    exact .value hr hp aO (by dsimp only;simp [aE])
   ·obtain⟨v,hv,hp⟩:=dp h
    obtain⟨v',aE,aO⟩:=CK (P:=P) hv (ha.eval x hx) (ha.iZ h1) (ha.iZ h2) (ha.iZ h3) w
    exact .value hr hp aO (by dsimp only;simp [aE])
  ·exact h.elim
 | fieldAddr s x f=>
  rw[bY] at h
  obtain⟨xv,hx,h⟩:=cX h
  have gX:=ha.eval x hx
  unfold k8 at h
  dsimp only
  generalize a'.eval x=x' at gX⊢
  split at h
  ·cases gX with
   | ptr hl=>
    rename_i b off l
    split at h
    ·rename_i fd mM
     split at h
     ·rename_i n hn
      unfold l0 at mM
      split at mM
      ·rename_i fs hu
       refine .value hr h (v':=.pointer (some ⟨l.c,l.o+(off+fd.offset),none⟩)) (.ptr hl) ?_
       simp [Instr.fieldAt,run_underlying hu,mM,Instr.sureAddr,fieldPlace,bB hn,eJ,Nat.add_assoc]
      ·cases mM
     ·exact h.elim
    ·exact h.elim
  ·cases gX with
   | aU cS eW=>
    rename_i cs off c o xs
    split at h
    ·rename_i fd mM
     split at h
     ·rename_i n hn
      unfold l0 at mM
      split at mM
      ·rename_i fs hu
       refine .value hr h (v':=.pointer (some ⟨c,o+(off+fd.offset),none⟩)) (.aU cS eW) ?_
       simp [Instr.fieldAt,run_underlying hu,mM,Instr.sureAddr,fieldPlace,bB hn,eJ,Nat.add_assoc]
      ·cases mM
     ·exact h.elim
    ·exact h.elim
  ·cases gX with
   | fH hl=>
    rename_i b i esz off l
    split at h
    ·rename_i fd mM
     split at h
     ·rename_i n hn
      unfold l0 at mM
      split at mM
      ·rename_i fs hu
       refine .value hr h (v':=.pointer (some ⟨l.c,l.o+(i*esz+(off+fd.offset)),none⟩)) (.fH hl) ?_
       simp [Instr.fieldAt,run_underlying hu,mM,Instr.sureAddr,fieldPlace,bB hn,eJ,Nat.add_assoc]
      ·cases mM
     ·exact h.elim
    ·exact h.elim
  ·exact h.elim
 | field t x f=>
  rw[bY] at h
  obtain⟨xv,hx,h⟩:=cX h
  have gX:=ha.eval x hx
  unfold rG at h
  dsimp only
  generalize a'.eval x=x' at gX⊢
  split at h
  ·cases gX with
   | agg hc=>
    split at h
    ·rename_i fd mM
     obtain⟨v,hv,hp⟩:=dp h
     obtain⟨v',aE,aO⟩:=ke (P:=P) hc hv
     unfold l0 at mM
     split at mM
     ·rename_i fs hu
      exact .value hr hp aO (by simp [Instr.field,run_underlying hu,mM,asAgg,aE])
     ·cases mM
    ·exact h.elim
  ·exact h.elim
 | indexAddr t x ix=>
  rw[bY] at h
  obtain⟨xv,iv,hx,hi,h⟩:=gT h
  have gX:=ha.eval x hx
  have xn:=ha.eval ix hi
  unfold jU at h
  dsimp only
  generalize a'.eval x=x' at gX⊢
  generalize a'.eval ix=i' at xn⊢
  split at h
  ·rename_i b n esz k i
   cases xn
   unfold j8 at h
   split at h
   ·rename_i e he
    split at h
    ·rename_i sz bk
     split at h
     ·rename_i hc
      obtain⟨c1,c2,c3,c4⟩:=hc
      subst c3
      cases gX with
      | own hl pJ hN=>
       rename_i l cap
       refine .value hr h (v':=.pointer (some ⟨l.c,l.o+(i.toNat*sz+0),none⟩)) (.fH hl) ?_
       simp [Instr.indexAt,asIntOf,run_underlying (iz he),c1,c2,bB bk,eJ]
     ·exact h.elim
    ·exact h.elim
   ·exact h.elim
  ·rename_i n f esz ex nn k i
   cases xn
   unfold j7 at h
   split at h
   ·rename_i e he
    split at h
    ·rename_i sz bk
     split at h
     ·rename_i hc
      obtain⟨c1,c2,c3,c4⟩:=hc
      cases gX with
      | arr _ gX=>
       obtain⟨v',aE,aO⟩:=KU (P:=P) (k:=k) hr he bk c1 (by rw[bg];exact c2) c3 c4 (dB (f:=f) (i:=i.toNat) (by omega)) gX
       exact .value hr h aO (by simp [aE])
     ·exact h.elim
    ·exact h.elim
   ·exact h.elim
  ·rename_i b off len cap ex esz k i
   cases xn
   unfold px at h
   split at h
   ·rename_i e he
    split at h
    ·rename_i sz bk
     split at h
     ·rename_i hc
      obtain⟨c1,c2,c3⟩:=hc
      cases gX with
      | slice hl hex cW hN hn=>
       rename_i l off' cap'
       have ho:off'=l.o+off:=by
        cases ex with
        | true=>exact(hex rfl).2
        | false=>rcases(cW rfl).2 with h | h
                 ·exact h
                 ·omega
       refine .value hr h (v':=.pointer (some ⟨l.c,l.o+(off+i.toNat*sz),none⟩)) (.ptr hl) ?_
       simp [Instr.indexAt,asIntOf,run_underlying (iz he),c1,c2,bB bk,eJ,ho,Nat.add_assoc]
     ·exact h.elim
    ·exact h.elim
   ·exact h.elim
  ·rename_i es esz ex k i
   cases xn
   unfold pz at h
   split at h
   ·rename_i e he
    split at h
    ·rename_i sz bk
     split at h
     ·rename_i hc
      obtain⟨c1,c2,c3,c4⟩:=hc
      subst c3
      rw[aP] at c2
      split at h
      ·rename_i u q0
       rw[ea] at q0
       cases gX with
       | bX hu cS eW pJ hex=>
        rename_i c off cap xs
        have D4:ax (es.drop i.toNat)=(ax es).drop (i.toNat*sz):=np hu _
        have KV:es.drop i.toNat=u::es.drop (i.toNat+1):=by
         have bE:=(List.getElem?_eq_some_iff.1 q0)
         obtain⟨h1,h2⟩:=bE
         rw[List.drop_eq_getElem_cons h1,h2]
        have D5:u.cells.length=sz:=hu u (List.mem_of_getElem? q0)
        have aO:ay ρ u.cells ((xs.drop (i.toNat*sz)).take sz):=by
         have h1:=(cS.drop (i.toNat*sz)).take sz
         rw[←D4,KV,ca,←D5,List.take_left' rfl] at h1
         rw[←D5];exact h1
        refine .value hr h (v':=.pointer (some ⟨c,off+i.toNat*sz+0,none⟩)) (.aU aO fun k x hk=>?_) ?_
        ·rw[List.getElem?_take] at hk
         split at hk
         ·rw[List.getElem?_drop] at hk
          rw[Nat.add_assoc];exact eW _ x hk
         ·cases hk
        ·simp [Instr.indexAt,asIntOf,run_underlying (iz he),c1,c2,bB bk,eJ]
       | dP=>simp at q0
       | dt he=>simp at q0
      ·exact h.elim
     ·exact h.elim
    ·exact h.elim
   ·exact h.elim
  ·rename_i b off k i
   cases xn
   unfold py at h
   split at h
   ·rename_i n e he
    split at h
    ·rename_i sz bk
     split at h
     ·rename_i hc
      obtain⟨c1,c2⟩:=hc
      cases gX with
      | ptr hl=>
       rename_i l
       refine .value hr h (v':=.pointer (some ⟨l.c,l.o+(off+i.toNat*sz),none⟩)) (.ptr hl) ?_
       simp [Instr.indexAt,asIntOf,run_underlying (s7 he),c1,c2,bB bk,Instr.sureAddr,eJ,Nat.add_assoc]
     ·exact h.elim
    ·exact h.elim
   ·exact h.elim
  ·exact h.elim
 | index t x ix=>
  rw[bY] at h
  obtain⟨xv,iv,hx,hi,h⟩:=gT h
  have gX:=ha.eval x hx
  have xn:=ha.eval ix hi
  unfold pj at h
  dsimp only
  generalize a'.eval x=x' at gX⊢
  generalize a'.eval ix=i' at xn⊢
  split at h
  ·rename_i s k i
   cases xn;cases gX
   unfold mw at h
   split at h
   ·rename_i hu
    split at h
    ·rename_i hi0
     split at h
     ·rename_i c hc
      rw[ea] at hc
      refine .value hr h (.int _ _) ?_
      have hb:(⟨⟨s⟩⟩:ByteArray)[i.toNat]? =some c:=by
       obtain⟨hl,he⟩:=List.getElem?_eq_some_iff.1 hc
       rw[getElem?_pos _ _ (by exact hl)];exact congrArg some he
      simp [Instr.index,asIntOf,run_underlying hu,hi0,hb]
     ·exact h.elim
    ·exact h.elim
   ·exact h.elim
  ·rename_i cs k i
   cases xn
   cases gX with
   | agg dH=>
    unfold sN at h
    split at h
    ·rename_i n e he
     split at h
     ·rename_i sz bk
      split at h
      ·rename_i hc
       obtain⟨c1,c2⟩:=hc
       obtain⟨v,hv,hp⟩:=dp h
       obtain⟨v',aE,aO⟩:=ke (P:=P) dH hv
       exact .value hr hp aO (by simp [Instr.index,asIntOf,run_underlying (s7 he),c1,c2,bB bk,aE])
      ·exact h.elim
     ·exact h.elim
    ·exact h.elim
  ·exact h.elim
 | lookup t x k ok=>
  rw[bY] at h
  obtain⟨xv,kv,hx,hk,h⟩:=gT h
  obtain⟨v,v',hp,hv,aE⟩:=KQ hr h (ha.eval x hx) (ha.eval k hk)
  exact .value hr hp hv (by dsimp only;simp [aE])
 | mapUpdate t m k v=>
  rw[bY] at h
  obtain⟨mv,kv,hm,hk,h⟩:=gT h
  obtain⟨vv,hv,h⟩:=cX h
  obtain⟨σ',w',hp,aE,aF⟩:=uH hr h (ha.eval m hm) (ha.eval k hk) (ha.eval v hv)
  exact⟨_,_,_,_,_,hp,oe,aF,.inr ⟨rfl,by dsimp only;simp [aE]⟩⟩
 | mapEntry t m k=>rw[bY] at h;exact h.elim
 | entryStore t m s v=>rw[bY] at h;exact h.elim
 | range t x=>
  rw[bY] at h
  obtain⟨xv,hx,h⟩:=cX h
  obtain⟨v,σ',ρ',v',w',hp,hv,aE,aF⟩:=NH hr cg h (ha.eval x hx)
  exact⟨v,σ',ρ',v',w',hp,hv,aF,.inl (by dsimp only;simp [aE])⟩
 | next it s=>
  rw[bY] at h
  obtain⟨xv,hx,h⟩:=cX h
  obtain⟨v,σ',v',w',hp,hv,aE,aF⟩:=PF (P:=P) (ty:=o.type) (id:=id) hr h (ha.eval it hx)
  exact⟨v,σ',ρ,v',w',hp,hv,aF,.inl (by dsimp only;simp [aE])⟩
 | entry it=>
  rw[bY] at h
  obtain⟨xv,hx,h⟩:=cX h
  obtain⟨v,hv,hp⟩:=dp h
  obtain⟨v',aE,aO⟩:=NG (P:=P) hr hv (ha.eval it hx)
  exact .value hr hp aO (by dsimp only;simp [aE])
 | typeAssert x xt t ok=>
  rw[bY] at h
  obtain⟨xv,hx,h⟩:=cX h
  obtain⟨v,hv,hp⟩:=dp h
  obtain⟨v',aE,aO⟩:=KT (P:=P) (xt:=xt) hv (ha.eval x hx) w
  exact .value hr hp aO (by dsimp only;simp [aE])
 | extract x i=>
  rw[bY] at h
  obtain⟨xv,hx,h⟩:=cX h
  have gX:=ha.eval x hx
  unfold qu at h
  dsimp only
  generalize a'.eval x=x' at gX⊢
  split at h
  ·cases gX with
   | tuple gA=>
    obtain⟨v,hv,hp⟩:=dp h
    rw[ea] at hv
    obtain⟨v',m8,aO⟩:=gA.get i hv
    exact .value hr hp aO (by simp [Instr.extract,m8])
  ·exact h.elim
 | call c=>exact absurd bY (jc c)
 | go c=>rw[bY] at h;exact h.elim
 | defer c=>rw[bY] at h;exact h.elim
 | panic x=>rw[bY] at h;exact h.elim
 | send c x=>rw[bY] at h;exact h.elim
 | recv t c ok=>rw[bY] at h;exact h.elim
 | select cs b=>rw[bY] at h;exact h.elim
end
end Go.Ev
