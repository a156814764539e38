/- Proved: parts of the way: DrawB, DrawC, DrawD, DrawE, Draw. -/
import Derived.Test.YtbajncpfmemdgaaGreatDoorEvQ07
section
namespace Go.Ev
open Go
section
variable {P:Program} {ρ:aA} {id:Nat} {Rn:Task→St→Run} {ro:Option Nat}
noncomputable def fB (P:Program) (ops:List Oper) (o:Oper) (a:Act) (id:Nat) (σ:St):VS:=
 match o.guard with
 | none=>(m7 P o.op).f a σ id
 | some (j,want)=>match gl ops j with
  | none=>.ok (cI,σ)
  | some d=>match sQ want (a.tmps.get d) with
   | some true=>(m7 P o.op).f a σ id
   | some false=>.ok (cI,σ)
   | none=>.fail "guard"
theorem Ec (r:VS) (a:Act) (dst:Option Tmp):(r.bind (fT a)).bind (mz dst)=r.bind fun r=>mz dst (r.1,a,r.2):=by
 induction r with
 | ok x=>rfl
 | fail w=>rfl
 | pick n k ih=>
  show bw.pick n _=bw.pick n _
  congr 1
  funext i
  exact ih i
 | tr C hm he=>
  show bw.tr _ _ _=bw.tr _ _ _
  congr 1
theorem Ed {o:Op} (h:bC o=false) (a:Act) (σ:St):(jA P o).f Rn ro a σ id=((m7 P o).f a σ id).bind (fT a):=by
 cases o with
 | call c=>
  obtain⟨callee,nU,lO⟩:=c
  cases callee with
  | builtin b=>rfl
  | value f=>simp [bC] at h
  | invoke x name=>simp [bC] at h
 | defer c=>cases h
 | _=>rfl
theorem xX [Env] {ops:List Oper} {o:Oper} (h:bC o.op=false) (a:Act) (σ:St):(jB P ops o).f Rn ro a σ id=(fB P ops o a id σ).bind fun r=>mz o.dst (r.1,a,r.2):=by
 unfold jB fB
 cases hg:o.guard with
 | none=>
  dsimp only
  rw[Ed h,Ec]
 | some q=>
  obtain⟨j,want⟩:=q
  dsimp only
  cases hd:gl ops j with
  | none=>rfl
  | some d=>
   unfold yF
   dsimp only
   cases hb:sQ want (a.tmps.get d) with
   | none=>rfl
   | some b=>cases b with
    | true=>unfold rI;dsimp only;rw[Ed h,Ec]
    | false=>rfl
def y0 (L:List Tmp) (a b:Act):Prop:=∀t∈L,a.tmps.get t=b.tmps.get t
theorem y0.eval {ops:List Oper} {o:Oper} {a b:Act} (h:y0 (looks ops o) a b):∀x∈o.op.operands,a.eval x=b.eval x:=by
 intro x hx
 cases x with
 | tmp t=>
  refine h t (List.mem_append_left _ ?_)
  unfold Ng
  rw[List.mem_filterMap]
  exact⟨.tmp t,by simpa using hx,rfl⟩
 | _=>rfl
theorem qD {ops:List Oper} {o:Oper} {j:Nat} {want:Bool} (hg:o.guard=some (j,want)) {d:Tmp} (hd:gl ops j=some d):d∈looks ops o:=by
 refine List.mem_append_right _ ?_
 rw[hg]
 unfold gl at hd
 rw[ea] at hd
 show d∈((ops[j]?).bind (·.dst)).toList
 rw[hd];simp
theorem qE [Env] {ops:List Oper} {o:Oper} {a b:Act} (h:y0 (looks ops o) a b) (σ:St):fB P ops o a id σ=fB P ops o b id σ:=by
 unfold fB
 split
 ·exact vB o.op h.eval σ
 ·rename_i j want hg
  split
  ·rfl
  ·rename_i d hd
   rw[h d (qD hg hd),vB (P:=P) (id:=id) o.op h.eval σ]
theorem kl (ops:List Oper) (o:Oper) (a:Act) (id:Nat):(fB P ops o a id=fun σ=>(m7 P o.op).f a σ id)∨(fB P ops o a id=fun σ=>.ok (cI,σ))∨(fB P ops o a id=fun _=>.fail "guard"):=by
 unfold fB
 cases o.guard with
 | none=>exact .inl rfl
 | some q=>
  obtain⟨j,want⟩:=q
  dsimp only
  cases gl ops j with
  | none=>exact .inr (.inl rfl)
  | some d=>
   dsimp only
   cases sQ want (a.tmps.get d) with
   | none=>exact .inr (.inr rfl)
   | some b=>cases b with
    | true=>exact .inl rfl
    | false=>exact .inr (.inl rfl)
theorem Ee [Env] {ops:List Oper} {o:Oper} {a:Act} (h1:bC o.op=false) (hD:∀x∈o.op.operands,∀v,a.eval x=some v→∃x',au ρ v x'):iT id (cP ρ) (fB P ops o a id):=by
 rcases kl (P:=P) ops o a id with h | h | h<;>rw[h]
 ·exact KY o.op h1 hD
 ·exact(bZ.ok _).look _
 ·exact(bZ.fail _).look _
theorem Ef [Env] {ops:List Oper} {o:Oper} {a:Act} (h1:bC o.op=false) (h2:et P o.op=false) (h3:n5 o.op=false):bZ id (fB P ops o a id):=by
 rcases kl (P:=P) ops o a id with h | h | h<;>rw[h]
 ·exact tg o.op h1 h2 h3
 ·exact bZ.ok _
 ·exact bZ.fail _
theorem Eg [Env] {ops:List Oper} {o:Oper} {a:Act} {t:TypeId} {x:Operand} (ho:o.op=.load t x) {σ:St} {v:V} {τ:St} (h:fB P ops o a id σ=.ok (v,τ)):
  τ=σ∧∀σ',(∀pv,a.eval x=some pv→eC P σ' t pv=some v)→fB P ops o a id σ'=.ok (v,σ'):=by
 rcases kl (P:=P) ops o a id with hc | hc | hc<;>rw[hc] at h⊢
 ·rw[ho] at h⊢
  have key:∀σ,(m7 P (.load t x)).f a σ id=eH "load operand" (a.eval x) (pA P σ t):=fun _=>rfl
  dsimp only at h⊢
  rw[key] at h
  cases hx:a.eval x with
  | none=>rw[hx] at h;cases h
  | some pv=>
   rw[hx] at h
   have h':aQ σ "load" (eC P σ t pv)=.ok (v,τ):=h
   cases hl:eC P σ t pv with
   | none=>rw[hl] at h';cases h'
   | some u=>
    rw[hl] at h'
    cases h'
    refine⟨rfl,fun σ' hs=>?_⟩
    rw[key,hx]
    show aQ σ' "load" (eC P σ' t pv)=_
    rw[hs pv rfl];rfl
 ·cases h;exact⟨rfl,fun _ _=>rfl⟩
 ·cases h
theorem lP {a aY:Act} {dst:Option Tmp} {v:V} (h:a.put dst v=some aY):aY.size=a.size∧aY.defers=a.defers∧∀t,aY.tmps.get t=if dst=some t then some v else a.tmps.get t:=by
 cases dst with
 | none=>
  simp only[Act.put,Option.some.injEq] at h
  subst h
  exact⟨rfl,rfl,fun t=>by simp⟩
 | some d=>
  obtain⟨t,s,ds⟩:=a
  simp only[Act.put] at h
  cases hb:Nat.blt d s with
  | false=>simp [hb] at h
  | true=>
   simp only[hb,Option.some.injEq] at h
   subst h
   refine⟨rfl,rfl,fun u=>?_⟩
   show(t.put d v).get u=_
   rw[bK.b9]
   by_cases hu:u=d
   ·rw[if_pos hu,if_pos (by rw[hu])]
   ·rw[if_neg hu,if_neg (by intro e;cases e;exact hu rfl)]
theorem Eh {a aY b:Act} {dst:Option Tmp} {v u:V} (h:a.put dst v=some aY) (hs:b.size=a.size):∃dg,b.put dst u=some dg:=by
 cases dst with
 | none=>exact⟨b,rfl⟩
 | some d=>
  obtain⟨t,s,ds⟩:=a
  obtain⟨t',s',ds'⟩:=b
  have ob:s'=s:=hs
  subst ob
  simp only[Act.put] at h⊢
  cases hb:Nat.blt d s' with
  | false=>simp [hb] at h
  | true=>exact⟨_,rfl⟩
structure y4 (a b aT dd:Act):Prop where
 ta:aT.tmps=a.tmps
 sa:aT.size=a.size
 tb:dd.tmps=b.tmps
 sb:dd.size=b.size
 d:aT.defers=dd.defers
theorem Ei [Env] {o:Oper} {a b:Act} (ll:∀x∈o.op.operands,a.eval x=b.eval x) (hd:a.defers=b.defers) {σ:St} {q:V×Act×St→Prop} (h:((jA P o.op).f Rn ro a σ id).ar q):
  ((jA P o.op).f Rn ro b σ id).ar fun r=>∃aT,q (r.1,aT,r.2.2)∧y4 a b aT r.2.1:=by
 have plain:∀ {r:VS},(r.bind (fT a)).ar q→(r.bind (fT b)).ar fun r=>∃aT,q (r.1,aT,r.2.2)∧y4 a b aT r.2.1:=by
  intro r h
  exact bw.ar.dk (h.bind.mono fun x hx=>⟨a,hx,rfl,rfl,rfl,rfl,hd⟩)
 have An:∀ {r:Run},(r.bind (valOf a)).ar q→(r.bind (valOf b)).ar fun r=>∃aT,q (r.1,aT,r.2.2)∧y4 a b aT r.2.1:=by
  intro r h
  refine bw.ar.dk (h.bind.mono fun x hx=>?_)
  obtain⟨v,σ',rfl,hq⟩:=xo hx
  exact⟨a,hq,rfl,rfl,rfl,rfl,hd⟩
 by_cases eD:∃c,o.op=.call c
 ·obtain⟨c,bY⟩:=eD
  rw[bY] at h ll⊢
  show((wG P c).f Rn ro b σ id).ar _
  have h':((wG P c).f Rn ro a σ id).ar q:=h
  have nV:a.bQ c.args.toList=b.bQ c.args.toList:=lk _ fun x hx=>ll x (by simp only[Op.operands,Call.operands];split<;>simp_all)
  unfold wG at h'⊢
  split at h'
  ·rename_i f hc
   cases he:oR P f with
   | some e=>
    simp only[he] at h'⊢
    rw[nV] at h'
    exact plain h'
   | none=>
    simp only[he] at h'⊢
    have hf:a.eval f=b.eval f:=ll f (by simp [Op.operands,Call.operands,hc])
    rw[hf,nV] at h'
    unfold n6 at h'⊢
    split at h'
    ·exact An h'
    ·exact h'.elim
  ·rename_i x name hc
   dsimp only at h'⊢
   have hf:a.eval x=b.eval x:=ll x (by simp [Op.operands,Call.operands,hc])
   rw[hf,nV] at h'
   unfold oV at h'⊢
   split at h'
   ·unfold nN at h'⊢
    split at h'
    ·exact An h'
    ·exact h'.elim
   ·exact h'.elim
  ·dsimp only at h'⊢
   rw[nV] at h'
   exact plain h'
 by_cases D9:∃c,o.op=.defer c
 ·obtain⟨c,bY⟩:=D9
  rw[bY] at h ll⊢
  show((jM c).f Rn ro b σ id).ar _
  have h':((jM c).f Rn ro a σ id).ar q:=h
  have nV:a.bQ c.args.toList=b.bQ c.args.toList:=lk _ fun x hx=>ll x (by simp only[Op.operands,Call.operands];split<;>simp_all)
  unfold jM at h'⊢
  split at h'
  ·rename_i f hc
   dsimp only at h'⊢
   have hf:a.eval f=b.eval f:=ll f (by simp [Op.operands,Call.operands,hc])
   rw[hf,nV] at h'
   unfold DF at h'⊢
   split at h'
   ·split at h'
    ·obtain⟨t,s,ds⟩:=a
     obtain⟨t',s',ds'⟩:=b
     have vA:ds=ds':=hd
     subst vA
     exact⟨_,h',rfl,rfl,rfl,rfl,rfl⟩
    ·exact h'.elim
   ·exact h'.elim
  ·exact h'.elim
 have hc:∀c,o.op≠.call c:=fun c e=>eD ⟨c,e⟩
 have y5:∀c,o.op≠.defer c:=fun c e=>D9 ⟨c,e⟩
 rw[B7 hc y5] at h⊢
 have h2:(((m7 P o.op).f a σ id).bind (fT a)).ar q:=h
 rw[vB o.op ll σ] at h2
 exact plain h2
structure Ao (dst:Option Tmp) (a b aY dg:Act):Prop where
 sa:aY.size=a.size
 sb:dg.size=b.size
 d:aY.defers=dg.defers
 Tn:∀t,dst≠some t→aY.tmps.get t=a.tmps.get t
 KZ:∀t,dst≠some t→dg.tmps.get t=b.tmps.get t
 at_:∀t,dst=some t→aY.tmps.get t=dg.tmps.get t
theorem vG [Env] {ops:List Oper} {o:Oper} {a b:Act} (ll:y0 (looks ops o) a b) (hs:b.size=a.size) (hd:a.defers=b.defers) {σ:St} {q:Act×St→Prop} (h:((jB P ops o).f Rn ro a σ id).ar q):
  ((jB P ops o).f Rn ro b σ id).ar fun r=>∃aY,q (aY,r.2)∧Ao o.dst a b aY r.1:=by
 have PJ:∀ {v:V} {aT dd:Act} {aI:St},y4 a b aT dd→(mz o.dst (v,aT,aI)).ar q→(mz o.dst (v,dd,aI)).ar fun r=>∃aY,q (aY,r.2)∧Ao o.dst a b aY r.1:=by
  intro v aT dd aI hf h
  obtain⟨aY,hp,hq⟩:=wN h
  obtain⟨dg,pN⟩:=Eh (u:=v) hp (b:=dd) (by rw[hf.sb,hf.sa,hs])
  show(qY aI (dd.put o.dst v)).ar _
  rw[pN]
  obtain⟨x1,x2,x3⟩:=lP hp
  obtain⟨y1,y2,y3⟩:=lP pN
  refine⟨aY,hq,by rw[x1,hf.sa],by rw[y1,hf.sb],by rw[x2,y2,hf.d],fun t ht=>?_,fun t ht=>?_,fun t ht=>?_⟩
  ·rw[x3,if_neg ht,hf.ta]
  ·rw[y3,if_neg ht,hf.tb]
  ·rw[x3,y3,if_pos ht,if_pos ht]
 have run:((jA P o.op).f Rn ro a σ id).ar (fun x=>(mz o.dst x).ar q)→(((jA P o.op).f Rn ro b σ id).bind (mz o.dst)).ar fun r=>∃aY,q (aY,r.2)∧Ao o.dst a b aY r.1:=by
  intro h
  refine bw.ar.dk ((Ei ll.eval hd h).mono ?_)
  rintro⟨v,dd,aI⟩ ⟨aT,hq,hf⟩
  exact PJ hf hq
 unfold jB at h⊢
 split at h
 ·exact run h.bind
 ·rename_i j want hg
  unfold yF at h⊢
  split at h
  ·rename_i d y5
   dsimp only at h⊢
   rw[ll d (qD hg y5)] at h
   unfold rI at h⊢
   split at h
   ·exact run h.bind
   ·exact PJ (v:=cI) ⟨rfl,rfl,rfl,rfl,hd⟩ h
   ·exact h.elim
  ·exact PJ (v:=cI) ⟨rfl,rfl,rfl,rfl,hd⟩ h
end
end Go.Ev
end
section
namespace Go.Ev
open Go
theorem dK (a i j:Nat):(Nat.lor a (2^i)).testBit j=(a.testBit j||decide (i=j)):=by
 show(a||| 2^i).testBit j=_
 rw[Nat.testBit_or,Nat.testBit_two_pow]
theorem y6 {a b:Nat} (h:DE a b=true) {j:Nat} (hj:a.testBit j=true):b.testBit j=true:=by
 have e:(a||| b)=b:=Nat.eq_of_beq_eq_true h
 rw[←e,Nat.testBit_or,hj];rfl
theorem y7 {w:List Nat} {o:Oper} {j:Nat}:(yD w o).testBit j=true↔∃e∈o.after,Region.binds .any e=true∧(j=e.on∨(w.getD e.on 0).testBit j=true):=by
 have key:∀(l:List Edge) (s:Nat),(l.foldl (fun s e=>match Region.binds .any e with
   | true=>Nat.lor s (Nat.lor (2^e.on) (w.getD e.on 0))
   | false=>s) s).testBit j=true↔s.testBit j=true∨∃e∈l,Region.binds .any e=true∧(j=e.on∨(w.getD e.on 0).testBit j=true):=by
  intro l
  induction l with
  | nil=>intro s;simp
  | cons e l ih=>
   intro s
   rw[List.foldl_cons,ih]
   cases hb:Region.binds .any e with
   | false=>simp [hb]
   | true=>
    have:(Nat.lor s (Nat.lor (2^e.on) (w.getD e.on 0))).testBit j=(s.testBit j||(decide (e.on=j)||(w.getD e.on 0).testBit j)):=by
     show(s||| (2^e.on||| w.getD e.on 0)).testBit j=_
     rw[Nat.testBit_or,Nat.testBit_or,Nat.testBit_two_pow]
    rw[this]
    simp only[Bool.or_eq_true,decide_eq_true_eq,List.mem_cons,exists_eq_or_imp,hb,true_and]
    constructor
    ·rintro((h | h | h) | h)
     ·exact .inl h
     ·exact .inr (.inl (.inl h.symm))
     ·exact .inr (.inl (.inr h))
     ·exact .inr (.inr h)
    ·rintro(h | (h | h) | h)
     ·exact .inl (.inl h)
     ·exact .inl (.inr (.inl h.symm))
     ·exact .inl (.inr (.inr h))
     ·exact .inr h
 exact(key o.after.toList 0).trans (by simp)
structure nq (L:List Oper) (W:List Nat):Prop where
 wait:∀(i:Nat) (o:Oper),L[i]? =some o→W.getD i 0=yD W o
 XL:∀(i j:Nat) (oi oj:Oper) (t:Tmp),L[i]? =some oi→L[j]? =some oj→oi.dst=some t→oj.dst=some t→i=j
 data:∀(i j:Nat) (oi oj:Oper) (t:Tmp),L[i]? =some oi→L[j]? =some oj→oj.dst=some t→t∈looks L oi→i≠j∧((W.getD i 0).testBit j=true∨(bC oj.op=true∧(W.getD j 0).testBit i=true))
theorem Ap:∀ {l:List (Option Tmp)},l5 l=true→∀(i j:Nat) (t:Tmp),l[i]? =some (some t)→l[j]? =some (some t)→i=j:=by
 intro l
 induction l with
 | nil=>intro _ i j t h;simp at h
 | cons x l ih=>
  intro h i j t hi hj
  have mem:∀k,l[k]? =some (some t)→some t∈l:=fun k hk=>List.mem_of_getElem? hk
  cases x with
  | none=>
   have h':l5 l=true:=h
   cases i with
   | zero=>simp at hi
   | succ i=>cases j with
    | zero=>simp at hj
    | succ j=>rw[ih h' i j t (by simpa using hi) (by simpa using hj)]
  | some u=>
   have h':(!l.contains (some u)&&l5 l)=true:=h
   rw[Bool.and_eq_true] at h'
   have hu:some u∉l:=by simpa using h'.1
   cases i with
   | zero=>cases j with
    | zero=>rfl
    | succ j=>
     simp at hi;subst hi
     exact absurd (mem j (by simpa using hj)) hu
   | succ i=>cases j with
    | zero=>
     simp at hj;subst hj
     exact absurd (mem i (by simpa using hi)) hu
    | succ j=>rw[ih h'.2 i j t (by simpa using hi) (by simpa using hj)]
theorem G5 [Env] {P:Program} {L:List Oper} {l:List Item} (h:k9 P L=some l):∃W,nq L W∧dF P L W 0 [] l=true:=by
 unfold k9 at h
 dsimp only at h
 split at h
 ·rename_i hb
  cases h
  simp only[Bool.and_eq_true] at hb
  obtain⟨⟨⟨_,hw⟩,hd⟩,hp⟩:=hb
  have bE:∀ {i:Nat} {o:Oper},L[i]? =some o→i∈List.range L.length:=fun h=>List.mem_range.2 (List.getElem?_eq_some_iff.1 h).1
  refine⟨_,⟨fun i o hi=>?_,fun i j oi oj t hi hj h1 h2=>?_,fun i j oi oj t hi hj h1 h2=>?_⟩,hp⟩
  ·unfold BY at hw
   have:=List.all_eq_true.1 hw i (bE hi)
   rw[hi] at this
   exact Nat.eq_of_beq_eq_true this
  ·unfold ve at hd
   rw[Bool.and_eq_true] at hd
   exact Ap hd.1 i j t (by simp [hi,h1]) (by simp [hj,h2])
  ·unfold ve at hd
   rw[Bool.and_eq_true] at hd
   have:=List.all_eq_true.1 hd.2 i (bE hi)
   rw[hi] at this
   have:=List.all_eq_true.1 this j (bE hj)
   rw[hj] at this
   dsimp only at this
   unfold BZ at this
   rw[h1] at this
   simp only[Bool.or_eq_true,Bool.and_eq_true,Bool.not_eq_true'] at this
   rcases this with ⟨a,b⟩ | a
   ·exact⟨fun e=>by rw[e] at a;simp at a,b⟩
   ·exact absurd h2 (by simpa using a)
 ·cases h
theorem dj [Env] {P:Program} {L:List Oper} {W:List Nat} {dn:Nat} {ef:List Nat} {it:Item} {R:List Item} (h:dF P L W dn ef (it::R)=true):
  ∃o,L[it.i]? =some o∧dn.testBit it.i=false∧(∀j,(W.getD it.i 0).testBit j=true→dn.testBit j=true)∧
   (bC o.op=true→(∀j,dn.testBit j=true→(W.getD it.i 0).testBit j=true)∧dF P L W (Nat.lor dn (2^it.i)) (it.i::ef) R=true)∧
   (bC o.op=false→vd (W.getD it.i 0) it.back ef=true∧(it.back=0∨sP P o.op=true∨et P o.op=false)∧dF P L W (Nat.lor dn (2^it.i)) ef R=true):=by
 unfold dF at h
 split at h
 ·cases h
 ·rename_i o ho
  simp only[Bool.and_eq_true,Bool.not_eq_true'] at h
  obtain⟨⟨h1,h2⟩,h3⟩:=h
  refine⟨o,ho,h1,fun j hj=>y6 h2 hj,fun he=>?_,fun he=>?_⟩
  ·rw[he] at h3
   simp only[Bool.and_eq_true] at h3
   exact⟨fun j hj=>y6 h3.1 hj,h3.2⟩
  ·rw[he] at h3
   simp only[Bool.and_eq_true,Bool.or_eq_true,Bool.not_eq_true'] at h3
   refine⟨h3.1.1,?_,h3.2⟩
   rcases h3.1.2 with (a | a) | a
   ·exact .inl (Nat.eq_of_beq_eq_true a)
   ·exact .inr (.inl a)
   ·exact .inr (.inr a)
theorem nr [Env] {P:Program} {L:List Oper} {W:List Nat}:∀ {D:List Item} {dn:Nat} {ef:List Nat},dF P L W dn ef D=true→∀i,i<L.length→dn.testBit i=false→∃D1 it D2,D=D1++it::D2∧it.i=i:=by
 intro D
 induction D with
 | nil=>
  intro dn ef h i hi hd
  have h':(List.range L.length).all dn.testBit=true:=h
  have:=List.all_eq_true.1 h' i (List.mem_range.2 hi)
  rw[hd] at this;cases this
 | cons it D ih=>
  intro dn ef h i hi hd
  obtain⟨o,_,_,_,h1,h2⟩:=dj h
  by_cases e:it.i=i
  ·exact⟨[],it,D,rfl,e⟩
  ·have vA:(Nat.lor dn (2^it.i)).testBit i=false:=by rw[dK,hd];simp [e]
   have:∃vH,dF P L W (Nat.lor dn (2^it.i)) vH D=true:=by
    cases he:bC o.op with
    | true=>exact⟨_,(h1 he).2⟩
    | false=>exact⟨_,(h2 he).2.2⟩
   obtain⟨vH,hp⟩:=this
   obtain⟨D1,DX,D2,rfl,eW⟩:=ih hp i hi vA
   exact⟨it::D1,DX,D2,rfl,eW⟩
section
variable {P:Program} {ρ:aA} {Rn:Task→St→Run} {ro:Option Nat}
def CH (P:Program) (Rn:Task→St→Run) (ro:Option Nat) (L:List Oper) (base:Nat) (p:Out×St→Prop) (D:List Item) (S:List St) (a:Act) (σ:St):Prop:=
 ((la P L D).f Rn ro base S a σ).ar p
theorem Aq [Env] {L:List Oper} {base:Nat} {p:Out×St→Prop} {it:Item} {D:List Item} {S:List St} {a:Act} {σ:St} (h:CH P Rn ro L base p (it::D) S a σ):
  ∃o,L[it.i]? =some o∧((jB P L o).f Rn ro a σ (base+it.i)).ar fun r=>
   (it.back=0∨eP P (ow L o a) it.back S a (mB r.1 o.dst) o.op=true)∧CH P Rn ro L base p D (l7 (bC o.op) r.2 S) r.1 r.2:=by
 have h':((vf P L it (la P L D) (nth L it.i)).f Rn ro base S a σ).ar p:=h
 rw[ea] at h'
 cases ho:L[it.i]? with
 | none=>rw[ho] at h';exact h'.elim
 | some o=>
  rw[ho] at h'
  refine⟨o,rfl,?_⟩
  have xm:(((jB P L o).f Rn ro a σ (Nat.add base it.i)).bind (Nh P L o it.back a S ((la P L D).f Rn ro base))).ar p:=h'
  refine xm.bind.mono ?_
  rintro⟨aY,bL⟩ hx
  have cS:(match Nat.beq it.back 0||eP P (ow L o a) it.back S a (mB aY o.dst) o.op with
   | true=>(la P L D).f Rn ro base (l7 (bC o.op) bL S) aY bL
   | false=>.fail "a load and a write, in either order":Run).ar p:=hx
  split at cS
  ·rename_i hb
   rw[Bool.or_eq_true] at hb
   exact⟨hb.imp Nat.eq_of_beq_eq_true id,cS⟩
  ·exact cS.elim
theorem G6 [Env] {t:TypeId} {x v:V}:∀ {k:Nat} {l:List St},yE P t x v k l=true→∀j,j<k→∃τ,l[j]? =some τ∧eC P τ t x=some v:=by
 intro k
 induction k with
 | zero=>intro l _ j hj;omega
 | succ k ih=>
  intro l h j hj
  cases l with
  | nil=>cases h
  | cons τ l=>
   have h':((match eC P τ t x with | some u=>V.beq u v | none=>false)&&yE P t x v k l)=true:=h
   rw[Bool.and_eq_true] at h'
   cases j with
   | zero=>
    refine⟨τ,rfl,?_⟩
    cases hl:eC P τ t x with
    | none=>rw[hl] at h';cases h'.1
    | some u=>rw[hl] at h';rw[V.beq_eq h'.1]
   | succ j=>exact ih h'.2 j (by omega)
theorem Ar [Env] {back:Nat} {S:List St} {a:Act} {v:Option V} {t:TypeId} {x:Operand} (h:eP P false back S a v (.load t x)=true):
  ∃pv u,a.eval x=some pv∧v=some u∧(((∃cs o,pv=.aU cs o)∧∀j,j≤back→∃τ,S[j]? =some τ)∨∀j,1≤j→j≤back→∃τ,S[j]? =some τ∧eC P τ t pv=some u):=by
 unfold eP at h
 dsimp only at h
 split at h
 ·rename_i cs o u hx
  refine⟨_,u,hx,rfl,.inl ⟨⟨cs,o,rfl⟩,fun j hj=>?_⟩⟩
  have h':back+1≤len S:=Nat.le_of_ble_eq_true h
  rw[aP] at h'
  exact⟨_,List.getElem?_eq_getElem (by omega)⟩
 ·rename_i pv u _ hx
  refine⟨pv,u,hx,rfl,.inr fun j h1 h2=>?_⟩
  rw[er] at h
  obtain⟨τ,jN,hl⟩:=G6 h (j-1) (by omega)
  refine⟨τ,?_,hl⟩
  rw[List.getElem?_drop] at jN
  rw[show j=1+(j-1) by omega];exact jN
 ·cases h
theorem CQ [Env] {back:Nat} {S:List St} {a:Act} {v:Option V} {t:TypeId} {x:Operand} (h:eP P true back S a v (.load t x)=true) (j:Nat) (hj:j≤back):∃τ,S[j]? =some τ:=by
 have h':back+1≤len S:=Nat.le_of_ble_eq_true h
 rw[aP] at h'
 exact⟨_,List.getElem?_eq_getElem (by omega)⟩
theorem HG [Env] {ops:List Oper} {o:Oper} {a:Act} {id:Nat} (h:ow ops o a=true):fB P ops o a id=fun σ=>.ok (cI,σ):=by
 unfold ow at h
 unfold fB
 split at h
 ·cases h
 ·rename_i j want hg
  rw[hg]
  dsimp only
  split at h
  ·rename_i hs;rw[hs]
  ·rename_i d hs
   rw[hs]
   dsimp only
   split at h
   ·rename_i hv;rw[hv]
   ·cases h
theorem As [Env] {off:Bool} {back:Nat} {S:List St} {a:Act} {v:Option V} {s d:TypeId} {x:Operand} (hc:nM P s d=true) (h:eP P off back S a v (.convert s d x)=true):
  (∀j,j≤back→∃τ,S[j]? =some τ)∧(off=true∨∃es esz ex,a.eval x=some (.bX es esz ex)):=by
 unfold eP at h
 dsimp only at h
 rw[hc] at h
 dsimp only at h
 split at h
 ·cases h
 ·rename_i hb
  have bA:back+1≤len S:=Nat.le_of_ble_eq_true hb
  rw[aP] at bA
  refine⟨fun j hj=>⟨_,List.getElem?_eq_getElem (by omega)⟩,?_⟩
  split at h
  ·exact .inl rfl
  ·split at h
   ·rename_i es esz ex hx;exact .inr ⟨_,_,_,hx⟩
   ·cases h
theorem PK [Env] {s d:TypeId} (hc:nM P s d=true) {σ τ:St} {id:Nat} {es:List V} {esz:Nat} {ex:Bool} {v:V} (h:dw P σ id s d (.bX es esz ex)=.ok (v,τ)):∀σ',dw P σ' id s d (.bX es esz ex)=.ok (v,σ'):=by
 intro σ'
 unfold nM at hc
 split at hc
 ·rename_i e h1 h2
  unfold dw evalConv at h⊢
  rw[h1,h2] at h⊢
  dsimp only at h⊢
  cases he:P.underlying e with
  | none=>rw[he] at h;cases h
  | some de=>
   rw[he] at h
   cases de with
   | int k=>cases k<;>first
    | (cases h;done)
    | (dsimp only at h⊢
       cases hb:Nat.beq esz 1 with
       | false=>rw[hb] at h;cases h
       | true=>
        rw[hb] at h
        dsimp only at h⊢
        cases pK:eI (ax es) with
        | none=>rw[pK] at h;cases h
        | some l=>rw[pK] at h;cases h;rfl)
   | _=>cases h
 ·cases hc
theorem NM [Env] {s d:TypeId} (hc:nM P s d=true) {σ τ:St} {id:Nat} {x v:V} (h:dw P σ id s d x=.ok (v,τ)):τ=σ:=by
 unfold nM at hc
 split at hc
 ·rename_i e h1 h2
  unfold dw evalConv at h
  rw[h1,h2] at h
  cases x<;>dsimp only at h<;>first
   | (cases h;done)
   | (repeat' split at h
      all_goals first
       | (cases h;done)
       | (cases h;rfl)
       | (rename_i s' ob
          revert h
          cases eI _<;>intro h<;>cases h<;>rfl))
 ·cases hc
theorem Ej [Env] {ops:List Oper} {o:Oper} {a:Act} {id:Nat} (hr:sP P o.op=true) {σ:St} {v:V} {τ:St} (h:fB P ops o a id σ=.ok (v,τ)):τ=σ:=by
 cases bY:o.op<;>rw[bY] at hr<;>first
  | (cases hr;done)
  | exact(Eg bY h).1
  | (rename_i s d x
     have hc:nM P s d=true:=hr
     rcases kl (P:=P) ops o a id with e | e | e<;>rw[e] at h
     ·rw[bY] at h
      have h':eH "convert operand" (a.eval x) (dw P σ id s d)=.ok (v,τ):=h
      cases hx:a.eval x with
      | none=>rw[hx] at h';cases h'
      | some xv=>rw[hx] at h';exact NM hc h'
     ·cases h;rfl
     ·cases h)
theorem PL [Env] {ops:List Oper} {o:Oper} {a:Act} {id:Nat} {s d:TypeId} {x:Operand} (bY:o.op=.convert s d x) (hc:nM P s d=true) {es:List V} {esz:Nat} {ex:Bool} (hx:a.eval x=some (.bX es esz ex)) {σ:St} {v:V} {τ:St}
  (h:fB P ops o a id σ=.ok (v,τ)):∀σ',fB P ops o a id σ'=.ok (v,σ'):=by
 rcases kl (P:=P) ops o a id with e | e | e<;>rw[e] at h⊢
 ·intro σ'
  rw[bY] at h⊢
  have h':eH "convert operand" (a.eval x) (dw P σ id s d)=.ok (v,τ):=h
  show eH "convert operand" (a.eval x) (dw P σ' id s d)=.ok (v,σ')
  rw[hx] at h'⊢
  exact PK hc h' σ'
 ·cases h;intro σ';rfl
 ·cases h
theorem PM [Env] {ops:List Oper} {o:Oper} {a:Act} {id:Nat} {t:TypeId} {x:Operand} (bY:o.op=.load t x) {cs:List V} {off:Nat} (hx:a.eval x=some (.aU cs off)) {σ:St} {v:V} {τ:St}
  (h:fB P ops o a id σ=.ok (v,τ)):∀σ',fB P ops o a id σ'=.ok (v,σ'):=by
 rcases kl (P:=P) ops o a id with e | e | e<;>rw[e] at h⊢
 ·intro σ'
  rw[bY] at h⊢
  have h':eH "load operand" (a.eval x) (pA P σ t)=.ok (v,τ):=h
  show eH "load operand" (a.eval x) (pA P σ' t)=.ok (v,σ')
  rw[hx] at h'⊢
  have h2:aQ σ "load" (eC P σ t (.aU cs off))=.ok (v,τ):=h'
  show aQ σ' "load" (eC P σ' t (.aU cs off))=.ok (v,σ')
  have e:eC P σ' t (.aU cs off)=eC P σ t (.aU cs off):=by
   unfold eC
   cases sH P t with
   | none=>rfl
   | some g=>cases g<;>cases bV P t<;>rfl
  rw[e]
  cases hl:eC P σ t (.aU cs off) with
  | none=>rw[hl] at h2;cases h2
  | some u=>rw[hl] at h2;cases h2;rfl
 ·cases h;intro σ';rfl
 ·cases h
theorem NN [Env] {ops:List Oper} {o:Oper} {a:Act} {id:Nat} (h1:bC o.op=false) {σ:St} {q:V×St→Prop} (h:(fB P ops o a id σ).ar q):∃v κ,q (v,σ.ext id κ):=by
 have C7:∀ {gz:String} {x:Option V},(aQ σ gz x).ar q→∃v κ,q (v,σ.ext id κ):=fun h=>let ⟨v,_,hq⟩:=dp h;⟨v,none,hq⟩
 rcases kl (P:=P) ops o a id with hc | hc | hc<;>rw[hc] at h
 ·by_cases hr:n5 o.op=true
  ·cases bY:o.op<;>rw[bY] at hr h<;>try (cases hr;done)
   obtain⟨xv,_,h⟩:=cX h
   exact C7 h
  ·by_cases hl:et P o.op=true
   ·cases bY:o.op<;>rw[bY] at hl h h1<;>try (cases hl;done)
    case binOp op t x y yt=>
     obtain⟨xv,yv,_,_,h⟩:=gT h
     exact C7 h
    case slice t x lo hi mx=>
     obtain⟨xv,_,h⟩:=cX h
     unfold fS at h
     split at h
     ·split at h
      ·exact C7 h
      ·exact C7 h
     ·exact h.elim
    case convert s d x=>
     obtain⟨xv,_,h⟩:=cX h
     obtain⟨⟨v,aI⟩,bf,hq⟩:=bw.ar.of h
     unfold evalConv at bf
     split at bf
     ·cases bf;exact⟨_,none,hq⟩
     ·cases bf;exact⟨_,none,hq⟩
     ·split at bf
      ·split at bf
       ·cases bf;exact⟨_,none,hq⟩
       ·cases bf
      ·cases bf
     ·cases bf;exact⟨_,none,hq⟩
     ·split at bf
      ·split at bf
       ·cases bf;exact⟨_,some _,hq⟩
       ·cases bf
      ·cases bf
     ·split at bf
      ·cases bf;exact⟨_,none,hq⟩
      ·cases bf
     ·split at bf
      ·split at bf
       ·rw[Option.map_eq_some_iff] at bf
        obtain⟨s,_,he⟩:=bf
        cases he
        exact⟨_,none,hq⟩
       ·cases bf
      ·cases bf
     ·split at bf
      ·split at bf
       ·rw[Option.map_eq_some_iff] at bf
        obtain⟨s,_,he⟩:=bf
        cases he
        exact⟨_,none,hq⟩
       ·cases bf
      ·cases bf
     ·split at bf
      ·split at bf
       ·split at bf
        ·rw[Option.map_eq_some_iff] at bf
         obtain⟨s,_,he⟩:=bf
         cases he
         exact⟨_,none,hq⟩
        ·cases bf
       ·cases bf
      ·cases bf
     ·cases bf
    case lookup t x k ok=>
     obtain⟨xv,yv,_,_,h⟩:=gT h
     unfold gv at h
     split at h
     ·split at h
      ·split at h
       ·exact⟨_,none,h⟩
       ·split at h
        ·exact⟨_,none,h⟩
        ·exact h.elim
       ·exact h.elim
      ·exact h.elim
     ·exact h.elim
    case call c=>
     obtain⟨callee,nU,lO⟩:=c
     cases callee with
     | builtin b=>
      cases b<;>try (simp [et] at hl;done)
      have h':(iw P σ id .len lO.toList (a.bQ nU.toList)).ar q:=h
      cases hv:a.bQ nU.toList with
      | none=>rw[hv] at h';exact h'.elim
      | some vs=>
       rw[hv] at h'
       obtain⟨⟨v,aI⟩,bf,hq⟩:=bw.ar.of h'
       rcases vD:lO.toList with _ | ⟨t,l⟩
       ·rw[vD] at bf;rcases vs with _ | ⟨x,_ | ⟨y,_⟩⟩<;>cases bf
       ·rw[vD] at bf
        rcases vs with _ | ⟨x,_ | ⟨y,r⟩⟩
        ·cases bf
        ·have vE:(eT P σ t x).map (·,σ)=some (v,aI):=bf
         rw[Option.map_eq_some_iff] at vE
         obtain⟨u,hu,he⟩:=vE
         cases he
         exact⟨_,none,hq⟩
        ·cases bf
     | value f=>simp [et] at hl
     | invoke x name=>simp [et] at hl
   ·obtain⟨v,κ,hq,_⟩:=tg (P:=P) (id:=id) (a:=a) o.op h1 (by simpa using hl) (by simpa using hr) σ q h
    exact⟨v,κ,hq⟩
 ·exact⟨_,none,h⟩
 ·exact h.elim
end
end Go.Ev
end
section
namespace Go.Ev
open Go
def cN (l:Array Bool) (i:Nat):Prop:=l.getD i true=true
def Rec (P:Program) (L:List Oper) (W:List Nat) (base:Nat) (effs:List Nat) (snaps:List St) (b:Act) (bj:St) (i:Nat) (o:Oper):Prop:=
 ∃v,(∀t,o.dst=some t→b.tmps.get t=some v)∧
  (fB P L o b (base+i) (bj.kill (base+i))=.ok (v,(bj.kill (base+i)).ext (base+i) (bj.heap.get (base+i)))∨
   (∀σ',fB P L o b (base+i) σ'=.ok (v,σ'.ext (base+i) (bj.heap.get (base+i))))∨
   (sP P o.op=true∧bj.heap.get (base+i)=none∧∃j τ,snaps[j]? =some τ∧1≤j∧(∀f∈effs.take j,(W.getD i 0).testBit f=false)∧∀u jf,fB P L o b (base+i) τ=.ok (u,jf)→u=v))
structure th [Env] (P:Program) (L:List Oper) (W:List Nat) (base:Nat) (listed:Array Bool) (done:Nat) (effs:List Nat) (snaps:List St) (σ:St) (b:Act) (bj:St) (ρ:aA) (a':Go.Act) (w:World):Prop where
 closed:∀i,i<L.length→cN listed i→∀j,(W.getD i 0).testBit j=true→j<L.length∧cN listed j
 ne:∀(i:Nat) (o:Oper),L[i]? =some o→cN listed i→done.testBit i=false→bC o.op=false
 rel:R ρ bj w
 act:bD ρ b a'
 head:∃r,snaps=σ::r
 len:snaps.length=effs.length+1
 sub:∀c k,σ.heap.get c=some k→bj.heap.get c=some k
 fresh:∀i,i<L.length→done.testBit i=false→σ.heap.get (base+i)=none
 jn:∀i,i<L.length→¬cN listed i→ρ (base+i)=none
 PN:∀(i:Nat) (o:Oper),L[i]? =some o→cN listed i→done.testBit i=false→Rec P L W base effs snaps b bj i o
structure ti (P:Program) (Rn:Task→St→Run) (ro:Option Nat) (p:Out×St→Prop) (L:List Oper) (W:List Nat) (base:Nat) (listed:Array Bool) (done:Nat) (effs:List Nat) (snaps:List St) (b:Act) (bj:St) (ρ:aA)
  (D:List Item) (dn:Nat) (ef:List Nat) (S:List St) (aT:Act) (aI:St):Prop where
 lQ:dF P L W dn ef D=true
 holds:CH P Rn ro L base p D S aT aI
 mono:(∀i,done.testBit i=true→dn.testBit i=true)∧∀j k,dn.testBit j=true→(W.getD j 0).testBit k=true→dn.testBit k=true
 pre:∃ep sp,ef=ep++effs∧S=sp++snaps∧ep.length=sp.length∧(∀f∈ep,f<L.length∧¬cN listed f)∧
  (ep=[]→dN (cP ρ) aI bj∧∀j,j<L.length→dn.testBit j=false→aI.heap.get (base+j)=none)
 sz:aT.size=b.size
 o5:∀t,(∀(j:Nat) (o:Oper),L[j]? =some o→¬cN listed j→dn.testBit j=true→o.dst≠some t)→(∀(j:Nat) (o:Oper),L[j]? =some o→cN listed j→dn.testBit j=false→o.dst≠some t)→aT.tmps.get t=b.tmps.get t
theorem iO [Env] (σ:St) (c b:Nat):(σ.kill c).heap.get b=if b=c then none else σ.heap.get b:=by
 rw[l9,Trie.b9]
theorem iq [Env] (σ:St) (c:Nat) (k:bU) (b:Nat):(σ.new c k).heap.get b=if b=c then some k else σ.heap.get b:=by
 rw[fU,Trie.b9]
theorem ext_get [Env] (σ:St) (c:Nat) (κ:Option bU) (b:Nat) (h:σ.heap.get c=none):(σ.ext c κ).heap.get b=if b=c then κ else σ.heap.get b:=by
 cases κ with
 | none=>
  show σ.heap.get b=_
  by_cases e:b=c
  ·rw[if_pos e,e,h]
  ·rw[if_neg e]
 | some k=>exact iq σ c k b
theorem wO [Env] {σ:St} {c:Nat} {κ xq:Option bU} (h:σ.heap.get c=none) (e:σ.ext c κ=σ.ext c xq):κ=xq:=by
 have h1:=ext_get σ c κ c h
 have h2:=ext_get σ c xq c h
 rw[if_pos rfl] at h1 h2
 rw[←h1,←h2,e]
section
variable {P:Program} {Rn:Task→St→Run} {ro:Option Nat} {p:Out×St→Prop} {L:List Oper} {W:List Nat} {base:Nat} {listed:Array Bool} {done:Nat} {effs:List Nat} {snaps:List St} {σ:St} {b:Act} {bj:St} {ρ:aA} {a':Go.Act} {w:World}
variable {D:List Item} {dn:Nat} {ef:List Nat} {S:List St} {aT:Act} {aI:St} {it:Item} {o:Oper}
theorem iE {i:Nat} {o:Oper} (h:L[i]? =some o):i<L.length:=(List.getElem?_eq_some_iff.1 h).1
theorem y8 [Env] (hp:nq L W) (hB:th P L W base listed done effs snaps σ b bj ρ a' w) (hw:ti P Rn ro p L W base listed done effs snaps b bj ρ (it::D) dn ef S aT aI) (ho:L[it.i]? =some o)
  (hW:∀j,(W.getD it.i 0).testBit j=true→j<L.length∧cN listed j):y0 (looks L o) aT b:=by
 intro t ht
 obtain⟨_,_,XM,mN,_⟩:=dj hw.lQ
 refine hw.o5 t (fun j oj hj hl iF hd=>?_) (fun j oj hj dx mf hd=>?_)
 ·rcases(hp.data _ _ _ _ _ ho hj hd ht).2 with h | ⟨_,h⟩
  ·exact hl (hW j h).2
  ·rw[hw.mono.2 j _ iF h] at XM;cases XM
 ·rcases(hp.data _ _ _ _ _ ho hj hd ht).2 with h | ⟨h,_⟩
  ·have:=mN j h
   rw[mf] at this;cases this
  ·have mO:done.testBit j=false:=by
    cases hd2:done.testBit j with
    | false=>rfl
    | true=>rw[hw.mono.1 j hd2] at mf;cases mf
   rw[hB.ne j oj hj dx mO] at h;cases h
theorem At {ep:List Nat} {k:Nat} (hb:vd (W.getD it.i 0) it.back (ep++effs)=true) (uI:∀f∈ep,f<L.length∧¬cN listed f)
  (hW:∀j,(W.getD it.i 0).testBit j=true→j<L.length∧cN listed j) (hk:k≤effs.length) (hf:∀f∈effs.take k,(W.getD it.i 0).testBit f=false):ep.length+k≤it.back:=by
 rcases Nat.lt_or_ge it.back (ep.length+k) with bE | pO
 ·exfalso
  have hl:it.back<(ep++effs).length:=by rw[List.length_append];omega
  unfold vd at hb
  rw[List.drop_eq_getElem_cons hl] at hb
  dsimp only at hb
  by_cases h1:it.back<ep.length
  ·rw[List.getElem_append_left h1] at hb
   exact(uI _ (List.getElem_mem h1)).2 (hW _ hb).2
  ·rw[List.getElem_append_right (by omega)] at hb
   have hi:it.back-ep.length<effs.length:=by rw[List.length_append] at hl;omega
   have hm:effs[it.back-ep.length]∈effs.take k:=by
    rw[List.mem_take_iff_getElem]
    exact⟨it.back-ep.length,by omega,rfl⟩
   rw[hf _ hm] at hb;cases hb
 ·exact pO
theorem xY {P:Program} {o:Op} (h:¬sP P o=true):n5 o=false:=by
 cases o<;>first
  | rfl
  | exact absurd rfl h
theorem Ek [Env] (hp:nq L W) (hB:th P L W base listed done effs snaps σ b bj ρ a' w) (hw:ti P Rn ro p L W base listed done effs snaps b bj ρ (it::D) dn ef S aT aI)
  (ho:L[it.i]? =some o) (bS:bC o.op=false) (hW:∀j,(W.getD it.i 0).testBit j=true→j<L.length∧cN listed j):
  ∃u κ aY,aT.put o.dst u=some aY∧CH P Rn ro L base p D S aY (aI.ext (base+it.i) κ)∧fB P L o b (base+it.i) aI=.ok (u,aI.ext (base+it.i) κ)∧
   (∀σ',dN (cP ρ) aI σ'→fB P L o b (base+it.i) σ'=.ok (u,σ'.ext (base+it.i) κ))∧
   (et P o.op=false→n5 o.op=false→∀σ',fB P L o b (base+it.i) σ'=.ok (u,σ'.ext (base+it.i) κ))∧
   (sP P o.op=true→aI.ext (base+it.i) κ=aI∧(it.back≠0→∀j,1≤j→j≤it.back→∃τ,S[j]? =some τ∧∀σ',dN (cP ρ) τ σ'→fB P L o b (base+it.i) σ'=.ok (u,σ'))):=by
 obtain⟨o',ko,aF⟩:=Aq hw.holds
 rw[ho] at ko;cases ko
 have ll:=y8 hp hB hw ho hW
 rw[xX bS] at aF
 have aF:=aF.bind
 have xr:∀x∈o.op.operands,∀v,b.eval x=some v→∃x',au ρ v x':=fun x _ v h=>⟨_,hB.act.eval x h⟩
 rw[qE (P:=P) ll] at aF
 have key:∃u κ,(mz o.dst (u,aT,aI.ext (base+it.i) κ)).ar (fun r=>(it.back=0∨eP P (ow L o aT) it.back S aT (mB r.1 o.dst) o.op=true)∧CH P Rn ro L base p D (l7 (bC o.op) r.2 S) r.1 r.2)∧
   fB P L o b (base+it.i) aI=.ok (u,aI.ext (base+it.i) κ)∧(∀σ',dN (cP ρ) aI σ'→fB P L o b (base+it.i) σ'=.ok (u,σ'.ext (base+it.i) κ))∧
   (et P o.op=false→n5 o.op=false→∀σ',fB P L o b (base+it.i) σ'=.ok (u,σ'.ext (base+it.i) κ)):=by
  by_cases vI:et P o.op=false∧n5 o.op=false
  ·obtain⟨u,κ,hq,cH⟩:=Ef (P:=P) (id:=base+it.i) (ops:=L) (a:=b) bS vI.1 vI.2 aI _ aF
   exact⟨u,κ,hq,cH aI,fun σ' _=>cH σ',fun _ _=>cH⟩
  ·obtain⟨u,κ,hq,hg,qF⟩:=Ee (P:=P) (id:=base+it.i) (ops:=L) bS xr aI _ aF
   exact⟨u,κ,hq,hg,qF,fun h1 h2=>absurd ⟨h1,h2⟩ vI⟩
 obtain⟨u,κ,hq,hg,qF,oZ⟩:=key
 obtain⟨aY,lR,C5,jY⟩:=wN hq
 rw[bS] at jY
 refine⟨u,κ,aY,lR,jY,hg,qF,oZ,fun h1=>?_⟩
 by_cases rQ:∃s d x,o.op=.convert s d x
 ·obtain⟨s,d,x,bY⟩:=rQ
  have hc:nM P s d=true:=by rw[bY] at h1;exact h1
  refine⟨Ej (by rw[bY];exact hc) hg,fun B9 j XN NO=>?_⟩
  have Ca:=C5.resolve_left B9
  rw[bY] at Ca
  obtain⟨hex,s8⟩:=As hc Ca
  obtain⟨τ,jN⟩:=hex j NO
  refine⟨τ,jN,fun σ' _=>?_⟩
  rcases s8 with s8 | ⟨es,esz,ex,hx⟩
  ·have e1:∀σ,fB P L o b (base+it.i) σ=.ok (cI,σ):=fun σ=>(qE (P:=P) ll σ).symm.trans (congrFun (HG s8) σ)
   rw[e1] at hg
   rw[e1,(Prod.mk.inj (bw.ok.inj hg)).1]
  ·rw[ll.eval x (by rw[bY];simp [Op.operands])] at hx
   exact PL bY hc hx hg σ'
 obtain⟨t,x,bY⟩:∃t x,o.op=.load t x:=by
  cases bY:o.op<;>rw[bY] at h1 rQ<;>first
   | exact⟨_,_,rfl⟩
   | (cases h1;done)
   | exact absurd ⟨_,_,_,rfl⟩ rQ
 obtain⟨he,hl⟩:=Eg bY hg
 refine⟨he,fun B9 j XN NO=>?_⟩
 have Ca:=C5.resolve_left B9
 rw[bY] at Ca
 cases s8:ow L o aT with
 | true=>
  rw[s8] at Ca
  obtain⟨τ,jN⟩:=CQ Ca j NO
  refine⟨τ,jN,fun σ' _=>?_⟩
  have e1:∀σ,fB P L o b (base+it.i) σ=.ok (cI,σ):=fun σ=>(qE (P:=P) ll σ).symm.trans (congrFun (HG s8) σ)
  rw[e1] at hg
  rw[e1,(Prod.mk.inj (bw.ok.inj hg)).1]
 | false=>
 rw[s8] at Ca
 obtain⟨pv,u2,To,Tp,cH⟩:=Ar Ca
 rcases cH with ⟨⟨cs,off,rfl⟩,hex⟩ | cH
 ·obtain⟨τ,jN⟩:=hex j NO
  refine⟨τ,jN,fun σ' _=>?_⟩
  rw[ll.eval x (by rw[bY];simp [Op.operands])] at To
  exact PM bY To hg σ'
 obtain⟨τ,jN,hlv⟩:=cH j XN NO
 have hu:u2=u:=by
  cases hd:o.dst with
  | none=>rw[hd] at Tp;cases Tp
  | some d=>
   rw[hd] at Tp
   have:=(lP lR).2.2 d
   rw[if_pos hd] at this
   have XO:aY.tmps.get d=some u2:=Tp
   rw[this] at XO
   exact(Option.some.inj XO).symm
 subst hu
 refine⟨τ,jN,fun σ' hs=>hl σ' fun pv' XP=>?_⟩
 rw[←ll.eval x (by rw[bY];simp [Op.operands]),To] at XP
 cases XP
 have aO:=hB.act.eval x (v:=pv) (by rw[←ll.eval x (by rw[bY];simp [Op.operands])];exact To)
 exact hs.eC aO hlv
theorem Au {snaps sp:List St} {k:Nat} {τ jf:St} (h1:snaps[k]? =some τ) (h2:(sp++snaps)[sp.length+k]? =some jf):jf=τ:=by
 rw[List.getElem?_append_right (by omega)] at h2
 rw[show sp.length+k-sp.length=k by omega,h1] at h2
 exact(Option.some.inj h2).symm
theorem El [Env] {τ:St} {c:Nat} (h:∀x k,τ.heap.get x=some k→bj.heap.get x=some k) (hf:τ.heap.get c=none):dN (cP ρ) τ (bj.kill c):=by
 intro x k hx _
 rw[iO]
 by_cases e:x=c
 ·rw[e,hf] at hx;cases hx
 ·rw[if_neg e];exact h x k hx
theorem pass [Env] (hp:nq L W) (hB:th P L W base listed done effs snaps σ b bj ρ a' w) (hw:ti P Rn ro p L W base listed done effs snaps b bj ρ (it::D) dn ef S aT aI) (hl:cN listed it.i):
  ∃o v aY,L[it.i]? =some o∧bC o.op=false∧aT.put o.dst v=some aY∧(∀t,o.dst=some t→b.tmps.get t=some v)∧CH P Rn ro L base p D S aY (aI.ext (base+it.i) (bj.heap.get (base+it.i))):=by
 obtain⟨o,ho,mf,mN,_,vJ⟩:=dj hw.lQ
 have bE:=iE ho
 have mO:done.testBit it.i=false:=by
  cases hd:done.testBit it.i with
  | false=>rfl
  | true=>rw[hw.mono.1 _ hd] at mf;cases mf
 have bS:=hB.ne _ o ho hl mO
 obtain⟨Tq,Av,aiL⟩:=vJ bS
 have hW:=hB.closed _ bE hl
 obtain⟨u,κ,aY,lR,jY,hg,qF,oZ,C8⟩:=Ek hp hB hw ho bS hW
 obtain⟨v,hv,Em⟩:=hB.PN _ o ho hl mO
 obtain⟨ep,sp,Cb,hS,hlen,uI,pP⟩:=hw.pre
 have HA:(bj.kill (base+it.i)).heap.get (base+it.i)=none:=by rw[iO,if_pos rfl]
 have main:u=v∧(κ=bj.heap.get (base+it.i)∨aI.ext (base+it.i) κ=aI.ext (base+it.i) (bj.heap.get (base+it.i))):=by
  rcases Em with DV | KP | ⟨hrd,iC,j,τ,jN,XN,hjf,K0⟩
  ·
   have fin:(∃xq,fB P L o b (base+it.i) (bj.kill (base+it.i))=.ok (u,(bj.kill (base+it.i)).ext (base+it.i) xq)∧(κ=xq∨aI.ext (base+it.i) κ=aI.ext (base+it.i) xq))→
     u=v∧(κ=bj.heap.get (base+it.i)∨aI.ext (base+it.i) κ=aI.ext (base+it.i) (bj.heap.get (base+it.i))):=by
    rintro⟨xq,h1,h2⟩
    rw[DV] at h1
    have ew:=bw.ok.inj h1
    have vF:=wO HA (Prod.mk.inj ew).2
    rw[vF]
    exact⟨(Prod.mk.inj ew).1.symm,h2⟩
   by_cases he:ep=[]
   ·obtain⟨hs,hf⟩:=pP he
    refine fin ⟨κ,qF _ ?_,.inl rfl⟩
    intro c k hc xr
    rw[iO]
    by_cases e:c=base+it.i
    ·rw[e,hf _ bE mf] at hc;cases hc
    ·rw[if_neg e];exact hs c k hc xr
   ·have pO:=At (it:=it) (W:=W) (listed:=listed) (L:=L) (effs:=effs) (ep:=ep) (k:=0) (by rw[←Cb];exact Tq) uI hW (by omega) (by simp)
    have B9:it.back≠0:=by
     have:0<ep.length:=List.length_pos_iff.2 he
     omega
    by_cases hr:sP P o.op=true
    ·obtain⟨K1,cH⟩:=C8 hr
     have DS:0<ep.length:=List.length_pos_iff.2 he
     obtain⟨τ,jN,NP⟩:=cH B9 ep.length (by omega) (by omega)
     obtain⟨r,gB⟩:=hB.head
     have:τ=σ:=Au (snaps:=snaps) (k:=0) (by rw[gB];rfl) (by rw[←hS,←hlen];exact jN)
     subst this
     refine fin ⟨none,NP _ (El hB.sub (hB.fresh _ bE mO)),.inr K1⟩
    ·have qG:et P o.op=false:=by
      rcases Av with h | h | h
      ·exact absurd h B9
      ·exact absurd h hr
      ·exact h
     exact fin ⟨κ,oZ qG (xY hr) _,.inl rfl⟩
  ·have h1:=KP aI
   rw[hg] at h1
   have ew:=bw.ok.inj h1
   exact⟨(Prod.mk.inj ew).1,.inr (Prod.mk.inj ew).2⟩
  ·obtain⟨K1,cH⟩:=C8 hrd
   have HH:j<snaps.length:=(List.getElem?_eq_some_iff.1 jN).1
   have pO:=At (it:=it) (W:=W) (listed:=listed) (L:=L) (effs:=effs) (ep:=ep) (k:=j) (by rw[←Cb];exact Tq) uI hW (by have:=hB.len;omega) hjf
   obtain⟨jf,afx,NP⟩:=cH (by omega) (ep.length+j) (by omega) pO
   have:jf=τ:=Au (snaps:=snaps) jN (by rw[←hS,←hlen];exact afx)
   subst this
   refine⟨K0 u _ (NP _ (fun _ _ h _=>h)),.inr ?_⟩
   rw[iC];exact K1
 obtain⟨rfl,vF⟩:=main
 refine⟨o,u,aY,ho,bS,lR,hv,?_⟩
 rcases vF with vF | vF
 ·rw[←vF];exact jY
 ·rw[←vF];exact jY
end
end Go.Ev
end
section
namespace Go.Ev
open Go
section
variable {P:Program} {Rn:Task→St→Run} {ro:Option Nat} {p:Out×St→Prop} {L:List Oper} {W:List Nat} {base:Nat} {listed:Array Bool} {done:Nat} {effs:List Nat} {snaps:List St} {σ:St} {b:Act} {bj:St} {ρ:aA} {a':Go.Act} {w:World}
variable {D:List Item} {dn:Nat} {ef:List Nat} {S:List St} {aT:Act} {aI:St} {it:Item} {o:Oper}
theorem xu [Env] {id:Nat} {κ:Option bU} {j:Nat} (bS:j≠id) (h:aI.heap.get j=none):(aI.ext id κ).heap.get j=none:=by
 cases κ with
 | none=>exact h
 | some k=>
  show(aI.new id k).heap.get j=none
  rw[iq,if_neg bS];exact h
theorem ra [Env] {id:Nat} {κ:Option bU} {c:Nat} {k:bU} (h:(aI.ext id κ).heap.get c=some k):aI.heap.get c=some k∨(c=id∧κ=some k):=by
 cases κ with
 | none=>exact .inl h
 | some k'=>
  have h':(aI.new id k').heap.get c=some k:=h
  rw[iq] at h'
  by_cases e:c=id
  ·rw[if_pos e] at h';exact .inr ⟨e,h'⟩
  ·rw[if_neg e] at h';exact .inl h'
theorem target [Env] (hp:nq L W) (hB:th P L W base listed done effs snaps σ b bj ρ a' w) (hw:ti P Rn ro p L W base listed done effs snaps b bj ρ (it::D) dn ef S aT aI)
  (ho:L[it.i]? =some o) (bS:bC o.op=false) (_hdone:done.testBit it.i=false) (hW:∀j,(W.getD it.i 0).testBit j=true→j<L.length∧cN listed j):
  ∃v κ dg,fB P L o b (base+it.i) bj=.ok (v,bj.ext (base+it.i) κ)∧b.put o.dst v=some dg:=by
 obtain⟨o',ko,mf,mN,_,vJ⟩:=dj hw.lQ
 rw[ho] at ko;cases ko
 obtain⟨Tq,Av,_⟩:=vJ bS
 obtain⟨u,κ,aY,lR,jY,hg,qF,oZ,C8⟩:=Ek hp hB hw ho bS hW
 obtain⟨dg,wP⟩:=Eh (u:=u) lR (b:=b) hw.sz.symm
 obtain⟨ep,sp,Cb,hS,hlen,uI,pP⟩:=hw.pre
 by_cases he:ep=[]
 ·exact⟨u,κ,dg,qF _ (pP he).1,wP⟩
 ·have DS:0<ep.length:=List.length_pos_iff.2 he
  have pO:=At (it:=it) (W:=W) (listed:=listed) (L:=L) (effs:=effs) (ep:=ep) (k:=0) (by rw[←Cb];exact Tq) uI hW (by omega) (by simp)
  by_cases hr:sP P o.op=true
  ·obtain⟨K1,cH⟩:=C8 hr
   obtain⟨τ,jN,NP⟩:=cH (by omega) ep.length (by omega) (by omega)
   obtain⟨r,gB⟩:=hB.head
   have:τ=σ:=Au (snaps:=snaps) (k:=0) (by rw[gB];rfl) (by rw[←hS,←hlen];exact jN)
   subst this
   exact⟨u,none,dg,NP _ (fun c k hc _=>hB.sub c k hc),wP⟩
  ·have qG:et P o.op=false:=by
    rcases Av with h | h | h
    ·omega
    ·exact absurd h hr
    ·exact h
   exact⟨u,κ,dg,oZ qG (xY hr) _,wP⟩
theorem pQ [Env] {dn i:Nat} (h:(∀i,done.testBit i=true→dn.testBit i=true)∧∀j k,dn.testBit j=true→(W.getD j 0).testBit k=true→dn.testBit k=true) (hc:∀j,(W.getD i 0).testBit j=true→dn.testBit j=true):
  (∀j,done.testBit j=true→(Nat.lor dn (2^i)).testBit j=true)∧∀j k,(Nat.lor dn (2^i)).testBit j=true→(W.getD j 0).testBit k=true→(Nat.lor dn (2^i)).testBit k=true:=by
 refine⟨fun j hj=>by rw[dK,h.1 j hj];rfl,fun j k hj hk=>?_⟩
 rw[dK] at hj⊢
 simp only[Bool.or_eq_true,decide_eq_true_eq] at hj⊢
 rcases hj with hj | rfl
 ·exact .inl (h.2 j k hj hk)
 ·exact .inl (hc k hk)
theorem NQ [Env] (hp:nq L W) (hB:th P L W base listed done effs snaps σ b bj ρ a' w) (hw:ti P Rn ro p L W base listed done effs snaps b bj ρ (it::D) dn ef S aT aI):
  ∃vH S' aY bL,ti P Rn ro p L W base listed done effs snaps b bj ρ D (Nat.lor dn (2^it.i)) vH S' aY bL:=by
 obtain⟨o,ho,mf,mN,En,vJ⟩:=dj hw.lQ
 have bE:=iE ho
 obtain⟨ep,sp,Cb,hS,hlen,uI,pP⟩:=hw.pre
 have NR:∀κ,ep=[]→∀j,j<L.length→(Nat.lor dn (2^it.i)).testBit j=false→(aI.ext (base+it.i) κ).heap.get (base+j)=none:=by
  intro κ he j hj hd
  rw[dK] at hd
  simp only[Bool.or_eq_false_iff,decide_eq_false_iff_not] at hd
  exact xu (by omega) ((pP he).2 j hj hd.1)
 by_cases hl:cN listed it.i
 ·obtain⟨o',v,aY,ko,bS,lR,hv,jY⟩:=pass hp hB hw hl
  rw[ho] at ko;cases ko
  obtain⟨_,_,jZ⟩:=vJ bS
  obtain⟨y9,_,fe⟩:=lP lR
  refine⟨ef,S,aY,_,jZ,jY,pQ hw.mono mN,⟨ep,sp,Cb,hS,hlen,uI,fun he=>⟨?_,NR _ he⟩⟩,by rw[y9];exact hw.sz,fun t h1 h2=>?_⟩
  ·intro c k hc xr
   rcases ra hc with h | ⟨rfl,h⟩
   ·exact(pP he).1 c k h xr
   ·exact h
  ·rw[fe]
   by_cases hd:o.dst=some t
   ·rw[if_pos hd,hv t hd]
   ·rw[if_neg hd]
    refine hw.o5 t (fun j oj hj dx iF=>h1 j oj hj dx (by rw[dK,iF];rfl)) fun j oj hj dx iF=>?_
    by_cases e:j=it.i
    ·subst e;rw[ho] at hj;cases hj;exact hd
    ·exact h2 j oj hj dx (by rw[dK,iF];simp;omega)
 ·have NS:∀ {aY:Act},(∀t,o.dst≠some t→aY.tmps.get t=aT.tmps.get t)→∀t,(∀(j:Nat) (o:Oper),L[j]? =some o→¬cN listed j→(Nat.lor dn (2^it.i)).testBit j=true→o.dst≠some t)→
    (∀(j:Nat) (o:Oper),L[j]? =some o→cN listed j→(Nat.lor dn (2^it.i)).testBit j=false→o.dst≠some t)→aY.tmps.get t=b.tmps.get t:=by
   intro aY hk t h1 h2
   rw[hk t (h1 _ _ ho hl (by rw[dK];simp))]
   refine hw.o5 t (fun j oj hj dx iF=>h1 j oj hj dx (by rw[dK,iF];rfl)) fun j oj hj dx iF=>h2 j oj hj dx ?_
   rw[dK,iF]
   have:it.i≠j:=fun e=>hl (e▸dx)
   simp [this]
  obtain⟨o',ko,aF⟩:=Aq hw.holds
  rw[ho] at ko;cases ko
  cases bS:bC o.op with
  | true=>
   obtain⟨akh,jZ⟩:=En bS
   obtain⟨⟨dg,bL⟩,aY,⟨_,jY⟩,hf⟩:=(vG (fun _ _=>rfl) rfl rfl aF).exists
   rw[bS] at jY
   refine⟨it.i::ef,bL::S,aY,bL,jZ,jY,pQ hw.mono mN,⟨it.i::ep,bL::sp,by rw[Cb];rfl,by rw[hS];rfl,by simp [hlen],?_,fun h=>by cases h⟩,by rw[hf.sa];exact hw.sz,NS hf.Tn⟩
   intro f hf
   rcases List.mem_cons.1 hf with rfl | hf
   ·exact⟨bE,hl⟩
   ·exact uI f hf
  | false=>
   obtain⟨_,_,jZ⟩:=vJ bS
   rw[xX bS] at aF
   obtain⟨v,κ,hq⟩:=NN (P:=P) bS aF.bind
   obtain⟨aY,lR,_,jY⟩:=wN hq
   rw[bS] at jY
   obtain⟨y9,_,fe⟩:=lP lR
   refine⟨ef,S,aY,_,jZ,jY,pQ hw.mono mN,⟨ep,sp,Cb,hS,hlen,uI,fun he=>⟨?_,NR _ he⟩⟩,by rw[y9];exact hw.sz,NS fun t ht=>by rw[fe,if_neg ht]⟩
   intro c k hc xr
   rcases ra hc with h | ⟨rfl,h⟩
   ·exact(pP he).1 c k h xr
   ·exact absurd (hB.jn _ bE hl) xr
theorem U0 [Env] (hp:nq L W) (hB:th P L W base listed done effs snaps σ b bj ρ a' w):∀ {D1:List Item} {dn:Nat} {ef:List Nat} {S:List St} {aT:Act} {aI:St},ti P Rn ro p L W base listed done effs snaps b bj ρ (D1++it::D) dn ef S aT aI→
  ∃ln vH S' aY bL,ti P Rn ro p L W base listed done effs snaps b bj ρ (it::D) ln vH S' aY bL:=by
 intro D1
 induction D1 with
 | nil=>intro dn ef S aT aI hw;exact⟨_,_,_,_,_,hw⟩
 | cons x D1 ih=>
  intro dn ef S aT aI hw
  obtain⟨_,_,_,_,h⟩:=NQ hp hB hw
  exact ih h
structure Cc (P:Program) (Rn:Task→St→Run) (ro:Option Nat) (p:Out×St→Prop) (L:List Oper) (W:List Nat) (base:Nat) (listed:Array Bool) (done:Nat) (effs:List Nat) (snaps:List St) (b:Act) (bj:St)
  (D:List Item) (dn:Nat) (aT:Act) (aI:St):Prop where
 lQ:dF P L W dn effs D=true
 holds:CH P Rn ro L base p D snaps aT aI
 mono:(∀i,done.testBit i=true→dn.testBit i=true)∧∀j k,dn.testBit j=true→(W.getD j 0).testBit k=true→dn.testBit k=true
 mg:∀i,dn.testBit i=true→i<L.length∧cN listed i
 sz:aT.size=b.size
 df:aT.defers=b.defers
 Eo:aI.next=bj.next
 room:base+L.length≤aI.next
 sub:∀c k,aI.heap.get c=some k→bj.heap.get c=some k
 fresh:∀i,i<L.length→dn.testBit i=false→aI.heap.get (base+i)=none
 o5:∀t,(∀(j:Nat) (o:Oper),L[j]? =some o→cN listed j→dn.testBit j=false→o.dst≠some t)→aT.tmps.get t=b.tmps.get t
theorem Cc.walk (h:Cc P Rn ro p L W base listed done effs snaps b bj D dn aT aI):ti P Rn ro p L W base listed done effs snaps b bj ρ D dn effs snaps aT aI:=
 ⟨h.lQ,h.holds,h.mono,⟨[],[],rfl,rfl,rfl,(fun f hf=>by cases hf),fun _=>⟨fun c k hc _=>h.sub c k hc,h.fresh⟩⟩,h.sz,fun t _ h2=>h.o5 t h2⟩
theorem Ep [Env] {id:Nat} {κ:Option bU} (h:id<aI.next):(aI.ext id κ).next=aI.next:=by
 cases κ with
 | none=>rfl
 | some k=>
  show(aI.new id k).next=aI.next
  rw[lK];omega
theorem PO [Env] (hp:nq L W) (hB:th P L W base listed done effs snaps σ b bj ρ a' w) (h:Cc P Rn ro p L W base listed done effs snaps b bj (it::D) dn aT aI) (hl:cN listed it.i):
  ∃aY bL,Cc P Rn ro p L W base listed done effs snaps b bj D (Nat.lor dn (2^it.i)) aY bL:=by
 obtain⟨o,v,aY,ho,bS,lR,hv,jY⟩:=pass (ρ:=ρ) hp hB h.walk hl
 obtain⟨o',ko,mf,mN,_,vJ⟩:=dj h.lQ
 rw[ho] at ko;cases ko
 obtain⟨_,_,jZ⟩:=vJ bS
 obtain⟨y9,NT,fe⟩:=lP lR
 have bE:=iE ho
 have Cd:(aI.ext (base+it.i) (bj.heap.get (base+it.i))).next=aI.next:=Ep (by have:=h.room;omega)
 refine⟨aY,_,jZ,jY,pQ h.mono mN,fun j hj=>?_,by rw[y9];exact h.sz,by rw[NT];exact h.df,by rw[Cd];exact h.Eo,by rw[Cd];exact h.room,fun c k hc=>?_,fun j hj hd=>?_,fun t h2=>?_⟩
 ·rw[dK] at hj
  simp only[Bool.or_eq_true,decide_eq_true_eq] at hj
  rcases hj with hj | rfl
  ·exact h.mg j hj
  ·exact⟨bE,hl⟩
 ·rcases ra hc with h1 | ⟨rfl,h1⟩
  ·exact h.sub c k h1
  ·exact h1
 ·rw[dK] at hd
  simp only[Bool.or_eq_false_iff,decide_eq_false_iff_not] at hd
  exact xu (by omega) (h.fresh j hj hd.1)
 ·rw[fe]
  by_cases hd:o.dst=some t
  ·rw[if_pos hd,hv t hd]
  ·rw[if_neg hd]
   refine h.o5 t fun j oj hj dx iF=>?_
   by_cases e:j=it.i
   ·subst e;rw[ho] at hj;cases hj;exact hd
   ·exact h2 j oj hj dx (by rw[dK,iF];simp;omega)
theorem NU [Env] (hp:nq L W) (hB:th P L W base listed done effs snaps σ b bj ρ a' w):∀ {D1:List Item} {dn:Nat} {aT:Act} {aI:St},Cc P Rn ro p L W base listed done effs snaps b bj (D1++D) dn aT aI→(∀x∈D1,cN listed x.i)→
  ∃ln aY bL,Cc P Rn ro p L W base listed done effs snaps b bj D ln aY bL∧(∀i,dn.testBit i=true→ln.testBit i=true)∧(∀x∈D1,ln.testBit x.i=true):=by
 intro D1
 induction D1 with
 | nil=>intro dn aT aI h _;exact⟨dn,_,_,h,fun _ h=>h,fun x hx=>by cases hx⟩
 | cons x D1 ih=>
  intro dn aT aI h hl
  obtain⟨aY,bL,h2⟩:=PO hp hB h (hl x List.mem_cons_self)
  obtain⟨ln,Er,jG,h3,hm,hx⟩:=ih h2 fun y hy=>hl y (List.mem_cons_of_mem _ hy)
  refine⟨ln,Er,jG,h3,fun i hi=>hm i (by rw[dK,hi];rfl),fun y hy=>?_⟩
  rcases List.mem_cons.1 hy with rfl | hy
  ·exact hm _ (by rw[dK];simp)
  ·exact hx y hy
end
end Go.Ev
end
section
namespace Go.Ev
open Go
theorem U1:∀(l:List Nat) (f:Nat→Option bU) (σ:St),∃σ':St,σ'.next=σ.next∧∀c,σ'.heap.get c=if c∈l then f c else σ.heap.get c:=by
 intro l
 induction l with
 | nil=>intro f σ;exact⟨σ,rfl,fun c=>by simp⟩
 | cons x l ih=>
  intro f σ
  obtain⟨σ',hn,hg⟩:=ih f σ
  obtain⟨h,m⟩:=σ'
  refine⟨⟨h.put x (f x),m⟩,hn,fun c=>?_⟩
  show(h.put x (f x)).get c=_
  rw[Trie.b9]
  by_cases e:c=x
  ·subst e;simp
  ·rw[if_neg e]
   have:=hg c
   rw[show h.get c=_ from this]
   simp [e]
section
variable {P:Program} {Rn:Task→St→Run} {ro:Option Nat} {p:Out×St→Prop} {L:List Oper} {W:List Nat} {base:Nat} {listed:Array Bool} {done:Nat} {effs:List Nat} {snaps:List St} {σ:St} {b:Act} {bj:St} {ρ:aA} {a':Go.Act} {w:World}
variable {D:List Item} {dn:Nat} {ef:List Nat} {S:List St} {aT:Act} {aI:St} {it:Item} {o:Oper}
theorem R.sub [Env] {σ':St} (h:R ρ σ w) (hs:∀c k,σ'.heap.get c=some k→σ.heap.get c=some k) (hn:σ'.next=σ.next):R ρ σ' w:=
 ⟨fun c k hc=>h.di c k (hs c k hc),fun c c' k k' l l' h1 h2=>h.inj c c' k k' l l' (hs _ _ h1) (hs _ _ h2),fun c hc=>h.fresh c (by rw[←hn];exact hc),h.valid,
  fun c o x hx=>⟨(h.aV c o x hx).1,fun⟨c',k,l,h1,h2,h3,h4⟩=>(h.aV c o x hx).2 ⟨c',k,l,hs _ _ h1,h2,h3,h4⟩⟩,h.laid⟩
theorem aW.sub [Env] {ids:Nat→Prop} {bT:aA} {σ₀ σ':St} {fx:World} (h:aW ids bT σ₀ fx ρ σ w) (hs:∀c k,σ'.heap.get c=some k→σ.heap.get c=some k) (hn:σ'.next=σ.next):aW ids bT σ₀ fx ρ σ' w:=
 ⟨h.r.sub hs hn,h.le,by rw[hn];exact h.next,h.jn,h.size,h.os,h.tape,h.output,h.aQ,fun c hc ⟨c',k,l,h1,h2,h3,h4⟩=>h.wr c hc ⟨c',k,l,hs _ _ h1,h2,h3,h4⟩,fun c k hc=>h.jC c k (hs _ _ hc),h.hH⟩
theorem cN.set {i j:Nat} (hi:i<listed.size):cN (listed.setIfInBounds i true) j↔cN listed j∨j=i:=by
 unfold cN
 rw[Array.getD_eq_getD_getElem?,Array.getD_eq_getD_getElem?]
 by_cases e:j=i
 ·subst e;simp [hi]
 ·rw[Array.getElem?_setIfInBounds_ne (by omega)];simp [e]
theorem xZ [Env]:∀ {D1:List Item} {dn:Nat} {ef:List Nat},dF P L W dn ef (D1++D)=true→
  ∃ln ep,dF P L W ln (ep++ef) D=true∧(∀j,dn.testBit j=true→ln.testBit j=true)∧(∀x∈D1,ln.testBit x.i=true)∧(∀j,ln.testBit j=true→dn.testBit j=true∨∃x∈D1,x.i=j)∧
   ∀f∈ep,dn.testBit f=false∧∃o,L[f]? =some o∧bC o.op=true:=by
 intro D1
 induction D1 with
 | nil=>intro dn ef h;exact⟨dn,[],h,fun _ h=>h,(fun x hx=>by cases hx),fun _ h=>.inl h,fun f hf=>by cases hf⟩
 | cons x D1 ih=>
  intro dn ef h
  obtain⟨o,ho,mf,_,h1,h2⟩:=dj h
  have fin:∀ {vH},dF P L W (Nat.lor dn (2^x.i)) vH (D1++D)=true→(∃ep,vH=ep++ef∧∀f∈ep,dn.testBit f=false∧∃o,L[f]? =some o∧bC o.op=true)→
    ∃ln ep,dF P L W ln (ep++ef) D=true∧(∀j,dn.testBit j=true→ln.testBit j=true)∧(∀y∈x::D1,ln.testBit y.i=true)∧(∀j,ln.testBit j=true→dn.testBit j=true∨∃y∈x::D1,y.i=j)∧
     ∀f∈ep,dn.testBit f=false∧∃o,L[f]? =some o∧bC o.op=true:=by
   rintro vH h ⟨ep,rfl,uI⟩
   obtain⟨ln,ep',h3,h4,h5,h6,h7⟩:=ih h
   refine⟨ln,ep'++ep,by rw[List.append_assoc];exact h3,fun j hj=>h4 j (by rw[dK,hj];rfl),fun y hy=>?_,fun j hj=>?_,fun f hf=>?_⟩
   ·rcases List.mem_cons.1 hy with rfl | hy
    ·exact h4 _ (by rw[dK];simp)
    ·exact h5 y hy
   ·rcases h6 j hj with h | ⟨y,hy,h⟩
    ·rw[dK] at h
     simp only[Bool.or_eq_true,decide_eq_true_eq] at h
     rcases h with h | h
     ·exact .inl h
     ·exact .inr ⟨x,List.mem_cons_self,h⟩
    ·exact .inr ⟨y,List.mem_cons_of_mem _ hy,h⟩
   ·rcases List.mem_append.1 hf with hf | hf
    ·obtain⟨h8,h9⟩:=h7 f hf
     rw[dK] at h8
     simp only[Bool.or_eq_false_iff] at h8
     exact⟨h8.1,h9⟩
    ·exact uI f hf
  cases he:bC o.op with
  | true=>exact fin (h1 he).2 ⟨[x.i],rfl,fun f hf=>by
    have:f=x.i:=by simpa using hf
    subst this;exact⟨mf,o,ho,he⟩⟩
  | false=>exact fin (h2 he).2.2 ⟨[],rfl,fun f hf=>by cases hf⟩
theorem kp [Env] {dg:Act} {id:Nat} (h:∀t∈looks L o,dg.tmps.get t=b.tmps.get t) (σ':St):fB P L o dg id σ'=fB P L o b id σ':=
 qE (P:=P) h σ'
theorem Aw [Env] {id:Nat} (bS:bC o.op=false) (Es:bD ρ b a') {τ jf:St} {v:V} {κ:Option bU} (h0:τ.heap.get id=none) (h:fB P L o b id τ=.ok (v,τ.ext id κ)) (hs:dN (cP ρ) τ jf):
  fB P L o b id jf=.ok (v,jf.ext id κ):=by
 have xr:∀x∈o.op.operands,∀v,b.eval x=some v→∃x',au ρ v x':=fun x _ v h=>⟨_,Es.eval x h⟩
 obtain⟨v2,κ2,he,_,hm⟩:=Ee (P:=P) (id:=id) (ops:=L) bS xr τ (fun r=>r=(v,τ.ext id κ)) (by rw[h];exact rfl)
 have h1:v2=v:=(Prod.mk.inj he).1
 have h2:κ2=κ:=wO h0 (Prod.mk.inj he).2
 subst h1 h2
 exact hm jf hs
variable {F:Fence} {bT:aA} {σ₀:St} {fx:World}
def Inv [Env] (P:Program) (Rn:Task→St→Run) (ro:Option Nat) (F:Fence) (p:Out×St→Prop) (L:List Oper) (W:List Nat) (base:Nat) (bT:aA) (σ₀:St) (fx:World) (listed:Array Bool) (a':Go.Act) (w:World):Prop:=
 ∃D done effs snaps a σ b bj ρ,th P L W base listed done effs snaps σ b bj ρ a' w∧Cc P Rn ro p L W base listed done effs snaps b bj D done a σ∧fK ρ ro F∧aW (fun c=>base≤c) bT σ₀ fx ρ bj w∧listed.size=L.length
theorem U2 [Env] (hg:Good P Rn) {ops:Array Oper} (hp:nq ops.toList W) (hI:Inv P Rn ro F p ops.toList W base bT σ₀ fx listed a' w) {i:Nat} (ho:ops.toList[i]? =some o) (bS:bC o.op=false) (hl:¬cN listed i)
  (hW:∀j,(W.getD i 0).testBit j=true→j<ops.toList.length∧cN listed j) {K:Go.Act→World→Prop} {Q:Exit→Go.Act→World→Prop}
  (hK:∀jF fr,Inv P Rn ro F p ops.toList W base bT σ₀ fx (listed.setIfInBounds i true) jF fr→K jF fr):wpOpIn F 0 P ops Q i K a' w:=by
 obtain⟨D,done,effs,snaps,a,σ,b,bj,ρ,hB,hA,iy,aF,bk⟩:=hI
 have bE:=iE ho
 have mO:done.testBit i=false:=by
  cases hd:done.testBit i with
  | false=>rfl
  | true=>exact absurd (hA.mg i hd).2 hl
 obtain⟨D1,it,D2,rfl,rfl⟩:=nr hA.lQ i bE mO
 obtain⟨ln,vH,S',aY,bL,hw⟩:=U0 hp hB hA.walk
 obtain⟨v,κ,dg,gV,lR⟩:=target hp hB hw ho bS mO hW
 have cg:ρ (base+it.i)=none:=hB.jn _ bE hl
 have iC:bj.heap.get (base+it.i)=none:=hB.rel.oA cg
 have hi:ops[it.i]? =some o:=by rw[←Array.getElem?_toList];exact ho
 have mP:((jB P ops.toList o).f Rn ro b bj (base+it.i)).ar fun r=>r=(dg,bj.ext (base+it.i) κ):=by
  rw[xX bS,gV]
  show(qY (bj.ext (base+it.i) κ) (b.put o.dst v)).ar _
  rw[lR]
  exact rfl
 obtain⟨y9,NT,fe⟩:=lP lR
 have ek:base+it.i<bj.next:=by have:=hA.room;have:=hA.Eo;omega
 refine q4 hg hB.rel cg hB.act iy hi mP ?_
 intro PQ jG bm jF fr he Es iD
 cases he
 refine hK jF fr ⟨D1++it::D2,done,effs,snaps,a,σ,dg,_,bm,⟨?_,?_,iD.r,Es,hB.head,hB.len,?_,hB.fresh,?_,?_⟩,⟨hA.lQ,hA.holds,hA.mono,?_,by rw[y9];exact hA.sz,by rw[NT];exact hA.df,?_,hA.room,?_,hA.fresh,?_⟩,iy.mono iD.le,?_,by simpa using bk⟩
 ·intro j hj dx k hk
  rw[cN.set (by omega)] at dx⊢
  rcases dx with dx | rfl
  ·exact⟨(hB.closed j hj dx k hk).1,.inl (hB.closed j hj dx k hk).2⟩
  ·exact⟨(hW k hk).1,.inl (hW k hk).2⟩
 ·intro j oj hj dx iF
  rw[cN.set (by omega)] at dx
  rcases dx with dx | rfl
  ·exact hB.ne j oj hj dx iF
  ·rw[ho] at hj;cases hj;exact bS
 ·intro c k hc
  have fu:=hB.sub c k hc
  rw[ext_get _ _ _ _ iC]
  by_cases e:c=base+it.i
  ·rw[e,iC] at fu;cases fu
  ·rw[if_neg e];exact fu
 ·intro j hj dx
  rw[cN.set (by omega)] at dx
  cases hr:bm (base+j) with
  | none=>rfl
  | some l=>
   rcases iD.jn _ _ hr with h | h | h
   ·rw[hB.jn j hj fun h=>dx (.inl h)] at h;cases h
   ·have:=hA.room;have:=hA.Eo;omega
   ·exact absurd (.inr (by omega)) dx
 ·intro j oj hj dx iF
  rw[cN.set (by omega)] at dx
  by_cases e:j=it.i
  ·subst e
   rw[ho] at hj;cases hj
   have qG:∀t∈looks ops.toList o,dg.tmps.get t=b.tmps.get t:=by
    intro t ht
    rw[fe]
    by_cases hd:o.dst=some t
    ·exact absurd rfl (hp.data _ _ _ _ _ ho ho hd ht).1
    ·rw[if_neg hd]
   refine⟨v,fun t ht=>by rw[fe,if_pos ht],.inl ?_⟩
   rw[kp qG,ext_get _ _ _ _ iC,if_pos rfl]
   refine Aw bS hB.act iC gV ?_
   intro c k hc _
   rw[iO,ext_get _ _ _ _ iC]
   by_cases e:c=base+it.i
   ·rw[e,iC] at hc;cases hc
   ·rw[if_neg e,if_neg e];exact hc
  ·have dx:=dx.resolve_right e
   have Et:=hB.ne j oj hj dx iF
   obtain⟨u,hu,Em⟩:=hB.PN j oj hj dx iF
   have qG:∀t∈looks ops.toList oj,dg.tmps.get t=b.tmps.get t:=by
    intro t ht
    rw[fe]
    by_cases hd:o.dst=some t
    ·rcases(hp.data _ _ _ _ _ hj ho hd ht).2 with h | ⟨h,_⟩
     ·exact absurd (hB.closed j (iE hj) dx _ h).2 hl
     ·rw[bS] at h;cases h
    ·rw[if_neg hd]
   have lb:(bj.ext (base+it.i) κ).heap.get (base+j)=bj.heap.get (base+j):=by
    rw[ext_get _ _ _ _ iC,if_neg (by omega)]
   refine⟨u,fun t ht=>?_,?_⟩
   ·rw[fe]
    by_cases hd:o.dst=some t
    ·exact absurd (hp.XL _ _ _ _ _ hj ho ht hd) e
    ·rw[if_neg hd];exact hu t ht
   ·rw[lb]
    rcases Em with h | h | ⟨h1,h2,q,τ,h3,h4,h5,h6⟩
    ·refine .inl ?_
     rw[kp qG]
     refine Aw Et hB.act (by rw[iO,if_pos rfl]) h ?_
     intro c k hc _
     rw[iO] at hc⊢
     by_cases e2:c=base+j
     ·rw[if_pos e2] at hc;cases hc
     ·rw[if_neg e2] at hc⊢
      rw[ext_get _ _ _ _ iC]
      by_cases e3:c=base+it.i
      ·rw[e3,iC] at hc;cases hc
      ·rw[if_neg e3];exact hc
    ·exact .inr (.inl fun σ'=>by rw[kp qG];exact h σ')
    ·exact .inr (.inr ⟨h1,h2,q,τ,h3,h4,h5,fun u' jf hh=>h6 u' jf (by rw[←kp qG];exact hh)⟩)
 ·intro j hj
  rw[cN.set (by omega)]
  exact⟨(hA.mg j hj).1,.inl (hA.mg j hj).2⟩
 ·rw[Ep ek];exact hA.Eo
 ·intro c k hc
  have fu:=hA.sub c k hc
  rw[ext_get _ _ _ _ iC]
  by_cases e:c=base+it.i
  ·rw[e,iC] at fu;cases fu
  ·rw[if_neg e];exact fu
 ·intro t ht
  have h1:o.dst≠some t:=ht it.i o ho ((cN.set (by omega)).2 (.inr rfl)) mO
  rw[fe,if_neg h1]
  exact hA.o5 t fun j oj hj dx iF=>ht j oj hj ((cN.set (by omega)).2 (.inl dx)) iF
 ·exact aF.trans (iD.weaken fun c hc=>by rw[hc];exact Nat.le_add_right _ _)
end
end Go.Ev
end
