/- Proved: parts of the way: DrawB, DrawC, DrawD, DrawE, Draw. -/
import Derived.Test.YtbajncpfmemdgaaGreatDoorEvQ06
set_option linter.unusedVariables false
set_option linter.unusedSimpArgs false
section
namespace Go.Ev
open Go
section
variable {P:Program} {ρ:Ren} {id:Nat} {Rn:Task→St→Run} {ro:Option Nat}
noncomputable def fq (P:Program) (ops:List Oper) (o:Oper) (a:Act) (id:Nat) (σ:St):VS:=
 match o.guard with
 | none=>(mH P o.op).f a σ id
 | some (j,want)=>match fW ops j with
  | none=>.ok (dg,σ)
  | some d=>match sn want (a.tmps.get d) with
   | some true=>(mH P o.op).f a σ id
   | some false=>.ok (dg,σ)
   | none=>.fail "guard"
theorem Dn (r:VS) (a:Act) (dst:Option Tmp):(r.bind (fI a)).bind (l6 dst)=r.bind fun r=>l6 dst (r.1,a,r.2):=by
 induction r with
 | ok x=>rfl
 | fail w=>rfl
 | pick n k ih=>
  show bL.pick n _=bL.pick n _
  congr 1
  funext i
  exact ih i
 | tr C hm he=>
  show bL.tr _ _ _=bL.tr _ _ _
  congr 1
theorem Dp {o:Op} (h:bt o=false) (a:Act) (σ:St):(jn P o).f Rn ro a σ id=((mH P o).f a σ id).bind (fI a):=by
 cases o with
 | call c=>
  obtain⟨callee,nE,lq⟩:=c
  cases callee with
  | builtin b=>rfl
  | value f=>simp [bt] at h
  | invoke x name=>simp [bt] at h
 | defer c=>cases h
 | _=>rfl
theorem xC [Env] {ops:List Oper} {o:Oper} (h:bt o.op=false) (a:Act) (σ:St):(jo P ops o).f Rn ro a σ id=(fq P ops o a id σ).bind fun r=>l6 o.dst (r.1,a,r.2):=by
 unfold jo fq
 cases hg:o.guard with
 | none=>
  dsimp only
  rw[Dp h,Dn]
 | some q=>
  obtain⟨j,want⟩:=q
  dsimp only
  cases hd:fW ops j with
  | none=>rfl
  | some d=>
   unfold yf
   dsimp only
   cases hb:sn want (a.tmps.get d) with
   | none=>rfl
   | some b=>cases b with
    | true=>unfold ri;dsimp only;rw[Dp h,Dn]
    | false=>rfl
def yy (L:List Tmp) (a b:Act):Prop:=∀t∈L,a.tmps.get t=b.tmps.get t
theorem yy.eval {ops:List Oper} {o:Oper} {a b:Act} (h:yy (looks ops o) a b):∀x∈o.op.operands,a.eval x=b.eval x:=by
 intro x hx
 cases x with
 | tmp t=>
  refine h t (List.mem_append_left _ ?_)
  unfold MI
  rw[List.mem_filterMap]
  exact⟨.tmp t,by simpa using hx,rfl⟩
 | _=>rfl
theorem qi {ops:List Oper} {o:Oper} {j:Nat} {want:Bool} (hg:o.guard=some (j,want)) {d:Tmp} (hd:fW ops j=some d):d∈looks ops o:=by
 refine List.mem_append_right _ ?_
 rw[hg]
 unfold fW at hd
 rw[dG] at hd
 show d∈((ops[j]?).bind (·.dst)).toList
 rw[hd];simp
theorem qj [Env] {ops:List Oper} {o:Oper} {a b:Act} (h:yy (looks ops o) a b) (σ:St):fq P ops o a id σ=fq P ops o b id σ:=by
 unfold fq
 split
 ·exact uW o.op h.eval σ
 ·rename_i j want hg
  split
  ·rfl
  ·rename_i d hd
   rw[h d (qi hg hd),uW (P:=P) (id:=id) o.op h.eval σ]
theorem j9 (ops:List Oper) (o:Oper) (a:Act) (id:Nat):(fq P ops o a id=fun σ=>(mH P o.op).f a σ id)∨(fq P ops o a id=fun σ=>.ok (dg,σ))∨(fq P ops o a id=fun _=>.fail "guard"):=by
 unfold fq
 cases o.guard with
 | none=>exact .inl rfl
 | some q=>
  obtain⟨j,want⟩:=q
  dsimp only
  cases fW ops j with
  | none=>exact .inr (.inl rfl)
  | some d=>
   dsimp only
   cases sn want (a.tmps.get d) with
   | none=>exact .inr (.inr rfl)
   | some b=>cases b with
    | true=>exact .inl rfl
    | false=>exact .inr (.inl rfl)
theorem Dq [Env] {ops:List Oper} {o:Oper} {a:Act} (h1:bt o.op=false) (hD:∀x∈o.op.operands,∀v,a.eval x=some v→∃x',au ρ v x'):jt id (cY ρ) (fq P ops o a id):=by
 rcases j9 (P:=P) ops o a id with h | h | h<;>rw[h]
 ·exact Km o.op h1 hD
 ·exact(bU.ok _).look _
 ·exact(bU.fail _).look _
theorem Dr [Env] {ops:List Oper} {o:Oper} {a:Act} (h1:bt o.op=false) (h2:ee P o.op=false) (h3:nP o.op=false):bU id (fq P ops o a id):=by
 rcases j9 (P:=P) ops o a id with h | h | h<;>rw[h]
 ·exact sG o.op h1 h2 h3
 ·exact bU.ok _
 ·exact bU.fail _
theorem Ds [Env] {ops:List Oper} {o:Oper} {a:Act} {t:TypeId} {x:Operand} (ho:o.op=.load t x) {σ:St} {v:V} {τ:St} (h:fq P ops o a id σ=.ok (v,τ)):
  τ=σ∧∀σ',(∀pv,a.eval x=some pv→et P σ' t pv=some v)→fq P ops o a id σ'=.ok (v,σ'):=by
 rcases j9 (P:=P) ops o a id with hc | hc | hc<;>rw[hc] at h⊢
 ·rw[ho] at h⊢
  have key:∀σ,(mH P (.load t x)).f a σ id=fh "load operand" (a.eval x) (ph P σ t):=fun _=>rfl
  dsimp only at h⊢
  rw[key] at h
  cases hx:a.eval x with
  | none=>rw[hx] at h;cases h
  | some pv=>
   rw[hx] at h
   have h':aV σ "load" (et P σ t pv)=.ok (v,τ):=h
   cases hl:et P σ t pv with
   | none=>rw[hl] at h';cases h'
   | some u=>
    rw[hl] at h'
    cases h'
    refine⟨rfl,fun σ' hs=>?_⟩
    rw[key,hx]
    show aV σ' "load" (et P σ' t pv)=_
    rw[hs pv rfl];rfl
 ·cases h;exact⟨rfl,fun _ _=>rfl⟩
 ·cases h
theorem lr {a ba:Act} {dst:Option Tmp} {v:V} (h:a.put dst v=some ba):ba.size=a.size∧ba.defers=a.defers∧∀t,ba.tmps.get t=if dst=some t then some v else a.tmps.get t:=by
 cases dst with
 | none=>
  simp only[Act.put,Option.some.injEq] at h
  subst h
  exact⟨rfl,rfl,fun t=>by simp⟩
 | some d=>
  obtain⟨t,s,ds⟩:=a
  simp only[Act.put] at h
  cases hb:Nat.blt d s with
  | false=>simp [hb] at h
  | true=>
   simp only[hb,Option.some.injEq] at h
   subst h
   refine⟨rfl,rfl,fun u=>?_⟩
   show(t.put d v).get u=_
   rw[cC.bY]
   by_cases hu:u=d
   ·rw[if_pos hu,if_pos (by rw[hu])]
   ·rw[if_neg hu,if_neg (by intro e;cases e;exact hu rfl)]
theorem Dt {a ba b:Act} {dst:Option Tmp} {v u:V} (h:a.put dst v=some ba) (hs:b.size=a.size):∃dc,b.put dst u=some dc:=by
 cases dst with
 | none=>exact⟨b,rfl⟩
 | some d=>
  obtain⟨t,s,ds⟩:=a
  obtain⟨t',s',ds'⟩:=b
  have nV:s'=s:=hs
  subst nV
  simp only[Act.put] at h⊢
  cases hb:Nat.blt d s' with
  | false=>simp [hb] at h
  | true=>exact⟨_,rfl⟩
structure yz (a b bf c9:Act):Prop where
 ta:bf.tmps=a.tmps
 sa:bf.size=a.size
 tb:c9.tmps=b.tmps
 sb:c9.size=b.size
 d:bf.defers=c9.defers
theorem Du [Env] {o:Oper} {a b:Act} (me:∀x∈o.op.operands,a.eval x=b.eval x) (hd:a.defers=b.defers) {σ:St} {q:V×Act×St→Prop} (h:((jn P o.op).f Rn ro a σ id).Holds q):
  ((jn P o.op).f Rn ro b σ id).Holds fun r=>∃bf,q (r.1,bf,r.2.2)∧yz a b bf r.2.1:=by
 have plain:∀ {r:VS},(r.bind (fI a)).Holds q→(r.bind (fI b)).Holds fun r=>∃bf,q (r.1,bf,r.2.2)∧yz a b bf r.2.1:=by
  intro r h
  exact bL.Holds.fQ (h.bind.mono fun x hx=>⟨a,hx,rfl,rfl,rfl,rfl,hd⟩)
 have zO:∀ {r:Run},(r.bind (valOf a)).Holds q→(r.bind (valOf b)).Holds fun r=>∃bf,q (r.1,bf,r.2.2)∧yz a b bf r.2.1:=by
  intro r h
  refine bL.Holds.fQ (h.bind.mono fun x hx=>?_)
  obtain⟨v,σ',rfl,hq⟩:=wZ hx
  exact⟨a,hq,rfl,rfl,rfl,rfl,hd⟩
 by_cases fp:∃c,o.op=.call c
 ·obtain⟨c,bP⟩:=fp
  rw[bP] at h me⊢
  show((vX P c).f Rn ro b σ id).Holds _
  have h':((vX P c).f Rn ro a σ id).Holds q:=h
  have wb:a.bR c.args.toList=b.bR c.args.toList:=nD _ fun x hx=>me x (by simp only[Op.operands,Call.operands];split<;>simp_all)
  unfold vX at h'⊢
  split at h'
  ·rename_i f hc
   cases he:oG P f with
   | some e=>
    simp only[he] at h'⊢
    rw[wb] at h'
    exact plain h'
   | none=>
    simp only[he] at h'⊢
    have hf:a.eval f=b.eval f:=me f (by simp [Op.operands,Call.operands,hc])
    rw[hf,wb] at h'
    unfold nQ at h'⊢
    split at h'
    ·exact zO h'
    ·exact h'.elim
  ·rename_i x name hc
   dsimp only at h'⊢
   have hf:a.eval x=b.eval x:=me x (by simp [Op.operands,Call.operands,hc])
   rw[hf,wb] at h'
   unfold oL at h'⊢
   split at h'
   ·unfold ny at h'⊢
    split at h'
    ·exact zO h'
    ·exact h'.elim
   ·exact h'.elim
  ·dsimp only at h'⊢
   rw[wb] at h'
   exact plain h'
 by_cases Dk:∃c,o.op=.defer c
 ·obtain⟨c,bP⟩:=Dk
  rw[bP] at h me⊢
  exact(show False from h).elim
 have hc:∀c,o.op≠.call c:=fun c e=>fp ⟨c,e⟩
 have Dv:∀c,o.op≠.defer c:=fun c e=>Dk ⟨c,e⟩
 rw[BC hc Dv] at h⊢
 have h2:(((mH P o.op).f a σ id).bind (fI a)).Holds q:=h
 rw[uW o.op me σ] at h2
 exact plain h2
structure zP (dst:Option Tmp) (a b ba dc:Act):Prop where
 sa:ba.size=a.size
 sb:dc.size=b.size
 d:ba.defers=dc.defers
 SF:∀t,dst≠some t→ba.tmps.get t=a.tmps.get t
 Kn:∀t,dst≠some t→dc.tmps.get t=b.tmps.get t
 at_:∀t,dst=some t→ba.tmps.get t=dc.tmps.get t
theorem u3 [Env] {ops:List Oper} {o:Oper} {a b:Act} (me:yy (looks ops o) a b) (hs:b.size=a.size) (hd:a.defers=b.defers) {σ:St} {q:Act×St→Prop} (h:((jo P ops o).f Rn ro a σ id).Holds q):
  ((jo P ops o).f Rn ro b σ id).Holds fun r=>∃ba,q (ba,r.2)∧zP o.dst a b ba r.1:=by
 have O2:∀ {v:V} {bf c9:Act} {aJ:St},yz a b bf c9→(l6 o.dst (v,bf,aJ)).Holds q→(l6 o.dst (v,c9,aJ)).Holds fun r=>∃ba,q (ba,r.2)∧zP o.dst a b ba r.1:=by
  intro v bf c9 aJ hf h
  obtain⟨ba,hp,hq⟩:=wa h
  obtain⟨dc,M1⟩:=Dt (u:=v) hp (b:=c9) (by rw[hf.sb,hf.sa,hs])
  show(qG aJ (c9.put o.dst v)).Holds _
  rw[M1]
  obtain⟨x1,x2,x3⟩:=lr hp
  obtain⟨y1,y2,y3⟩:=lr M1
  refine⟨ba,hq,by rw[x1,hf.sa],by rw[y1,hf.sb],by rw[x2,y2,hf.d],fun t ht=>?_,fun t ht=>?_,fun t ht=>?_⟩
  ·rw[x3,if_neg ht,hf.ta]
  ·rw[y3,if_neg ht,hf.tb]
  ·rw[x3,y3,if_pos ht,if_pos ht]
 have run:((jn P o.op).f Rn ro a σ id).Holds (fun x=>(l6 o.dst x).Holds q)→(((jn P o.op).f Rn ro b σ id).bind (l6 o.dst)).Holds fun r=>∃ba,q (ba,r.2)∧zP o.dst a b ba r.1:=by
  intro h
  refine bL.Holds.fQ ((Du me.eval hd h).mono ?_)
  rintro⟨v,c9,aJ⟩ ⟨bf,hq,hf⟩
  exact O2 hf hq
 unfold jo at h⊢
 split at h
 ·exact run h.bind
 ·rename_i j want hg
  unfold yf at h⊢
  split at h
  ·rename_i d Dv
   dsimp only at h⊢
   rw[me d (qi hg Dv)] at h
   unfold ri at h⊢
   split at h
   ·exact run h.bind
   ·exact O2 (v:=dg) ⟨rfl,rfl,rfl,rfl,hd⟩ h
   ·exact h.elim
  ·exact O2 (v:=dg) ⟨rfl,rfl,rfl,rfl,hd⟩ h
end
end Go.Ev
end
section
namespace Go.Ev
open Go
theorem dD (a i j:Nat):(Nat.lor a (2^i)).testBit j=(a.testBit j||decide (i=j)):=by
 show(a||| 2^i).testBit j=_
 rw[Nat.testBit_or,Nat.testBit_two_pow]
theorem yA {a b:Nat} (h:C2 a b=true) {j:Nat} (hj:a.testBit j=true):b.testBit j=true:=by
 have e:(a||| b)=b:=Nat.eq_of_beq_eq_true h
 rw[←e,Nat.testBit_or,hj];rfl
theorem yB {w:List Nat} {o:Oper} {j:Nat}:(yd w o).testBit j=true↔∃e∈o.after,Region.binds .any e=true∧(j=e.on∨(w.getD e.on 0).testBit j=true):=by
 have key:∀(l:List Edge) (s:Nat),(l.foldl (fun s e=>match Region.binds .any e with
   | true=>Nat.lor s (Nat.lor (2^e.on) (w.getD e.on 0))
   | false=>s) s).testBit j=true↔s.testBit j=true∨∃e∈l,Region.binds .any e=true∧(j=e.on∨(w.getD e.on 0).testBit j=true):=by
  intro l
  induction l with
  | nil=>intro s;simp
  | cons e l ih=>
   intro s
   rw[List.foldl_cons,ih]
   cases hb:Region.binds .any e with
   | false=>simp [hb]
   | true=>
    have:(Nat.lor s (Nat.lor (2^e.on) (w.getD e.on 0))).testBit j=(s.testBit j||(decide (e.on=j)||(w.getD e.on 0).testBit j)):=by
     show(s||| (2^e.on||| w.getD e.on 0)).testBit j=_
     rw[Nat.testBit_or,Nat.testBit_or,Nat.testBit_two_pow]
    rw[this]
    simp only[Bool.or_eq_true,decide_eq_true_eq,List.mem_cons,exists_eq_or_imp,hb,true_and]
    constructor
    ·rintro((h | h | h) | h)
     ·exact .inl h
     ·exact .inr (.inl (.inl h.symm))
     ·exact .inr (.inl (.inr h))
     ·exact .inr (.inr h)
    ·rintro(h | (h | h) | h)
     ·exact .inl (.inl h)
     ·exact .inl (.inr (.inl h.symm))
     ·exact .inl (.inr (.inr h))
     ·exact .inr h
 exact(key o.after.toList 0).trans (by simp)
structure mT (L:List Oper) (W:List Nat):Prop where
 wait:∀(i:Nat) (o:Oper),L[i]? =some o→W.getD i 0=yd W o
 W2:∀(i j:Nat) (oi oj:Oper) (t:Tmp),L[i]? =some oi→L[j]? =some oj→oi.dst=some t→oj.dst=some t→i=j
 data:∀(i j:Nat) (oi oj:Oper) (t:Tmp),L[i]? =some oi→L[j]? =some oj→oj.dst=some t→t∈looks L oi→i≠j∧((W.getD i 0).testBit j=true∨(bt oj.op=true∧(W.getD j 0).testBit i=true))
theorem zQ:∀ {l:List (Option Tmp)},lJ l=true→∀(i j:Nat) (t:Tmp),l[i]? =some (some t)→l[j]? =some (some t)→i=j:=by
 intro l
 induction l with
 | nil=>intro _ i j t h;simp at h
 | cons x l ih=>
  intro h i j t hi hj
  have mem:∀k,l[k]? =some (some t)→some t∈l:=fun k hk=>List.mem_of_getElem? hk
  cases x with
  | none=>
   have h':lJ l=true:=h
   cases i with
   | zero=>simp at hi
   | succ i=>cases j with
    | zero=>simp at hj
    | succ j=>rw[ih h' i j t (by simpa using hi) (by simpa using hj)]
  | some u=>
   have h':(!l.contains (some u)&&lJ l)=true:=h
   rw[Bool.and_eq_true] at h'
   have hu:some u∉l:=by simpa using h'.1
   cases i with
   | zero=>cases j with
    | zero=>rfl
    | succ j=>
     simp at hi;subst hi
     exact absurd (mem j (by simpa using hj)) hu
   | succ i=>cases j with
    | zero=>
     simp at hj;subst hj
     exact absurd (mem i (by simpa using hi)) hu
    | succ j=>rw[ih h'.2 i j t (by simpa using hi) (by simpa using hj)]
theorem Gt [Env] {P:Program} {L:List Oper} {l:List Item} (h:pj P L=some l):∃W,mT L W∧dB P L W 0 [] l=true:=by
 unfold pj at h
 dsimp only at h
 split at h
 ·rename_i hb
  cases h
  simp only[Bool.and_eq_true] at hb
  obtain⟨⟨⟨_,hw⟩,hd⟩,hp⟩:=hb
  have bI:∀ {i:Nat} {o:Oper},L[i]? =some o→i∈List.range L.length:=fun h=>List.mem_range.2 (List.getElem?_eq_some_iff.1 h).1
  refine⟨_,⟨fun i o hi=>?_,fun i j oi oj t hi hj h1 h2=>?_,fun i j oi oj t hi hj h1 h2=>?_⟩,hp⟩
  ·unfold Bs at hw
   have:=List.all_eq_true.1 hw i (bI hi)
   rw[hi] at this
   exact Nat.eq_of_beq_eq_true this
  ·unfold uG at hd
   rw[Bool.and_eq_true] at hd
   exact zQ hd.1 i j t (by simp [hi,h1]) (by simp [hj,h2])
  ·unfold uG at hd
   rw[Bool.and_eq_true] at hd
   have:=List.all_eq_true.1 hd.2 i (bI hi)
   rw[hi] at this
   have:=List.all_eq_true.1 this j (bI hj)
   rw[hj] at this
   dsimp only at this
   unfold Bt at this
   rw[h1] at this
   simp only[Bool.or_eq_true,Bool.and_eq_true,Bool.not_eq_true'] at this
   rcases this with ⟨a,b⟩ | a
   ·exact⟨fun e=>by rw[e] at a;simp at a,b⟩
   ·exact absurd h2 (by simpa using a)
 ·cases h
theorem cU [Env] {P:Program} {L:List Oper} {W:List Nat} {dn:Nat} {ef:List Nat} {it:Item} {R:List Item} (h:dB P L W dn ef (it::R)=true):
  ∃o,L[it.i]? =some o∧dn.testBit it.i=false∧(∀j,(W.getD it.i 0).testBit j=true→dn.testBit j=true)∧
   (bt o.op=true→(∀j,dn.testBit j=true→(W.getD it.i 0).testBit j=true)∧dB P L W (Nat.lor dn (2^it.i)) (it.i::ef) R=true)∧
   (bt o.op=false→uF (W.getD it.i 0) it.back ef=true∧(it.back=0∨sm P o.op=true∨ee P o.op=false)∧dB P L W (Nat.lor dn (2^it.i)) ef R=true):=by
 unfold dB at h
 split at h
 ·cases h
 ·rename_i o ho
  simp only[Bool.and_eq_true,Bool.not_eq_true'] at h
  obtain⟨⟨h1,h2⟩,h3⟩:=h
  refine⟨o,ho,h1,fun j hj=>yA h2 hj,fun he=>?_,fun he=>?_⟩
  ·rw[he] at h3
   simp only[Bool.and_eq_true] at h3
   exact⟨fun j hj=>yA h3.1 hj,h3.2⟩
  ·rw[he] at h3
   simp only[Bool.and_eq_true,Bool.or_eq_true,Bool.not_eq_true'] at h3
   refine⟨h3.1.1,?_,h3.2⟩
   rcases h3.1.2 with (a | a) | a
   ·exact .inl (Nat.eq_of_beq_eq_true a)
   ·exact .inr (.inl a)
   ·exact .inr (.inr a)
theorem mU [Env] {P:Program} {L:List Oper} {W:List Nat}:∀ {D:List Item} {dn:Nat} {ef:List Nat},dB P L W dn ef D=true→∀i,i<L.length→dn.testBit i=false→∃D1 it D2,D=D1++it::D2∧it.i=i:=by
 intro D
 induction D with
 | nil=>
  intro dn ef h i hi hd
  have h':(List.range L.length).all dn.testBit=true:=h
  have:=List.all_eq_true.1 h' i (List.mem_range.2 hi)
  rw[hd] at this;cases this
 | cons it D ih=>
  intro dn ef h i hi hd
  obtain⟨o,_,_,_,h1,h2⟩:=cU h
  by_cases e:it.i=i
  ·exact⟨[],it,D,rfl,e⟩
  ·have GU:(Nat.lor dn (2^it.i)).testBit i=false:=by rw[dD,hd];simp [e]
   have:∃u4,dB P L W (Nat.lor dn (2^it.i)) u4 D=true:=by
    cases he:bt o.op with
    | true=>exact⟨_,(h1 he).2⟩
    | false=>exact⟨_,(h2 he).2.2⟩
   obtain⟨u4,hp⟩:=this
   obtain⟨D1,it',D2,rfl,eQ⟩:=ih hp i hi GU
   exact⟨it::D1,it',D2,rfl,eQ⟩
section
variable {P:Program} {ρ:Ren} {Rn:Task→St→Run} {ro:Option Nat}
def CH (P:Program) (Rn:Task→St→Run) (ro:Option Nat) (L:List Oper) (base:Nat) (p:Out×St→Prop) (D:List Item) (S:List St) (a:Act) (σ:St):Prop:=
 ((l8 P L D).f Rn ro base S a σ).Holds p
theorem zR [Env] {L:List Oper} {base:Nat} {p:Out×St→Prop} {it:Item} {D:List Item} {S:List St} {a:Act} {σ:St} (h:CH P Rn ro L base p (it::D) S a σ):
  ∃o,L[it.i]? =some o∧((jo P L o).f Rn ro a σ (base+it.i)).Holds fun r=>
   (it.back=0∨eH P (ob L o a) it.back S a (l7 r.1 o.dst) o.op=true)∧CH P Rn ro L base p D (lK (bt o.op) r.2 S) r.1 r.2:=by
 have h':((uH P L it (l8 P L D) (nth L it.i)).f Rn ro base S a σ).Holds p:=h
 rw[dG] at h'
 cases ho:L[it.i]? with
 | none=>rw[ho] at h';exact h'.elim
 | some o=>
  rw[ho] at h'
  refine⟨o,rfl,?_⟩
  have SG:(((jo P L o).f Rn ro a σ (Nat.add base it.i)).bind (MJ P L o it.back a S ((l8 P L D).f Rn ro base))).Holds p:=h'
  refine SG.bind.mono ?_
  rintro⟨ba,cc⟩ hx
  have cX:(match Nat.beq it.back 0||eH P (ob L o a) it.back S a (l7 ba o.dst) o.op with
   | true=>(l8 P L D).f Rn ro base (lK (bt o.op) cc S) ba cc
   | false=>.fail "a load and a write, in either order":Run).Holds p:=hx
  split at cX
  ·rename_i hb
   rw[Bool.or_eq_true] at hb
   exact⟨hb.imp Nat.eq_of_beq_eq_true id,cX⟩
  ·exact cX.elim
theorem Gu [Env] {t:TypeId} {x v:V}:∀ {k:Nat} {l:List St},ye P t x v k l=true→∀j,j<k→∃τ,l[j]? =some τ∧et P τ t x=some v:=by
 intro k
 induction k with
 | zero=>intro l _ j hj;omega
 | succ k ih=>
  intro l h j hj
  cases l with
  | nil=>cases h
  | cons τ l=>
   have h':((match et P τ t x with | some u=>V.beq u v | none=>false)&&ye P t x v k l)=true:=h
   rw[Bool.and_eq_true] at h'
   cases j with
   | zero=>
    refine⟨τ,rfl,?_⟩
    cases hl:et P τ t x with
    | none=>rw[hl] at h';cases h'.1
    | some u=>rw[hl] at h';rw[V.beq_eq h'.1]
   | succ j=>exact ih h'.2 j (by omega)
theorem zS [Env] {back:Nat} {S:List St} {a:Act} {v:Option V} {t:TypeId} {x:Operand} (h:eH P false back S a v (.load t x)=true):
  ∃pv u,a.eval x=some pv∧v=some u∧(((∃cs o,pv=.aQ cs o)∧∀j,j≤back→∃τ,S[j]? =some τ)∨∀j,1≤j→j≤back→∃τ,S[j]? =some τ∧et P τ t pv=some u):=by
 unfold eH at h
 dsimp only at h
 split at h
 ·rename_i cs o u hx
  refine⟨_,u,hx,rfl,.inl ⟨⟨cs,o,rfl⟩,fun j hj=>?_⟩⟩
  have h':back+1≤len S:=Nat.le_of_ble_eq_true h
  rw[aO] at h'
  exact⟨_,List.getElem?_eq_getElem (by omega)⟩
 ·rename_i pv u _ hx
  refine⟨pv,u,hx,rfl,.inr fun j h1 h2=>?_⟩
  rw[ea] at h
  obtain⟨τ,jC,hl⟩:=Gu h (j-1) (by omega)
  refine⟨τ,?_,hl⟩
  rw[List.getElem?_drop] at jC
  rw[show j=1+(j-1) by omega];exact jC
 ·cases h
theorem Co [Env] {back:Nat} {S:List St} {a:Act} {v:Option V} {t:TypeId} {x:Operand} (h:eH P true back S a v (.load t x)=true) (j:Nat) (hj:j≤back):∃τ,S[j]? =some τ:=by
 have h':back+1≤len S:=Nat.le_of_ble_eq_true h
 rw[aO] at h'
 exact⟨_,List.getElem?_eq_getElem (by omega)⟩
theorem GX [Env] {ops:List Oper} {o:Oper} {a:Act} {id:Nat} (h:ob ops o a=true):fq P ops o a id=fun σ=>.ok (dg,σ):=by
 unfold ob at h
 unfold fq
 split at h
 ·cases h
 ·rename_i j want hg
  rw[hg]
  dsimp only
  split at h
  ·rename_i hs;rw[hs]
  ·rename_i d hs
   rw[hs]
   dsimp only
   split at h
   ·rename_i hv;rw[hv]
   ·cases h
theorem zT [Env] {off:Bool} {back:Nat} {S:List St} {a:Act} {v:Option V} {s d:TypeId} {x:Operand} (hc:nw P s d=true) (h:eH P off back S a v (.convert s d x)=true):
  (∀j,j≤back→∃τ,S[j]? =some τ)∧(off=true∨∃es esz ex,a.eval x=some (.br es esz ex)):=by
 unfold eH at h
 dsimp only at h
 rw[hc] at h
 dsimp only at h
 split at h
 ·cases h
 ·rename_i hb
  have bG:back+1≤len S:=Nat.le_of_ble_eq_true hb
  rw[aO] at bG
  refine⟨fun j hj=>⟨_,List.getElem?_eq_getElem (by omega)⟩,?_⟩
  split at h
  ·exact .inl rfl
  ·split at h
   ·rename_i es esz ex hx;exact .inr ⟨_,_,_,hx⟩
   ·cases h
theorem O3 [Env] {s d:TypeId} (hc:nw P s d=true) {σ τ:St} {id:Nat} {es:List V} {esz:Nat} {ex:Bool} {v:V} (h:dh P σ id s d (.br es esz ex)=.ok (v,τ)):∀σ',dh P σ' id s d (.br es esz ex)=.ok (v,σ'):=by
 intro σ'
 unfold nw at hc
 split at hc
 ·rename_i e h1 h2
  unfold dh evalConv at h⊢
  rw[h1,h2] at h⊢
  dsimp only at h⊢
  cases he:P.underlying e with
  | none=>rw[he] at h;cases h
  | some de=>
   rw[he] at h
   cases de with
   | int k=>cases k<;>first
    | (cases h;done)
    | (dsimp only at h⊢
       cases hb:Nat.beq esz 1 with
       | false=>rw[hb] at h;cases h
       | true=>
        rw[hb] at h
        dsimp only at h⊢
        cases pq:ez (aw es) with
        | none=>rw[pq] at h;cases h
        | some l=>rw[pq] at h;cases h;rfl)
   | _=>cases h
 ·cases hc
theorem M7 [Env] {s d:TypeId} (hc:nw P s d=true) {σ τ:St} {id:Nat} {x v:V} (h:dh P σ id s d x=.ok (v,τ)):τ=σ:=by
 unfold nw at hc
 split at hc
 ·rename_i e h1 h2
  unfold dh evalConv at h
  rw[h1,h2] at h
  cases x<;>dsimp only at h<;>first
   | (cases h;done)
   | (repeat' split at h
      all_goals first
       | (cases h;done)
       | (cases h;rfl)
       | (rename_i s' nV
          revert h
          cases ez _<;>intro h<;>cases h<;>rfl))
 ·cases hc
theorem Dw [Env] {ops:List Oper} {o:Oper} {a:Act} {id:Nat} (hr:sm P o.op=true) {σ:St} {v:V} {τ:St} (h:fq P ops o a id σ=.ok (v,τ)):τ=σ:=by
 cases bP:o.op<;>rw[bP] at hr<;>first
  | (cases hr;done)
  | exact(Ds bP h).1
  | (rename_i s d x
     have hc:nw P s d=true:=hr
     rcases j9 (P:=P) ops o a id with e | e | e<;>rw[e] at h
     ·rw[bP] at h
      have h':fh "convert operand" (a.eval x) (dh P σ id s d)=.ok (v,τ):=h
      cases hx:a.eval x with
      | none=>rw[hx] at h';cases h'
      | some xv=>rw[hx] at h';exact M7 hc h'
     ·cases h;rfl
     ·cases h)
theorem O4 [Env] {ops:List Oper} {o:Oper} {a:Act} {id:Nat} {s d:TypeId} {x:Operand} (bP:o.op=.convert s d x) (hc:nw P s d=true) {es:List V} {esz:Nat} {ex:Bool} (hx:a.eval x=some (.br es esz ex)) {σ:St} {v:V} {τ:St}
  (h:fq P ops o a id σ=.ok (v,τ)):∀σ',fq P ops o a id σ'=.ok (v,σ'):=by
 rcases j9 (P:=P) ops o a id with e | e | e<;>rw[e] at h⊢
 ·intro σ'
  rw[bP] at h⊢
  have h':fh "convert operand" (a.eval x) (dh P σ id s d)=.ok (v,τ):=h
  show fh "convert operand" (a.eval x) (dh P σ' id s d)=.ok (v,σ')
  rw[hx] at h'⊢
  exact O3 hc h' σ'
 ·cases h;intro σ';rfl
 ·cases h
theorem O5 [Env] {ops:List Oper} {o:Oper} {a:Act} {id:Nat} {t:TypeId} {x:Operand} (bP:o.op=.load t x) {cs:List V} {off:Nat} (hx:a.eval x=some (.aQ cs off)) {σ:St} {v:V} {τ:St}
  (h:fq P ops o a id σ=.ok (v,τ)):∀σ',fq P ops o a id σ'=.ok (v,σ'):=by
 rcases j9 (P:=P) ops o a id with e | e | e<;>rw[e] at h⊢
 ·intro σ'
  rw[bP] at h⊢
  have h':fh "load operand" (a.eval x) (ph P σ t)=.ok (v,τ):=h
  show fh "load operand" (a.eval x) (ph P σ' t)=.ok (v,σ')
  rw[hx] at h'⊢
  have h2:aV σ "load" (et P σ t (.aQ cs off))=.ok (v,τ):=h'
  show aV σ' "load" (et P σ' t (.aQ cs off))=.ok (v,σ')
  have e:et P σ' t (.aQ cs off)=et P σ t (.aQ cs off):=by
   unfold et
   cases se P t with
   | none=>rfl
   | some g=>cases g<;>cases bQ P t<;>rfl
  rw[e]
  cases hl:et P σ t (.aQ cs off) with
  | none=>rw[hl] at h2;cases h2
  | some u=>rw[hl] at h2;cases h2;rfl
 ·cases h;intro σ';rfl
 ·cases h
theorem M8 [Env] {ops:List Oper} {o:Oper} {a:Act} {id:Nat} (h1:bt o.op=false) {σ:St} {q:V×St→Prop} (h:(fq P ops o a id σ).Holds q):∃v κ,q (v,σ.ext id κ):=by
 have Cx:∀ {gr:String} {x:Option V},(aV σ gr x).Holds q→∃v κ,q (v,σ.ext id κ):=fun h=>let ⟨v,_,hq⟩:=dq h;⟨v,none,hq⟩
 rcases j9 (P:=P) ops o a id with hc | hc | hc<;>rw[hc] at h
 ·by_cases hr:nP o.op=true
  ·cases bP:o.op<;>rw[bP] at hr h<;>try (cases hr;done)
   obtain⟨xv,_,h⟩:=eh h
   exact Cx h
  ·by_cases hl:ee P o.op=true
   ·cases bP:o.op<;>rw[bP] at hl h h1<;>try (cases hl;done)
    case binOp op t x y yt=>
     obtain⟨xv,yv,_,_,h⟩:=lM h
     exact Cx h
    case slice t x lo hi mx=>
     obtain⟨xv,_,h⟩:=eh h
     unfold fH at h
     split at h
     ·split at h
      ·exact Cx h
      ·exact Cx h
     ·exact h.elim
    case convert s d x=>
     obtain⟨xv,_,h⟩:=eh h
     obtain⟨⟨v,aJ⟩,aX,hq⟩:=bL.Holds.of h
     unfold evalConv at aX
     split at aX
     ·cases aX;exact⟨_,none,hq⟩
     ·cases aX;exact⟨_,none,hq⟩
     ·split at aX
      ·split at aX
       ·cases aX;exact⟨_,none,hq⟩
       ·cases aX
      ·cases aX
     ·cases aX;exact⟨_,none,hq⟩
     ·split at aX
      ·split at aX
       ·cases aX;exact⟨_,some _,hq⟩
       ·cases aX
      ·cases aX
     ·split at aX
      ·cases aX;exact⟨_,none,hq⟩
      ·cases aX
     ·split at aX
      ·split at aX
       ·rw[Option.map_eq_some_iff] at aX
        obtain⟨s,_,he⟩:=aX
        cases he
        exact⟨_,none,hq⟩
       ·cases aX
      ·cases aX
     ·split at aX
      ·split at aX
       ·rw[Option.map_eq_some_iff] at aX
        obtain⟨s,_,he⟩:=aX
        cases he
        exact⟨_,none,hq⟩
       ·cases aX
      ·cases aX
     ·split at aX
      ·split at aX
       ·split at aX
        ·rw[Option.map_eq_some_iff] at aX
         obtain⟨s,_,he⟩:=aX
         cases he
         exact⟨_,none,hq⟩
        ·cases aX
       ·cases aX
      ·cases aX
     ·cases aX
    case lookup t x k ok=>exact(show False from h).elim
    case call c=>
     obtain⟨callee,nE,lq⟩:=c
     cases callee with
     | builtin b=>
      cases b<;>try (simp [ee] at hl;done)
      have h':(ic P σ id .len lq.toList (a.bR nE.toList)).Holds q:=h
      cases hv:a.bR nE.toList with
      | none=>rw[hv] at h';exact h'.elim
      | some vs=>
       rw[hv] at h'
       obtain⟨⟨v,aJ⟩,aX,hq⟩:=bL.Holds.of h'
       rcases uY:lq.toList with _ | ⟨t,l⟩
       ·rw[uY] at aX;rcases vs with _ | ⟨x,_ | ⟨y,_⟩⟩<;>cases aX
       ·rw[uY] at aX
        rcases vs with _ | ⟨x,_ | ⟨y,r⟩⟩
        ·cases aX
        ·have uZ:(eO P σ t x).map (·,σ)=some (v,aJ):=aX
         rw[Option.map_eq_some_iff] at uZ
         obtain⟨u,hu,he⟩:=uZ
         cases he
         exact⟨_,none,hq⟩
        ·cases aX
     | value f=>simp [ee] at hl
     | invoke x name=>simp [ee] at hl
   ·obtain⟨v,κ,hq,_⟩:=sG (P:=P) (id:=id) (a:=a) o.op h1 (by simpa using hl) (by simpa using hr) σ q h
    exact⟨v,κ,hq⟩
 ·exact⟨_,none,h⟩
 ·exact h.elim
end
end Go.Ev
end
section
namespace Go.Ev
open Go
def cG (l:Array Bool) (i:Nat):Prop:=l.getD i true=true
def Rec (P:Program) (L:List Oper) (W:List Nat) (base:Nat) (effs:List Nat) (snaps:List St) (b:Act) (aZ:St) (i:Nat) (o:Oper):Prop:=
 ∃v,(∀t,o.dst=some t→b.tmps.get t=some v)∧
  (fq P L o b (base+i) (aZ.kill (base+i))=.ok (v,(aZ.kill (base+i)).ext (base+i) (aZ.heap.get (base+i)))∨
   (∀σ',fq P L o b (base+i) σ'=.ok (v,σ'.ext (base+i) (aZ.heap.get (base+i))))∨
   (sm P o.op=true∧aZ.heap.get (base+i)=none∧∃j τ,snaps[j]? =some τ∧1≤j∧(∀f∈effs.take j,(W.getD i 0).testBit f=false)∧∀u jD,fq P L o b (base+i) τ=.ok (u,jD)→u=v))
structure sH [Env] (P:Program) (L:List Oper) (W:List Nat) (base:Nat) (listed:Array Bool) (done:Nat) (effs:List Nat) (snaps:List St) (σ:St) (b:Act) (aZ:St) (ρ:Ren) (a':Go.Act) (w:World):Prop where
 closed:∀i,i<L.length→cG listed i→∀j,(W.getD i 0).testBit j=true→j<L.length∧cG listed j
 ne:∀(i:Nat) (o:Oper),L[i]? =some o→cG listed i→done.testBit i=false→bt o.op=false
 rel:R ρ aZ w
 act:bO ρ b a'
 head:∃r,snaps=σ::r
 len:snaps.length=effs.length+1
 sub:∀c k,σ.heap.get c=some k→aZ.heap.get c=some k
 fresh:∀i,i<L.length→done.testBit i=false→σ.heap.get (base+i)=none
 jz:∀i,i<L.length→¬cG listed i→ρ (base+i)=none
 O6:∀(i:Nat) (o:Oper),L[i]? =some o→cG listed i→done.testBit i=false→Rec P L W base effs snaps b aZ i o
structure sI (P:Program) (Rn:Task→St→Run) (ro:Option Nat) (p:Out×St→Prop) (L:List Oper) (W:List Nat) (base:Nat) (listed:Array Bool) (done:Nat) (effs:List Nat) (snaps:List St) (b:Act) (aZ:St) (ρ:Ren)
  (D:List Item) (dn:Nat) (ef:List Nat) (S:List St) (bf:Act) (aJ:St):Prop where
 lu:dB P L W dn ef D=true
 holds:CH P Rn ro L base p D S bf aJ
 mono:(∀i,done.testBit i=true→dn.testBit i=true)∧∀j k,dn.testBit j=true→(W.getD j 0).testBit k=true→dn.testBit k=true
 pre:∃ep sp,ef=ep++effs∧S=sp++snaps∧ep.length=sp.length∧(∀f∈ep,f<L.length∧¬cG listed f)∧
  (ep=[]→dZ (cY ρ) aJ aZ∧∀j,j<L.length→dn.testBit j=false→aJ.heap.get (base+j)=none)
 sz:bf.size=b.size
 agree:∀t,(∀(j:Nat) (o:Oper),L[j]? =some o→¬cG listed j→dn.testBit j=true→o.dst≠some t)→(∀(j:Nat) (o:Oper),L[j]? =some o→cG listed j→dn.testBit j=false→o.dst≠some t)→bf.tmps.get t=b.tmps.get t
theorem iI [Env] (σ:St) (c b:Nat):(σ.kill c).heap.get b=if b=c then none else σ.heap.get b:=by
 rw[nS,Trie.bY]
theorem ia [Env] (σ:St) (c:Nat) (k:b9) (b:Nat):(σ.new c k).heap.get b=if b=c then some k else σ.heap.get b:=by
 rw[fJ,Trie.bY]
theorem ext_get [Env] (σ:St) (c:Nat) (κ:Option b9) (b:Nat) (h:σ.heap.get c=none):(σ.ext c κ).heap.get b=if b=c then κ else σ.heap.get b:=by
 cases κ with
 | none=>
  show σ.heap.get b=_
  by_cases e:b=c
  ·rw[if_pos e,e,h]
  ·rw[if_neg e]
 | some k=>exact ia σ c k b
theorem wc [Env] {σ:St} {c:Nat} {κ w2:Option b9} (h:σ.heap.get c=none) (e:σ.ext c κ=σ.ext c w2):κ=w2:=by
 have h1:=ext_get σ c κ c h
 have h2:=ext_get σ c w2 c h
 rw[if_pos rfl] at h1 h2
 rw[←h1,←h2,e]
section
variable {P:Program} {Rn:Task→St→Run} {ro:Option Nat} {p:Out×St→Prop} {L:List Oper} {W:List Nat} {base:Nat} {listed:Array Bool} {done:Nat} {effs:List Nat} {snaps:List St} {σ:St} {b:Act} {aZ:St} {ρ:Ren} {a':Go.Act} {w:World}
variable {D:List Item} {dn:Nat} {ef:List Nat} {S:List St} {bf:Act} {aJ:St} {it:Item} {o:Oper}
theorem iu {i:Nat} {o:Oper} (h:L[i]? =some o):i<L.length:=(List.getElem?_eq_some_iff.1 h).1
theorem yC [Env] (hp:mT L W) (hB:sH P L W base listed done effs snaps σ b aZ ρ a' w) (hw:sI P Rn ro p L W base listed done effs snaps b aZ ρ (it::D) dn ef S bf aJ) (ho:L[it.i]? =some o)
  (hW:∀j,(W.getD it.i 0).testBit j=true→j<L.length∧cG listed j):yy (looks L o) bf b:=by
 intro t ht
 obtain⟨_,_,W3,mf,_⟩:=cU hw.lu
 refine hw.agree t (fun j oj hj hl iw hd=>?_) (fun j oj hj dj lR hd=>?_)
 ·rcases(hp.data _ _ _ _ _ ho hj hd ht).2 with h | ⟨_,h⟩
  ·exact hl (hW j h).2
  ·rw[hw.mono.2 j _ iw h] at W3;cases W3
 ·rcases(hp.data _ _ _ _ _ ho hj hd ht).2 with h | ⟨h,_⟩
  ·have:=mf j h
   rw[lR] at this;cases this
  ·have mg:done.testBit j=false:=by
    cases hd2:done.testBit j with
    | false=>rfl
    | true=>rw[hw.mono.1 j hd2] at lR;cases lR
   rw[hB.ne j oj hj dj mg] at h;cases h
theorem zU {ep:List Nat} {k:Nat} (hb:uF (W.getD it.i 0) it.back (ep++effs)=true) (ub:∀f∈ep,f<L.length∧¬cG listed f)
  (hW:∀j,(W.getD it.i 0).testBit j=true→j<L.length∧cG listed j) (hk:k≤effs.length) (hf:∀f∈effs.take k,(W.getD it.i 0).testBit f=false):ep.length+k≤it.back:=by
 rcases Nat.lt_or_ge it.back (ep.length+k) with bI | pw
 ·exfalso
  have hl:it.back<(ep++effs).length:=by rw[List.length_append];omega
  unfold uF at hb
  rw[List.drop_eq_getElem_cons hl] at hb
  dsimp only at hb
  by_cases h1:it.back<ep.length
  ·rw[List.getElem_append_left h1] at hb
   exact(ub _ (List.getElem_mem h1)).2 (hW _ hb).2
  ·rw[List.getElem_append_right (by omega)] at hb
   have hi:it.back-ep.length<effs.length:=by rw[List.length_append] at hl;omega
   have hm:effs[it.back-ep.length]∈effs.take k:=by
    rw[List.mem_take_iff_getElem]
    exact⟨it.back-ep.length,by omega,rfl⟩
   rw[hf _ hm] at hb;cases hb
 ·exact pw
theorem xD {P:Program} {o:Op} (h:¬sm P o=true):nP o=false:=by
 cases o<;>first
  | rfl
  | exact absurd rfl h
theorem Dx [Env] (hp:mT L W) (hB:sH P L W base listed done effs snaps σ b aZ ρ a' w) (hw:sI P Rn ro p L W base listed done effs snaps b aZ ρ (it::D) dn ef S bf aJ)
  (ho:L[it.i]? =some o) (bN:bt o.op=false) (hW:∀j,(W.getD it.i 0).testBit j=true→j<L.length∧cG listed j):
  ∃u κ ba,bf.put o.dst u=some ba∧CH P Rn ro L base p D S ba (aJ.ext (base+it.i) κ)∧fq P L o b (base+it.i) aJ=.ok (u,aJ.ext (base+it.i) κ)∧
   (∀σ',dZ (cY ρ) aJ σ'→fq P L o b (base+it.i) σ'=.ok (u,σ'.ext (base+it.i) κ))∧
   (ee P o.op=false→nP o.op=false→∀σ',fq P L o b (base+it.i) σ'=.ok (u,σ'.ext (base+it.i) κ))∧
   (sm P o.op=true→aJ.ext (base+it.i) κ=aJ∧(it.back≠0→∀j,1≤j→j≤it.back→∃τ,S[j]? =some τ∧∀σ',dZ (cY ρ) τ σ'→fq P L o b (base+it.i) σ'=.ok (u,σ'))):=by
 obtain⟨o',ka,aH⟩:=zR hw.holds
 rw[ho] at ka;cases ka
 have me:=yC hp hB hw ho hW
 rw[xC bN] at aH
 have aH:=aH.bind
 have w3:∀x∈o.op.operands,∀v,b.eval x=some v→∃x',au ρ v x':=fun x _ v h=>⟨_,hB.act.eval x h⟩
 rw[qj (P:=P) me] at aH
 have key:∃u κ,(l6 o.dst (u,bf,aJ.ext (base+it.i) κ)).Holds (fun r=>(it.back=0∨eH P (ob L o bf) it.back S bf (l7 r.1 o.dst) o.op=true)∧CH P Rn ro L base p D (lK (bt o.op) r.2 S) r.1 r.2)∧
   fq P L o b (base+it.i) aJ=.ok (u,aJ.ext (base+it.i) κ)∧(∀σ',dZ (cY ρ) aJ σ'→fq P L o b (base+it.i) σ'=.ok (u,σ'.ext (base+it.i) κ))∧
   (ee P o.op=false→nP o.op=false→∀σ',fq P L o b (base+it.i) σ'=.ok (u,σ'.ext (base+it.i) κ)):=by
  by_cases w4:ee P o.op=false∧nP o.op=false
  ·obtain⟨u,κ,hq,cN⟩:=Dr (P:=P) (id:=base+it.i) (ops:=L) (a:=b) bN w4.1 w4.2 aJ _ aH
   exact⟨u,κ,hq,cN aJ,fun σ' _=>cN σ',fun _ _=>cN⟩
  ·obtain⟨u,κ,hq,hg,qk⟩:=Dq (P:=P) (id:=base+it.i) (ops:=L) bN w3 aJ _ aH
   exact⟨u,κ,hq,hg,qk,fun h1 h2=>absurd ⟨h1,h2⟩ w4⟩
 obtain⟨u,κ,hq,hg,qk,oN⟩:=key
 obtain⟨ba,lx,SH,mh⟩:=wa hq
 rw[bN] at mh
 refine⟨u,κ,ba,lx,mh,hg,qk,oN,fun h1=>?_⟩
 by_cases rn:∃s d x,o.op=.convert s d x
 ·obtain⟨s,d,x,bP⟩:=rn
  have hc:nw P s d=true:=by rw[bP] at h1;exact h1
  refine⟨Dw (by rw[bP];exact hc) hg,fun BD j W4 M9=>?_⟩
  have BE:=SH.resolve_left BD
  rw[bP] at BE
  obtain⟨hex,sA⟩:=zT hc BE
  obtain⟨τ,jC⟩:=hex j M9
  refine⟨τ,jC,fun σ' _=>?_⟩
  rcases sA with sA | ⟨es,esz,ex,hx⟩
  ·have e1:∀σ,fq P L o b (base+it.i) σ=.ok (dg,σ):=fun σ=>(qj (P:=P) me σ).symm.trans (congrFun (GX sA) σ)
   rw[e1] at hg
   rw[e1,(Prod.mk.inj (bL.ok.inj hg)).1]
  ·rw[me.eval x (by rw[bP];simp [Op.operands])] at hx
   exact O4 bP hc hx hg σ'
 obtain⟨t,x,bP⟩:∃t x,o.op=.load t x:=by
  cases bP:o.op<;>rw[bP] at h1 rn<;>first
   | exact⟨_,_,rfl⟩
   | (cases h1;done)
   | exact absurd ⟨_,_,_,rfl⟩ rn
 obtain⟨he,hl⟩:=Ds bP hg
 refine⟨he,fun BD j W4 M9=>?_⟩
 have BE:=SH.resolve_left BD
 rw[bP] at BE
 cases sA:ob L o bf with
 | true=>
  rw[sA] at BE
  obtain⟨τ,jC⟩:=Co BE j M9
  refine⟨τ,jC,fun σ' _=>?_⟩
  have e1:∀σ,fq P L o b (base+it.i) σ=.ok (dg,σ):=fun σ=>(qj (P:=P) me σ).symm.trans (congrFun (GX sA) σ)
  rw[e1] at hg
  rw[e1,(Prod.mk.inj (bL.ok.inj hg)).1]
 | false=>
 rw[sA] at BE
 obtain⟨pv,u2,SI,SJ,cN⟩:=zS BE
 rcases cN with ⟨⟨cs,off,rfl⟩,hex⟩ | cN
 ·obtain⟨τ,jC⟩:=hex j M9
  refine⟨τ,jC,fun σ' _=>?_⟩
  rw[me.eval x (by rw[bP];simp [Op.operands])] at SI
  exact O5 bP SI hg σ'
 obtain⟨τ,jC,hlv⟩:=cN j W4 M9
 have hu:u2=u:=by
  cases hd:o.dst with
  | none=>rw[hd] at SJ;cases SJ
  | some d=>
   rw[hd] at SJ
   have:=(lr lx).2.2 d
   rw[if_pos hd] at this
   have W5:ba.tmps.get d=some u2:=SJ
   rw[this] at W5
   exact(Option.some.inj W5).symm
 subst hu
 refine⟨τ,jC,fun σ' hs=>hl σ' fun pv' W6=>?_⟩
 rw[←me.eval x (by rw[bP];simp [Op.operands]),SI] at W6
 cases W6
 have aT:=hB.act.eval x (v:=pv) (by rw[←me.eval x (by rw[bP];simp [Op.operands])];exact SI)
 exact hs.et aT hlv
theorem zV {snaps sp:List St} {k:Nat} {τ jD:St} (h1:snaps[k]? =some τ) (h2:(sp++snaps)[sp.length+k]? =some jD):jD=τ:=by
 rw[List.getElem?_append_right (by omega)] at h2
 rw[show sp.length+k-sp.length=k by omega,h1] at h2
 exact(Option.some.inj h2).symm
theorem Dy [Env] {τ:St} {c:Nat} (h:∀x k,τ.heap.get x=some k→aZ.heap.get x=some k) (hf:τ.heap.get c=none):dZ (cY ρ) τ (aZ.kill c):=by
 intro x k hx _
 rw[iI]
 by_cases e:x=c
 ·rw[e,hf] at hx;cases hx
 ·rw[if_neg e];exact h x k hx
theorem pass [Env] (hp:mT L W) (hB:sH P L W base listed done effs snaps σ b aZ ρ a' w) (hw:sI P Rn ro p L W base listed done effs snaps b aZ ρ (it::D) dn ef S bf aJ) (hl:cG listed it.i):
  ∃o v ba,L[it.i]? =some o∧bt o.op=false∧bf.put o.dst v=some ba∧(∀t,o.dst=some t→b.tmps.get t=some v)∧CH P Rn ro L base p D S ba (aJ.ext (base+it.i) (aZ.heap.get (base+it.i))):=by
 obtain⟨o,ho,lR,mf,_,u5⟩:=cU hw.lu
 have bI:=iu ho
 have mg:done.testBit it.i=false:=by
  cases hd:done.testBit it.i with
  | false=>rfl
  | true=>rw[hw.mono.1 _ hd] at lR;cases lR
 have bN:=hB.ne _ o ho hl mg
 obtain⟨SK,zW,aiA⟩:=u5 bN
 have hW:=hB.closed _ bI hl
 obtain⟨u,κ,ba,lx,mh,hg,qk,oN,Cy⟩:=Dx hp hB hw ho bN hW
 obtain⟨v,hv,Dz⟩:=hB.O6 _ o ho hl mg
 obtain⟨ep,sp,BF,hS,hlen,ub,px⟩:=hw.pre
 have GR:(aZ.kill (base+it.i)).heap.get (base+it.i)=none:=by rw[iI,if_pos rfl]
 have main:u=v∧(κ=aZ.heap.get (base+it.i)∨aJ.ext (base+it.i) κ=aJ.ext (base+it.i) (aZ.heap.get (base+it.i))):=by
  rcases Dz with afb | afc | ⟨hrd,iq,j,τ,jC,W4,hjf,DA⟩
  ·
   have fin:(∃w2,fq P L o b (base+it.i) (aZ.kill (base+it.i))=.ok (u,(aZ.kill (base+it.i)).ext (base+it.i) w2)∧(κ=w2∨aJ.ext (base+it.i) κ=aJ.ext (base+it.i) w2))→
     u=v∧(κ=aZ.heap.get (base+it.i)∨aJ.ext (base+it.i) κ=aJ.ext (base+it.i) (aZ.heap.get (base+it.i))):=by
    rintro⟨w2,h1,h2⟩
    rw[afb] at h1
    have fi:=bL.ok.inj h1
    have u1:=wc GR (Prod.mk.inj fi).2
    rw[u1]
    exact⟨(Prod.mk.inj fi).1.symm,h2⟩
   by_cases he:ep=[]
   ·obtain⟨hs,hf⟩:=px he
    refine fin ⟨κ,qk _ ?_,.inl rfl⟩
    intro c k hc w3
    rw[iI]
    by_cases e:c=base+it.i
    ·rw[e,hf _ bI lR] at hc;cases hc
    ·rw[if_neg e];exact hs c k hc w3
   ·have pw:=zU (it:=it) (W:=W) (listed:=listed) (L:=L) (effs:=effs) (ep:=ep) (k:=0) (by rw[←BF];exact SK) ub hW (by omega) (by simp)
    have BD:it.back≠0:=by
     have:0<ep.length:=List.length_pos_iff.2 he
     omega
    by_cases hr:sm P o.op=true
    ·obtain⟨Ko,cN⟩:=Cy hr
     have zL:0<ep.length:=List.length_pos_iff.2 he
     obtain⟨τ,jC,Na⟩:=cN BD ep.length (by omega) (by omega)
     obtain⟨r,gu⟩:=hB.head
     have:τ=σ:=zV (snaps:=snaps) (k:=0) (by rw[gu];rfl) (by rw[←hS,←hlen];exact jC)
     subst this
     refine fin ⟨none,Na _ (Dy hB.sub (hB.fresh _ bI mg)),.inr Ko⟩
    ·have ql:ee P o.op=false:=by
      rcases zW with h | h | h
      ·exact absurd h BD
      ·exact absurd h hr
      ·exact h
     exact fin ⟨κ,oN ql (xD hr) _,.inl rfl⟩
  ·have h1:=afc aJ
   rw[hg] at h1
   have fi:=bL.ok.inj h1
   exact⟨(Prod.mk.inj fi).1,.inr (Prod.mk.inj fi).2⟩
  ·obtain⟨Ko,cN⟩:=Cy hrd
   have GY:j<snaps.length:=(List.getElem?_eq_some_iff.1 jC).1
   have pw:=zU (it:=it) (W:=W) (listed:=listed) (L:=L) (effs:=effs) (ep:=ep) (k:=j) (by rw[←BF];exact SK) ub hW (by have:=hB.len;omega) hjf
   obtain⟨jD,afd,Na⟩:=cN (by omega) (ep.length+j) (by omega) pw
   have:jD=τ:=zV (snaps:=snaps) jC (by rw[←hS,←hlen];exact afd)
   subst this
   refine⟨DA u _ (Na _ (fun _ _ h _=>h)),.inr ?_⟩
   rw[iq];exact Ko
 obtain⟨rfl,u1⟩:=main
 refine⟨o,u,ba,ho,bN,lx,hv,?_⟩
 rcases u1 with u1 | u1
 ·rw[←u1];exact mh
 ·rw[←u1];exact mh
end
end Go.Ev
end
section
namespace Go.Ev
open Go
section
variable {P:Program} {Rn:Task→St→Run} {ro:Option Nat} {p:Out×St→Prop} {L:List Oper} {W:List Nat} {base:Nat} {listed:Array Bool} {done:Nat} {effs:List Nat} {snaps:List St} {σ:St} {b:Act} {aZ:St} {ρ:Ren} {a':Go.Act} {w:World}
variable {D:List Item} {dn:Nat} {ef:List Nat} {S:List St} {bf:Act} {aJ:St} {it:Item} {o:Oper}
theorem w5 [Env] {id:Nat} {κ:Option b9} {j:Nat} (bN:j≠id) (h:aJ.heap.get j=none):(aJ.ext id κ).heap.get j=none:=by
 cases κ with
 | none=>exact h
 | some k=>
  show(aJ.new id k).heap.get j=none
  rw[ia,if_neg bN];exact h
theorem qL [Env] {id:Nat} {κ:Option b9} {c:Nat} {k:b9} (h:(aJ.ext id κ).heap.get c=some k):aJ.heap.get c=some k∨(c=id∧κ=some k):=by
 cases κ with
 | none=>exact .inl h
 | some k'=>
  have h':(aJ.new id k').heap.get c=some k:=h
  rw[ia] at h'
  by_cases e:c=id
  ·rw[if_pos e] at h';exact .inr ⟨e,h'⟩
  ·rw[if_neg e] at h';exact .inl h'
theorem target [Env] (hp:mT L W) (hB:sH P L W base listed done effs snaps σ b aZ ρ a' w) (hw:sI P Rn ro p L W base listed done effs snaps b aZ ρ (it::D) dn ef S bf aJ)
  (ho:L[it.i]? =some o) (bN:bt o.op=false) (_hdone:done.testBit it.i=false) (hW:∀j,(W.getD it.i 0).testBit j=true→j<L.length∧cG listed j):
  ∃v κ dc,fq P L o b (base+it.i) aZ=.ok (v,aZ.ext (base+it.i) κ)∧b.put o.dst v=some dc:=by
 obtain⟨o',ka,lR,mf,_,u5⟩:=cU hw.lu
 rw[ho] at ka;cases ka
 obtain⟨SK,zW,_⟩:=u5 bN
 obtain⟨u,κ,ba,lx,mh,hg,qk,oN,Cy⟩:=Dx hp hB hw ho bN hW
 obtain⟨dc,Kp⟩:=Dt (u:=u) lx (b:=b) hw.sz.symm
 obtain⟨ep,sp,BF,hS,hlen,ub,px⟩:=hw.pre
 by_cases he:ep=[]
 ·exact⟨u,κ,dc,qk _ (px he).1,Kp⟩
 ·have zL:0<ep.length:=List.length_pos_iff.2 he
  have pw:=zU (it:=it) (W:=W) (listed:=listed) (L:=L) (effs:=effs) (ep:=ep) (k:=0) (by rw[←BF];exact SK) ub hW (by omega) (by simp)
  by_cases hr:sm P o.op=true
  ·obtain⟨Ko,cN⟩:=Cy hr
   obtain⟨τ,jC,Na⟩:=cN (by omega) ep.length (by omega) (by omega)
   obtain⟨r,gu⟩:=hB.head
   have:τ=σ:=zV (snaps:=snaps) (k:=0) (by rw[gu];rfl) (by rw[←hS,←hlen];exact jC)
   subst this
   exact⟨u,none,dc,Na _ (fun c k hc _=>hB.sub c k hc),Kp⟩
  ·have ql:ee P o.op=false:=by
    rcases zW with h | h | h
    ·omega
    ·exact absurd h hr
    ·exact h
   exact⟨u,κ,dc,oN ql (xD hr) _,Kp⟩
theorem py [Env] {dn i:Nat} (h:(∀i,done.testBit i=true→dn.testBit i=true)∧∀j k,dn.testBit j=true→(W.getD j 0).testBit k=true→dn.testBit k=true) (hc:∀j,(W.getD i 0).testBit j=true→dn.testBit j=true):
  (∀j,done.testBit j=true→(Nat.lor dn (2^i)).testBit j=true)∧∀j k,(Nat.lor dn (2^i)).testBit j=true→(W.getD j 0).testBit k=true→(Nat.lor dn (2^i)).testBit k=true:=by
 refine⟨fun j hj=>by rw[dD,h.1 j hj];rfl,fun j k hj hk=>?_⟩
 rw[dD] at hj⊢
 simp only[Bool.or_eq_true,decide_eq_true_eq] at hj⊢
 rcases hj with hj | rfl
 ·exact .inl (h.2 j k hj hk)
 ·exact .inl (hc k hk)
theorem Nb [Env] (hp:mT L W) (hB:sH P L W base listed done effs snaps σ b aZ ρ a' w) (hw:sI P Rn ro p L W base listed done effs snaps b aZ ρ (it::D) dn ef S bf aJ):
  ∃u4 S' ba cc,sI P Rn ro p L W base listed done effs snaps b aZ ρ D (Nat.lor dn (2^it.i)) u4 S' ba cc:=by
 obtain⟨o,ho,lR,mf,DB,u5⟩:=cU hw.lu
 have bI:=iu ho
 obtain⟨ep,sp,BF,hS,hlen,ub,px⟩:=hw.pre
 have Nc:∀κ,ep=[]→∀j,j<L.length→(Nat.lor dn (2^it.i)).testBit j=false→(aJ.ext (base+it.i) κ).heap.get (base+j)=none:=by
  intro κ he j hj hd
  rw[dD] at hd
  simp only[Bool.or_eq_false_iff,decide_eq_false_iff_not] at hd
  exact w5 (by omega) ((px he).2 j hj hd.1)
 by_cases hl:cG listed it.i
 ·obtain⟨o',v,ba,ka,bN,lx,hv,mh⟩:=pass hp hB hw hl
  rw[ho] at ka;cases ka
  obtain⟨_,_,jR⟩:=u5 bN
  obtain⟨yD,_,fK⟩:=lr lx
  refine⟨ef,S,ba,_,jR,mh,py hw.mono mf,⟨ep,sp,BF,hS,hlen,ub,fun he=>⟨?_,Nc _ he⟩⟩,by rw[yD];exact hw.sz,fun t h1 h2=>?_⟩
  ·intro c k hc w3
   rcases qL hc with h | ⟨rfl,h⟩
   ·exact(px he).1 c k h w3
   ·exact h
  ·rw[fK]
   by_cases hd:o.dst=some t
   ·rw[if_pos hd,hv t hd]
   ·rw[if_neg hd]
    refine hw.agree t (fun j oj hj dj iw=>h1 j oj hj dj (by rw[dD,iw];rfl)) fun j oj hj dj iw=>?_
    by_cases e:j=it.i
    ·subst e;rw[ho] at hj;cases hj;exact hd
    ·exact h2 j oj hj dj (by rw[dD,iw];simp;omega)
 ·have Nd:∀ {ba:Act},(∀t,o.dst≠some t→ba.tmps.get t=bf.tmps.get t)→∀t,(∀(j:Nat) (o:Oper),L[j]? =some o→¬cG listed j→(Nat.lor dn (2^it.i)).testBit j=true→o.dst≠some t)→
    (∀(j:Nat) (o:Oper),L[j]? =some o→cG listed j→(Nat.lor dn (2^it.i)).testBit j=false→o.dst≠some t)→ba.tmps.get t=b.tmps.get t:=by
   intro ba hk t h1 h2
   rw[hk t (h1 _ _ ho hl (by rw[dD];simp))]
   refine hw.agree t (fun j oj hj dj iw=>h1 j oj hj dj (by rw[dD,iw];rfl)) fun j oj hj dj iw=>h2 j oj hj dj ?_
   rw[dD,iw]
   have:it.i≠j:=fun e=>hl (e▸dj)
   simp [this]
  obtain⟨o',ka,aH⟩:=zR hw.holds
  rw[ho] at ka;cases ka
  cases bN:bt o.op with
  | true=>
   obtain⟨aj9,jR⟩:=DB bN
   obtain⟨⟨dc,cc⟩,ba,⟨_,mh⟩,hf⟩:=(u3 (fun _ _=>rfl) rfl rfl aH).exists
   rw[bN] at mh
   refine⟨it.i::ef,cc::S,ba,cc,jR,mh,py hw.mono mf,⟨it.i::ep,cc::sp,by rw[BF];rfl,by rw[hS];rfl,by simp [hlen],?_,fun h=>by cases h⟩,by rw[hf.sa];exact hw.sz,Nd hf.SF⟩
   intro f hf
   rcases List.mem_cons.1 hf with rfl | hf
   ·exact⟨bI,hl⟩
   ·exact ub f hf
  | false=>
   obtain⟨_,_,jR⟩:=u5 bN
   rw[xC bN] at aH
   obtain⟨v,κ,hq⟩:=M8 (P:=P) bN aH.bind
   obtain⟨ba,lx,_,mh⟩:=wa hq
   rw[bN] at mh
   obtain⟨yD,_,fK⟩:=lr lx
   refine⟨ef,S,ba,_,jR,mh,py hw.mono mf,⟨ep,sp,BF,hS,hlen,ub,fun he=>⟨?_,Nc _ he⟩⟩,by rw[yD];exact hw.sz,Nd fun t ht=>by rw[fK,if_neg ht]⟩
   intro c k hc w3
   rcases qL hc with h | ⟨rfl,h⟩
   ·exact(px he).1 c k h w3
   ·exact absurd (hB.jz _ bI hl) w3
theorem Uf [Env] (hp:mT L W) (hB:sH P L W base listed done effs snaps σ b aZ ρ a' w):∀ {D1:List Item} {dn:Nat} {ef:List Nat} {S:List St} {bf:Act} {aJ:St},sI P Rn ro p L W base listed done effs snaps b aZ ρ (D1++it::D) dn ef S bf aJ→
  ∃kW u4 S' ba cc,sI P Rn ro p L W base listed done effs snaps b aZ ρ (it::D) kW u4 S' ba cc:=by
 intro D1
 induction D1 with
 | nil=>intro dn ef S bf aJ hw;exact⟨_,_,_,_,_,hw⟩
 | cons x D1 ih=>
  intro dn ef S bf aJ hw
  obtain⟨_,_,_,_,h⟩:=Nb hp hB hw
  exact ih h
structure BG (P:Program) (Rn:Task→St→Run) (ro:Option Nat) (p:Out×St→Prop) (L:List Oper) (W:List Nat) (base:Nat) (listed:Array Bool) (done:Nat) (effs:List Nat) (snaps:List St) (b:Act) (aZ:St)
  (D:List Item) (dn:Nat) (bf:Act) (aJ:St):Prop where
 lu:dB P L W dn effs D=true
 holds:CH P Rn ro L base p D snaps bf aJ
 mono:(∀i,done.testBit i=true→dn.testBit i=true)∧∀j k,dn.testBit j=true→(W.getD j 0).testBit k=true→dn.testBit k=true
 lS:∀i,dn.testBit i=true→i<L.length∧cG listed i
 sz:bf.size=b.size
 df:bf.defers=b.defers
 DC:aJ.next=aZ.next
 room:base+L.length≤aJ.next
 sub:∀c k,aJ.heap.get c=some k→aZ.heap.get c=some k
 fresh:∀i,i<L.length→dn.testBit i=false→aJ.heap.get (base+i)=none
 agree:∀t,(∀(j:Nat) (o:Oper),L[j]? =some o→cG listed j→dn.testBit j=false→o.dst≠some t)→bf.tmps.get t=b.tmps.get t
theorem BG.walk (h:BG P Rn ro p L W base listed done effs snaps b aZ D dn bf aJ):sI P Rn ro p L W base listed done effs snaps b aZ ρ D dn effs snaps bf aJ:=
 ⟨h.lu,h.holds,h.mono,⟨[],[],rfl,rfl,rfl,(fun f hf=>by cases hf),fun _=>⟨fun c k hc _=>h.sub c k hc,h.fresh⟩⟩,h.sz,fun t _ h2=>h.agree t h2⟩
theorem DD [Env] {id:Nat} {κ:Option b9} (h:id<aJ.next):(aJ.ext id κ).next=aJ.next:=by
 cases κ with
 | none=>rfl
 | some k=>
  show(aJ.new id k).next=aJ.next
  rw[lk];omega
theorem O7 [Env] (hp:mT L W) (hB:sH P L W base listed done effs snaps σ b aZ ρ a' w) (h:BG P Rn ro p L W base listed done effs snaps b aZ (it::D) dn bf aJ) (hl:cG listed it.i):
  ∃ba cc,BG P Rn ro p L W base listed done effs snaps b aZ D (Nat.lor dn (2^it.i)) ba cc:=by
 obtain⟨o,v,ba,ho,bN,lx,hv,mh⟩:=pass (ρ:=ρ) hp hB h.walk hl
 obtain⟨o',ka,lR,mf,_,u5⟩:=cU h.lu
 rw[ho] at ka;cases ka
 obtain⟨_,_,jR⟩:=u5 bN
 obtain⟨yD,Nf,fK⟩:=lr lx
 have bI:=iu ho
 have BH:(aJ.ext (base+it.i) (aZ.heap.get (base+it.i))).next=aJ.next:=DD (by have:=h.room;omega)
 refine⟨ba,_,jR,mh,py h.mono mf,fun j hj=>?_,by rw[yD];exact h.sz,by rw[Nf];exact h.df,by rw[BH];exact h.DC,by rw[BH];exact h.room,fun c k hc=>?_,fun j hj hd=>?_,fun t h2=>?_⟩
 ·rw[dD] at hj
  simp only[Bool.or_eq_true,decide_eq_true_eq] at hj
  rcases hj with hj | rfl
  ·exact h.lS j hj
  ·exact⟨bI,hl⟩
 ·rcases qL hc with h1 | ⟨rfl,h1⟩
  ·exact h.sub c k h1
  ·exact h1
 ·rw[dD] at hd
  simp only[Bool.or_eq_false_iff,decide_eq_false_iff_not] at hd
  exact w5 (by omega) (h.fresh j hj hd.1)
 ·rw[fK]
  by_cases hd:o.dst=some t
  ·rw[if_pos hd,hv t hd]
  ·rw[if_neg hd]
   refine h.agree t fun j oj hj dj iw=>?_
   by_cases e:j=it.i
   ·subst e;rw[ho] at hj;cases hj;exact hd
   ·exact h2 j oj hj dj (by rw[dD,iw];simp;omega)
theorem Ng [Env] (hp:mT L W) (hB:sH P L W base listed done effs snaps σ b aZ ρ a' w):∀ {D1:List Item} {dn:Nat} {bf:Act} {aJ:St},BG P Rn ro p L W base listed done effs snaps b aZ (D1++D) dn bf aJ→(∀x∈D1,cG listed x.i)→
  ∃kW ba cc,BG P Rn ro p L W base listed done effs snaps b aZ D kW ba cc∧(∀i,dn.testBit i=true→kW.testBit i=true)∧(∀x∈D1,kW.testBit x.i=true):=by
 intro D1
 induction D1 with
 | nil=>intro dn bf aJ h _;exact⟨dn,_,_,h,fun _ h=>h,fun x hx=>by cases hx⟩
 | cons x D1 ih=>
  intro dn bf aJ h hl
  obtain⟨ba,cc,h2⟩:=O7 hp hB h (hl x List.mem_cons_self)
  obtain⟨kW,O8,nF,h3,hm,hx⟩:=ih h2 fun y hy=>hl y (List.mem_cons_of_mem _ hy)
  refine⟨kW,O8,nF,h3,fun i hi=>hm i (by rw[dD,hi];rfl),fun y hy=>?_⟩
  rcases List.mem_cons.1 hy with rfl | hy
  ·exact hm _ (by rw[dD];simp)
  ·exact hx y hy
end
end Go.Ev
end
section
namespace Go.Ev
open Go
theorem Ug:∀(l:List Nat) (f:Nat→Option b9) (σ:St),∃σ':St,σ'.next=σ.next∧∀c,σ'.heap.get c=if c∈l then f c else σ.heap.get c:=by
 intro l
 induction l with
 | nil=>intro f σ;exact⟨σ,rfl,fun c=>by simp⟩
 | cons x l ih=>
  intro f σ
  obtain⟨σ',hn,hg⟩:=ih f σ
  obtain⟨h,m⟩:=σ'
  refine⟨⟨h.put x (f x),m⟩,hn,fun c=>?_⟩
  show(h.put x (f x)).get c=_
  rw[Trie.bY]
  by_cases e:c=x
  ·subst e;simp
  ·rw[if_neg e]
   have:=hg c
   rw[show h.get c=_ from this]
   simp [e]
section
variable {P:Program} {Rn:Task→St→Run} {ro:Option Nat} {p:Out×St→Prop} {L:List Oper} {W:List Nat} {base:Nat} {listed:Array Bool} {done:Nat} {effs:List Nat} {snaps:List St} {σ:St} {b:Act} {aZ:St} {ρ:Ren} {a':Go.Act} {w:World}
variable {D:List Item} {dn:Nat} {ef:List Nat} {S:List St} {bf:Act} {aJ:St} {it:Item} {o:Oper}
theorem R.sub [Env] {σ':St} (h:R ρ σ w) (hs:∀c k,σ'.heap.get c=some k→σ.heap.get c=some k) (hn:σ'.next=σ.next):R ρ σ' w:=
 ⟨fun c k hc=>h.di c k (hs c k hc),fun c c' k k' l l' h1 h2=>h.inj c c' k k' l l' (hs _ _ h1) (hs _ _ h2),fun c hc=>h.fresh c (by rw[←hn];exact hc),h.valid,
  fun c o x hx=>⟨(h.aW c o x hx).1,fun⟨c',k,l,h1,h2,h3,h4⟩=>(h.aW c o x hx).2 ⟨c',k,l,hs _ _ h1,h2,h3,h4⟩⟩,h.laid⟩
theorem bn.sub [Env] {ids:Nat→Prop} {bS:Ren} {σ₀ σ':St} {fY:World} (h:bn ids bS σ₀ fY ρ σ w) (hs:∀c k,σ'.heap.get c=some k→σ.heap.get c=some k) (hn:σ'.next=σ.next):bn ids bS σ₀ fY ρ σ' w:=
 ⟨h.r.sub hs hn,h.le,by rw[hn];exact h.next,h.jz,h.size,h.os,h.tape,h.output,h.aV,fun c hc ⟨c',k,l,h1,h2,h3,h4⟩=>h.wr c hc ⟨c',k,l,hs _ _ h1,h2,h3,h4⟩,fun c k hc=>h.jL c k (hs _ _ hc),h.iG⟩
theorem cG.set {i j:Nat} (hi:i<listed.size):cG (listed.setIfInBounds i true) j↔cG listed j∨j=i:=by
 unfold cG
 rw[Array.getD_eq_getD_getElem?,Array.getD_eq_getD_getElem?]
 by_cases e:j=i
 ·subst e;simp [hi]
 ·rw[Array.getElem?_setIfInBounds_ne (by omega)];simp [e]
theorem xE [Env]:∀ {D1:List Item} {dn:Nat} {ef:List Nat},dB P L W dn ef (D1++D)=true→
  ∃kW ep,dB P L W kW (ep++ef) D=true∧(∀j,dn.testBit j=true→kW.testBit j=true)∧(∀x∈D1,kW.testBit x.i=true)∧(∀j,kW.testBit j=true→dn.testBit j=true∨∃x∈D1,x.i=j)∧
   ∀f∈ep,dn.testBit f=false∧∃o,L[f]? =some o∧bt o.op=true:=by
 intro D1
 induction D1 with
 | nil=>intro dn ef h;exact⟨dn,[],h,fun _ h=>h,(fun x hx=>by cases hx),fun _ h=>.inl h,fun f hf=>by cases hf⟩
 | cons x D1 ih=>
  intro dn ef h
  obtain⟨o,ho,lR,_,h1,h2⟩:=cU h
  have fin:∀ {u4},dB P L W (Nat.lor dn (2^x.i)) u4 (D1++D)=true→(∃ep,u4=ep++ef∧∀f∈ep,dn.testBit f=false∧∃o,L[f]? =some o∧bt o.op=true)→
    ∃kW ep,dB P L W kW (ep++ef) D=true∧(∀j,dn.testBit j=true→kW.testBit j=true)∧(∀y∈x::D1,kW.testBit y.i=true)∧(∀j,kW.testBit j=true→dn.testBit j=true∨∃y∈x::D1,y.i=j)∧
     ∀f∈ep,dn.testBit f=false∧∃o,L[f]? =some o∧bt o.op=true:=by
   rintro u4 h ⟨ep,rfl,ub⟩
   obtain⟨kW,ep',h3,h4,h5,h6,h7⟩:=ih h
   refine⟨kW,ep'++ep,by rw[List.append_assoc];exact h3,fun j hj=>h4 j (by rw[dD,hj];rfl),fun y hy=>?_,fun j hj=>?_,fun f hf=>?_⟩
   ·rcases List.mem_cons.1 hy with rfl | hy
    ·exact h4 _ (by rw[dD];simp)
    ·exact h5 y hy
   ·rcases h6 j hj with h | ⟨y,hy,h⟩
    ·rw[dD] at h
     simp only[Bool.or_eq_true,decide_eq_true_eq] at h
     rcases h with h | h
     ·exact .inl h
     ·exact .inr ⟨x,List.mem_cons_self,h⟩
    ·exact .inr ⟨y,List.mem_cons_of_mem _ hy,h⟩
   ·rcases List.mem_append.1 hf with hf | hf
    ·obtain⟨h8,h9⟩:=h7 f hf
     rw[dD] at h8
     simp only[Bool.or_eq_false_iff] at h8
     exact⟨h8.1,h9⟩
    ·exact ub f hf
  cases he:bt o.op with
  | true=>exact fin (h1 he).2 ⟨[x.i],rfl,fun f hf=>by
    have:f=x.i:=by simpa using hf
    subst this;exact⟨lR,o,ho,he⟩⟩
  | false=>exact fin (h2 he).2.2 ⟨[],rfl,fun f hf=>by cases hf⟩
theorem kb [Env] {dc:Act} {id:Nat} (h:∀t∈looks L o,dc.tmps.get t=b.tmps.get t) (σ':St):fq P L o dc id σ'=fq P L o b id σ':=
 qj (P:=P) h σ'
theorem zX [Env] {id:Nat} (bN:bt o.op=false) (DE:bO ρ b a') {τ jD:St} {v:V} {κ:Option b9} (h0:τ.heap.get id=none) (h:fq P L o b id τ=.ok (v,τ.ext id κ)) (hs:dZ (cY ρ) τ jD):
  fq P L o b id jD=.ok (v,jD.ext id κ):=by
 have w3:∀x∈o.op.operands,∀v,b.eval x=some v→∃x',au ρ v x':=fun x _ v h=>⟨_,DE.eval x h⟩
 obtain⟨v2,κ2,he,_,hm⟩:=Dq (P:=P) (id:=id) (ops:=L) bN w3 τ (fun r=>r=(v,τ.ext id κ)) (by rw[h];exact rfl)
 have h1:v2=v:=(Prod.mk.inj he).1
 have h2:κ2=κ:=wc h0 (Prod.mk.inj he).2
 subst h1 h2
 exact hm jD hs
variable {F:Fence} {bS:Ren} {σ₀:St} {fY:World}
def Inv [Env] (P:Program) (Rn:Task→St→Run) (ro:Option Nat) (F:Fence) (p:Out×St→Prop) (L:List Oper) (W:List Nat) (base:Nat) (bS:Ren) (σ₀:St) (fY:World) (listed:Array Bool) (a':Go.Act) (w:World):Prop:=
 ∃D done effs snaps a σ b aZ ρ,sH P L W base listed done effs snaps σ b aZ ρ a' w∧BG P Rn ro p L W base listed done effs snaps b aZ D done a σ∧fZ ρ ro F∧bn (fun c=>base≤c) bS σ₀ fY ρ aZ w∧listed.size=L.length
theorem Uh [Env] (hg:Good P Rn) {ops:Array Oper} (hp:mT ops.toList W) (hI:Inv P Rn ro F p ops.toList W base bS σ₀ fY listed a' w) {i:Nat} (ho:ops.toList[i]? =some o) (bN:bt o.op=false) (hl:¬cG listed i)
  (hW:∀j,(W.getD i 0).testBit j=true→j<ops.toList.length∧cG listed j) {K:Go.Act→World→Prop} {Q:Exit→Go.Act→World→Prop}
  (hK:∀js fD,Inv P Rn ro F p ops.toList W base bS σ₀ fY (listed.setIfInBounds i true) js fD→K js fD):wpOpIn F 0 P ops Q i K a' w:=by
 obtain⟨D,done,effs,snaps,a,σ,b,aZ,ρ,hB,hA,ie,aH,bl⟩:=hI
 have bI:=iu ho
 have mg:done.testBit i=false:=by
  cases hd:done.testBit i with
  | false=>rfl
  | true=>exact absurd (hA.lS i hd).2 hl
 obtain⟨D1,it,D2,rfl,rfl⟩:=mU hA.lu i bI mg
 obtain⟨kW,u4,S',ba,cc,hw⟩:=Uf hp hB hA.walk
 obtain⟨v,κ,dc,kH,lx⟩:=target hp hB hw ho bN mg hW
 have cx:ρ (base+it.i)=none:=hB.jz _ bI hl
 have iq:aZ.heap.get (base+it.i)=none:=hB.rel.od cx
 have hi:ops[it.i]? =some o:=by rw[←Array.getElem?_toList];exact ho
 have mi:((jo P ops.toList o).f Rn ro b aZ (base+it.i)).Holds fun r=>r=(dc,aZ.ext (base+it.i) κ):=by
  rw[xC bN,kH]
  show(qG (aZ.ext (base+it.i) κ) (b.put o.dst v)).Holds _
  rw[lx]
  exact rfl
 obtain⟨yD,Nf,fK⟩:=lr lx
 have dY:base+it.i<aZ.next:=by have:=hA.room;have:=hA.DC;omega
 refine qK hg hB.rel cx hB.act ie hi mi ?_
 intro O9 nF bC js fD he DE nW
 cases he
 refine hK js fD ⟨D1++it::D2,done,effs,snaps,a,σ,dc,_,bC,⟨?_,?_,nW.r,DE,hB.head,hB.len,?_,hB.fresh,?_,?_⟩,⟨hA.lu,hA.holds,hA.mono,?_,by rw[yD];exact hA.sz,by rw[Nf];exact hA.df,?_,hA.room,?_,hA.fresh,?_⟩,ie.mono nW.le,?_,by simpa using bl⟩
 ·intro j hj dj k hk
  rw[cG.set (by omega)] at dj⊢
  rcases dj with dj | rfl
  ·exact⟨(hB.closed j hj dj k hk).1,.inl (hB.closed j hj dj k hk).2⟩
  ·exact⟨(hW k hk).1,.inl (hW k hk).2⟩
 ·intro j oj hj dj iw
  rw[cG.set (by omega)] at dj
  rcases dj with dj | rfl
  ·exact hB.ne j oj hj dj iw
  ·rw[ho] at hj;cases hj;exact bN
 ·intro c k hc
  have gh:=hB.sub c k hc
  rw[ext_get _ _ _ _ iq]
  by_cases e:c=base+it.i
  ·rw[e,iq] at gh;cases gh
  ·rw[if_neg e];exact gh
 ·intro j hj dj
  rw[cG.set (by omega)] at dj
  cases hr:bC (base+j) with
  | none=>rfl
  | some l=>
   rcases nW.jz _ _ hr with h | h | h
   ·rw[hB.jz j hj fun h=>dj (.inl h)] at h;cases h
   ·have:=hA.room;have:=hA.DC;omega
   ·exact absurd (.inr (by omega)) dj
 ·intro j oj hj dj iw
  rw[cG.set (by omega)] at dj
  by_cases e:j=it.i
  ·subst e
   rw[ho] at hj;cases hj
   have ql:∀t∈looks ops.toList o,dc.tmps.get t=b.tmps.get t:=by
    intro t ht
    rw[fK]
    by_cases hd:o.dst=some t
    ·exact absurd rfl (hp.data _ _ _ _ _ ho ho hd ht).1
    ·rw[if_neg hd]
   refine⟨v,fun t ht=>by rw[fK,if_pos ht],.inl ?_⟩
   rw[kb ql,ext_get _ _ _ _ iq,if_pos rfl]
   refine zX bN hB.act iq kH ?_
   intro c k hc _
   rw[iI,ext_get _ _ _ _ iq]
   by_cases e:c=base+it.i
   ·rw[e,iq] at hc;cases hc
   ·rw[if_neg e,if_neg e];exact hc
  ·have dj:=dj.resolve_right e
   have DF:=hB.ne j oj hj dj iw
   obtain⟨u,hu,Dz⟩:=hB.O6 j oj hj dj iw
   have ql:∀t∈looks ops.toList oj,dc.tmps.get t=b.tmps.get t:=by
    intro t ht
    rw[fK]
    by_cases hd:o.dst=some t
    ·rcases(hp.data _ _ _ _ _ hj ho hd ht).2 with h | ⟨h,_⟩
     ·exact absurd (hB.closed j (iu hj) dj _ h).2 hl
     ·rw[bN] at h;cases h
    ·rw[if_neg hd]
   have kU:(aZ.ext (base+it.i) κ).heap.get (base+j)=aZ.heap.get (base+j):=by
    rw[ext_get _ _ _ _ iq,if_neg (by omega)]
   refine⟨u,fun t ht=>?_,?_⟩
   ·rw[fK]
    by_cases hd:o.dst=some t
    ·exact absurd (hp.W2 _ _ _ _ _ hj ho ht hd) e
    ·rw[if_neg hd];exact hu t ht
   ·rw[kU]
    rcases Dz with h | h | ⟨h1,h2,q,τ,h3,h4,h5,h6⟩
    ·refine .inl ?_
     rw[kb ql]
     refine zX DF hB.act (by rw[iI,if_pos rfl]) h ?_
     intro c k hc _
     rw[iI] at hc⊢
     by_cases e2:c=base+j
     ·rw[if_pos e2] at hc;cases hc
     ·rw[if_neg e2] at hc⊢
      rw[ext_get _ _ _ _ iq]
      by_cases e3:c=base+it.i
      ·rw[e3,iq] at hc;cases hc
      ·rw[if_neg e3];exact hc
    ·exact .inr (.inl fun σ'=>by rw[kb ql];exact h σ')
    ·exact .inr (.inr ⟨h1,h2,q,τ,h3,h4,h5,fun u' jD hh=>h6 u' jD (by rw[←kb ql];exact hh)⟩)
 ·intro j hj
  rw[cG.set (by omega)]
  exact⟨(hA.lS j hj).1,.inl (hA.lS j hj).2⟩
 ·rw[DD dY];exact hA.DC
 ·intro c k hc
  have gh:=hA.sub c k hc
  rw[ext_get _ _ _ _ iq]
  by_cases e:c=base+it.i
  ·rw[e,iq] at gh;cases gh
  ·rw[if_neg e];exact gh
 ·intro t ht
  have h1:o.dst≠some t:=ht it.i o ho ((cG.set (by omega)).2 (.inr rfl)) mg
  rw[fK,if_neg h1]
  exact hA.agree t fun j oj hj dj iw=>ht j oj hj ((cG.set (by omega)).2 (.inl dj)) iw
 ·exact aH.trans (nW.weaken fun c hc=>by rw[hc];exact Nat.le_add_right _ _)
end
end Go.Ev
end
