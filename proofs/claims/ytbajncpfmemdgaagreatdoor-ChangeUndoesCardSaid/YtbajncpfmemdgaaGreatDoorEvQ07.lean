/- Proved: parts of the way: DrawB, DrawC, DrawD, DrawE, Draw. -/
import Derived.Test.YtbajncpfmemdgaaGreatDoorEvQ06
set_option linter.unusedVariables false
set_option linter.unusedSimpArgs false
section
namespace Go.Ev
open Go
section
variable {P:Program} {ρ:Ren} {id:Nat} {Rn:Task→St→Run} {ro:Option Nat}
noncomputable def eW (P:Program) (ops:List Oper) (o:Oper) (a:Act) (id:Nat) (σ:St):VS:=
 match o.guard with
 | none=>(lU P o.op).f a σ id
 | some (j,want)=>match fE ops j with
  | none=>.ok (cO,σ)
  | some d=>match rk want (a.tmps.get d) with
   | some true=>(lU P o.op).f a σ id
   | some false=>.ok (cO,σ)
   | none=>.fail "guard"
theorem Bl (r:VS) (a:Act) (dst:Option Tmp):(r.bind (fq a)).bind (lf dst)=r.bind fun r=>lf dst (r.1,a,r.2):=by
 induction r with
 | ok x=>rfl
 | fail w=>rfl
 | pick n k ih=>
  show bu.pick n _=bu.pick n _
  congr 1
  funext i
  exact ih i
 | tr C hm he=>
  show bu.tr _ _ _=bu.tr _ _ _
  congr 1
theorem Bm {o:Op} (h:bl o=false) (a:Act) (σ:St):(iF P o).f Rn ro a σ id=((lU P o).f a σ id).bind (fq a):=by
 cases o with
 | call c=>
  obtain⟨callee,mC,ky⟩:=c
  cases callee with
  | builtin b=>rfl
  | value f=>simp [bl] at h
  | invoke x name=>simp [bl] at h
 | defer c=>cases h
 | _=>rfl
theorem wo [Env] {ops:List Oper} {o:Oper} (h:bl o.op=false) (a:Act) (σ:St):(iG P ops o).f Rn ro a σ id=(eW P ops o a id σ).bind fun r=>lf o.dst (r.1,a,r.2):=by
 unfold iG eW
 cases hg:o.guard with
 | none=>
  dsimp only
  rw[Bm h,Bl]
 | some q=>
  obtain⟨j,want⟩:=q
  dsimp only
  cases hd:fE ops j with
  | none=>rfl
  | some d=>
   unfold w5
   dsimp only
   cases hb:rk want (a.tmps.get d) with
   | none=>rfl
   | some b=>cases b with
    | true=>unfold qq;dsimp only;rw[Bm h,Bl]
    | false=>rfl
def xj (L:List Tmp) (a b:Act):Prop:=∀t∈L,a.tmps.get t=b.tmps.get t
theorem xj.eval {ops:List Oper} {o:Oper} {a b:Act} (h:xj (looks ops o) a b):∀x∈o.op.operands,a.eval x=b.eval x:=by
 intro x hx
 cases x with
 | tmp t=>
  refine h t (List.mem_append_left _ ?_)
  unfold IQ
  rw[List.mem_filterMap]
  exact⟨.tmp t,by simpa using hx,rfl⟩
 | _=>rfl
theorem pj {ops:List Oper} {o:Oper} {j:Nat} {want:Bool} (hg:o.guard=some (j,want)) {d:Tmp} (hd:fE ops j=some d):d∈looks ops o:=by
 refine List.mem_append_right _ ?_
 rw[hg]
 unfold fE at hd
 rw[dz] at hd
 show d∈((ops[j]?).bind (·.dst)).toList
 rw[hd];simp
theorem pk [Env] {ops:List Oper} {o:Oper} {a b:Act} (h:xj (looks ops o) a b) (σ:St):eW P ops o a id σ=eW P ops o b id σ:=by
 unfold eW
 split
 ·exact tC o.op h.eval σ
 ·rename_i j want hg
  split
  ·rfl
  ·rename_i d hd
   rw[h d (pj hg hd),tC (P:=P) (id:=id) o.op h.eval σ]
theorem jx (ops:List Oper) (o:Oper) (a:Act) (id:Nat):(eW P ops o a id=fun σ=>(lU P o.op).f a σ id)∨(eW P ops o a id=fun σ=>.ok (cO,σ))∨(eW P ops o a id=fun _=>.fail "guard"):=by
 unfold eW
 cases o.guard with
 | none=>exact .inl rfl
 | some q=>
  obtain⟨j,want⟩:=q
  dsimp only
  cases fE ops j with
  | none=>exact .inr (.inl rfl)
  | some d=>
   dsimp only
   cases rk want (a.tmps.get d) with
   | none=>exact .inr (.inr rfl)
   | some b=>cases b with
    | true=>exact .inl rfl
    | false=>exact .inr (.inl rfl)
theorem Bn [Env] {ops:List Oper} {o:Oper} {a:Act} (h1:bl o.op=false) (hD:∀x∈o.op.operands,∀v,a.eval x=some v→∃x',aq ρ v x'):iN id (cU ρ) (eW P ops o a id):=by
 rcases jx (P:=P) ops o a id with h | h | h<;>rw[h]
 ·exact GJ o.op h1 hD
 ·exact(bP.ok _).look _
 ·exact(bP.fail _).look _
theorem Bo [Env] {ops:List Oper} {o:Oper} {a:Act} (h1:bl o.op=false) (h2:dV P o.op=false) (h3:mQ o.op=false):bP id (eW P ops o a id):=by
 rcases jx (P:=P) ops o a id with h | h | h<;>rw[h]
 ·exact rF o.op h1 h2 h3
 ·exact bP.ok _
 ·exact bP.fail _
theorem Bp [Env] {ops:List Oper} {o:Oper} {a:Act} {t:TypeId} {x:Operand} (ho:o.op=.load t x) {σ:St} {v:V} {τ:St} (h:eW P ops o a id σ=.ok (v,τ)):
  τ=σ∧∀σ',(∀pv,a.eval x=some pv→ea P σ' t pv=some v)→eW P ops o a id σ'=.ok (v,σ'):=by
 rcases jx (P:=P) ops o a id with hc | hc | hc<;>rw[hc] at h⊢
 ·rw[ho] at h⊢
  have key:∀σ,(lU P (.load t x)).f a σ id=eP "load operand" (a.eval x) (oh P σ t):=fun _=>rfl
  dsimp only at h⊢
  rw[key] at h
  cases hx:a.eval x with
  | none=>rw[hx] at h;cases h
  | some pv=>
   rw[hx] at h
   have h':aJ σ "load" (ea P σ t pv)=.ok (v,τ):=h
   cases hl:ea P σ t pv with
   | none=>rw[hl] at h';cases h'
   | some u=>
    rw[hl] at h'
    cases h'
    refine⟨rfl,fun σ' hs=>?_⟩
    rw[key,hx]
    show aJ σ' "load" (ea P σ' t pv)=_
    rw[hs pv rfl];rfl
 ·cases h;exact⟨rfl,fun _ _=>rfl⟩
 ·cases h
theorem kz {a aS:Act} {dst:Option Tmp} {v:V} (h:a.put dst v=some aS):aS.size=a.size∧aS.defers=a.defers∧∀t,aS.tmps.get t=if dst=some t then some v else a.tmps.get t:=by
 cases dst with
 | none=>
  simp only[Act.put,Option.some.injEq] at h
  subst h
  exact⟨rfl,rfl,fun t=>by simp⟩
 | some d=>
  obtain⟨t,s,ds⟩:=a
  simp only[Act.put] at h
  cases hb:Nat.blt d s with
  | false=>simp [hb] at h
  | true=>
   simp only[hb,Option.some.injEq] at h
   subst h
   refine⟨rfl,rfl,fun u=>?_⟩
   show(t.put d v).get u=_
   rw[bD.bN]
   by_cases hu:u=d
   ·rw[if_pos hu,if_pos (by rw[hu])]
   ·rw[if_neg hu,if_neg (by intro e;cases e;exact hu rfl)]
theorem Bq {a aS b:Act} {dst:Option Tmp} {v u:V} (h:a.put dst v=some aS) (hs:b.size=a.size):∃cQ,b.put dst u=some cQ:=by
 cases dst with
 | none=>exact⟨b,rfl⟩
 | some d=>
  obtain⟨t,s,ds⟩:=a
  obtain⟨t',s',ds'⟩:=b
  have mU:s'=s:=hs
  subst mU
  simp only[Act.put] at h⊢
  cases hb:Nat.blt d s' with
  | false=>simp [hb] at h
  | true=>exact⟨_,rfl⟩
structure xk (a b aY cP:Act):Prop where
 ta:aY.tmps=a.tmps
 sa:aY.size=a.size
 tb:cP.tmps=b.tmps
 sb:cP.size=b.size
 d:aY.defers=cP.defers
theorem Br [Env] {o:Oper} {a b:Act} (lu:∀x∈o.op.operands,a.eval x=b.eval x) (hd:a.defers=b.defers) {σ:St} {q:V×Act×St→Prop} (h:((iF P o.op).f Rn ro a σ id).Holds q):
  ((iF P o.op).f Rn ro b σ id).Holds fun r=>∃aY,q (r.1,aY,r.2.2)∧xk a b aY r.2.1:=by
 have plain:∀ {r:VS},(r.bind (fq a)).Holds q→(r.bind (fq b)).Holds fun r=>∃aY,q (r.1,aY,r.2.2)∧xk a b aY r.2.1:=by
  intro r h
  exact bu.Holds.dN (h.bind.mono fun x hx=>⟨a,hx,rfl,rfl,rfl,rfl,hd⟩)
 have yu:∀ {r:Run},(r.bind (valOf a)).Holds q→(r.bind (valOf b)).Holds fun r=>∃aY,q (r.1,aY,r.2.2)∧xk a b aY r.2.1:=by
  intro r h
  refine bu.Holds.dN (h.bind.mono fun x hx=>?_)
  obtain⟨v,σ',rfl,hq⟩:=vC hx
  exact⟨a,hq,rfl,rfl,rfl,rfl,hd⟩
 by_cases eV:∃c,o.op=.call c
 ·obtain⟨c,bK⟩:=eV
  rw[bK] at h lu⊢
  show((uP P c).f Rn ro b σ id).Holds _
  have h':((uP P c).f Rn ro a σ id).Holds q:=h
  have uX:a.bM c.args.toList=b.bM c.args.toList:=mB _ fun x hx=>lu x (by simp only[Op.operands,Call.operands];split<;>simp_all)
  unfold uP at h'⊢
  split at h'
  ·rename_i f hc
   cases he:nE P f with
   | some e=>
    simp only[he] at h'⊢
    rw[uX] at h'
    exact plain h'
   | none=>
    simp only[he] at h'⊢
    have hf:a.eval f=b.eval f:=lu f (by simp [Op.operands,Call.operands,hc])
    rw[hf,uX] at h'
    unfold mR at h'⊢
    split at h'
    ·exact yu h'
    ·exact h'.elim
  ·rename_i x name hc
   dsimp only at h'⊢
   have hf:a.eval x=b.eval x:=lu x (by simp [Op.operands,Call.operands,hc])
   rw[hf,uX] at h'
   unfold nI at h'⊢
   split at h'
   ·unfold mu at h'⊢
    split at h'
    ·exact yu h'
    ·exact h'.elim
   ·exact h'.elim
  ·dsimp only at h'⊢
   rw[uX] at h'
   exact plain h'
 by_cases Bi:∃c,o.op=.defer c
 ·obtain⟨c,bK⟩:=Bi
  rw[bK] at h lu⊢
  exact(show False from h).elim
 have hc:∀c,o.op≠.call c:=fun c e=>eV ⟨c,e⟩
 have Rl:∀c,o.op≠.defer c:=fun c e=>Bi ⟨c,e⟩
 rw[zI hc Rl] at h⊢
 have h2:(((lU P o.op).f a σ id).bind (fq a)).Holds q:=h
 rw[tC o.op lu σ] at h2
 exact plain h2
structure yw (dst:Option Tmp) (a b aS cQ:Act):Prop where
 sa:aS.size=a.size
 sb:cQ.size=b.size
 d:aS.defers=cQ.defers
 NP:∀t,dst≠some t→aS.tmps.get t=a.tmps.get t
 GK:∀t,dst≠some t→cQ.tmps.get t=b.tmps.get t
 at_:∀t,dst=some t→aS.tmps.get t=cQ.tmps.get t
theorem tI [Env] {ops:List Oper} {o:Oper} {a b:Act} (lu:xj (looks ops o) a b) (hs:b.size=a.size) (hd:a.defers=b.defers) {σ:St} {q:Act×St→Prop} (h:((iG P ops o).f Rn ro a σ id).Holds q):
  ((iG P ops o).f Rn ro b σ id).Holds fun r=>∃aS,q (aS,r.2)∧yw o.dst a b aS r.1:=by
 have K1:∀ {v:V} {aY cP:Act} {aB:St},xk a b aY cP→(lf o.dst (v,aY,aB)).Holds q→(lf o.dst (v,cP,aB)).Holds fun r=>∃aS,q (aS,r.2)∧yw o.dst a b aS r.1:=by
  intro v aY cP aB hf h
  obtain⟨aS,hp,hq⟩:=uW h
  obtain⟨cQ,Jd⟩:=Bq (u:=v) hp (b:=cP) (by rw[hf.sb,hf.sa,hs])
  show(pO aB (cP.put o.dst v)).Holds _
  rw[Jd]
  obtain⟨x1,x2,x3⟩:=kz hp
  obtain⟨y1,y2,y3⟩:=kz Jd
  refine⟨aS,hq,by rw[x1,hf.sa],by rw[y1,hf.sb],by rw[x2,y2,hf.d],fun t ht=>?_,fun t ht=>?_,fun t ht=>?_⟩
  ·rw[x3,if_neg ht,hf.ta]
  ·rw[y3,if_neg ht,hf.tb]
  ·rw[x3,y3,if_pos ht,if_pos ht]
 have run:((iF P o.op).f Rn ro a σ id).Holds (fun x=>(lf o.dst x).Holds q)→(((iF P o.op).f Rn ro b σ id).bind (lf o.dst)).Holds fun r=>∃aS,q (aS,r.2)∧yw o.dst a b aS r.1:=by
  intro h
  refine bu.Holds.dN ((Br lu.eval hd h).mono ?_)
  rintro⟨v,cP,aB⟩ ⟨aY,hq,hf⟩
  exact K1 hf hq
 unfold iG at h⊢
 split at h
 ·exact run h.bind
 ·rename_i j want hg
  unfold w5 at h⊢
  split at h
  ·rename_i d Rl
   dsimp only at h⊢
   rw[lu d (pj hg Rl)] at h
   unfold qq at h⊢
   split at h
   ·exact run h.bind
   ·exact K1 (v:=cO) ⟨rfl,rfl,rfl,rfl,hd⟩ h
   ·exact h.elim
  ·exact K1 (v:=cO) ⟨rfl,rfl,rfl,rfl,hd⟩ h
end
end Go.Ev
end
section
namespace Go.Ev
open Go
theorem dt (a i j:Nat):(Nat.lor a (2^i)).testBit j=(a.testBit j||decide (i=j)):=by
 show(a||| 2^i).testBit j=_
 rw[Nat.testBit_or,Nat.testBit_two_pow]
theorem xl {a b:Nat} (h:A0 a b=true) {j:Nat} (hj:a.testBit j=true):b.testBit j=true:=by
 have e:(a||| b)=b:=Nat.eq_of_beq_eq_true h
 rw[←e,Nat.testBit_or,hj];rfl
theorem xm {w:List Nat} {o:Oper} {j:Nat}:(w3 w o).testBit j=true↔∃e∈o.after,Region.binds .any e=true∧(j=e.on∨(w.getD e.on 0).testBit j=true):=by
 have key:∀(l:List Edge) (s:Nat),(l.foldl (fun s e=>match Region.binds .any e with
   | true=>Nat.lor s (Nat.lor (2^e.on) (w.getD e.on 0))
   | false=>s) s).testBit j=true↔s.testBit j=true∨∃e∈l,Region.binds .any e=true∧(j=e.on∨(w.getD e.on 0).testBit j=true):=by
  intro l
  induction l with
  | nil=>intro s;simp
  | cons e l ih=>
   intro s
   rw[List.foldl_cons,ih]
   cases hb:Region.binds .any e with
   | false=>simp [hb]
   | true=>
    have:(Nat.lor s (Nat.lor (2^e.on) (w.getD e.on 0))).testBit j=(s.testBit j||(decide (e.on=j)||(w.getD e.on 0).testBit j)):=by
     show(s||| (2^e.on||| w.getD e.on 0)).testBit j=_
     rw[Nat.testBit_or,Nat.testBit_or,Nat.testBit_two_pow]
    rw[this]
    simp only[Bool.or_eq_true,decide_eq_true_eq,List.mem_cons,exists_eq_or_imp,hb,true_and]
    constructor
    ·rintro((h | h | h) | h)
     ·exact .inl h
     ·exact .inr (.inl (.inl h.symm))
     ·exact .inr (.inl (.inr h))
     ·exact .inr (.inr h)
    ·rintro(h | (h | h) | h)
     ·exact .inl (.inl h)
     ·exact .inl (.inr (.inl h.symm))
     ·exact .inl (.inr (.inr h))
     ·exact .inr h
 exact(key o.after.toList 0).trans (by simp)
structure l7 (L:List Oper) (W:List Nat):Prop where
 wait:∀(i:Nat) (o:Oper),L[i]? =some o→W.getD i 0=w3 W o
 Rm:∀(i j:Nat) (oi oj:Oper) (t:Tmp),L[i]? =some oi→L[j]? =some oj→oi.dst=some t→oj.dst=some t→i=j
 data:∀(i j:Nat) (oi oj:Oper) (t:Tmp),L[i]? =some oi→L[j]? =some oj→oj.dst=some t→t∈looks L oi→i≠j∧((W.getD i 0).testBit j=true∨(bl oj.op=true∧(W.getD j 0).testBit i=true))
theorem yx:∀ {l:List (Option Tmp)},kL l=true→∀(i j:Nat) (t:Tmp),l[i]? =some (some t)→l[j]? =some (some t)→i=j:=by
 intro l
 induction l with
 | nil=>intro _ i j t h;simp at h
 | cons x l ih=>
  intro h i j t hi hj
  have mem:∀k,l[k]? =some (some t)→some t∈l:=fun k hk=>List.mem_of_getElem? hk
  cases x with
  | none=>
   have h':kL l=true:=h
   cases i with
   | zero=>simp at hi
   | succ i=>cases j with
    | zero=>simp at hj
    | succ j=>rw[ih h' i j t (by simpa using hi) (by simpa using hj)]
  | some u=>
   have h':(!l.contains (some u)&&kL l)=true:=h
   rw[Bool.and_eq_true] at h'
   have hu:some u∉l:=by simpa using h'.1
   cases i with
   | zero=>cases j with
    | zero=>rfl
    | succ j=>
     simp at hi;subst hi
     exact absurd (mem j (by simpa using hj)) hu
   | succ i=>cases j with
    | zero=>
     simp at hj;subst hj
     exact absurd (mem i (by simpa using hi)) hu
    | succ j=>rw[ih h'.2 i j t (by simpa using hi) (by simpa using hj)]
theorem Ds [Env] {P:Program} {L:List Oper} {l:List Item} (h:j3 P L=some l):∃W,l7 L W∧dp P L W 0 [] l=true:=by
 unfold j3 at h
 dsimp only at h
 split at h
 ·rename_i hb
  cases h
  simp only[Bool.and_eq_true] at hb
  obtain⟨⟨⟨_,hw⟩,hd⟩,hp⟩:=hb
  have bz:∀ {i:Nat} {o:Oper},L[i]? =some o→i∈List.range L.length:=fun h=>List.mem_range.2 (List.getElem?_eq_some_iff.1 h).1
  refine⟨_,⟨fun i o hi=>?_,fun i j oi oj t hi hj h1 h2=>?_,fun i j oi oj t hi hj h1 h2=>?_⟩,hp⟩
  ·unfold zz at hw
   have:=List.all_eq_true.1 hw i (bz hi)
   rw[hi] at this
   exact Nat.eq_of_beq_eq_true this
  ·unfold tf at hd
   rw[Bool.and_eq_true] at hd
   exact yx hd.1 i j t (by simp [hi,h1]) (by simp [hj,h2])
  ·unfold tf at hd
   rw[Bool.and_eq_true] at hd
   have:=List.all_eq_true.1 hd.2 i (bz hi)
   rw[hi] at this
   have:=List.all_eq_true.1 this j (bz hj)
   rw[hj] at this
   dsimp only at this
   unfold zA at this
   rw[h1] at this
   simp only[Bool.or_eq_true,Bool.and_eq_true,Bool.not_eq_true'] at this
   rcases this with ⟨a,b⟩ | a
   ·exact⟨fun e=>by rw[e] at a;simp at a,b⟩
   ·exact absurd h2 (by simpa using a)
 ·cases h
theorem cT [Env] {P:Program} {L:List Oper} {W:List Nat} {dn:Nat} {ef:List Nat} {it:Item} {R:List Item} (h:dp P L W dn ef (it::R)=true):
  ∃o,L[it.i]? =some o∧dn.testBit it.i=false∧(∀j,(W.getD it.i 0).testBit j=true→dn.testBit j=true)∧
   (bl o.op=true→(∀j,dn.testBit j=true→(W.getD it.i 0).testBit j=true)∧dp P L W (Nat.lor dn (2^it.i)) (it.i::ef) R=true)∧
   (bl o.op=false→te (W.getD it.i 0) it.back ef=true∧(it.back=0∨rj P o.op=true∨dV P o.op=false)∧dp P L W (Nat.lor dn (2^it.i)) ef R=true):=by
 unfold dp at h
 split at h
 ·cases h
 ·rename_i o ho
  simp only[Bool.and_eq_true,Bool.not_eq_true'] at h
  obtain⟨⟨h1,h2⟩,h3⟩:=h
  refine⟨o,ho,h1,fun j hj=>xl h2 hj,fun he=>?_,fun he=>?_⟩
  ·rw[he] at h3
   simp only[Bool.and_eq_true] at h3
   exact⟨fun j hj=>xl h3.1 hj,h3.2⟩
  ·rw[he] at h3
   simp only[Bool.and_eq_true,Bool.or_eq_true,Bool.not_eq_true'] at h3
   refine⟨h3.1.1,?_,h3.2⟩
   rcases h3.1.2 with (a | a) | a
   ·exact .inl (Nat.eq_of_beq_eq_true a)
   ·exact .inr (.inl a)
   ·exact .inr (.inr a)
theorem l8 [Env] {P:Program} {L:List Oper} {W:List Nat}:∀ {D:List Item} {dn:Nat} {ef:List Nat},dp P L W dn ef D=true→∀i,i<L.length→dn.testBit i=false→∃D1 it D2,D=D1++it::D2∧it.i=i:=by
 intro D
 induction D with
 | nil=>
  intro dn ef h i hi hd
  have h':(List.range L.length).all dn.testBit=true:=h
  have:=List.all_eq_true.1 h' i (List.mem_range.2 hi)
  rw[hd] at this;cases this
 | cons it D ih=>
  intro dn ef h i hi hd
  obtain⟨o,_,_,_,h1,h2⟩:=cT h
  by_cases e:it.i=i
  ·exact⟨[],it,D,rfl,e⟩
  ·have DU:(Nat.lor dn (2^it.i)).testBit i=false:=by rw[dt,hd];simp [e]
   have:∃tJ,dp P L W (Nat.lor dn (2^it.i)) tJ D=true:=by
    cases he:bl o.op with
    | true=>exact⟨_,(h1 he).2⟩
    | false=>exact⟨_,(h2 he).2.2⟩
   obtain⟨tJ,hp⟩:=this
   obtain⟨D1,it',D2,rfl,eN⟩:=ih hp i hi DU
   exact⟨it::D1,it',D2,rfl,eN⟩
section
variable {P:Program} {ρ:Ren} {Rn:Task→St→Run} {ro:Option Nat}
def CH (P:Program) (Rn:Task→St→Run) (ro:Option Nat) (L:List Oper) (base:Nat) (p:Out×St→Prop) (D:List Item) (S:List St) (a:Act) (σ:St):Prop:=
 ((j4 P L D).f Rn ro base S a σ).Holds p
theorem yy [Env] {L:List Oper} {base:Nat} {p:Out×St→Prop} {it:Item} {D:List Item} {S:List St} {a:Act} {σ:St} (h:CH P Rn ro L base p (it::D) S a σ):
  ∃o,L[it.i]? =some o∧((iG P L o).f Rn ro a σ (base+it.i)).Holds fun r=>
   (it.back=0∨eo P (nj L o a) it.back S a (lg r.1 o.dst) o.op=true)∧CH P Rn ro L base p D (kM (bl o.op) r.2 S) r.1 r.2:=by
 have h':((tg P L it (j4 P L D) (nth L it.i)).f Rn ro base S a σ).Holds p:=h
 rw[dz] at h'
 cases ho:L[it.i]? with
 | none=>rw[ho] at h';exact h'.elim
 | some o=>
  rw[ho] at h'
  refine⟨o,rfl,?_⟩
  have h'':(((iG P L o).f Rn ro a σ (Nat.add base it.i)).bind (IU P L o it.back a S ((j4 P L D).f Rn ro base))).Holds p:=h'
  refine h''.bind.mono ?_
  rintro⟨aS,bE⟩ hx
  have cE:(match Nat.beq it.back 0||eo P (nj L o a) it.back S a (lg aS o.dst) o.op with
   | true=>(j4 P L D).f Rn ro base (kM (bl o.op) bE S) aS bE
   | false=>.fail "a load and a write, in either order":Run).Holds p:=hx
  split at cE
  ·rename_i hb
   rw[Bool.or_eq_true] at hb
   exact⟨hb.imp Nat.eq_of_beq_eq_true id,cE⟩
  ·exact cE.elim
theorem Dt [Env] {t:TypeId} {x v:V}:∀ {k:Nat} {l:List St},w4 P t x v k l=true→∀j,j<k→∃τ,l[j]? =some τ∧ea P τ t x=some v:=by
 intro k
 induction k with
 | zero=>intro l _ j hj;omega
 | succ k ih=>
  intro l h j hj
  cases l with
  | nil=>cases h
  | cons τ l=>
   have h':((match ea P τ t x with | some u=>V.beq u v | none=>false)&&w4 P t x v k l)=true:=h
   rw[Bool.and_eq_true] at h'
   cases j with
   | zero=>
    refine⟨τ,rfl,?_⟩
    cases hl:ea P τ t x with
    | none=>rw[hl] at h';cases h'.1
    | some u=>rw[hl] at h';rw[V.beq_eq h'.1]
   | succ j=>exact ih h'.2 j (by omega)
theorem yz [Env] {back:Nat} {S:List St} {a:Act} {v:Option V} {t:TypeId} {x:Operand} (h:eo P false back S a v (.load t x)=true):
  ∃pv u,a.eval x=some pv∧v=some u∧(((∃cs o,pv=.aK cs o)∧∀j,j≤back→∃τ,S[j]? =some τ)∨∀j,1≤j→j≤back→∃τ,S[j]? =some τ∧ea P τ t pv=some u):=by
 unfold eo at h
 dsimp only at h
 split at h
 ·rename_i cs o u hx
  refine⟨_,u,hx,rfl,.inl ⟨⟨cs,o,rfl⟩,fun j hj=>?_⟩⟩
  have h':back+1≤len S:=Nat.le_of_ble_eq_true h
  rw[aZ] at h'
  exact⟨_,List.getElem?_eq_getElem (by omega)⟩
 ·rename_i pv u _ hx
  refine⟨pv,u,hx,rfl,.inr fun j h1 h2=>?_⟩
  rw[ek] at h
  obtain⟨τ,iV,hl⟩:=Dt h (j-1) (by omega)
  refine⟨τ,?_,hl⟩
  rw[List.getElem?_drop] at iV
  rw[show j=1+(j-1) by omega];exact iV
 ·cases h
theorem Aw [Env] {back:Nat} {S:List St} {a:Act} {v:Option V} {t:TypeId} {x:Operand} (h:eo P true back S a v (.load t x)=true) (j:Nat) (hj:j≤back):∃τ,S[j]? =some τ:=by
 have h':back+1≤len S:=Nat.le_of_ble_eq_true h
 rw[aZ] at h'
 exact⟨_,List.getElem?_eq_getElem (by omega)⟩
theorem DX [Env] {ops:List Oper} {o:Oper} {a:Act} {id:Nat} (h:nj ops o a=true):eW P ops o a id=fun σ=>.ok (cO,σ):=by
 unfold nj at h
 unfold eW
 split at h
 ·cases h
 ·rename_i j want hg
  rw[hg]
  dsimp only
  split at h
  ·rename_i hs;rw[hs]
  ·rename_i d hs
   rw[hs]
   dsimp only
   split at h
   ·rename_i hv;rw[hv]
   ·cases h
theorem yA [Env] {off:Bool} {back:Nat} {S:List St} {a:Act} {v:Option V} {s d:TypeId} {x:Operand} (hc:mr P s d=true) (h:eo P off back S a v (.convert s d x)=true):
  (∀j,j≤back→∃τ,S[j]? =some τ)∧(off=true∨∃es esz ex,a.eval x=some (.bj es esz ex)):=by
 unfold eo at h
 dsimp only at h
 rw[hc] at h
 dsimp only at h
 split at h
 ·cases h
 ·rename_i hb
  have bq:back+1≤len S:=Nat.le_of_ble_eq_true hb
  rw[aZ] at bq
  refine⟨fun j hj=>⟨_,List.getElem?_eq_getElem (by omega)⟩,?_⟩
  split at h
  ·exact .inl rfl
  ·split at h
   ·rename_i es esz ex hx;exact .inr ⟨_,_,_,hx⟩
   ·cases h
theorem K2 [Env] {s d:TypeId} (hc:mr P s d=true) {σ τ:St} {id:Nat} {es:List V} {esz:Nat} {ex:Bool} {v:V} (h:cX P σ id s d (.bj es esz ex)=.ok (v,τ)):∀σ',cX P σ' id s d (.bj es esz ex)=.ok (v,σ'):=by
 intro σ'
 unfold mr at hc
 split at hc
 ·rename_i e h1 h2
  unfold cX evalConv at h⊢
  rw[h1,h2] at h⊢
  dsimp only at h⊢
  cases he:P.underlying e with
  | none=>rw[he] at h;cases h
  | some de=>
   rw[he] at h
   cases de with
   | int k=>cases k<;>first
    | (cases h;done)
    | (dsimp only at h⊢
       cases hb:Nat.beq esz 1 with
       | false=>rw[hb] at h;cases h
       | true=>
        rw[hb] at h
        dsimp only at h⊢
        cases ou:eH (ar es) with
        | none=>rw[ou] at h;cases h
        | some l=>rw[ou] at h;cases h;rfl)
   | _=>cases h
 ·cases hc
theorem Ji [Env] {s d:TypeId} (hc:mr P s d=true) {σ τ:St} {id:Nat} {x v:V} (h:cX P σ id s d x=.ok (v,τ)):τ=σ:=by
 unfold mr at hc
 split at hc
 ·rename_i e h1 h2
  unfold cX evalConv at h
  rw[h1,h2] at h
  cases x<;>dsimp only at h<;>first
   | (cases h;done)
   | (repeat' split at h
      all_goals first
       | (cases h;done)
       | (cases h;rfl)
       | (rename_i s' mU
          revert h
          cases eH _<;>intro h<;>cases h<;>rfl))
 ·cases hc
theorem Bs [Env] {ops:List Oper} {o:Oper} {a:Act} {id:Nat} (hr:rj P o.op=true) {σ:St} {v:V} {τ:St} (h:eW P ops o a id σ=.ok (v,τ)):τ=σ:=by
 cases bK:o.op<;>rw[bK] at hr<;>first
  | (cases hr;done)
  | exact(Bp bK h).1
  | (rename_i s d x
     have hc:mr P s d=true:=hr
     rcases jx (P:=P) ops o a id with e | e | e<;>rw[e] at h
     ·rw[bK] at h
      have h':eP "convert operand" (a.eval x) (cX P σ id s d)=.ok (v,τ):=h
      cases hx:a.eval x with
      | none=>rw[hx] at h';cases h'
      | some xv=>rw[hx] at h';exact Ji hc h'
     ·cases h;rfl
     ·cases h)
theorem K3 [Env] {ops:List Oper} {o:Oper} {a:Act} {id:Nat} {s d:TypeId} {x:Operand} (bK:o.op=.convert s d x) (hc:mr P s d=true) {es:List V} {esz:Nat} {ex:Bool} (hx:a.eval x=some (.bj es esz ex)) {σ:St} {v:V} {τ:St}
  (h:eW P ops o a id σ=.ok (v,τ)):∀σ',eW P ops o a id σ'=.ok (v,σ'):=by
 rcases jx (P:=P) ops o a id with e | e | e<;>rw[e] at h⊢
 ·intro σ'
  rw[bK] at h⊢
  have h':eP "convert operand" (a.eval x) (cX P σ id s d)=.ok (v,τ):=h
  show eP "convert operand" (a.eval x) (cX P σ' id s d)=.ok (v,σ')
  rw[hx] at h'⊢
  exact K2 hc h' σ'
 ·cases h;intro σ';rfl
 ·cases h
theorem K4 [Env] {ops:List Oper} {o:Oper} {a:Act} {id:Nat} {t:TypeId} {x:Operand} (bK:o.op=.load t x) {cs:List V} {off:Nat} (hx:a.eval x=some (.aK cs off)) {σ:St} {v:V} {τ:St}
  (h:eW P ops o a id σ=.ok (v,τ)):∀σ',eW P ops o a id σ'=.ok (v,σ'):=by
 rcases jx (P:=P) ops o a id with e | e | e<;>rw[e] at h⊢
 ·intro σ'
  rw[bK] at h⊢
  have h':eP "load operand" (a.eval x) (oh P σ t)=.ok (v,τ):=h
  show eP "load operand" (a.eval x) (oh P σ' t)=.ok (v,σ')
  rw[hx] at h'⊢
  have h2:aJ σ "load" (ea P σ t (.aK cs off))=.ok (v,τ):=h'
  show aJ σ' "load" (ea P σ' t (.aK cs off))=.ok (v,σ')
  have e:ea P σ' t (.aK cs off)=ea P σ t (.aK cs off):=by
   unfold ea
   cases ra P t with
   | none=>rfl
   | some g=>cases g<;>cases bL P t<;>rfl
  rw[e]
  cases hl:ea P σ t (.aK cs off) with
  | none=>rw[hl] at h2;cases h2
  | some u=>rw[hl] at h2;cases h2;rfl
 ·cases h;intro σ';rfl
 ·cases h
theorem Jj [Env] {ops:List Oper} {o:Oper} {a:Act} {id:Nat} (h1:bl o.op=false) {σ:St} {q:V×St→Prop} (h:(eW P ops o a id σ).Holds q):∃v κ,q (v,σ.ext id κ):=by
 have AH:∀ {fT:String} {x:Option V},(aJ σ fT x).Holds q→∃v κ,q (v,σ.ext id κ):=fun h=>let ⟨v,_,hq⟩:=c8 h;⟨v,none,hq⟩
 rcases jx (P:=P) ops o a id with hc | hc | hc<;>rw[hc] at h
 ·by_cases hr:mQ o.op=true
  ·cases bK:o.op<;>rw[bK] at hr h<;>try (cases hr;done)
   obtain⟨xv,_,h⟩:=dX h
   exact AH h
  ·by_cases hl:dV P o.op=true
   ·cases bK:o.op<;>rw[bK] at hl h h1<;>try (cases hl;done)
    case binOp op t x y yt=>
     obtain⟨xv,yv,_,_,h⟩:=kQ h
     exact AH h
    case slice t x lo hi mx=>
     obtain⟨xv,_,h⟩:=dX h
     unfold fp at h
     split at h
     ·split at h
      ·exact AH h
      ·exact AH h
     ·exact h.elim
    case convert s d x=>
     obtain⟨xv,_,h⟩:=dX h
     obtain⟨⟨v,aB⟩,aV,hq⟩:=bu.Holds.of h
     unfold evalConv at aV
     split at aV
     ·cases aV;exact⟨_,none,hq⟩
     ·cases aV;exact⟨_,none,hq⟩
     ·split at aV
      ·split at aV
       ·cases aV;exact⟨_,none,hq⟩
       ·cases aV
      ·cases aV
     ·cases aV;exact⟨_,none,hq⟩
     ·split at aV
      ·split at aV
       ·cases aV;exact⟨_,some _,hq⟩
       ·cases aV
      ·cases aV
     ·split at aV
      ·cases aV;exact⟨_,none,hq⟩
      ·cases aV
     ·split at aV
      ·split at aV
       ·rw[Option.map_eq_some_iff] at aV
        obtain⟨s,_,he⟩:=aV
        cases he
        exact⟨_,none,hq⟩
       ·cases aV
      ·cases aV
     ·split at aV
      ·split at aV
       ·rw[Option.map_eq_some_iff] at aV
        obtain⟨s,_,he⟩:=aV
        cases he
        exact⟨_,none,hq⟩
       ·cases aV
      ·cases aV
     ·split at aV
      ·split at aV
       ·split at aV
        ·rw[Option.map_eq_some_iff] at aV
         obtain⟨s,_,he⟩:=aV
         cases he
         exact⟨_,none,hq⟩
        ·cases aV
       ·cases aV
      ·cases aV
     ·cases aV
    case lookup t x k ok=>exact(show False from h).elim
    case call c=>
     obtain⟨callee,mC,ky⟩:=c
     cases callee with
     | builtin b=>
      cases b<;>try (simp [dV] at hl;done)
      have h':(gG P σ id .len ky.toList (a.bM mC.toList)).Holds q:=h
      cases hv:a.bM mC.toList with
      | none=>rw[hv] at h';exact h'.elim
      | some vs=>
       rw[hv] at h'
       obtain⟨⟨v,aB⟩,aV,hq⟩:=bu.Holds.of h'
       rcases tF:ky.toList with _ | ⟨t,l⟩
       ·rw[tF] at aV;rcases vs with _ | ⟨x,_ | ⟨y,_⟩⟩<;>cases aV
       ·rw[tF] at aV
        rcases vs with _ | ⟨x,_ | ⟨y,r⟩⟩
        ·cases aV
        ·have tG:(ez P σ t x).map (·,σ)=some (v,aB):=aV
         rw[Option.map_eq_some_iff] at tG
         obtain⟨u,hu,he⟩:=tG
         cases he
         exact⟨_,none,hq⟩
        ·cases aV
     | value f=>simp [dV] at hl
     | invoke x name=>simp [dV] at hl
   ·obtain⟨v,κ,hq,_⟩:=rF (P:=P) (id:=id) (a:=a) o.op h1 (by simpa using hl) (by simpa using hr) σ q h
    exact⟨v,κ,hq⟩
 ·exact⟨_,none,h⟩
 ·exact h.elim
end
end Go.Ev
end
section
namespace Go.Ev
open Go
def cu (l:Array Bool) (i:Nat):Prop:=l.getD i true=true
def Rec (P:Program) (L:List Oper) (W:List Nat) (base:Nat) (effs:List Nat) (snaps:List St) (b:Act) (aX:St) (i:Nat) (o:Oper):Prop:=
 ∃v,(∀t,o.dst=some t→b.tmps.get t=some v)∧
  (eW P L o b (base+i) (aX.kill (base+i))=.ok (v,(aX.kill (base+i)).ext (base+i) (aX.heap.get (base+i)))∨
   (∀σ',eW P L o b (base+i) σ'=.ok (v,σ'.ext (base+i) (aX.heap.get (base+i))))∨
   (rj P o.op=true∧aX.heap.get (base+i)=none∧∃j τ,snaps[j]? =some τ∧1≤j∧(∀f∈effs.take j,(W.getD i 0).testBit f=false)∧∀u hZ,eW P L o b (base+i) τ=.ok (u,hZ)→u=v))
structure rG [Env] (P:Program) (L:List Oper) (W:List Nat) (base:Nat) (listed:Array Bool) (done:Nat) (effs:List Nat) (snaps:List St) (σ:St) (b:Act) (aX:St) (ρ:Ren) (a':Go.Act) (w:World):Prop where
 closed:∀i,i<L.length→cu listed i→∀j,(W.getD i 0).testBit j=true→j<L.length∧cu listed j
 ne:∀(i:Nat) (o:Oper),L[i]? =some o→cu listed i→done.testBit i=false→bl o.op=false
 rel:R ρ aX w
 act:bw ρ b a'
 head:∃r,snaps=σ::r
 len:snaps.length=effs.length+1
 sub:∀c k,σ.heap.get c=some k→aX.heap.get c=some k
 fresh:∀i,i<L.length→done.testBit i=false→σ.heap.get (base+i)=none
 iw:∀i,i<L.length→¬cu listed i→ρ (base+i)=none
 K5:∀(i:Nat) (o:Oper),L[i]? =some o→cu listed i→done.testBit i=false→Rec P L W base effs snaps b aX i o
structure rH (P:Program) (Rn:Task→St→Run) (ro:Option Nat) (p:Out×St→Prop) (L:List Oper) (W:List Nat) (base:Nat) (listed:Array Bool) (done:Nat) (effs:List Nat) (snaps:List St) (b:Act) (aX:St) (ρ:Ren)
  (D:List Item) (dn:Nat) (ef:List Nat) (S:List St) (aY:Act) (aB:St):Prop where
 kA:dp P L W dn ef D=true
 holds:CH P Rn ro L base p D S aY aB
 mono:(∀i,done.testBit i=true→dn.testBit i=true)∧∀j k,dn.testBit j=true→(W.getD j 0).testBit k=true→dn.testBit k=true
 pre:∃ep sp,ef=ep++effs∧S=sp++snaps∧ep.length=sp.length∧(∀f∈ep,f<L.length∧¬cu listed f)∧
  (ep=[]→dT (cU ρ) aB aX∧∀j,j<L.length→dn.testBit j=false→aB.heap.get (base+j)=none)
 sz:aY.size=b.size
 agree:∀t,(∀(j:Nat) (o:Oper),L[j]? =some o→¬cu listed j→dn.testBit j=true→o.dst≠some t)→(∀(j:Nat) (o:Oper),L[j]? =some o→cu listed j→dn.testBit j=false→o.dst≠some t)→aY.tmps.get t=b.tmps.get t
theorem gU [Env] (σ:St) (c b:Nat):(σ.kill c).heap.get b=if b=c then none else σ.heap.get b:=by
 rw[kN,Trie.bN]
theorem ia [Env] (σ:St) (c:Nat) (k:bR) (b:Nat):(σ.new c k).heap.get b=if b=c then some k else σ.heap.get b:=by
 rw[fr,Trie.bN]
theorem ext_get [Env] (σ:St) (c:Nat) (κ:Option bR) (b:Nat) (h:σ.heap.get c=none):(σ.ext c κ).heap.get b=if b=c then κ else σ.heap.get b:=by
 cases κ with
 | none=>
  show σ.heap.get b=_
  by_cases e:b=c
  ·rw[if_pos e,e,h]
  ·rw[if_neg e]
 | some k=>exact ia σ c k b
theorem uY [Env] {σ:St} {c:Nat} {κ vE:Option bR} (h:σ.heap.get c=none) (e:σ.ext c κ=σ.ext c vE):κ=vE:=by
 have h1:=ext_get σ c κ c h
 have h2:=ext_get σ c vE c h
 rw[if_pos rfl] at h1 h2
 rw[←h1,←h2,e]
section
variable {P:Program} {Rn:Task→St→Run} {ro:Option Nat} {p:Out×St→Prop} {L:List Oper} {W:List Nat} {base:Nat} {listed:Array Bool} {done:Nat} {effs:List Nat} {snaps:List St} {σ:St} {b:Act} {aX:St} {ρ:Ren} {a':Go.Act} {w:World}
variable {D:List Item} {dn:Nat} {ef:List Nat} {S:List St} {aY:Act} {aB:St} {it:Item} {o:Oper}
theorem gO {i:Nat} {o:Oper} (h:L[i]? =some o):i<L.length:=(List.getElem?_eq_some_iff.1 h).1
theorem xn [Env] (hp:l7 L W) (hB:rG P L W base listed done effs snaps σ b aX ρ a' w) (hw:rH P Rn ro p L W base listed done effs snaps b aX ρ (it::D) dn ef S aY aB) (ho:L[it.i]? =some o)
  (hW:∀j,(W.getD it.i 0).testBit j=true→j<L.length∧cu listed j):xj (looks L o) aY b:=by
 intro t ht
 obtain⟨_,_,Ro,lx,_⟩:=cT hw.kA
 refine hw.agree t (fun j oj hj hl gP hd=>?_) (fun j oj hj cY kW hd=>?_)
 ·rcases(hp.data _ _ _ _ _ ho hj hd ht).2 with h | ⟨_,h⟩
  ·exact hl (hW j h).2
  ·rw[hw.mono.2 j _ gP h] at Ro;cases Ro
 ·rcases(hp.data _ _ _ _ _ ho hj hd ht).2 with h | ⟨h,_⟩
  ·have:=lx j h
   rw[kW] at this;cases this
  ·have ly:done.testBit j=false:=by
    cases hd2:done.testBit j with
    | false=>rfl
    | true=>rw[hw.mono.1 j hd2] at kW;cases kW
   rw[hB.ne j oj hj cY ly] at h;cases h
theorem yB {ep:List Nat} {k:Nat} (hb:te (W.getD it.i 0) it.back (ep++effs)=true) (sy:∀f∈ep,f<L.length∧¬cu listed f)
  (hW:∀j,(W.getD it.i 0).testBit j=true→j<L.length∧cu listed j) (hk:k≤effs.length) (hf:∀f∈effs.take k,(W.getD it.i 0).testBit f=false):ep.length+k≤it.back:=by
 rcases Nat.lt_or_ge it.back (ep.length+k) with bz | oz
 ·exfalso
  have hl:it.back<(ep++effs).length:=by rw[List.length_append];omega
  unfold te at hb
  rw[List.drop_eq_getElem_cons hl] at hb
  dsimp only at hb
  by_cases h1:it.back<ep.length
  ·rw[List.getElem_append_left h1] at hb
   exact(sy _ (List.getElem_mem h1)).2 (hW _ hb).2
  ·rw[List.getElem_append_right (by omega)] at hb
   have hi:it.back-ep.length<effs.length:=by rw[List.length_append] at hl;omega
   have hm:effs[it.back-ep.length]∈effs.take k:=by
    rw[List.mem_take_iff_getElem]
    exact⟨it.back-ep.length,by omega,rfl⟩
   rw[hf _ hm] at hb;cases hb
 ·exact oz
theorem wq {P:Program} {o:Op} (h:¬rj P o=true):mQ o=false:=by
 cases o<;>first
  | rfl
  | exact absurd rfl h
theorem Bt [Env] (hp:l7 L W) (hB:rG P L W base listed done effs snaps σ b aX ρ a' w) (hw:rH P Rn ro p L W base listed done effs snaps b aX ρ (it::D) dn ef S aY aB)
  (ho:L[it.i]? =some o) (bQ:bl o.op=false) (hW:∀j,(W.getD it.i 0).testBit j=true→j<L.length∧cu listed j):
  ∃u κ aS,aY.put o.dst u=some aS∧CH P Rn ro L base p D S aS (aB.ext (base+it.i) κ)∧eW P L o b (base+it.i) aB=.ok (u,aB.ext (base+it.i) κ)∧
   (∀σ',dT (cU ρ) aB σ'→eW P L o b (base+it.i) σ'=.ok (u,σ'.ext (base+it.i) κ))∧
   (dV P o.op=false→mQ o.op=false→∀σ',eW P L o b (base+it.i) σ'=.ok (u,σ'.ext (base+it.i) κ))∧
   (rj P o.op=true→aB.ext (base+it.i) κ=aB∧(it.back≠0→∀j,1≤j→j≤it.back→∃τ,S[j]? =some τ∧∀σ',dT (cU ρ) τ σ'→eW P L o b (base+it.i) σ'=.ok (u,σ'))):=by
 obtain⟨o',jy,az⟩:=yy hw.holds
 rw[ho] at jy;cases jy
 have lu:=xn hp hB hw ho hW
 rw[wo bQ] at az
 have az:=az.bind
 have vF:∀x∈o.op.operands,∀v,b.eval x=some v→∃x',aq ρ v x':=fun x _ v h=>⟨_,hB.act.eval x h⟩
 rw[pk (P:=P) lu] at az
 have key:∃u κ,(lf o.dst (u,aY,aB.ext (base+it.i) κ)).Holds (fun r=>(it.back=0∨eo P (nj L o aY) it.back S aY (lg r.1 o.dst) o.op=true)∧CH P Rn ro L base p D (kM (bl o.op) r.2 S) r.1 r.2)∧
   eW P L o b (base+it.i) aB=.ok (u,aB.ext (base+it.i) κ)∧(∀σ',dT (cU ρ) aB σ'→eW P L o b (base+it.i) σ'=.ok (u,σ'.ext (base+it.i) κ))∧
   (dV P o.op=false→mQ o.op=false→∀σ',eW P L o b (base+it.i) σ'=.ok (u,σ'.ext (base+it.i) κ)):=by
  by_cases vG:dV P o.op=false∧mQ o.op=false
  ·obtain⟨u,κ,hq,cR⟩:=Bo (P:=P) (id:=base+it.i) (ops:=L) (a:=b) bQ vG.1 vG.2 aB _ az
   exact⟨u,κ,hq,cR aB,fun σ' _=>cR σ',fun _ _=>cR⟩
  ·obtain⟨u,κ,hq,hg,pn⟩:=Bn (P:=P) (id:=base+it.i) (ops:=L) bQ vF aB _ az
   exact⟨u,κ,hq,hg,pn,fun h1 h2=>absurd ⟨h1,h2⟩ vG⟩
 obtain⟨u,κ,hq,hg,pn,nK⟩:=key
 obtain⟨aS,kB,NQ,lz⟩:=uW hq
 rw[bQ] at lz
 refine⟨u,κ,aS,kB,lz,hg,pn,nK,fun h1=>?_⟩
 by_cases tk:∃s d x,o.op=.convert s d x
 ·obtain⟨s,d,x,bK⟩:=tk
  have hc:mr P s d=true:=by rw[bK] at h1;exact h1
  refine⟨Bs (by rw[bK];exact hc) hg,fun zJ j Rp Jk=>?_⟩
  have zK:=NQ.resolve_left zJ
  rw[bK] at zK
  obtain⟨hex,rz⟩:=yA hc zK
  obtain⟨τ,iV⟩:=hex j Jk
  refine⟨τ,iV,fun σ' _=>?_⟩
  rcases rz with rz | ⟨es,esz,ex,hx⟩
  ·have e1:∀σ,eW P L o b (base+it.i) σ=.ok (cO,σ):=fun σ=>(pk (P:=P) lu σ).symm.trans (congrFun (DX rz) σ)
   rw[e1] at hg
   rw[e1,(Prod.mk.inj (bu.ok.inj hg)).1]
  ·rw[lu.eval x (by rw[bK];simp [Op.operands])] at hx
   exact K3 bK hc hx hg σ'
 obtain⟨t,x,bK⟩:∃t x,o.op=.load t x:=by
  cases bK:o.op<;>rw[bK] at h1 tk<;>first
   | exact⟨_,_,rfl⟩
   | (cases h1;done)
   | exact absurd ⟨_,_,_,rfl⟩ tk
 obtain⟨he,hl⟩:=Bp bK hg
 refine⟨he,fun zJ j Rp Jk=>?_⟩
 have zK:=NQ.resolve_left zJ
 rw[bK] at zK
 cases rz:nj L o aY with
 | true=>
  rw[rz] at zK
  obtain⟨τ,iV⟩:=Aw zK j Jk
  refine⟨τ,iV,fun σ' _=>?_⟩
  have e1:∀σ,eW P L o b (base+it.i) σ=.ok (cO,σ):=fun σ=>(pk (P:=P) lu σ).symm.trans (congrFun (DX rz) σ)
  rw[e1] at hg
  rw[e1,(Prod.mk.inj (bu.ok.inj hg)).1]
 | false=>
 rw[rz] at zK
 obtain⟨pv,u2,NR,NS,cR⟩:=yz zK
 rcases cR with ⟨⟨cs,off,rfl⟩,hex⟩ | cR
 ·obtain⟨τ,iV⟩:=hex j Jk
  refine⟨τ,iV,fun σ' _=>?_⟩
  rw[lu.eval x (by rw[bK];simp [Op.operands])] at NR
  exact K4 bK NR hg σ'
 obtain⟨τ,iV,hlv⟩:=cR j Rp Jk
 have hu:u2=u:=by
  cases hd:o.dst with
  | none=>rw[hd] at NS;cases NS
  | some d=>
   rw[hd] at NS
   have:=(kz kB).2.2 d
   rw[if_pos hd] at this
   have Rq:aS.tmps.get d=some u2:=NS
   rw[this] at Rq
   exact(Option.some.inj Rq).symm
 subst hu
 refine⟨τ,iV,fun σ' hs=>hl σ' fun pv' Rr=>?_⟩
 rw[←lu.eval x (by rw[bK];simp [Op.operands]),NR] at Rr
 cases Rr
 have aN:=hB.act.eval x (v:=pv) (by rw[←lu.eval x (by rw[bK];simp [Op.operands])];exact NR)
 exact hs.ea aN hlv
theorem yC {snaps sp:List St} {k:Nat} {τ hZ:St} (h1:snaps[k]? =some τ) (h2:(sp++snaps)[sp.length+k]? =some hZ):hZ=τ:=by
 rw[List.getElem?_append_right (by omega)] at h2
 rw[show sp.length+k-sp.length=k by omega,h1] at h2
 exact(Option.some.inj h2).symm
theorem Bu [Env] {τ:St} {c:Nat} (h:∀x k,τ.heap.get x=some k→aX.heap.get x=some k) (hf:τ.heap.get c=none):dT (cU ρ) τ (aX.kill c):=by
 intro x k hx _
 rw[gU]
 by_cases e:x=c
 ·rw[e,hf] at hx;cases hx
 ·rw[if_neg e];exact h x k hx
theorem pass [Env] (hp:l7 L W) (hB:rG P L W base listed done effs snaps σ b aX ρ a' w) (hw:rH P Rn ro p L W base listed done effs snaps b aX ρ (it::D) dn ef S aY aB) (hl:cu listed it.i):
  ∃o v aS,L[it.i]? =some o∧bl o.op=false∧aY.put o.dst v=some aS∧(∀t,o.dst=some t→b.tmps.get t=some v)∧CH P Rn ro L base p D S aS (aB.ext (base+it.i) (aX.heap.get (base+it.i))):=by
 obtain⟨o,ho,kW,lx,_,tK⟩:=cT hw.kA
 have bz:=gO ho
 have ly:done.testBit it.i=false:=by
  cases hd:done.testBit it.i with
  | false=>rfl
  | true=>rw[hw.mono.1 _ hd] at kW;cases kW
 have bQ:=hB.ne _ o ho hl ly
 obtain⟨NT,K6,abm⟩:=tK bQ
 have hW:=hB.closed _ bz hl
 obtain⟨u,κ,aS,kB,lz,hg,pn,nK,AJ⟩:=Bt hp hB hw ho bQ hW
 obtain⟨v,hv,Bv⟩:=hB.K5 _ o ho hl ly
 obtain⟨ep,sp,zL,hS,hlen,sy,oA⟩:=hw.pre
 have DS:(aX.kill (base+it.i)).heap.get (base+it.i)=none:=by rw[gU,if_pos rfl]
 have main:u=v∧(κ=aX.heap.get (base+it.i)∨aB.ext (base+it.i) κ=aB.ext (base+it.i) (aX.heap.get (base+it.i))):=by
  rcases Bv with YO | YP | ⟨hrd,gN,j,τ,iV,Rp,hjf,GL⟩
  ·
   have fin:(∃vE,eW P L o b (base+it.i) (aX.kill (base+it.i))=.ok (u,(aX.kill (base+it.i)).ext (base+it.i) vE)∧(κ=vE∨aB.ext (base+it.i) κ=aB.ext (base+it.i) vE))→
     u=v∧(κ=aX.heap.get (base+it.i)∨aB.ext (base+it.i) κ=aB.ext (base+it.i) (aX.heap.get (base+it.i))):=by
    rintro⟨vE,h1,h2⟩
    rw[YO] at h1
    have fG:=bu.ok.inj h1
    have tH:=uY DS (Prod.mk.inj fG).2
    rw[tH]
    exact⟨(Prod.mk.inj fG).1.symm,h2⟩
   by_cases he:ep=[]
   ·obtain⟨hs,hf⟩:=oA he
    refine fin ⟨κ,pn _ ?_,.inl rfl⟩
    intro c k hc vF
    rw[gU]
    by_cases e:c=base+it.i
    ·rw[e,hf _ bz kW] at hc;cases hc
    ·rw[if_neg e];exact hs c k hc vF
   ·have oz:=yB (it:=it) (W:=W) (listed:=listed) (L:=L) (effs:=effs) (ep:=ep) (k:=0) (by rw[←zL];exact NT) sy hW (by omega) (by simp)
    have zJ:it.back≠0:=by
     have:0<ep.length:=List.length_pos_iff.2 he
     omega
    by_cases hr:rj P o.op=true
    ·obtain⟨GM,cR⟩:=AJ hr
     have Bb:0<ep.length:=List.length_pos_iff.2 he
     obtain⟨τ,iV,Jl⟩:=cR zJ ep.length (by omega) (by omega)
     obtain⟨r,gr⟩:=hB.head
     have:τ=σ:=yC (snaps:=snaps) (k:=0) (by rw[gr];rfl) (by rw[←hS,←hlen];exact iV)
     subst this
     refine fin ⟨none,Jl _ (Bu hB.sub (hB.fresh _ bz ly)),.inr GM⟩
    ·have po:dV P o.op=false:=by
      rcases K6 with h | h | h
      ·exact absurd h zJ
      ·exact absurd h hr
      ·exact h
     exact fin ⟨κ,nK po (wq hr) _,.inl rfl⟩
  ·have h1:=YP aB
   rw[hg] at h1
   have fG:=bu.ok.inj h1
   exact⟨(Prod.mk.inj fG).1,.inr (Prod.mk.inj fG).2⟩
  ·obtain⟨GM,cR⟩:=AJ hrd
   have DY:j<snaps.length:=(List.getElem?_eq_some_iff.1 iV).1
   have oz:=yB (it:=it) (W:=W) (listed:=listed) (L:=L) (effs:=effs) (ep:=ep) (k:=j) (by rw[←zL];exact NT) sy hW (by have:=hB.len;omega) hjf
   obtain⟨hZ,YQ,Jl⟩:=cR (by omega) (ep.length+j) (by omega) oz
   have:hZ=τ:=yC (snaps:=snaps) iV (by rw[←hS,←hlen];exact YQ)
   subst this
   refine⟨GL u _ (Jl _ (fun _ _ h _=>h)),.inr ?_⟩
   rw[gN];exact GM
 obtain⟨rfl,tH⟩:=main
 refine⟨o,u,aS,ho,bQ,kB,hv,?_⟩
 rcases tH with tH | tH
 ·rw[←tH];exact lz
 ·rw[←tH];exact lz
end
end Go.Ev
end
section
namespace Go.Ev
open Go
section
variable {P:Program} {Rn:Task→St→Run} {ro:Option Nat} {p:Out×St→Prop} {L:List Oper} {W:List Nat} {base:Nat} {listed:Array Bool} {done:Nat} {effs:List Nat} {snaps:List St} {σ:St} {b:Act} {aX:St} {ρ:Ren} {a':Go.Act} {w:World}
variable {D:List Item} {dn:Nat} {ef:List Nat} {S:List St} {aY:Act} {aB:St} {it:Item} {o:Oper}
theorem vH [Env] {id:Nat} {κ:Option bR} {j:Nat} (bQ:j≠id) (h:aB.heap.get j=none):(aB.ext id κ).heap.get j=none:=by
 cases κ with
 | none=>exact h
 | some k=>
  show(aB.new id k).heap.get j=none
  rw[ia,if_neg bQ];exact h
theorem pT [Env] {id:Nat} {κ:Option bR} {c:Nat} {k:bR} (h:(aB.ext id κ).heap.get c=some k):aB.heap.get c=some k∨(c=id∧κ=some k):=by
 cases κ with
 | none=>exact .inl h
 | some k'=>
  have h':(aB.new id k').heap.get c=some k:=h
  rw[ia] at h'
  by_cases e:c=id
  ·rw[if_pos e] at h';exact .inr ⟨e,h'⟩
  ·rw[if_neg e] at h';exact .inl h'
theorem target [Env] (hp:l7 L W) (hB:rG P L W base listed done effs snaps σ b aX ρ a' w) (hw:rH P Rn ro p L W base listed done effs snaps b aX ρ (it::D) dn ef S aY aB)
  (ho:L[it.i]? =some o) (bQ:bl o.op=false) (_hdone:done.testBit it.i=false) (hW:∀j,(W.getD it.i 0).testBit j=true→j<L.length∧cu listed j):
  ∃v κ cQ,eW P L o b (base+it.i) aX=.ok (v,aX.ext (base+it.i) κ)∧b.put o.dst v=some cQ:=by
 obtain⟨o',jy,kW,lx,_,tK⟩:=cT hw.kA
 rw[ho] at jy;cases jy
 obtain⟨NT,K6,_⟩:=tK bQ
 obtain⟨u,κ,aS,kB,lz,hg,pn,nK,AJ⟩:=Bt hp hB hw ho bQ hW
 obtain⟨cQ,GN⟩:=Bq (u:=u) kB (b:=b) hw.sz.symm
 obtain⟨ep,sp,zL,hS,hlen,sy,oA⟩:=hw.pre
 by_cases he:ep=[]
 ·exact⟨u,κ,cQ,pn _ (oA he).1,GN⟩
 ·have Bb:0<ep.length:=List.length_pos_iff.2 he
  have oz:=yB (it:=it) (W:=W) (listed:=listed) (L:=L) (effs:=effs) (ep:=ep) (k:=0) (by rw[←zL];exact NT) sy hW (by omega) (by simp)
  by_cases hr:rj P o.op=true
  ·obtain⟨GM,cR⟩:=AJ hr
   obtain⟨τ,iV,Jl⟩:=cR (by omega) ep.length (by omega) (by omega)
   obtain⟨r,gr⟩:=hB.head
   have:τ=σ:=yC (snaps:=snaps) (k:=0) (by rw[gr];rfl) (by rw[←hS,←hlen];exact iV)
   subst this
   exact⟨u,none,cQ,Jl _ (fun c k hc _=>hB.sub c k hc),GN⟩
  ·have po:dV P o.op=false:=by
    rcases K6 with h | h | h
    ·omega
    ·exact absurd h hr
    ·exact h
   exact⟨u,κ,cQ,nK po (wq hr) _,GN⟩
theorem oB [Env] {dn i:Nat} (h:(∀i,done.testBit i=true→dn.testBit i=true)∧∀j k,dn.testBit j=true→(W.getD j 0).testBit k=true→dn.testBit k=true) (hc:∀j,(W.getD i 0).testBit j=true→dn.testBit j=true):
  (∀j,done.testBit j=true→(Nat.lor dn (2^i)).testBit j=true)∧∀j k,(Nat.lor dn (2^i)).testBit j=true→(W.getD j 0).testBit k=true→(Nat.lor dn (2^i)).testBit k=true:=by
 refine⟨fun j hj=>by rw[dt,h.1 j hj];rfl,fun j k hj hk=>?_⟩
 rw[dt] at hj⊢
 simp only[Bool.or_eq_true,decide_eq_true_eq] at hj⊢
 rcases hj with hj | rfl
 ·exact .inl (h.2 j k hj hk)
 ·exact .inl (hc k hk)
theorem Jm [Env] (hp:l7 L W) (hB:rG P L W base listed done effs snaps σ b aX ρ a' w) (hw:rH P Rn ro p L W base listed done effs snaps b aX ρ (it::D) dn ef S aY aB):
  ∃tJ S' aS bE,rH P Rn ro p L W base listed done effs snaps b aX ρ D (Nat.lor dn (2^it.i)) tJ S' aS bE:=by
 obtain⟨o,ho,kW,lx,Bw,tK⟩:=cT hw.kA
 have bz:=gO ho
 obtain⟨ep,sp,zL,hS,hlen,sy,oA⟩:=hw.pre
 have Jn:∀κ,ep=[]→∀j,j<L.length→(Nat.lor dn (2^it.i)).testBit j=false→(aB.ext (base+it.i) κ).heap.get (base+j)=none:=by
  intro κ he j hj hd
  rw[dt] at hd
  simp only[Bool.or_eq_false_iff,decide_eq_false_iff_not] at hd
  exact vH (by omega) ((oA he).2 j hj hd.1)
 by_cases hl:cu listed it.i
 ·obtain⟨o',v,aS,jy,bQ,kB,hv,lz⟩:=pass hp hB hw hl
  rw[ho] at jy;cases jy
  obtain⟨_,_,jh⟩:=tK bQ
  obtain⟨xo,_,fu⟩:=kz kB
  refine⟨ef,S,aS,_,jh,lz,oB hw.mono lx,⟨ep,sp,zL,hS,hlen,sy,fun he=>⟨?_,Jn _ he⟩⟩,by rw[xo];exact hw.sz,fun t h1 h2=>?_⟩
  ·intro c k hc vF
   rcases pT hc with h | ⟨rfl,h⟩
   ·exact(oA he).1 c k h vF
   ·exact h
  ·rw[fu]
   by_cases hd:o.dst=some t
   ·rw[if_pos hd,hv t hd]
   ·rw[if_neg hd]
    refine hw.agree t (fun j oj hj cY gP=>h1 j oj hj cY (by rw[dt,gP];rfl)) fun j oj hj cY gP=>?_
    by_cases e:j=it.i
    ·subst e;rw[ho] at hj;cases hj;exact hd
    ·exact h2 j oj hj cY (by rw[dt,gP];simp;omega)
 ·have Jo:∀ {aS:Act},(∀t,o.dst≠some t→aS.tmps.get t=aY.tmps.get t)→∀t,(∀(j:Nat) (o:Oper),L[j]? =some o→¬cu listed j→(Nat.lor dn (2^it.i)).testBit j=true→o.dst≠some t)→
    (∀(j:Nat) (o:Oper),L[j]? =some o→cu listed j→(Nat.lor dn (2^it.i)).testBit j=false→o.dst≠some t)→aS.tmps.get t=b.tmps.get t:=by
   intro aS hk t h1 h2
   rw[hk t (h1 _ _ ho hl (by rw[dt];simp))]
   refine hw.agree t (fun j oj hj cY gP=>h1 j oj hj cY (by rw[dt,gP];rfl)) fun j oj hj cY gP=>h2 j oj hj cY ?_
   rw[dt,gP]
   have:it.i≠j:=fun e=>hl (e▸cY)
   simp [this]
  obtain⟨o',jy,az⟩:=yy hw.holds
  rw[ho] at jy;cases jy
  cases bQ:bl o.op with
  | true=>
   obtain⟨acM,jh⟩:=Bw bQ
   obtain⟨⟨cQ,bE⟩,aS,⟨_,lz⟩,hf⟩:=(tI (fun _ _=>rfl) rfl rfl az).exists
   rw[bQ] at lz
   refine⟨it.i::ef,bE::S,aS,bE,jh,lz,oB hw.mono lx,⟨it.i::ep,bE::sp,by rw[zL];rfl,by rw[hS];rfl,by simp [hlen],?_,fun h=>by cases h⟩,by rw[hf.sa];exact hw.sz,Jo hf.NP⟩
   intro f hf
   rcases List.mem_cons.1 hf with rfl | hf
   ·exact⟨bz,hl⟩
   ·exact sy f hf
  | false=>
   obtain⟨_,_,jh⟩:=tK bQ
   rw[wo bQ] at az
   obtain⟨v,κ,hq⟩:=Jj (P:=P) bQ az.bind
   obtain⟨aS,kB,_,lz⟩:=uW hq
   rw[bQ] at lz
   obtain⟨xo,_,fu⟩:=kz kB
   refine⟨ef,S,aS,_,jh,lz,oB hw.mono lx,⟨ep,sp,zL,hS,hlen,sy,fun he=>⟨?_,Jn _ he⟩⟩,by rw[xo];exact hw.sz,Jo fun t ht=>by rw[fu,if_neg ht]⟩
   intro c k hc vF
   rcases pT hc with h | ⟨rfl,h⟩
   ·exact(oA he).1 c k h vF
   ·exact absurd (hB.iw _ bz hl) vF
theorem O0 [Env] (hp:l7 L W) (hB:rG P L W base listed done effs snaps σ b aX ρ a' w):∀ {D1:List Item} {dn:Nat} {ef:List Nat} {S:List St} {aY:Act} {aB:St},rH P Rn ro p L W base listed done effs snaps b aX ρ (D1++it::D) dn ef S aY aB→
  ∃j6 tJ S' aS bE,rH P Rn ro p L W base listed done effs snaps b aX ρ (it::D) j6 tJ S' aS bE:=by
 intro D1
 induction D1 with
 | nil=>intro dn ef S aY aB hw;exact⟨_,_,_,_,_,hw⟩
 | cons x D1 ih=>
  intro dn ef S aY aB hw
  obtain⟨_,_,_,_,h⟩:=Jm hp hB hw
  exact ih h
structure zM (P:Program) (Rn:Task→St→Run) (ro:Option Nat) (p:Out×St→Prop) (L:List Oper) (W:List Nat) (base:Nat) (listed:Array Bool) (done:Nat) (effs:List Nat) (snaps:List St) (b:Act) (aX:St)
  (D:List Item) (dn:Nat) (aY:Act) (aB:St):Prop where
 kA:dp P L W dn effs D=true
 holds:CH P Rn ro L base p D snaps aY aB
 mono:(∀i,done.testBit i=true→dn.testBit i=true)∧∀j k,dn.testBit j=true→(W.getD j 0).testBit k=true→dn.testBit k=true
 kX:∀i,dn.testBit i=true→i<L.length∧cu listed i
 sz:aY.size=b.size
 df:aY.defers=b.defers
 Bx:aB.next=aX.next
 room:base+L.length≤aB.next
 sub:∀c k,aB.heap.get c=some k→aX.heap.get c=some k
 fresh:∀i,i<L.length→dn.testBit i=false→aB.heap.get (base+i)=none
 agree:∀t,(∀(j:Nat) (o:Oper),L[j]? =some o→cu listed j→dn.testBit j=false→o.dst≠some t)→aY.tmps.get t=b.tmps.get t
theorem zM.walk (h:zM P Rn ro p L W base listed done effs snaps b aX D dn aY aB):rH P Rn ro p L W base listed done effs snaps b aX ρ D dn effs snaps aY aB:=
 ⟨h.kA,h.holds,h.mono,⟨[],[],rfl,rfl,rfl,(fun f hf=>by cases hf),fun _=>⟨fun c k hc _=>h.sub c k hc,h.fresh⟩⟩,h.sz,fun t _ h2=>h.agree t h2⟩
theorem Bz [Env] {id:Nat} {κ:Option bR} (h:id<aB.next):(aB.ext id κ).next=aB.next:=by
 cases κ with
 | none=>rfl
 | some k=>
  show(aB.new id k).next=aB.next
  rw[kt];omega
theorem K7 [Env] (hp:l7 L W) (hB:rG P L W base listed done effs snaps σ b aX ρ a' w) (h:zM P Rn ro p L W base listed done effs snaps b aX (it::D) dn aY aB) (hl:cu listed it.i):
  ∃aS bE,zM P Rn ro p L W base listed done effs snaps b aX D (Nat.lor dn (2^it.i)) aS bE:=by
 obtain⟨o,v,aS,ho,bQ,kB,hv,lz⟩:=pass (ρ:=ρ) hp hB h.walk hl
 obtain⟨o',jy,kW,lx,_,tK⟩:=cT h.kA
 rw[ho] at jy;cases jy
 obtain⟨_,_,jh⟩:=tK bQ
 obtain⟨xo,Jp,fu⟩:=kz kB
 have bz:=gO ho
 have zN:(aB.ext (base+it.i) (aX.heap.get (base+it.i))).next=aB.next:=Bz (by have:=h.room;omega)
 refine⟨aS,_,jh,lz,oB h.mono lx,fun j hj=>?_,by rw[xo];exact h.sz,by rw[Jp];exact h.df,by rw[zN];exact h.Bx,by rw[zN];exact h.room,fun c k hc=>?_,fun j hj hd=>?_,fun t h2=>?_⟩
 ·rw[dt] at hj
  simp only[Bool.or_eq_true,decide_eq_true_eq] at hj
  rcases hj with hj | rfl
  ·exact h.kX j hj
  ·exact⟨bz,hl⟩
 ·rcases pT hc with h1 | ⟨rfl,h1⟩
  ·exact h.sub c k h1
  ·exact h1
 ·rw[dt] at hd
  simp only[Bool.or_eq_false_iff,decide_eq_false_iff_not] at hd
  exact vH (by omega) (h.fresh j hj hd.1)
 ·rw[fu]
  by_cases hd:o.dst=some t
  ·rw[if_pos hd,hv t hd]
  ·rw[if_neg hd]
   refine h.agree t fun j oj hj cY gP=>?_
   by_cases e:j=it.i
   ·subst e;rw[ho] at hj;cases hj;exact hd
   ·exact h2 j oj hj cY (by rw[dt,gP];simp;omega)
theorem Jq [Env] (hp:l7 L W) (hB:rG P L W base listed done effs snaps σ b aX ρ a' w):∀ {D1:List Item} {dn:Nat} {aY:Act} {aB:St},zM P Rn ro p L W base listed done effs snaps b aX (D1++D) dn aY aB→(∀x∈D1,cu listed x.i)→
  ∃j6 aS bE,zM P Rn ro p L W base listed done effs snaps b aX D j6 aS bE∧(∀i,dn.testBit i=true→j6.testBit i=true)∧(∀x∈D1,j6.testBit x.i=true):=by
 intro D1
 induction D1 with
 | nil=>intro dn aY aB h _;exact⟨dn,_,_,h,fun _ h=>h,fun x hx=>by cases hx⟩
 | cons x D1 ih=>
  intro dn aY aB h hl
  obtain⟨aS,bE,h2⟩:=K7 hp hB h (hl x List.mem_cons_self)
  obtain⟨j6,BA,ki,h3,hm,hx⟩:=ih h2 fun y hy=>hl y (List.mem_cons_of_mem _ hy)
  refine⟨j6,BA,ki,h3,fun i hi=>hm i (by rw[dt,hi];rfl),fun y hy=>?_⟩
  rcases List.mem_cons.1 hy with rfl | hy
  ·exact hm _ (by rw[dt];simp)
  ·exact hx y hy
end
end Go.Ev
end
section
namespace Go.Ev
open Go
theorem O1:∀(l:List Nat) (f:Nat→Option bR) (σ:St),∃σ':St,σ'.next=σ.next∧∀c,σ'.heap.get c=if c∈l then f c else σ.heap.get c:=by
 intro l
 induction l with
 | nil=>intro f σ;exact⟨σ,rfl,fun c=>by simp⟩
 | cons x l ih=>
  intro f σ
  obtain⟨σ',hn,hg⟩:=ih f σ
  obtain⟨h,m⟩:=σ'
  refine⟨⟨h.put x (f x),m⟩,hn,fun c=>?_⟩
  show(h.put x (f x)).get c=_
  rw[Trie.bN]
  by_cases e:c=x
  ·subst e;simp
  ·rw[if_neg e]
   have:=hg c
   rw[show h.get c=_ from this]
   simp [e]
section
variable {P:Program} {Rn:Task→St→Run} {ro:Option Nat} {p:Out×St→Prop} {L:List Oper} {W:List Nat} {base:Nat} {listed:Array Bool} {done:Nat} {effs:List Nat} {snaps:List St} {σ:St} {b:Act} {aX:St} {ρ:Ren} {a':Go.Act} {w:World}
variable {D:List Item} {dn:Nat} {ef:List Nat} {S:List St} {aY:Act} {aB:St} {it:Item} {o:Oper}
theorem R.sub [Env] {σ':St} (h:R ρ σ w) (hs:∀c k,σ'.heap.get c=some k→σ.heap.get c=some k) (hn:σ'.next=σ.next):R ρ σ' w:=
 ⟨fun c k hc=>h.cS c k (hs c k hc),fun c c' k k' l l' h1 h2=>h.inj c c' k k' l l' (hs _ _ h1) (hs _ _ h2),fun c hc=>h.fresh c (by rw[←hn];exact hc),h.valid,
  fun c o x hx=>⟨(h.aL c o x hx).1,fun⟨c',k,l,h1,h2,h3,h4⟩=>(h.aL c o x hx).2 ⟨c',k,l,hs _ _ h1,h2,h3,h4⟩⟩,h.laid⟩
theorem bc.sub [Env] {ids:Nat→Prop} {bF:Ren} {σ₀ σ':St} {eR:World} (h:bc ids bF σ₀ eR ρ σ w) (hs:∀c k,σ'.heap.get c=some k→σ.heap.get c=some k) (hn:σ'.next=σ.next):bc ids bF σ₀ eR ρ σ' w:=
 ⟨h.r.sub hs hn,h.le,by rw[hn];exact h.next,h.iw,h.size,h.os,h.tape,h.output,h.aJ,fun c hc ⟨c',k,l,h1,h2,h3,h4⟩=>h.wr c hc ⟨c',k,l,hs _ _ h1,h2,h3,h4⟩,fun c k hc=>h.iJ c k (hs _ _ hc),h.gq⟩
theorem cu.set {i j:Nat} (hi:i<listed.size):cu (listed.setIfInBounds i true) j↔cu listed j∨j=i:=by
 unfold cu
 rw[Array.getD_eq_getD_getElem?,Array.getD_eq_getD_getElem?]
 by_cases e:j=i
 ·subst e;simp [hi]
 ·rw[Array.getElem?_setIfInBounds_ne (by omega)];simp [e]
theorem wu [Env]:∀ {D1:List Item} {dn:Nat} {ef:List Nat},dp P L W dn ef (D1++D)=true→
  ∃j6 ep,dp P L W j6 (ep++ef) D=true∧(∀j,dn.testBit j=true→j6.testBit j=true)∧(∀x∈D1,j6.testBit x.i=true)∧(∀j,j6.testBit j=true→dn.testBit j=true∨∃x∈D1,x.i=j)∧
   ∀f∈ep,dn.testBit f=false∧∃o,L[f]? =some o∧bl o.op=true:=by
 intro D1
 induction D1 with
 | nil=>intro dn ef h;exact⟨dn,[],h,fun _ h=>h,(fun x hx=>by cases hx),fun _ h=>.inl h,fun f hf=>by cases hf⟩
 | cons x D1 ih=>
  intro dn ef h
  obtain⟨o,ho,kW,_,h1,h2⟩:=cT h
  have fin:∀ {tJ},dp P L W (Nat.lor dn (2^x.i)) tJ (D1++D)=true→(∃ep,tJ=ep++ef∧∀f∈ep,dn.testBit f=false∧∃o,L[f]? =some o∧bl o.op=true)→
    ∃j6 ep,dp P L W j6 (ep++ef) D=true∧(∀j,dn.testBit j=true→j6.testBit j=true)∧(∀y∈x::D1,j6.testBit y.i=true)∧(∀j,j6.testBit j=true→dn.testBit j=true∨∃y∈x::D1,y.i=j)∧
     ∀f∈ep,dn.testBit f=false∧∃o,L[f]? =some o∧bl o.op=true:=by
   rintro tJ h ⟨ep,rfl,sy⟩
   obtain⟨j6,ep',h3,h4,h5,h6,h7⟩:=ih h
   refine⟨j6,ep'++ep,by rw[List.append_assoc];exact h3,fun j hj=>h4 j (by rw[dt,hj];rfl),fun y hy=>?_,fun j hj=>?_,fun f hf=>?_⟩
   ·rcases List.mem_cons.1 hy with rfl | hy
    ·exact h4 _ (by rw[dt];simp)
    ·exact h5 y hy
   ·rcases h6 j hj with h | ⟨y,hy,h⟩
    ·rw[dt] at h
     simp only[Bool.or_eq_true,decide_eq_true_eq] at h
     rcases h with h | h
     ·exact .inl h
     ·exact .inr ⟨x,List.mem_cons_self,h⟩
    ·exact .inr ⟨y,List.mem_cons_of_mem _ hy,h⟩
   ·rcases List.mem_append.1 hf with hf | hf
    ·obtain⟨h8,h9⟩:=h7 f hf
     rw[dt] at h8
     simp only[Bool.or_eq_false_iff] at h8
     exact⟨h8.1,h9⟩
    ·exact sy f hf
  cases he:bl o.op with
  | true=>exact fin (h1 he).2 ⟨[x.i],rfl,fun f hf=>by
    have:f=x.i:=by simpa using hf
    subst this;exact⟨kW,o,ho,he⟩⟩
  | false=>exact fin (h2 he).2.2 ⟨[],rfl,fun f hf=>by cases hf⟩
theorem jz [Env] {cQ:Act} {id:Nat} (h:∀t∈looks L o,cQ.tmps.get t=b.tmps.get t) (σ':St):eW P L o cQ id σ'=eW P L o b id σ':=
 pk (P:=P) h σ'
theorem yD [Env] {id:Nat} (bQ:bl o.op=false) (BB:bw ρ b a') {τ hZ:St} {v:V} {κ:Option bR} (h0:τ.heap.get id=none) (h:eW P L o b id τ=.ok (v,τ.ext id κ)) (hs:dT (cU ρ) τ hZ):
  eW P L o b id hZ=.ok (v,hZ.ext id κ):=by
 have vF:∀x∈o.op.operands,∀v,b.eval x=some v→∃x',aq ρ v x':=fun x _ v h=>⟨_,BB.eval x h⟩
 obtain⟨v2,κ2,he,_,hm⟩:=Bn (P:=P) (id:=id) (ops:=L) bQ vF τ (fun r=>r=(v,τ.ext id κ)) (by rw[h];exact rfl)
 have h1:v2=v:=(Prod.mk.inj he).1
 have h2:κ2=κ:=uY h0 (Prod.mk.inj he).2
 subst h1 h2
 exact hm hZ hs
variable {F:Fence} {bF:Ren} {σ₀:St} {eR:World}
def Inv [Env] (P:Program) (Rn:Task→St→Run) (ro:Option Nat) (F:Fence) (p:Out×St→Prop) (L:List Oper) (W:List Nat) (base:Nat) (bF:Ren) (σ₀:St) (eR:World) (listed:Array Bool) (a':Go.Act) (w:World):Prop:=
 ∃D done effs snaps a σ b aX ρ,rG P L W base listed done effs snaps σ b aX ρ a' w∧zM P Rn ro p L W base listed done effs snaps b aX D done a σ∧fH ρ ro F∧bc (fun c=>base≤c) bF σ₀ eR ρ aX w∧listed.size=L.length
theorem O2 [Env] (hg:Good P Rn) {ops:Array Oper} (hp:l7 ops.toList W) (hI:Inv P Rn ro F p ops.toList W base bF σ₀ eR listed a' w) {i:Nat} (ho:ops.toList[i]? =some o) (bQ:bl o.op=false) (hl:¬cu listed i)
  (hW:∀j,(W.getD i 0).testBit j=true→j<ops.toList.length∧cu listed j) {K:Go.Act→World→Prop} {Q:Exit→Go.Act→World→Prop}
  (hK:∀iM ff,Inv P Rn ro F p ops.toList W base bF σ₀ eR (listed.setIfInBounds i true) iM ff→K iM ff):wpOpIn F 0 P ops Q i K a' w:=by
 obtain⟨D,done,effs,snaps,a,σ,b,aX,ρ,hB,hA,gH,az,ba⟩:=hI
 have bz:=gO ho
 have ly:done.testBit i=false:=by
  cases hd:done.testBit i with
  | false=>rfl
  | true=>exact absurd (hA.kX i hd).2 hl
 obtain⟨D1,it,D2,rfl,rfl⟩:=l8 hA.kA i bz ly
 obtain⟨j6,tJ,S',aS,bE,hw⟩:=O0 hp hB hA.walk
 obtain⟨v,κ,cQ,jT,kB⟩:=target hp hB hw ho bQ ly hW
 have cn:ρ (base+it.i)=none:=hB.iw _ bz hl
 have gN:aX.heap.get (base+it.i)=none:=hB.rel.nk cn
 have hi:ops[it.i]? =some o:=by rw[←Array.getElem?_toList];exact ho
 have lA:((iG P ops.toList o).f Rn ro b aX (base+it.i)).Holds fun r=>r=(cQ,aX.ext (base+it.i) κ):=by
  rw[wo bQ,jT]
  show(pO (aX.ext (base+it.i) κ) (b.put o.dst v)).Holds _
  rw[kB]
  exact rfl
 obtain⟨xo,Jp,fu⟩:=kz kB
 have dS:base+it.i<aX.next:=by have:=hA.room;have:=hA.Bx;omega
 refine pS hg hB.rel cn hB.act gH hi lA ?_
 intro K8 ki bg iM ff he BB mV
 cases he
 refine hK iM ff ⟨D1++it::D2,done,effs,snaps,a,σ,cQ,_,bg,⟨?_,?_,mV.r,BB,hB.head,hB.len,?_,hB.fresh,?_,?_⟩,⟨hA.kA,hA.holds,hA.mono,?_,by rw[xo];exact hA.sz,by rw[Jp];exact hA.df,?_,hA.room,?_,hA.fresh,?_⟩,gH.mono mV.le,?_,by simpa using ba⟩
 ·intro j hj cY k hk
  rw[cu.set (by omega)] at cY⊢
  rcases cY with cY | rfl
  ·exact⟨(hB.closed j hj cY k hk).1,.inl (hB.closed j hj cY k hk).2⟩
  ·exact⟨(hW k hk).1,.inl (hW k hk).2⟩
 ·intro j oj hj cY gP
  rw[cu.set (by omega)] at cY
  rcases cY with cY | rfl
  ·exact hB.ne j oj hj cY gP
  ·rw[ho] at hj;cases hj;exact bQ
 ·intro c k hc
  have gx:=hB.sub c k hc
  rw[ext_get _ _ _ _ gN]
  by_cases e:c=base+it.i
  ·rw[e,gN] at gx;cases gx
  ·rw[if_neg e];exact gx
 ·intro j hj cY
  rw[cu.set (by omega)] at cY
  cases hr:bg (base+j) with
  | none=>rfl
  | some l=>
   rcases mV.iw _ _ hr with h | h | h
   ·rw[hB.iw j hj fun h=>cY (.inl h)] at h;cases h
   ·have:=hA.room;have:=hA.Bx;omega
   ·exact absurd (.inr (by omega)) cY
 ·intro j oj hj cY gP
  rw[cu.set (by omega)] at cY
  by_cases e:j=it.i
  ·subst e
   rw[ho] at hj;cases hj
   have po:∀t∈looks ops.toList o,cQ.tmps.get t=b.tmps.get t:=by
    intro t ht
    rw[fu]
    by_cases hd:o.dst=some t
    ·exact absurd rfl (hp.data _ _ _ _ _ ho ho hd ht).1
    ·rw[if_neg hd]
   refine⟨v,fun t ht=>by rw[fu,if_pos ht],.inl ?_⟩
   rw[jz po,ext_get _ _ _ _ gN,if_pos rfl]
   refine yD bQ hB.act gN jT ?_
   intro c k hc _
   rw[gU,ext_get _ _ _ _ gN]
   by_cases e:c=base+it.i
   ·rw[e,gN] at hc;cases hc
   ·rw[if_neg e,if_neg e];exact hc
  ·have cY:=cY.resolve_right e
   have BC:=hB.ne j oj hj cY gP
   obtain⟨u,hu,Bv⟩:=hB.K5 j oj hj cY gP
   have po:∀t∈looks ops.toList oj,cQ.tmps.get t=b.tmps.get t:=by
    intro t ht
    rw[fu]
    by_cases hd:o.dst=some t
    ·rcases(hp.data _ _ _ _ _ hj ho hd ht).2 with h | ⟨h,_⟩
     ·exact absurd (hB.closed j (gO hj) cY _ h).2 hl
     ·rw[bQ] at h;cases h
    ·rw[if_neg hd]
   have hR:(aX.ext (base+it.i) κ).heap.get (base+j)=aX.heap.get (base+j):=by
    rw[ext_get _ _ _ _ gN,if_neg (by omega)]
   refine⟨u,fun t ht=>?_,?_⟩
   ·rw[fu]
    by_cases hd:o.dst=some t
    ·exact absurd (hp.Rm _ _ _ _ _ hj ho ht hd) e
    ·rw[if_neg hd];exact hu t ht
   ·rw[hR]
    rcases Bv with h | h | ⟨h1,h2,q,τ,h3,h4,h5,h6⟩
    ·refine .inl ?_
     rw[jz po]
     refine yD BC hB.act (by rw[gU,if_pos rfl]) h ?_
     intro c k hc _
     rw[gU] at hc⊢
     by_cases e2:c=base+j
     ·rw[if_pos e2] at hc;cases hc
     ·rw[if_neg e2] at hc⊢
      rw[ext_get _ _ _ _ gN]
      by_cases e3:c=base+it.i
      ·rw[e3,gN] at hc;cases hc
      ·rw[if_neg e3];exact hc
    ·exact .inr (.inl fun σ'=>by rw[jz po];exact h σ')
    ·exact .inr (.inr ⟨h1,h2,q,τ,h3,h4,h5,fun u' hZ hh=>h6 u' hZ (by rw[←jz po];exact hh)⟩)
 ·intro j hj
  rw[cu.set (by omega)]
  exact⟨(hA.kX j hj).1,.inl (hA.kX j hj).2⟩
 ·rw[Bz dS];exact hA.Bx
 ·intro c k hc
  have gx:=hA.sub c k hc
  rw[ext_get _ _ _ _ gN]
  by_cases e:c=base+it.i
  ·rw[e,gN] at gx;cases gx
  ·rw[if_neg e];exact gx
 ·intro t ht
  have h1:o.dst≠some t:=ht it.i o ho ((cu.set (by omega)).2 (.inr rfl)) ly
  rw[fu,if_neg h1]
  exact hA.agree t fun j oj hj cY gP=>ht j oj hj ((cu.set (by omega)).2 (.inl cY)) gP
 ·exact az.trans (mV.weaken fun c hc=>by rw[hc];exact Nat.le_add_right _ _)
end
end Go.Ev
end
