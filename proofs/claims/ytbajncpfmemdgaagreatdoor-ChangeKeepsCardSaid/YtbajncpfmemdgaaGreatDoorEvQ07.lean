/- Proved: parts of the way: DrawB, DrawC, DrawD, DrawE, Draw. -/
import Derived.Test.YtbajncpfmemdgaaGreatDoorEvQ06
set_option linter.unusedVariables false
set_option linter.unusedSimpArgs false
section
namespace Go.Ev
open Go
section
variable {P:Program} {ρ:Ren} {id:Nat} {Rn:Task→St→Run} {ro:Option Nat}
noncomputable def fc (P:Program) (ops:List Oper) (o:Oper) (a:Act) (id:Nat) (σ:St):VS:=
 match o.guard with
 | none=>(me P o.op).f a σ id
 | some (j,want)=>match fK ops j with
  | none=>.ok (cO,σ)
  | some d=>match rB want (a.tmps.get d) with
   | some true=>(me P o.op).f a σ id
   | some false=>.ok (cO,σ)
   | none=>.fail "guard"
theorem BV (r:VS) (a:Act) (dst:Option Tmp):(r.bind (fB a)).bind (lD dst)=r.bind fun r=>lD dst (r.1,a,r.2):=by
 induction r with
 | ok x=>rfl
 | fail w=>rfl
 | pick n k ih=>
  show bA.pick n _=bA.pick n _
  congr 1
  funext i
  exact ih i
 | tr C hm he=>
  show bA.tr _ _ _=bA.tr _ _ _
  congr 1
theorem BW {o:Op} (h:bp o=false) (a:Act) (σ:St):(iI P o).f Rn ro a σ id=((me P o).f a σ id).bind (fB a):=by
 cases o with
 | call c=>
  obtain⟨callee,mV,kJ⟩:=c
  cases callee with
  | builtin b=>rfl
  | value f=>simp [bp] at h
  | invoke x name=>simp [bp] at h
 | defer c=>cases h
 | _=>rfl
theorem wW [Env] {ops:List Oper} {o:Oper} (h:bp o.op=false) (a:Act) (σ:St):(iJ P ops o).f Rn ro a σ id=(fc P ops o a id σ).bind fun r=>lD o.dst (r.1,a,r.2):=by
 unfold iJ fc
 cases hg:o.guard with
 | none=>
  dsimp only
  rw[BW h,BV]
 | some q=>
  obtain⟨j,want⟩:=q
  dsimp only
  cases hd:fK ops j with
  | none=>rfl
  | some d=>
   unfold xF
   dsimp only
   cases hb:rB want (a.tmps.get d) with
   | none=>rfl
   | some b=>cases b with
    | true=>unfold qD;dsimp only;rw[BW h,BV]
    | false=>rfl
def xT (L:List Tmp) (a b:Act):Prop:=∀t∈L,a.tmps.get t=b.tmps.get t
theorem xT.eval {ops:List Oper} {o:Oper} {a b:Act} (h:xT (looks ops o) a b):∀x∈o.op.operands,a.eval x=b.eval x:=by
 intro x hx
 cases x with
 | tmp t=>
  refine h t (List.mem_append_left _ ?_)
  unfold Jx
  rw[List.mem_filterMap]
  exact⟨.tmp t,by simpa using hx,rfl⟩
 | _=>rfl
theorem px {ops:List Oper} {o:Oper} {j:Nat} {want:Bool} (hg:o.guard=some (j,want)) {d:Tmp} (hd:fK ops j=some d):d∈looks ops o:=by
 refine List.mem_append_right _ ?_
 rw[hg]
 unfold fK at hd
 rw[dA] at hd
 show d∈((ops[j]?).bind (·.dst)).toList
 rw[hd];simp
theorem py [Env] {ops:List Oper} {o:Oper} {a b:Act} (h:xT (looks ops o) a b) (σ:St):fc P ops o a id σ=fc P ops o b id σ:=by
 unfold fc
 split
 ·exact tw o.op h.eval σ
 ·rename_i j want hg
  split
  ·rfl
  ·rename_i d hd
   rw[h d (px hg hd),tw (P:=P) (id:=id) o.op h.eval σ]
theorem jE (ops:List Oper) (o:Oper) (a:Act) (id:Nat):(fc P ops o a id=fun σ=>(me P o.op).f a σ id)∨(fc P ops o a id=fun σ=>.ok (cO,σ))∨(fc P ops o a id=fun _=>.fail "guard"):=by
 unfold fc
 cases o.guard with
 | none=>exact .inl rfl
 | some q=>
  obtain⟨j,want⟩:=q
  dsimp only
  cases fK ops j with
  | none=>exact .inr (.inl rfl)
  | some d=>
   dsimp only
   cases rB want (a.tmps.get d) with
   | none=>exact .inr (.inr rfl)
   | some b=>cases b with
    | true=>exact .inl rfl
    | false=>exact .inr (.inl rfl)
theorem BX [Env] {ops:List Oper} {o:Oper} {a:Act} (h1:bp o.op=false) (hD:∀x∈o.op.operands,∀v,a.eval x=some v→∃x',aq ρ v x'):iQ id (cU ρ) (fc P ops o a id):=by
 rcases jE (P:=P) ops o a id with h | h | h<;>rw[h]
 ·exact Hl o.op h1 hD
 ·exact(bT.ok _).look _
 ·exact(bT.fail _).look _
theorem BZ [Env] {ops:List Oper} {o:Oper} {a:Act} (h1:bp o.op=false) (h2:dZ P o.op=false) (h3:nk o.op=false):bT id (fc P ops o a id):=by
 rcases jE (P:=P) ops o a id with h | h | h<;>rw[h]
 ·exact rS o.op h1 h2 h3
 ·exact bT.ok _
 ·exact bT.fail _
theorem B0 [Env] {ops:List Oper} {o:Oper} {a:Act} {t:TypeId} {x:Operand} (ho:o.op=.load t x) {σ:St} {v:V} {τ:St} (h:fc P ops o a id σ=.ok (v,τ)):
  τ=σ∧∀σ',(∀pv,a.eval x=some pv→eg P σ' t pv=some v)→fc P ops o a id σ'=.ok (v,σ'):=by
 rcases jE (P:=P) ops o a id with hc | hc | hc<;>rw[hc] at h⊢
 ·rw[ho] at h⊢
  have key:∀σ,(me P (.load t x)).f a σ id=eV "load operand" (a.eval x) (oF P σ t):=fun _=>rfl
  dsimp only at h⊢
  rw[key] at h
  cases hx:a.eval x with
  | none=>rw[hx] at h;cases h
  | some pv=>
   rw[hx] at h
   have h':aJ σ "load" (eg P σ t pv)=.ok (v,τ):=h
   cases hl:eg P σ t pv with
   | none=>rw[hl] at h';cases h'
   | some u=>
    rw[hl] at h'
    cases h'
    refine⟨rfl,fun σ' hs=>?_⟩
    rw[key,hx]
    show aJ σ' "load" (eg P σ' t pv)=_
    rw[hs pv rfl];rfl
 ·cases h;exact⟨rfl,fun _ _=>rfl⟩
 ·cases h
theorem kK {a aR:Act} {dst:Option Tmp} {v:V} (h:a.put dst v=some aR):aR.size=a.size∧aR.defers=a.defers∧∀t,aR.tmps.get t=if dst=some t then some v else a.tmps.get t:=by
 cases dst with
 | none=>
  simp only[Act.put,Option.some.injEq] at h
  subst h
  exact⟨rfl,rfl,fun t=>by simp⟩
 | some d=>
  obtain⟨t,s,ds⟩:=a
  simp only[Act.put] at h
  cases hb:Nat.blt d s with
  | false=>simp [hb] at h
  | true=>
   simp only[hb,Option.some.injEq] at h
   subst h
   refine⟨rfl,rfl,fun u=>?_⟩
   show(t.put d v).get u=_
   rw[bF.bP]
   by_cases hu:u=d
   ·rw[if_pos hu,if_pos (by rw[hu])]
   ·rw[if_neg hu,if_neg (by intro e;cases e;exact hu rfl)]
theorem B1 {a aR b:Act} {dst:Option Tmp} {v u:V} (h:a.put dst v=some aR) (hs:b.size=a.size):∃cR,b.put dst u=some cR:=by
 cases dst with
 | none=>exact⟨b,rfl⟩
 | some d=>
  obtain⟨t,s,ds⟩:=a
  obtain⟨t',s',ds'⟩:=b
  have nt:s'=s:=hs
  subst nt
  simp only[Act.put] at h⊢
  cases hb:Nat.blt d s' with
  | false=>simp [hb] at h
  | true=>exact⟨_,rfl⟩
structure xU (a b aZ cQ:Act):Prop where
 ta:aZ.tmps=a.tmps
 sa:aZ.size=a.size
 tb:cQ.tmps=b.tmps
 sb:cQ.size=b.size
 d:aZ.defers=cQ.defers
theorem B2 [Env] {o:Oper} {a b:Act} (lL:∀x∈o.op.operands,a.eval x=b.eval x) (hd:a.defers=b.defers) {σ:St} {q:V×Act×St→Prop} (h:((iI P o.op).f Rn ro a σ id).Holds q):
  ((iI P o.op).f Rn ro b σ id).Holds fun r=>∃aZ,q (r.1,aZ,r.2.2)∧xU a b aZ r.2.1:=by
 have plain:∀ {r:VS},(r.bind (fB a)).Holds q→(r.bind (fB b)).Holds fun r=>∃aZ,q (r.1,aZ,r.2.2)∧xU a b aZ r.2.1:=by
  intro r h
  exact bA.Holds.dP (h.bind.mono fun x hx=>⟨a,hx,rfl,rfl,rfl,rfl,hd⟩)
 have y0:∀ {r:Run},(r.bind (valOf a)).Holds q→(r.bind (valOf b)).Holds fun r=>∃aZ,q (r.1,aZ,r.2.2)∧xU a b aZ r.2.1:=by
  intro r h
  refine bA.Holds.dP (h.bind.mono fun x hx=>?_)
  obtain⟨v,σ',rfl,hq⟩:=wg hx
  exact⟨a,hq,rfl,rfl,rfl,rfl,hd⟩
 by_cases e9:∃c,o.op=.call c
 ·obtain⟨c,bL⟩:=e9
  rw[bL] at h lL⊢
  show((u6 P c).f Rn ro b σ id).Holds _
  have h':((u6 P c).f Rn ro a σ id).Holds q:=h
  have vf:a.bO c.args.toList=b.bO c.args.toList:=mU _ fun x hx=>lL x (by simp only[Op.operands,Call.operands];split<;>simp_all)
  unfold u6 at h'⊢
  split at h'
  ·rename_i f hc
   cases he:nU P f with
   | some e=>
    simp only[he] at h'⊢
    rw[vf] at h'
    exact plain h'
   | none=>
    simp only[he] at h'⊢
    have hf:a.eval f=b.eval f:=lL f (by simp [Op.operands,Call.operands,hc])
    rw[hf,vf] at h'
    unfold np at h'⊢
    split at h'
    ·exact y0 h'
    ·exact h'.elim
  ·rename_i x name hc
   dsimp only at h'⊢
   have hf:a.eval x=b.eval x:=lL x (by simp [Op.operands,Call.operands,hc])
   rw[hf,vf] at h'
   unfold nY at h'⊢
   split at h'
   ·unfold mP at h'⊢
    split at h'
    ·exact y0 h'
    ·exact h'.elim
   ·exact h'.elim
  ·dsimp only at h'⊢
   rw[vf] at h'
   exact plain h'
 by_cases BS:∃c,o.op=.defer c
 ·obtain⟨c,bL⟩:=BS
  rw[bL] at h lL⊢
  exact(show False from h).elim
 have hc:∀c,o.op≠.call c:=fun c e=>e9 ⟨c,e⟩
 have R6:∀c,o.op≠.defer c:=fun c e=>BS ⟨c,e⟩
 rw[Am hc R6] at h⊢
 have h2:(((me P o.op).f a σ id).bind (fB a)).Holds q:=h
 rw[tw o.op lL σ] at h2
 exact plain h2
structure y4 (dst:Option Tmp) (a b aR cR:Act):Prop where
 sa:aR.size=a.size
 sb:cR.size=b.size
 d:aR.defers=cR.defers
 OE:∀t,dst≠some t→aR.tmps.get t=a.tmps.get t
 Hm:∀t,dst≠some t→cR.tmps.get t=b.tmps.get t
 at_:∀t,dst=some t→aR.tmps.get t=cR.tmps.get t
theorem tD [Env] {ops:List Oper} {o:Oper} {a b:Act} (lL:xT (looks ops o) a b) (hs:b.size=a.size) (hd:a.defers=b.defers) {σ:St} {q:Act×St→Prop} (h:((iJ P ops o).f Rn ro a σ id).Holds q):
  ((iJ P ops o).f Rn ro b σ id).Holds fun r=>∃aR,q (aR,r.2)∧y4 o.dst a b aR r.1:=by
 have LL:∀ {v:V} {aZ cQ:Act} {aB:St},xU a b aZ cQ→(lD o.dst (v,aZ,aB)).Holds q→(lD o.dst (v,cQ,aB)).Holds fun r=>∃aR,q (aR,r.2)∧y4 o.dst a b aR r.1:=by
  intro v aZ cQ aB hf h
  obtain⟨aR,hp,hq⟩:=ve h
  obtain⟨cR,JR⟩:=B1 (u:=v) hp (b:=cQ) (by rw[hf.sb,hf.sa,hs])
  show(pW aB (cQ.put o.dst v)).Holds _
  rw[JR]
  obtain⟨x1,x2,x3⟩:=kK hp
  obtain⟨y1,y2,y3⟩:=kK JR
  refine⟨aR,hq,by rw[x1,hf.sa],by rw[y1,hf.sb],by rw[x2,y2,hf.d],fun t ht=>?_,fun t ht=>?_,fun t ht=>?_⟩
  ·rw[x3,if_neg ht,hf.ta]
  ·rw[y3,if_neg ht,hf.tb]
  ·rw[x3,y3,if_pos ht,if_pos ht]
 have run:((iI P o.op).f Rn ro a σ id).Holds (fun x=>(lD o.dst x).Holds q)→(((iI P o.op).f Rn ro b σ id).bind (lD o.dst)).Holds fun r=>∃aR,q (aR,r.2)∧y4 o.dst a b aR r.1:=by
  intro h
  refine bA.Holds.dP ((B2 lL.eval hd h).mono ?_)
  rintro⟨v,cQ,aB⟩ ⟨aZ,hq,hf⟩
  exact LL hf hq
 unfold iJ at h⊢
 split at h
 ·exact run h.bind
 ·rename_i j want hg
  unfold xF at h⊢
  split at h
  ·rename_i d R6
   dsimp only at h⊢
   rw[lL d (px hg R6)] at h
   unfold qD at h⊢
   split at h
   ·exact run h.bind
   ·exact LL (v:=cO) ⟨rfl,rfl,rfl,rfl,hd⟩ h
   ·exact h.elim
  ·exact LL (v:=cO) ⟨rfl,rfl,rfl,rfl,hd⟩ h
end
end Go.Ev
end
section
namespace Go.Ev
open Go
theorem dw (a i j:Nat):(Nat.lor a (2^i)).testBit j=(a.testBit j||decide (i=j)):=by
 show(a||| 2^i).testBit j=_
 rw[Nat.testBit_or,Nat.testBit_two_pow]
theorem xV {a b:Nat} (h:BA a b=true) {j:Nat} (hj:a.testBit j=true):b.testBit j=true:=by
 have e:(a||| b)=b:=Nat.eq_of_beq_eq_true h
 rw[←e,Nat.testBit_or,hj];rfl
theorem xW {w:List Nat} {o:Oper} {j:Nat}:(xD w o).testBit j=true↔∃e∈o.after,Region.binds .any e=true∧(j=e.on∨(w.getD e.on 0).testBit j=true):=by
 have key:∀(l:List Edge) (s:Nat),(l.foldl (fun s e=>match Region.binds .any e with
   | true=>Nat.lor s (Nat.lor (2^e.on) (w.getD e.on 0))
   | false=>s) s).testBit j=true↔s.testBit j=true∨∃e∈l,Region.binds .any e=true∧(j=e.on∨(w.getD e.on 0).testBit j=true):=by
  intro l
  induction l with
  | nil=>intro s;simp
  | cons e l ih=>
   intro s
   rw[List.foldl_cons,ih]
   cases hb:Region.binds .any e with
   | false=>simp [hb]
   | true=>
    have:(Nat.lor s (Nat.lor (2^e.on) (w.getD e.on 0))).testBit j=(s.testBit j||(decide (e.on=j)||(w.getD e.on 0).testBit j)):=by
     show(s||| (2^e.on||| w.getD e.on 0)).testBit j=_
     rw[Nat.testBit_or,Nat.testBit_or,Nat.testBit_two_pow]
    rw[this]
    simp only[Bool.or_eq_true,decide_eq_true_eq,List.mem_cons,exists_eq_or_imp,hb,true_and]
    constructor
    ·rintro((h | h | h) | h)
     ·exact .inl h
     ·exact .inr (.inl (.inl h.symm))
     ·exact .inr (.inl (.inr h))
     ·exact .inr (.inr h)
    ·rintro(h | (h | h) | h)
     ·exact .inl (.inl h)
     ·exact .inl (.inr (.inl h.symm))
     ·exact .inl (.inr (.inr h))
     ·exact .inr h
 exact(key o.after.toList 0).trans (by simp)
structure mu (L:List Oper) (W:List Nat):Prop where
 wait:∀(i:Nat) (o:Oper),L[i]? =some o→W.getD i 0=xD W o
 R7:∀(i j:Nat) (oi oj:Oper) (t:Tmp),L[i]? =some oi→L[j]? =some oj→oi.dst=some t→oj.dst=some t→i=j
 data:∀(i j:Nat) (oi oj:Oper) (t:Tmp),L[i]? =some oi→L[j]? =some oj→oj.dst=some t→t∈looks L oi→i≠j∧((W.getD i 0).testBit j=true∨(bp oj.op=true∧(W.getD j 0).testBit i=true))
theorem y5:∀ {l:List (Option Tmp)},kZ l=true→∀(i j:Nat) (t:Tmp),l[i]? =some (some t)→l[j]? =some (some t)→i=j:=by
 intro l
 induction l with
 | nil=>intro _ i j t h;simp at h
 | cons x l ih=>
  intro h i j t hi hj
  have mem:∀k,l[k]? =some (some t)→some t∈l:=fun k hk=>List.mem_of_getElem? hk
  cases x with
  | none=>
   have h':kZ l=true:=h
   cases i with
   | zero=>simp at hi
   | succ i=>cases j with
    | zero=>simp at hj
    | succ j=>rw[ih h' i j t (by simpa using hi) (by simpa using hj)]
  | some u=>
   have h':(!l.contains (some u)&&kZ l)=true:=h
   rw[Bool.and_eq_true] at h'
   have hu:some u∉l:=by simpa using h'.1
   cases i with
   | zero=>cases j with
    | zero=>rfl
    | succ j=>
     simp at hi;subst hi
     exact absurd (mem j (by simpa using hj)) hu
   | succ i=>cases j with
    | zero=>
     simp at hj;subst hj
     exact absurd (mem i (by simpa using hi)) hu
    | succ j=>rw[ih h'.2 i j t (by simpa using hi) (by simpa using hj)]
theorem D3 [Env] {P:Program} {L:List Oper} {l:List Item} (h:kc P L=some l):∃W,mu L W∧dt P L W 0 [] l=true:=by
 unfold kc at h
 dsimp only at h
 split at h
 ·rename_i hb
  cases h
  simp only[Bool.and_eq_true] at hb
  obtain⟨⟨⟨_,hw⟩,hd⟩,hp⟩:=hb
  have bB:∀ {i:Nat} {o:Oper},L[i]? =some o→i∈List.range L.length:=fun h=>List.mem_range.2 (List.getElem?_eq_some_iff.1 h).1
  refine⟨_,⟨fun i o hi=>?_,fun i j oi oj t hi hj h1 h2=>?_,fun i j oi oj t hi hj h1 h2=>?_⟩,hp⟩
  ·unfold Ad at hw
   have:=List.all_eq_true.1 hw i (bB hi)
   rw[hi] at this
   exact Nat.eq_of_beq_eq_true this
  ·unfold s9 at hd
   rw[Bool.and_eq_true] at hd
   exact y5 hd.1 i j t (by simp [hi,h1]) (by simp [hj,h2])
  ·unfold s9 at hd
   rw[Bool.and_eq_true] at hd
   have:=List.all_eq_true.1 hd.2 i (bB hi)
   rw[hi] at this
   have:=List.all_eq_true.1 this j (bB hj)
   rw[hj] at this
   dsimp only at this
   unfold Ae at this
   rw[h1] at this
   simp only[Bool.or_eq_true,Bool.and_eq_true,Bool.not_eq_true'] at this
   rcases this with ⟨a,b⟩ | a
   ·exact⟨fun e=>by rw[e] at a;simp at a,b⟩
   ·exact absurd h2 (by simpa using a)
 ·cases h
theorem cT [Env] {P:Program} {L:List Oper} {W:List Nat} {dn:Nat} {ef:List Nat} {it:Item} {R:List Item} (h:dt P L W dn ef (it::R)=true):
  ∃o,L[it.i]? =some o∧dn.testBit it.i=false∧(∀j,(W.getD it.i 0).testBit j=true→dn.testBit j=true)∧
   (bp o.op=true→(∀j,dn.testBit j=true→(W.getD it.i 0).testBit j=true)∧dt P L W (Nat.lor dn (2^it.i)) (it.i::ef) R=true)∧
   (bp o.op=false→s8 (W.getD it.i 0) it.back ef=true∧(it.back=0∨rA P o.op=true∨dZ P o.op=false)∧dt P L W (Nat.lor dn (2^it.i)) ef R=true):=by
 unfold dt at h
 split at h
 ·cases h
 ·rename_i o ho
  simp only[Bool.and_eq_true,Bool.not_eq_true'] at h
  obtain⟨⟨h1,h2⟩,h3⟩:=h
  refine⟨o,ho,h1,fun j hj=>xV h2 hj,fun he=>?_,fun he=>?_⟩
  ·rw[he] at h3
   simp only[Bool.and_eq_true] at h3
   exact⟨fun j hj=>xV h3.1 hj,h3.2⟩
  ·rw[he] at h3
   simp only[Bool.and_eq_true,Bool.or_eq_true,Bool.not_eq_true'] at h3
   refine⟨h3.1.1,?_,h3.2⟩
   rcases h3.1.2 with (a | a) | a
   ·exact .inl (Nat.eq_of_beq_eq_true a)
   ·exact .inr (.inl a)
   ·exact .inr (.inr a)
theorem mv [Env] {P:Program} {L:List Oper} {W:List Nat}:∀ {D:List Item} {dn:Nat} {ef:List Nat},dt P L W dn ef D=true→∀i,i<L.length→dn.testBit i=false→∃D1 it D2,D=D1++it::D2∧it.i=i:=by
 intro D
 induction D with
 | nil=>
  intro dn ef h i hi hd
  have h':(List.range L.length).all dn.testBit=true:=h
  have:=List.all_eq_true.1 h' i (List.mem_range.2 hi)
  rw[hd] at this;cases this
 | cons it D ih=>
  intro dn ef h i hi hd
  obtain⟨o,_,_,_,h1,h2⟩:=cT h
  by_cases e:it.i=i
  ·exact⟨[],it,D,rfl,e⟩
  ·have EA:(Nat.lor dn (2^it.i)).testBit i=false:=by rw[dw,hd];simp [e]
   have:∃tE,dt P L W (Nat.lor dn (2^it.i)) tE D=true:=by
    cases he:bp o.op with
    | true=>exact⟨_,(h1 he).2⟩
    | false=>exact⟨_,(h2 he).2.2⟩
   obtain⟨tE,hp⟩:=this
   obtain⟨D1,it',D2,rfl,eR⟩:=ih hp i hi EA
   exact⟨it::D1,it',D2,rfl,eR⟩
section
variable {P:Program} {ρ:Ren} {Rn:Task→St→Run} {ro:Option Nat}
def CH (P:Program) (Rn:Task→St→Run) (ro:Option Nat) (L:List Oper) (base:Nat) (p:Out×St→Prop) (D:List Item) (S:List St) (a:Act) (σ:St):Prop:=
 ((ke P L D).f Rn ro base S a σ).Holds p
theorem y6 [Env] {L:List Oper} {base:Nat} {p:Out×St→Prop} {it:Item} {D:List Item} {S:List St} {a:Act} {σ:St} (h:CH P Rn ro L base p (it::D) S a σ):
  ∃o,L[it.i]? =some o∧((iJ P L o).f Rn ro a σ (base+it.i)).Holds fun r=>
   (it.back=0∨ey P (nF L o a) it.back S a (lE r.1 o.dst) o.op=true)∧CH P Rn ro L base p D (k0 (bp o.op) r.2 S) r.1 r.2:=by
 have h':((tc P L it (ke P L D) (nth L it.i)).f Rn ro base S a σ).Holds p:=h
 rw[dA] at h'
 cases ho:L[it.i]? with
 | none=>rw[ho] at h';exact h'.elim
 | some o=>
  rw[ho] at h'
  refine⟨o,rfl,?_⟩
  have h'':(((iJ P L o).f Rn ro a σ (Nat.add base it.i)).bind (Jy P L o it.back a S ((ke P L D).f Rn ro base))).Holds p:=h'
  refine h''.bind.mono ?_
  rintro⟨aR,bG⟩ hx
  have cG:(match Nat.beq it.back 0||ey P (nF L o a) it.back S a (lE aR o.dst) o.op with
   | true=>(ke P L D).f Rn ro base (k0 (bp o.op) bG S) aR bG
   | false=>.fail "a load and a write, in either order":Run).Holds p:=hx
  split at cG
  ·rename_i hb
   rw[Bool.or_eq_true] at hb
   exact⟨hb.imp Nat.eq_of_beq_eq_true id,cG⟩
  ·exact cG.elim
theorem D4 [Env] {t:TypeId} {x v:V}:∀ {k:Nat} {l:List St},xE P t x v k l=true→∀j,j<k→∃τ,l[j]? =some τ∧eg P τ t x=some v:=by
 intro k
 induction k with
 | zero=>intro l _ j hj;omega
 | succ k ih=>
  intro l h j hj
  cases l with
  | nil=>cases h
  | cons τ l=>
   have h':((match eg P τ t x with | some u=>V.beq u v | none=>false)&&xE P t x v k l)=true:=h
   rw[Bool.and_eq_true] at h'
   cases j with
   | zero=>
    refine⟨τ,rfl,?_⟩
    cases hl:eg P τ t x with
    | none=>rw[hl] at h';cases h'.1
    | some u=>rw[hl] at h';rw[V.beq_eq h'.1]
   | succ j=>exact ih h'.2 j (by omega)
theorem y7 [Env] {back:Nat} {S:List St} {a:Act} {v:Option V} {t:TypeId} {x:Operand} (h:ey P false back S a v (.load t x)=true):
  ∃pv u,a.eval x=some pv∧v=some u∧(((∃cs o,pv=.aM cs o)∧∀j,j≤back→∃τ,S[j]? =some τ)∨∀j,1≤j→j≤back→∃τ,S[j]? =some τ∧eg P τ t pv=some u):=by
 unfold ey at h
 dsimp only at h
 split at h
 ·rename_i cs o u hx
  refine⟨_,u,hx,rfl,.inl ⟨⟨cs,o,rfl⟩,fun j hj=>?_⟩⟩
  have h':back+1≤len S:=Nat.le_of_ble_eq_true h
  rw[bc] at h'
  exact⟨_,List.getElem?_eq_getElem (by omega)⟩
 ·rename_i pv u _ hx
  refine⟨pv,u,hx,rfl,.inr fun j h1 h2=>?_⟩
  rw[ew] at h
  obtain⟨τ,ic,hl⟩:=D4 h (j-1) (by omega)
  refine⟨τ,?_,hl⟩
  rw[List.getElem?_drop] at ic
  rw[show j=1+(j-1) by omega];exact ic
 ·cases h
theorem A7 [Env] {back:Nat} {S:List St} {a:Act} {v:Option V} {t:TypeId} {x:Operand} (h:ey P true back S a v (.load t x)=true) (j:Nat) (hj:j≤back):∃τ,S[j]? =some τ:=by
 have h':back+1≤len S:=Nat.le_of_ble_eq_true h
 rw[bc] at h'
 exact⟨_,List.getElem?_eq_getElem (by omega)⟩
theorem ED [Env] {ops:List Oper} {o:Oper} {a:Act} {id:Nat} (h:nF ops o a=true):fc P ops o a id=fun σ=>.ok (cO,σ):=by
 unfold nF at h
 unfold fc
 split at h
 ·cases h
 ·rename_i j want hg
  rw[hg]
  dsimp only
  split at h
  ·rename_i hs;rw[hs]
  ·rename_i d hs
   rw[hs]
   dsimp only
   split at h
   ·rename_i hv;rw[hv]
   ·cases h
theorem y8 [Env] {off:Bool} {back:Nat} {S:List St} {a:Act} {v:Option V} {s d:TypeId} {x:Operand} (hc:mO P s d=true) (h:ey P off back S a v (.convert s d x)=true):
  (∀j,j≤back→∃τ,S[j]? =some τ)∧(off=true∨∃es esz ex,a.eval x=some (.bk es esz ex)):=by
 unfold ey at h
 dsimp only at h
 rw[hc] at h
 dsimp only at h
 split at h
 ·cases h
 ·rename_i hb
  have bq:back+1≤len S:=Nat.le_of_ble_eq_true hb
  rw[bc] at bq
  refine⟨fun j hj=>⟨_,List.getElem?_eq_getElem (by omega)⟩,?_⟩
  split at h
  ·exact .inl rfl
  ·split at h
   ·rename_i es esz ex hx;exact .inr ⟨_,_,_,hx⟩
   ·cases h
theorem LM [Env] {s d:TypeId} (hc:mO P s d=true) {σ τ:St} {id:Nat} {es:List V} {esz:Nat} {ex:Bool} {v:V} (h:c7 P σ id s d (.bk es esz ex)=.ok (v,τ)):∀σ',c7 P σ' id s d (.bk es esz ex)=.ok (v,σ'):=by
 intro σ'
 unfold mO at hc
 split at hc
 ·rename_i e h1 h2
  unfold c7 evalConv at h⊢
  rw[h1,h2] at h⊢
  dsimp only at h⊢
  cases he:P.underlying e with
  | none=>rw[he] at h;cases h
  | some de=>
   rw[he] at h
   cases de with
   | int k=>cases k<;>first
    | (cases h;done)
    | (dsimp only at h⊢
       cases hb:Nat.beq esz 1 with
       | false=>rw[hb] at h;cases h
       | true=>
        rw[hb] at h
        dsimp only at h⊢
        cases oK:eL (ar es) with
        | none=>rw[oK] at h;cases h
        | some l=>rw[oK] at h;cases h;rfl)
   | _=>cases h
 ·cases hc
theorem JW [Env] {s d:TypeId} (hc:mO P s d=true) {σ τ:St} {id:Nat} {x v:V} (h:c7 P σ id s d x=.ok (v,τ)):τ=σ:=by
 unfold mO at hc
 split at hc
 ·rename_i e h1 h2
  unfold c7 evalConv at h
  rw[h1,h2] at h
  cases x<;>dsimp only at h<;>first
   | (cases h;done)
   | (repeat' split at h
      all_goals first
       | (cases h;done)
       | (cases h;rfl)
       | (rename_i s' nt
          revert h
          cases eL _<;>intro h<;>cases h<;>rfl))
 ·cases hc
theorem B3 [Env] {ops:List Oper} {o:Oper} {a:Act} {id:Nat} (hr:rA P o.op=true) {σ:St} {v:V} {τ:St} (h:fc P ops o a id σ=.ok (v,τ)):τ=σ:=by
 cases bL:o.op<;>rw[bL] at hr<;>first
  | (cases hr;done)
  | exact(B0 bL h).1
  | (rename_i s d x
     have hc:mO P s d=true:=hr
     rcases jE (P:=P) ops o a id with e | e | e<;>rw[e] at h
     ·rw[bL] at h
      have h':eV "convert operand" (a.eval x) (c7 P σ id s d)=.ok (v,τ):=h
      cases hx:a.eval x with
      | none=>rw[hx] at h';cases h'
      | some xv=>rw[hx] at h';exact JW hc h'
     ·cases h;rfl
     ·cases h)
theorem LN [Env] {ops:List Oper} {o:Oper} {a:Act} {id:Nat} {s d:TypeId} {x:Operand} (bL:o.op=.convert s d x) (hc:mO P s d=true) {es:List V} {esz:Nat} {ex:Bool} (hx:a.eval x=some (.bk es esz ex)) {σ:St} {v:V} {τ:St}
  (h:fc P ops o a id σ=.ok (v,τ)):∀σ',fc P ops o a id σ'=.ok (v,σ'):=by
 rcases jE (P:=P) ops o a id with e | e | e<;>rw[e] at h⊢
 ·intro σ'
  rw[bL] at h⊢
  have h':eV "convert operand" (a.eval x) (c7 P σ id s d)=.ok (v,τ):=h
  show eV "convert operand" (a.eval x) (c7 P σ' id s d)=.ok (v,σ')
  rw[hx] at h'⊢
  exact LM hc h' σ'
 ·cases h;intro σ';rfl
 ·cases h
theorem LO [Env] {ops:List Oper} {o:Oper} {a:Act} {id:Nat} {t:TypeId} {x:Operand} (bL:o.op=.load t x) {cs:List V} {off:Nat} (hx:a.eval x=some (.aM cs off)) {σ:St} {v:V} {τ:St}
  (h:fc P ops o a id σ=.ok (v,τ)):∀σ',fc P ops o a id σ'=.ok (v,σ'):=by
 rcases jE (P:=P) ops o a id with e | e | e<;>rw[e] at h⊢
 ·intro σ'
  rw[bL] at h⊢
  have h':eV "load operand" (a.eval x) (oF P σ t)=.ok (v,τ):=h
  show eV "load operand" (a.eval x) (oF P σ' t)=.ok (v,σ')
  rw[hx] at h'⊢
  have h2:aJ σ "load" (eg P σ t (.aM cs off))=.ok (v,τ):=h'
  show aJ σ' "load" (eg P σ' t (.aM cs off))=.ok (v,σ')
  have e:eg P σ' t (.aM cs off)=eg P σ t (.aM cs off):=by
   unfold eg
   cases rq P t with
   | none=>rfl
   | some g=>cases g<;>cases bN P t<;>rfl
  rw[e]
  cases hl:eg P σ t (.aM cs off) with
  | none=>rw[hl] at h2;cases h2
  | some u=>rw[hl] at h2;cases h2;rfl
 ·cases h;intro σ';rfl
 ·cases h
theorem JX [Env] {ops:List Oper} {o:Oper} {a:Act} {id:Nat} (h1:bp o.op=false) {σ:St} {q:V×St→Prop} (h:(fc P ops o a id σ).Holds q):∃v κ,q (v,σ.ext id κ):=by
 have Bh:∀ {fW:String} {x:Option V},(aJ σ fW x).Holds q→∃v κ,q (v,σ.ext id κ):=fun h=>let ⟨v,_,hq⟩:=dd h;⟨v,none,hq⟩
 rcases jE (P:=P) ops o a id with hc | hc | hc<;>rw[hc] at h
 ·by_cases hr:nk o.op=true
  ·cases bL:o.op<;>rw[bL] at hr h<;>try (cases hr;done)
   obtain⟨xv,_,h⟩:=eb h
   exact Bh h
  ·by_cases hl:dZ P o.op=true
   ·cases bL:o.op<;>rw[bL] at hl h h1<;>try (cases hl;done)
    case binOp op t x y yt=>
     obtain⟨xv,yv,_,_,h⟩:=k9 h
     exact Bh h
    case slice t x lo hi mx=>
     obtain⟨xv,_,h⟩:=eb h
     unfold fA at h
     split at h
     ·split at h
      ·exact Bh h
      ·exact Bh h
     ·exact h.elim
    case convert s d x=>
     obtain⟨xv,_,h⟩:=eb h
     obtain⟨⟨v,aB⟩,aU,hq⟩:=bA.Holds.of h
     unfold evalConv at aU
     split at aU
     ·cases aU;exact⟨_,none,hq⟩
     ·cases aU;exact⟨_,none,hq⟩
     ·split at aU
      ·split at aU
       ·cases aU;exact⟨_,none,hq⟩
       ·cases aU
      ·cases aU
     ·cases aU;exact⟨_,none,hq⟩
     ·split at aU
      ·split at aU
       ·cases aU;exact⟨_,some _,hq⟩
       ·cases aU
      ·cases aU
     ·split at aU
      ·cases aU;exact⟨_,none,hq⟩
      ·cases aU
     ·split at aU
      ·split at aU
       ·rw[Option.map_eq_some_iff] at aU
        obtain⟨s,_,he⟩:=aU
        cases he
        exact⟨_,none,hq⟩
       ·cases aU
      ·cases aU
     ·split at aU
      ·split at aU
       ·rw[Option.map_eq_some_iff] at aU
        obtain⟨s,_,he⟩:=aU
        cases he
        exact⟨_,none,hq⟩
       ·cases aU
      ·cases aU
     ·split at aU
      ·split at aU
       ·split at aU
        ·rw[Option.map_eq_some_iff] at aU
         obtain⟨s,_,he⟩:=aU
         cases he
         exact⟨_,none,hq⟩
        ·cases aU
       ·cases aU
      ·cases aU
     ·cases aU
    case lookup t x k ok=>exact(show False from h).elim
    case call c=>
     obtain⟨callee,mV,kJ⟩:=c
     cases callee with
     | builtin b=>
      cases b<;>try (simp [dZ] at hl;done)
      have h':(gL P σ id .len kJ.toList (a.bO mV.toList)).Holds q:=h
      cases hv:a.bO mV.toList with
      | none=>rw[hv] at h';exact h'.elim
      | some vs=>
       rw[hv] at h'
       obtain⟨⟨v,aB⟩,aU,hq⟩:=bA.Holds.of h'
       rcases tA:kJ.toList with _ | ⟨t,l⟩
       ·rw[tA] at aU;rcases vs with _ | ⟨x,_ | ⟨y,_⟩⟩<;>cases aU
       ·rw[tA] at aU
        rcases vs with _ | ⟨x,_ | ⟨y,r⟩⟩
        ·cases aU
        ·have tB:(eD P σ t x).map (·,σ)=some (v,aB):=aU
         rw[Option.map_eq_some_iff] at tB
         obtain⟨u,hu,he⟩:=tB
         cases he
         exact⟨_,none,hq⟩
        ·cases aU
     | value f=>simp [dZ] at hl
     | invoke x name=>simp [dZ] at hl
   ·obtain⟨v,κ,hq,_⟩:=rS (P:=P) (id:=id) (a:=a) o.op h1 (by simpa using hl) (by simpa using hr) σ q h
    exact⟨v,κ,hq⟩
 ·exact⟨_,none,h⟩
 ·exact h.elim
end
end Go.Ev
end
section
namespace Go.Ev
open Go
def cy (l:Array Bool) (i:Nat):Prop:=l.getD i true=true
def Rec (P:Program) (L:List Oper) (W:List Nat) (base:Nat) (effs:List Nat) (snaps:List St) (b:Act) (aY:St) (i:Nat) (o:Oper):Prop:=
 ∃v,(∀t,o.dst=some t→b.tmps.get t=some v)∧
  (fc P L o b (base+i) (aY.kill (base+i))=.ok (v,(aY.kill (base+i)).ext (base+i) (aY.heap.get (base+i)))∨
   (∀σ',fc P L o b (base+i) σ'=.ok (v,σ'.ext (base+i) (aY.heap.get (base+i))))∨
   (rA P o.op=true∧aY.heap.get (base+i)=none∧∃j τ,snaps[j]? =some τ∧1≤j∧(∀f∈effs.take j,(W.getD i 0).testBit f=false)∧∀u hJ,fc P L o b (base+i) τ=.ok (u,hJ)→u=v))
structure rT [Env] (P:Program) (L:List Oper) (W:List Nat) (base:Nat) (listed:Array Bool) (done:Nat) (effs:List Nat) (snaps:List St) (σ:St) (b:Act) (aY:St) (ρ:Ren) (a':Go.Act) (w:World):Prop where
 closed:∀i,i<L.length→cy listed i→∀j,(W.getD i 0).testBit j=true→j<L.length∧cy listed j
 ne:∀(i:Nat) (o:Oper),L[i]? =some o→cy listed i→done.testBit i=false→bp o.op=false
 rel:R ρ aY w
 act:bC ρ b a'
 head:∃r,snaps=σ::r
 len:snaps.length=effs.length+1
 sub:∀c k,σ.heap.get c=some k→aY.heap.get c=some k
 fresh:∀i,i<L.length→done.testBit i=false→σ.heap.get (base+i)=none
 iy:∀i,i<L.length→¬cy listed i→ρ (base+i)=none
 LP:∀(i:Nat) (o:Oper),L[i]? =some o→cy listed i→done.testBit i=false→Rec P L W base effs snaps b aY i o
structure rU (P:Program) (Rn:Task→St→Run) (ro:Option Nat) (p:Out×St→Prop) (L:List Oper) (W:List Nat) (base:Nat) (listed:Array Bool) (done:Nat) (effs:List Nat) (snaps:List St) (b:Act) (aY:St) (ρ:Ren)
  (D:List Item) (dn:Nat) (ef:List Nat) (S:List St) (aZ:Act) (aB:St):Prop where
 kL:dt P L W dn ef D=true
 holds:CH P Rn ro L base p D S aZ aB
 mono:(∀i,done.testBit i=true→dn.testBit i=true)∧∀j k,dn.testBit j=true→(W.getD j 0).testBit k=true→dn.testBit k=true
 pre:∃ep sp,ef=ep++effs∧S=sp++snaps∧ep.length=sp.length∧(∀f∈ep,f<L.length∧¬cy listed f)∧
  (ep=[]→dX (cU ρ) aB aY∧∀j,j<L.length→dn.testBit j=false→aB.heap.get (base+j)=none)
 sz:aZ.size=b.size
 agree:∀t,(∀(j:Nat) (o:Oper),L[j]? =some o→¬cy listed j→dn.testBit j=true→o.dst≠some t)→(∀(j:Nat) (o:Oper),L[j]? =some o→cy listed j→dn.testBit j=false→o.dst≠some t)→aZ.tmps.get t=b.tmps.get t
theorem gZ [Env] (σ:St) (c b:Nat):(σ.kill c).heap.get b=if b=c then none else σ.heap.get b:=by
 rw[k6,Trie.bP]
theorem ie [Env] (σ:St) (c:Nat) (k:bV) (b:Nat):(σ.new c k).heap.get b=if b=c then some k else σ.heap.get b:=by
 rw[fC,Trie.bP]
theorem ext_get [Env] (σ:St) (c:Nat) (κ:Option bV) (b:Nat) (h:σ.heap.get c=none):(σ.ext c κ).heap.get b=if b=c then κ else σ.heap.get b:=by
 cases κ with
 | none=>
  show σ.heap.get b=_
  by_cases e:b=c
  ·rw[if_pos e,e,h]
  ·rw[if_neg e]
 | some k=>exact ie σ c k b
theorem vg [Env] {σ:St} {c:Nat} {κ wk:Option bV} (h:σ.heap.get c=none) (e:σ.ext c κ=σ.ext c wk):κ=wk:=by
 have h1:=ext_get σ c κ c h
 have h2:=ext_get σ c wk c h
 rw[if_pos rfl] at h1 h2
 rw[←h1,←h2,e]
section
variable {P:Program} {Rn:Task→St→Run} {ro:Option Nat} {p:Out×St→Prop} {L:List Oper} {W:List Nat} {base:Nat} {listed:Array Bool} {done:Nat} {effs:List Nat} {snaps:List St} {σ:St} {b:Act} {aY:St} {ρ:Ren} {a':Go.Act} {w:World}
variable {D:List Item} {dn:Nat} {ef:List Nat} {S:List St} {aZ:Act} {aB:St} {it:Item} {o:Oper}
theorem gT {i:Nat} {o:Oper} (h:L[i]? =some o):i<L.length:=(List.getElem?_eq_some_iff.1 h).1
theorem xX [Env] (hp:mu L W) (hB:rT P L W base listed done effs snaps σ b aY ρ a' w) (hw:rU P Rn ro p L W base listed done effs snaps b aY ρ (it::D) dn ef S aZ aB) (ho:L[it.i]? =some o)
  (hW:∀j,(W.getD it.i 0).testBit j=true→j<L.length∧cy listed j):xT (looks L o) aZ b:=by
 intro t ht
 obtain⟨_,_,R8,lM,_⟩:=cT hw.kL
 refine hw.agree t (fun j oj hj hl gU hd=>?_) (fun j oj hj c8 lg hd=>?_)
 ·rcases(hp.data _ _ _ _ _ ho hj hd ht).2 with h | ⟨_,h⟩
  ·exact hl (hW j h).2
  ·rw[hw.mono.2 j _ gU h] at R8;cases R8
 ·rcases(hp.data _ _ _ _ _ ho hj hd ht).2 with h | ⟨h,_⟩
  ·have:=lM j h
   rw[lg] at this;cases this
  ·have lN:done.testBit j=false:=by
    cases hd2:done.testBit j with
    | false=>rfl
    | true=>rw[hw.mono.1 j hd2] at lg;cases lg
   rw[hB.ne j oj hj c8 lN] at h;cases h
theorem y9 {ep:List Nat} {k:Nat} (hb:s8 (W.getD it.i 0) it.back (ep++effs)=true) (sQ:∀f∈ep,f<L.length∧¬cy listed f)
  (hW:∀j,(W.getD it.i 0).testBit j=true→j<L.length∧cy listed j) (hk:k≤effs.length) (hf:∀f∈effs.take k,(W.getD it.i 0).testBit f=false):ep.length+k≤it.back:=by
 rcases Nat.lt_or_ge it.back (ep.length+k) with bB | oN
 ·exfalso
  have hl:it.back<(ep++effs).length:=by rw[List.length_append];omega
  unfold s8 at hb
  rw[List.drop_eq_getElem_cons hl] at hb
  dsimp only at hb
  by_cases h1:it.back<ep.length
  ·rw[List.getElem_append_left h1] at hb
   exact(sQ _ (List.getElem_mem h1)).2 (hW _ hb).2
  ·rw[List.getElem_append_right (by omega)] at hb
   have hi:it.back-ep.length<effs.length:=by rw[List.length_append] at hl;omega
   have hm:effs[it.back-ep.length]∈effs.take k:=by
    rw[List.mem_take_iff_getElem]
    exact⟨it.back-ep.length,by omega,rfl⟩
   rw[hf _ hm] at hb;cases hb
 ·exact oN
theorem wX {P:Program} {o:Op} (h:¬rA P o=true):nk o=false:=by
 cases o<;>first
  | rfl
  | exact absurd rfl h
theorem B4 [Env] (hp:mu L W) (hB:rT P L W base listed done effs snaps σ b aY ρ a' w) (hw:rU P Rn ro p L W base listed done effs snaps b aY ρ (it::D) dn ef S aZ aB)
  (ho:L[it.i]? =some o) (bQ:bp o.op=false) (hW:∀j,(W.getD it.i 0).testBit j=true→j<L.length∧cy listed j):
  ∃u κ aR,aZ.put o.dst u=some aR∧CH P Rn ro L base p D S aR (aB.ext (base+it.i) κ)∧fc P L o b (base+it.i) aB=.ok (u,aB.ext (base+it.i) κ)∧
   (∀σ',dX (cU ρ) aB σ'→fc P L o b (base+it.i) σ'=.ok (u,σ'.ext (base+it.i) κ))∧
   (dZ P o.op=false→nk o.op=false→∀σ',fc P L o b (base+it.i) σ'=.ok (u,σ'.ext (base+it.i) κ))∧
   (rA P o.op=true→aB.ext (base+it.i) κ=aB∧(it.back≠0→∀j,1≤j→j≤it.back→∃τ,S[j]? =some τ∧∀σ',dX (cU ρ) τ σ'→fc P L o b (base+it.i) σ'=.ok (u,σ'))):=by
 obtain⟨o',jF,az⟩:=y6 hw.holds
 rw[ho] at jF;cases jF
 have lL:=xX hp hB hw ho hW
 rw[wW bQ] at az
 have az:=az.bind
 have wm:∀x∈o.op.operands,∀v,b.eval x=some v→∃x',aq ρ v x':=fun x _ v h=>⟨_,hB.act.eval x h⟩
 rw[py (P:=P) lL] at az
 have key:∃u κ,(lD o.dst (u,aZ,aB.ext (base+it.i) κ)).Holds (fun r=>(it.back=0∨ey P (nF L o aZ) it.back S aZ (lE r.1 o.dst) o.op=true)∧CH P Rn ro L base p D (k0 (bp o.op) r.2 S) r.1 r.2)∧
   fc P L o b (base+it.i) aB=.ok (u,aB.ext (base+it.i) κ)∧(∀σ',dX (cU ρ) aB σ'→fc P L o b (base+it.i) σ'=.ok (u,σ'.ext (base+it.i) κ))∧
   (dZ P o.op=false→nk o.op=false→∀σ',fc P L o b (base+it.i) σ'=.ok (u,σ'.ext (base+it.i) κ)):=by
  by_cases wo:dZ P o.op=false∧nk o.op=false
  ·obtain⟨u,κ,hq,cS⟩:=BZ (P:=P) (id:=base+it.i) (ops:=L) (a:=b) bQ wo.1 wo.2 aB _ az
   exact⟨u,κ,hq,cS aB,fun σ' _=>cS σ',fun _ _=>cS⟩
  ·obtain⟨u,κ,hq,hg,pz⟩:=BX (P:=P) (id:=base+it.i) (ops:=L) bQ wm aB _ az
   exact⟨u,κ,hq,hg,pz,fun h1 h2=>absurd ⟨h1,h2⟩ wo⟩
 obtain⟨u,κ,hq,hg,pz,n0⟩:=key
 obtain⟨aR,kM,OG,lO⟩:=ve hq
 rw[bQ] at lO
 refine⟨u,κ,aR,kM,lO,hg,pz,n0,fun h1=>?_⟩
 by_cases tg:∃s d x,o.op=.convert s d x
 ·obtain⟨s,d,x,bL⟩:=tg
  have hc:mO P s d=true:=by rw[bL] at h1;exact h1
  refine⟨B3 (by rw[bL];exact hc) hg,fun An j R9 JY=>?_⟩
  have Ao:=OG.resolve_left An
  rw[bL] at Ao
  obtain⟨hex,rL⟩:=y8 hc Ao
  obtain⟨τ,ic⟩:=hex j JY
  refine⟨τ,ic,fun σ' _=>?_⟩
  rcases rL with rL | ⟨es,esz,ex,hx⟩
  ·have e1:∀σ,fc P L o b (base+it.i) σ=.ok (cO,σ):=fun σ=>(py (P:=P) lL σ).symm.trans (congrFun (ED rL) σ)
   rw[e1] at hg
   rw[e1,(Prod.mk.inj (bA.ok.inj hg)).1]
  ·rw[lL.eval x (by rw[bL];simp [Op.operands])] at hx
   exact LN bL hc hx hg σ'
 obtain⟨t,x,bL⟩:∃t x,o.op=.load t x:=by
  cases bL:o.op<;>rw[bL] at h1 tg<;>first
   | exact⟨_,_,rfl⟩
   | (cases h1;done)
   | exact absurd ⟨_,_,_,rfl⟩ tg
 obtain⟨he,hl⟩:=B0 bL hg
 refine⟨he,fun An j R9 JY=>?_⟩
 have Ao:=OG.resolve_left An
 rw[bL] at Ao
 cases rL:nF L o aZ with
 | true=>
  rw[rL] at Ao
  obtain⟨τ,ic⟩:=A7 Ao j JY
  refine⟨τ,ic,fun σ' _=>?_⟩
  have e1:∀σ,fc P L o b (base+it.i) σ=.ok (cO,σ):=fun σ=>(py (P:=P) lL σ).symm.trans (congrFun (ED rL) σ)
  rw[e1] at hg
  rw[e1,(Prod.mk.inj (bA.ok.inj hg)).1]
 | false=>
 rw[rL] at Ao
 obtain⟨pv,u2,OH,OI,cS⟩:=y7 Ao
 rcases cS with ⟨⟨cs,off,rfl⟩,hex⟩ | cS
 ·obtain⟨τ,ic⟩:=hex j JY
  refine⟨τ,ic,fun σ' _=>?_⟩
  rw[lL.eval x (by rw[bL];simp [Op.operands])] at OH
  exact LO bL OH hg σ'
 obtain⟨τ,ic,hlv⟩:=cS j R9 JY
 have hu:u2=u:=by
  cases hd:o.dst with
  | none=>rw[hd] at OI;cases OI
  | some d=>
   rw[hd] at OI
   have:=(kK kM).2.2 d
   rw[if_pos hd] at this
   have Sa:aR.tmps.get d=some u2:=OI
   rw[this] at Sa
   exact(Option.some.inj Sa).symm
 subst hu
 refine⟨τ,ic,fun σ' hs=>hl σ' fun pv' Sb=>?_⟩
 rw[←lL.eval x (by rw[bL];simp [Op.operands]),OH] at Sb
 cases Sb
 have aO:=hB.act.eval x (v:=pv) (by rw[←lL.eval x (by rw[bL];simp [Op.operands])];exact OH)
 exact hs.eg aO hlv
theorem za {snaps sp:List St} {k:Nat} {τ hJ:St} (h1:snaps[k]? =some τ) (h2:(sp++snaps)[sp.length+k]? =some hJ):hJ=τ:=by
 rw[List.getElem?_append_right (by omega)] at h2
 rw[show sp.length+k-sp.length=k by omega,h1] at h2
 exact(Option.some.inj h2).symm
theorem B5 [Env] {τ:St} {c:Nat} (h:∀x k,τ.heap.get x=some k→aY.heap.get x=some k) (hf:τ.heap.get c=none):dX (cU ρ) τ (aY.kill c):=by
 intro x k hx _
 rw[gZ]
 by_cases e:x=c
 ·rw[e,hf] at hx;cases hx
 ·rw[if_neg e];exact h x k hx
theorem pass [Env] (hp:mu L W) (hB:rT P L W base listed done effs snaps σ b aY ρ a' w) (hw:rU P Rn ro p L W base listed done effs snaps b aY ρ (it::D) dn ef S aZ aB) (hl:cy listed it.i):
  ∃o v aR,L[it.i]? =some o∧bp o.op=false∧aZ.put o.dst v=some aR∧(∀t,o.dst=some t→b.tmps.get t=some v)∧CH P Rn ro L base p D S aR (aB.ext (base+it.i) (aY.heap.get (base+it.i))):=by
 obtain⟨o,ho,lg,lM,_,tF⟩:=cT hw.kL
 have bB:=gT ho
 have lN:done.testBit it.i=false:=by
  cases hd:done.testBit it.i with
  | false=>rfl
  | true=>rw[hw.mono.1 _ hd] at lg;cases lg
 have bQ:=hB.ne _ o ho hl lN
 obtain⟨OJ,LQ,acj⟩:=tF bQ
 have hW:=hB.closed _ bB hl
 obtain⟨u,κ,aR,kM,lO,hg,pz,n0,Bi⟩:=B4 hp hB hw ho bQ hW
 obtain⟨v,hv,B6⟩:=hB.LP _ o ho hl lN
 obtain⟨ep,sp,Ap,hS,hlen,sQ,oO⟩:=hw.pre
 have Ey:(aY.kill (base+it.i)).heap.get (base+it.i)=none:=by rw[gZ,if_pos rfl]
 have main:u=v∧(κ=aY.heap.get (base+it.i)∨aB.ext (base+it.i) κ=aB.ext (base+it.i) (aY.heap.get (base+it.i))):=by
  rcases B6 with ZL | ZM | ⟨hrd,gS,j,τ,ic,R9,hjf,Hn⟩
  ·
   have fin:(∃wk,fc P L o b (base+it.i) (aY.kill (base+it.i))=.ok (u,(aY.kill (base+it.i)).ext (base+it.i) wk)∧(κ=wk∨aB.ext (base+it.i) κ=aB.ext (base+it.i) wk))→
     u=v∧(κ=aY.heap.get (base+it.i)∨aB.ext (base+it.i) κ=aB.ext (base+it.i) (aY.heap.get (base+it.i))):=by
    rintro⟨wk,h1,h2⟩
    rw[ZL] at h1
    have fM:=bA.ok.inj h1
    have tC:=vg Ey (Prod.mk.inj fM).2
    rw[tC]
    exact⟨(Prod.mk.inj fM).1.symm,h2⟩
   by_cases he:ep=[]
   ·obtain⟨hs,hf⟩:=oO he
    refine fin ⟨κ,pz _ ?_,.inl rfl⟩
    intro c k hc wm
    rw[gZ]
    by_cases e:c=base+it.i
    ·rw[e,hf _ bB lg] at hc;cases hc
    ·rw[if_neg e];exact hs c k hc wm
   ·have oN:=y9 (it:=it) (W:=W) (listed:=listed) (L:=L) (effs:=effs) (ep:=ep) (k:=0) (by rw[←Ap];exact OJ) sQ hW (by omega) (by simp)
    have An:it.back≠0:=by
     have:0<ep.length:=List.length_pos_iff.2 he
     omega
    by_cases hr:rA P o.op=true
    ·obtain⟨Ho,cS⟩:=Bi hr
     have BL:0<ep.length:=List.length_pos_iff.2 he
     obtain⟨τ,ic,JZ⟩:=cS An ep.length (by omega) (by omega)
     obtain⟨r,gw⟩:=hB.head
     have:τ=σ:=za (snaps:=snaps) (k:=0) (by rw[gw];rfl) (by rw[←hS,←hlen];exact ic)
     subst this
     refine fin ⟨none,JZ _ (B5 hB.sub (hB.fresh _ bB lN)),.inr Ho⟩
    ·have pA:dZ P o.op=false:=by
      rcases LQ with h | h | h
      ·exact absurd h An
      ·exact absurd h hr
      ·exact h
     exact fin ⟨κ,n0 pA (wX hr) _,.inl rfl⟩
  ·have h1:=ZM aB
   rw[hg] at h1
   have fM:=bA.ok.inj h1
   exact⟨(Prod.mk.inj fM).1,.inr (Prod.mk.inj fM).2⟩
  ·obtain⟨Ho,cS⟩:=Bi hrd
   have EE:j<snaps.length:=(List.getElem?_eq_some_iff.1 ic).1
   have oN:=y9 (it:=it) (W:=W) (listed:=listed) (L:=L) (effs:=effs) (ep:=ep) (k:=j) (by rw[←Ap];exact OJ) sQ hW (by have:=hB.len;omega) hjf
   obtain⟨hJ,ZN,JZ⟩:=cS (by omega) (ep.length+j) (by omega) oN
   have:hJ=τ:=za (snaps:=snaps) ic (by rw[←hS,←hlen];exact ZN)
   subst this
   refine⟨Hn u _ (JZ _ (fun _ _ h _=>h)),.inr ?_⟩
   rw[gS];exact Ho
 obtain⟨rfl,tC⟩:=main
 refine⟨o,u,aR,ho,bQ,kM,hv,?_⟩
 rcases tC with tC | tC
 ·rw[←tC];exact lO
 ·rw[←tC];exact lO
end
end Go.Ev
end
section
namespace Go.Ev
open Go
section
variable {P:Program} {Rn:Task→St→Run} {ro:Option Nat} {p:Out×St→Prop} {L:List Oper} {W:List Nat} {base:Nat} {listed:Array Bool} {done:Nat} {effs:List Nat} {snaps:List St} {σ:St} {b:Act} {aY:St} {ρ:Ren} {a':Go.Act} {w:World}
variable {D:List Item} {dn:Nat} {ef:List Nat} {S:List St} {aZ:Act} {aB:St} {it:Item} {o:Oper}
theorem wq [Env] {id:Nat} {κ:Option bV} {j:Nat} (bQ:j≠id) (h:aB.heap.get j=none):(aB.ext id κ).heap.get j=none:=by
 cases κ with
 | none=>exact h
 | some k=>
  show(aB.new id k).heap.get j=none
  rw[ie,if_neg bQ];exact h
theorem qb [Env] {id:Nat} {κ:Option bV} {c:Nat} {k:bV} (h:(aB.ext id κ).heap.get c=some k):aB.heap.get c=some k∨(c=id∧κ=some k):=by
 cases κ with
 | none=>exact .inl h
 | some k'=>
  have h':(aB.new id k').heap.get c=some k:=h
  rw[ie] at h'
  by_cases e:c=id
  ·rw[if_pos e] at h';exact .inr ⟨e,h'⟩
  ·rw[if_neg e] at h';exact .inl h'
theorem target [Env] (hp:mu L W) (hB:rT P L W base listed done effs snaps σ b aY ρ a' w) (hw:rU P Rn ro p L W base listed done effs snaps b aY ρ (it::D) dn ef S aZ aB)
  (ho:L[it.i]? =some o) (bQ:bp o.op=false) (_hdone:done.testBit it.i=false) (hW:∀j,(W.getD it.i 0).testBit j=true→j<L.length∧cy listed j):
  ∃v κ cR,fc P L o b (base+it.i) aY=.ok (v,aY.ext (base+it.i) κ)∧b.put o.dst v=some cR:=by
 obtain⟨o',jF,lg,lM,_,tF⟩:=cT hw.kL
 rw[ho] at jF;cases jF
 obtain⟨OJ,LQ,_⟩:=tF bQ
 obtain⟨u,κ,aR,kM,lO,hg,pz,n0,Bi⟩:=B4 hp hB hw ho bQ hW
 obtain⟨cR,Hp⟩:=B1 (u:=u) kM (b:=b) hw.sz.symm
 obtain⟨ep,sp,Ap,hS,hlen,sQ,oO⟩:=hw.pre
 by_cases he:ep=[]
 ·exact⟨u,κ,cR,pz _ (oO he).1,Hp⟩
 ·have BL:0<ep.length:=List.length_pos_iff.2 he
  have oN:=y9 (it:=it) (W:=W) (listed:=listed) (L:=L) (effs:=effs) (ep:=ep) (k:=0) (by rw[←Ap];exact OJ) sQ hW (by omega) (by simp)
  by_cases hr:rA P o.op=true
  ·obtain⟨Ho,cS⟩:=Bi hr
   obtain⟨τ,ic,JZ⟩:=cS (by omega) ep.length (by omega) (by omega)
   obtain⟨r,gw⟩:=hB.head
   have:τ=σ:=za (snaps:=snaps) (k:=0) (by rw[gw];rfl) (by rw[←hS,←hlen];exact ic)
   subst this
   exact⟨u,none,cR,JZ _ (fun c k hc _=>hB.sub c k hc),Hp⟩
  ·have pA:dZ P o.op=false:=by
    rcases LQ with h | h | h
    ·omega
    ·exact absurd h hr
    ·exact h
   exact⟨u,κ,cR,n0 pA (wX hr) _,Hp⟩
theorem oP [Env] {dn i:Nat} (h:(∀i,done.testBit i=true→dn.testBit i=true)∧∀j k,dn.testBit j=true→(W.getD j 0).testBit k=true→dn.testBit k=true) (hc:∀j,(W.getD i 0).testBit j=true→dn.testBit j=true):
  (∀j,done.testBit j=true→(Nat.lor dn (2^i)).testBit j=true)∧∀j k,(Nat.lor dn (2^i)).testBit j=true→(W.getD j 0).testBit k=true→(Nat.lor dn (2^i)).testBit k=true:=by
 refine⟨fun j hj=>by rw[dw,h.1 j hj];rfl,fun j k hj hk=>?_⟩
 rw[dw] at hj⊢
 simp only[Bool.or_eq_true,decide_eq_true_eq] at hj⊢
 rcases hj with hj | rfl
 ·exact .inl (h.2 j k hj hk)
 ·exact .inl (hc k hk)
theorem J0 [Env] (hp:mu L W) (hB:rT P L W base listed done effs snaps σ b aY ρ a' w) (hw:rU P Rn ro p L W base listed done effs snaps b aY ρ (it::D) dn ef S aZ aB):
  ∃tE S' aR bG,rU P Rn ro p L W base listed done effs snaps b aY ρ D (Nat.lor dn (2^it.i)) tE S' aR bG:=by
 obtain⟨o,ho,lg,lM,B7,tF⟩:=cT hw.kL
 have bB:=gT ho
 obtain⟨ep,sp,Ap,hS,hlen,sQ,oO⟩:=hw.pre
 have J1:∀κ,ep=[]→∀j,j<L.length→(Nat.lor dn (2^it.i)).testBit j=false→(aB.ext (base+it.i) κ).heap.get (base+j)=none:=by
  intro κ he j hj hd
  rw[dw] at hd
  simp only[Bool.or_eq_false_iff,decide_eq_false_iff_not] at hd
  exact wq (by omega) ((oO he).2 j hj hd.1)
 by_cases hl:cy listed it.i
 ·obtain⟨o',v,aR,jF,bQ,kM,hv,lO⟩:=pass hp hB hw hl
  rw[ho] at jF;cases jF
  obtain⟨_,_,jm⟩:=tF bQ
  obtain⟨xY,_,fE⟩:=kK kM
  refine⟨ef,S,aR,_,jm,lO,oP hw.mono lM,⟨ep,sp,Ap,hS,hlen,sQ,fun he=>⟨?_,J1 _ he⟩⟩,by rw[xY];exact hw.sz,fun t h1 h2=>?_⟩
  ·intro c k hc wm
   rcases qb hc with h | ⟨rfl,h⟩
   ·exact(oO he).1 c k h wm
   ·exact h
  ·rw[fE]
   by_cases hd:o.dst=some t
   ·rw[if_pos hd,hv t hd]
   ·rw[if_neg hd]
    refine hw.agree t (fun j oj hj c8 gU=>h1 j oj hj c8 (by rw[dw,gU];rfl)) fun j oj hj c8 gU=>?_
    by_cases e:j=it.i
    ·subst e;rw[ho] at hj;cases hj;exact hd
    ·exact h2 j oj hj c8 (by rw[dw,gU];simp;omega)
 ·have J2:∀ {aR:Act},(∀t,o.dst≠some t→aR.tmps.get t=aZ.tmps.get t)→∀t,(∀(j:Nat) (o:Oper),L[j]? =some o→¬cy listed j→(Nat.lor dn (2^it.i)).testBit j=true→o.dst≠some t)→
    (∀(j:Nat) (o:Oper),L[j]? =some o→cy listed j→(Nat.lor dn (2^it.i)).testBit j=false→o.dst≠some t)→aR.tmps.get t=b.tmps.get t:=by
   intro aR hk t h1 h2
   rw[hk t (h1 _ _ ho hl (by rw[dw];simp))]
   refine hw.agree t (fun j oj hj c8 gU=>h1 j oj hj c8 (by rw[dw,gU];rfl)) fun j oj hj c8 gU=>h2 j oj hj c8 ?_
   rw[dw,gU]
   have:it.i≠j:=fun e=>hl (e▸c8)
   simp [this]
  obtain⟨o',jF,az⟩:=y6 hw.holds
  rw[ho] at jF;cases jF
  cases bQ:bp o.op with
  | true=>
   obtain⟨adK,jm⟩:=B7 bQ
   obtain⟨⟨cR,bG⟩,aR,⟨_,lO⟩,hf⟩:=(tD (fun _ _=>rfl) rfl rfl az).exists
   rw[bQ] at lO
   refine⟨it.i::ef,bG::S,aR,bG,jm,lO,oP hw.mono lM,⟨it.i::ep,bG::sp,by rw[Ap];rfl,by rw[hS];rfl,by simp [hlen],?_,fun h=>by cases h⟩,by rw[hf.sa];exact hw.sz,J2 hf.OE⟩
   intro f hf
   rcases List.mem_cons.1 hf with rfl | hf
   ·exact⟨bB,hl⟩
   ·exact sQ f hf
  | false=>
   obtain⟨_,_,jm⟩:=tF bQ
   rw[wW bQ] at az
   obtain⟨v,κ,hq⟩:=JX (P:=P) bQ az.bind
   obtain⟨aR,kM,_,lO⟩:=ve hq
   rw[bQ] at lO
   obtain⟨xY,_,fE⟩:=kK kM
   refine⟨ef,S,aR,_,jm,lO,oP hw.mono lM,⟨ep,sp,Ap,hS,hlen,sQ,fun he=>⟨?_,J1 _ he⟩⟩,by rw[xY];exact hw.sz,J2 fun t ht=>by rw[fE,if_neg ht]⟩
   intro c k hc wm
   rcases qb hc with h | ⟨rfl,h⟩
   ·exact(oO he).1 c k h wm
   ·exact absurd (hB.iy _ bB hl) wm
theorem PL [Env] (hp:mu L W) (hB:rT P L W base listed done effs snaps σ b aY ρ a' w):∀ {D1:List Item} {dn:Nat} {ef:List Nat} {S:List St} {aZ:Act} {aB:St},rU P Rn ro p L W base listed done effs snaps b aY ρ (D1++it::D) dn ef S aZ aB→
  ∃ki tE S' aR bG,rU P Rn ro p L W base listed done effs snaps b aY ρ (it::D) ki tE S' aR bG:=by
 intro D1
 induction D1 with
 | nil=>intro dn ef S aZ aB hw;exact⟨_,_,_,_,_,hw⟩
 | cons x D1 ih=>
  intro dn ef S aZ aB hw
  obtain⟨_,_,_,_,h⟩:=J0 hp hB hw
  exact ih h
structure Aq (P:Program) (Rn:Task→St→Run) (ro:Option Nat) (p:Out×St→Prop) (L:List Oper) (W:List Nat) (base:Nat) (listed:Array Bool) (done:Nat) (effs:List Nat) (snaps:List St) (b:Act) (aY:St)
  (D:List Item) (dn:Nat) (aZ:Act) (aB:St):Prop where
 kL:dt P L W dn effs D=true
 holds:CH P Rn ro L base p D snaps aZ aB
 mono:(∀i,done.testBit i=true→dn.testBit i=true)∧∀j k,dn.testBit j=true→(W.getD j 0).testBit k=true→dn.testBit k=true
 lh:∀i,dn.testBit i=true→i<L.length∧cy listed i
 sz:aZ.size=b.size
 df:aZ.defers=b.defers
 B8:aB.next=aY.next
 room:base+L.length≤aB.next
 sub:∀c k,aB.heap.get c=some k→aY.heap.get c=some k
 fresh:∀i,i<L.length→dn.testBit i=false→aB.heap.get (base+i)=none
 agree:∀t,(∀(j:Nat) (o:Oper),L[j]? =some o→cy listed j→dn.testBit j=false→o.dst≠some t)→aZ.tmps.get t=b.tmps.get t
theorem Aq.walk (h:Aq P Rn ro p L W base listed done effs snaps b aY D dn aZ aB):rU P Rn ro p L W base listed done effs snaps b aY ρ D dn effs snaps aZ aB:=
 ⟨h.kL,h.holds,h.mono,⟨[],[],rfl,rfl,rfl,(fun f hf=>by cases hf),fun _=>⟨fun c k hc _=>h.sub c k hc,h.fresh⟩⟩,h.sz,fun t _ h2=>h.agree t h2⟩
theorem B9 [Env] {id:Nat} {κ:Option bV} (h:id<aB.next):(aB.ext id κ).next=aB.next:=by
 cases κ with
 | none=>rfl
 | some k=>
  show(aB.new id k).next=aB.next
  rw[kF];omega
theorem LR [Env] (hp:mu L W) (hB:rT P L W base listed done effs snaps σ b aY ρ a' w) (h:Aq P Rn ro p L W base listed done effs snaps b aY (it::D) dn aZ aB) (hl:cy listed it.i):
  ∃aR bG,Aq P Rn ro p L W base listed done effs snaps b aY D (Nat.lor dn (2^it.i)) aR bG:=by
 obtain⟨o,v,aR,ho,bQ,kM,hv,lO⟩:=pass (ρ:=ρ) hp hB h.walk hl
 obtain⟨o',jF,lg,lM,_,tF⟩:=cT h.kL
 rw[ho] at jF;cases jF
 obtain⟨_,_,jm⟩:=tF bQ
 obtain⟨xY,J3,fE⟩:=kK kM
 have bB:=gT ho
 have Ar:(aB.ext (base+it.i) (aY.heap.get (base+it.i))).next=aB.next:=B9 (by have:=h.room;omega)
 refine⟨aR,_,jm,lO,oP h.mono lM,fun j hj=>?_,by rw[xY];exact h.sz,by rw[J3];exact h.df,by rw[Ar];exact h.B8,by rw[Ar];exact h.room,fun c k hc=>?_,fun j hj hd=>?_,fun t h2=>?_⟩
 ·rw[dw] at hj
  simp only[Bool.or_eq_true,decide_eq_true_eq] at hj
  rcases hj with hj | rfl
  ·exact h.lh j hj
  ·exact⟨bB,hl⟩
 ·rcases qb hc with h1 | ⟨rfl,h1⟩
  ·exact h.sub c k h1
  ·exact h1
 ·rw[dw] at hd
  simp only[Bool.or_eq_false_iff,decide_eq_false_iff_not] at hd
  exact wq (by omega) (h.fresh j hj hd.1)
 ·rw[fE]
  by_cases hd:o.dst=some t
  ·rw[if_pos hd,hv t hd]
  ·rw[if_neg hd]
   refine h.agree t fun j oj hj c8 gU=>?_
   by_cases e:j=it.i
   ·subst e;rw[ho] at hj;cases hj;exact hd
   ·exact h2 j oj hj c8 (by rw[dw,gU];simp;omega)
theorem J4 [Env] (hp:mu L W) (hB:rT P L W base listed done effs snaps σ b aY ρ a' w):∀ {D1:List Item} {dn:Nat} {aZ:Act} {aB:St},Aq P Rn ro p L W base listed done effs snaps b aY (D1++D) dn aZ aB→(∀x∈D1,cy listed x.i)→
  ∃ki aR bG,Aq P Rn ro p L W base listed done effs snaps b aY D ki aR bG∧(∀i,dn.testBit i=true→ki.testBit i=true)∧(∀x∈D1,ki.testBit x.i=true):=by
 intro D1
 induction D1 with
 | nil=>intro dn aZ aB h _;exact⟨dn,_,_,h,fun _ h=>h,fun x hx=>by cases hx⟩
 | cons x D1 ih=>
  intro dn aZ aB h hl
  obtain⟨aR,bG,h2⟩:=LR hp hB h (hl x List.mem_cons_self)
  obtain⟨ki,Ca,ky,h3,hm,hx⟩:=ih h2 fun y hy=>hl y (List.mem_cons_of_mem _ hy)
  refine⟨ki,Ca,ky,h3,fun i hi=>hm i (by rw[dw,hi];rfl),fun y hy=>?_⟩
  rcases List.mem_cons.1 hy with rfl | hy
  ·exact hm _ (by rw[dw];simp)
  ·exact hx y hy
end
end Go.Ev
end
section
namespace Go.Ev
open Go
theorem PM:∀(l:List Nat) (f:Nat→Option bV) (σ:St),∃σ':St,σ'.next=σ.next∧∀c,σ'.heap.get c=if c∈l then f c else σ.heap.get c:=by
 intro l
 induction l with
 | nil=>intro f σ;exact⟨σ,rfl,fun c=>by simp⟩
 | cons x l ih=>
  intro f σ
  obtain⟨σ',hn,hg⟩:=ih f σ
  obtain⟨h,m⟩:=σ'
  refine⟨⟨h.put x (f x),m⟩,hn,fun c=>?_⟩
  show(h.put x (f x)).get c=_
  rw[Trie.bP]
  by_cases e:c=x
  ·subst e;simp
  ·rw[if_neg e]
   have:=hg c
   rw[show h.get c=_ from this]
   simp [e]
section
variable {P:Program} {Rn:Task→St→Run} {ro:Option Nat} {p:Out×St→Prop} {L:List Oper} {W:List Nat} {base:Nat} {listed:Array Bool} {done:Nat} {effs:List Nat} {snaps:List St} {σ:St} {b:Act} {aY:St} {ρ:Ren} {a':Go.Act} {w:World}
variable {D:List Item} {dn:Nat} {ef:List Nat} {S:List St} {aZ:Act} {aB:St} {it:Item} {o:Oper}
theorem R.sub [Env] {σ':St} (h:R ρ σ w) (hs:∀c k,σ'.heap.get c=some k→σ.heap.get c=some k) (hn:σ'.next=σ.next):R ρ σ' w:=
 ⟨fun c k hc=>h.cP c k (hs c k hc),fun c c' k k' l l' h1 h2=>h.inj c c' k k' l l' (hs _ _ h1) (hs _ _ h2),fun c hc=>h.fresh c (by rw[←hn];exact hc),h.valid,
  fun c o x hx=>⟨(h.aL c o x hx).1,fun⟨c',k,l,h1,h2,h3,h4⟩=>(h.aL c o x hx).2 ⟨c',k,l,hs _ _ h1,h2,h3,h4⟩⟩,h.laid⟩
theorem bf.sub [Env] {ids:Nat→Prop} {bz:Ren} {σ₀ σ':St} {eY:World} (h:bf ids bz σ₀ eY ρ σ w) (hs:∀c k,σ'.heap.get c=some k→σ.heap.get c=some k) (hn:σ'.next=σ.next):bf ids bz σ₀ eY ρ σ' w:=
 ⟨h.r.sub hs hn,h.le,by rw[hn];exact h.next,h.iy,h.size,h.os,h.tape,h.output,h.aJ,fun c hc ⟨c',k,l,h1,h2,h3,h4⟩=>h.wr c hc ⟨c',k,l,hs _ _ h1,h2,h3,h4⟩,fun c k hc=>h.iM c k (hs _ _ hc),h.gv⟩
theorem cy.set {i j:Nat} (hi:i<listed.size):cy (listed.setIfInBounds i true) j↔cy listed j∨j=i:=by
 unfold cy
 rw[Array.getD_eq_getD_getElem?,Array.getD_eq_getD_getElem?]
 by_cases e:j=i
 ·subst e;simp [hi]
 ·rw[Array.getElem?_setIfInBounds_ne (by omega)];simp [e]
theorem wY [Env]:∀ {D1:List Item} {dn:Nat} {ef:List Nat},dt P L W dn ef (D1++D)=true→
  ∃ki ep,dt P L W ki (ep++ef) D=true∧(∀j,dn.testBit j=true→ki.testBit j=true)∧(∀x∈D1,ki.testBit x.i=true)∧(∀j,ki.testBit j=true→dn.testBit j=true∨∃x∈D1,x.i=j)∧
   ∀f∈ep,dn.testBit f=false∧∃o,L[f]? =some o∧bp o.op=true:=by
 intro D1
 induction D1 with
 | nil=>intro dn ef h;exact⟨dn,[],h,fun _ h=>h,(fun x hx=>by cases hx),fun _ h=>.inl h,fun f hf=>by cases hf⟩
 | cons x D1 ih=>
  intro dn ef h
  obtain⟨o,ho,lg,_,h1,h2⟩:=cT h
  have fin:∀ {tE},dt P L W (Nat.lor dn (2^x.i)) tE (D1++D)=true→(∃ep,tE=ep++ef∧∀f∈ep,dn.testBit f=false∧∃o,L[f]? =some o∧bp o.op=true)→
    ∃ki ep,dt P L W ki (ep++ef) D=true∧(∀j,dn.testBit j=true→ki.testBit j=true)∧(∀y∈x::D1,ki.testBit y.i=true)∧(∀j,ki.testBit j=true→dn.testBit j=true∨∃y∈x::D1,y.i=j)∧
     ∀f∈ep,dn.testBit f=false∧∃o,L[f]? =some o∧bp o.op=true:=by
   rintro tE h ⟨ep,rfl,sQ⟩
   obtain⟨ki,ep',h3,h4,h5,h6,h7⟩:=ih h
   refine⟨ki,ep'++ep,by rw[List.append_assoc];exact h3,fun j hj=>h4 j (by rw[dw,hj];rfl),fun y hy=>?_,fun j hj=>?_,fun f hf=>?_⟩
   ·rcases List.mem_cons.1 hy with rfl | hy
    ·exact h4 _ (by rw[dw];simp)
    ·exact h5 y hy
   ·rcases h6 j hj with h | ⟨y,hy,h⟩
    ·rw[dw] at h
     simp only[Bool.or_eq_true,decide_eq_true_eq] at h
     rcases h with h | h
     ·exact .inl h
     ·exact .inr ⟨x,List.mem_cons_self,h⟩
    ·exact .inr ⟨y,List.mem_cons_of_mem _ hy,h⟩
   ·rcases List.mem_append.1 hf with hf | hf
    ·obtain⟨h8,h9⟩:=h7 f hf
     rw[dw] at h8
     simp only[Bool.or_eq_false_iff] at h8
     exact⟨h8.1,h9⟩
    ·exact sQ f hf
  cases he:bp o.op with
  | true=>exact fin (h1 he).2 ⟨[x.i],rfl,fun f hf=>by
    have:f=x.i:=by simpa using hf
    subst this;exact⟨lg,o,ho,he⟩⟩
  | false=>exact fin (h2 he).2.2 ⟨[],rfl,fun f hf=>by cases hf⟩
theorem jG [Env] {cR:Act} {id:Nat} (h:∀t∈looks L o,cR.tmps.get t=b.tmps.get t) (σ':St):fc P L o cR id σ'=fc P L o b id σ':=
 py (P:=P) h σ'
theorem zd [Env] {id:Nat} (bQ:bp o.op=false) (Cb:bC ρ b a') {τ hJ:St} {v:V} {κ:Option bV} (h0:τ.heap.get id=none) (h:fc P L o b id τ=.ok (v,τ.ext id κ)) (hs:dX (cU ρ) τ hJ):
  fc P L o b id hJ=.ok (v,hJ.ext id κ):=by
 have wm:∀x∈o.op.operands,∀v,b.eval x=some v→∃x',aq ρ v x':=fun x _ v h=>⟨_,Cb.eval x h⟩
 obtain⟨v2,κ2,he,_,hm⟩:=BX (P:=P) (id:=id) (ops:=L) bQ wm τ (fun r=>r=(v,τ.ext id κ)) (by rw[h];exact rfl)
 have h1:v2=v:=(Prod.mk.inj he).1
 have h2:κ2=κ:=vg h0 (Prod.mk.inj he).2
 subst h1 h2
 exact hm hJ hs
variable {F:Fence} {bz:Ren} {σ₀:St} {eY:World}
def Inv [Env] (P:Program) (Rn:Task→St→Run) (ro:Option Nat) (F:Fence) (p:Out×St→Prop) (L:List Oper) (W:List Nat) (base:Nat) (bz:Ren) (σ₀:St) (eY:World) (listed:Array Bool) (a':Go.Act) (w:World):Prop:=
 ∃D done effs snaps a σ b aY ρ,rT P L W base listed done effs snaps σ b aY ρ a' w∧Aq P Rn ro p L W base listed done effs snaps b aY D done a σ∧fN ρ ro F∧bf (fun c=>base≤c) bz σ₀ eY ρ aY w∧listed.size=L.length
theorem PN [Env] (hg:Good P Rn) {ops:Array Oper} (hp:mu ops.toList W) (hI:Inv P Rn ro F p ops.toList W base bz σ₀ eY listed a' w) {i:Nat} (ho:ops.toList[i]? =some o) (bQ:bp o.op=false) (hl:¬cy listed i)
  (hW:∀j,(W.getD i 0).testBit j=true→j<ops.toList.length∧cy listed j) {K:Go.Act→World→Prop} {Q:Exit→Go.Act→World→Prop}
  (hK:∀iP fr,Inv P Rn ro F p ops.toList W base bz σ₀ eY (listed.setIfInBounds i true) iP fr→K iP fr):wpOpIn F 0 P ops Q i K a' w:=by
 obtain⟨D,done,effs,snaps,a,σ,b,aY,ρ,hB,hA,gM,az,bd⟩:=hI
 have bB:=gT ho
 have lN:done.testBit i=false:=by
  cases hd:done.testBit i with
  | false=>rfl
  | true=>exact absurd (hA.lh i hd).2 hl
 obtain⟨D1,it,D2,rfl,rfl⟩:=mv hA.kL i bB lN
 obtain⟨ki,tE,S',aR,bG,hw⟩:=PL hp hB hA.walk
 obtain⟨v,κ,cR,j0,kM⟩:=target hp hB hw ho bQ lN hW
 have cq:ρ (base+it.i)=none:=hB.iy _ bB hl
 have gS:aY.heap.get (base+it.i)=none:=hB.rel.nG cq
 have hi:ops[it.i]? =some o:=by rw[←Array.getElem?_toList];exact ho
 have lP:((iJ P ops.toList o).f Rn ro b aY (base+it.i)).Holds fun r=>r=(cR,aY.ext (base+it.i) κ):=by
  rw[wW bQ,j0]
  show(pW (aY.ext (base+it.i) κ) (b.put o.dst v)).Holds _
  rw[kM]
  exact rfl
 obtain⟨xY,J3,fE⟩:=kK kM
 have dW:base+it.i<aY.next:=by have:=hA.room;have:=hA.B8;omega
 refine qa hg hB.rel cq hB.act gM hi lP ?_
 intro LS ky bh iP fr he Cb nu
 cases he
 refine hK iP fr ⟨D1++it::D2,done,effs,snaps,a,σ,cR,_,bh,⟨?_,?_,nu.r,Cb,hB.head,hB.len,?_,hB.fresh,?_,?_⟩,⟨hA.kL,hA.holds,hA.mono,?_,by rw[xY];exact hA.sz,by rw[J3];exact hA.df,?_,hA.room,?_,hA.fresh,?_⟩,gM.mono nu.le,?_,by simpa using bd⟩
 ·intro j hj c8 k hk
  rw[cy.set (by omega)] at c8⊢
  rcases c8 with c8 | rfl
  ·exact⟨(hB.closed j hj c8 k hk).1,.inl (hB.closed j hj c8 k hk).2⟩
  ·exact⟨(hW k hk).1,.inl (hW k hk).2⟩
 ·intro j oj hj c8 gU
  rw[cy.set (by omega)] at c8
  rcases c8 with c8 | rfl
  ·exact hB.ne j oj hj c8 gU
  ·rw[ho] at hj;cases hj;exact bQ
 ·intro c k hc
  have gB:=hB.sub c k hc
  rw[ext_get _ _ _ _ gS]
  by_cases e:c=base+it.i
  ·rw[e,gS] at gB;cases gB
  ·rw[if_neg e];exact gB
 ·intro j hj c8
  rw[cy.set (by omega)] at c8
  cases hr:bh (base+j) with
  | none=>rfl
  | some l=>
   rcases nu.iy _ _ hr with h | h | h
   ·rw[hB.iy j hj fun h=>c8 (.inl h)] at h;cases h
   ·have:=hA.room;have:=hA.B8;omega
   ·exact absurd (.inr (by omega)) c8
 ·intro j oj hj c8 gU
  rw[cy.set (by omega)] at c8
  by_cases e:j=it.i
  ·subst e
   rw[ho] at hj;cases hj
   have pA:∀t∈looks ops.toList o,cR.tmps.get t=b.tmps.get t:=by
    intro t ht
    rw[fE]
    by_cases hd:o.dst=some t
    ·exact absurd rfl (hp.data _ _ _ _ _ ho ho hd ht).1
    ·rw[if_neg hd]
   refine⟨v,fun t ht=>by rw[fE,if_pos ht],.inl ?_⟩
   rw[jG pA,ext_get _ _ _ _ gS,if_pos rfl]
   refine zd bQ hB.act gS j0 ?_
   intro c k hc _
   rw[gZ,ext_get _ _ _ _ gS]
   by_cases e:c=base+it.i
   ·rw[e,gS] at hc;cases hc
   ·rw[if_neg e,if_neg e];exact hc
  ·have c8:=c8.resolve_right e
   have Cc:=hB.ne j oj hj c8 gU
   obtain⟨u,hu,B6⟩:=hB.LP j oj hj c8 gU
   have pA:∀t∈looks ops.toList oj,cR.tmps.get t=b.tmps.get t:=by
    intro t ht
    rw[fE]
    by_cases hd:o.dst=some t
    ·rcases(hp.data _ _ _ _ _ hj ho hd ht).2 with h | ⟨h,_⟩
     ·exact absurd (hB.closed j (gT hj) c8 _ h).2 hl
     ·rw[bQ] at h;cases h
    ·rw[if_neg hd]
   have kf:(aY.ext (base+it.i) κ).heap.get (base+j)=aY.heap.get (base+j):=by
    rw[ext_get _ _ _ _ gS,if_neg (by omega)]
   refine⟨u,fun t ht=>?_,?_⟩
   ·rw[fE]
    by_cases hd:o.dst=some t
    ·exact absurd (hp.R7 _ _ _ _ _ hj ho ht hd) e
    ·rw[if_neg hd];exact hu t ht
   ·rw[kf]
    rcases B6 with h | h | ⟨h1,h2,q,τ,h3,h4,h5,h6⟩
    ·refine .inl ?_
     rw[jG pA]
     refine zd Cc hB.act (by rw[gZ,if_pos rfl]) h ?_
     intro c k hc _
     rw[gZ] at hc⊢
     by_cases e2:c=base+j
     ·rw[if_pos e2] at hc;cases hc
     ·rw[if_neg e2] at hc⊢
      rw[ext_get _ _ _ _ gS]
      by_cases e3:c=base+it.i
      ·rw[e3,gS] at hc;cases hc
      ·rw[if_neg e3];exact hc
    ·exact .inr (.inl fun σ'=>by rw[jG pA];exact h σ')
    ·exact .inr (.inr ⟨h1,h2,q,τ,h3,h4,h5,fun u' hJ hh=>h6 u' hJ (by rw[←jG pA];exact hh)⟩)
 ·intro j hj
  rw[cy.set (by omega)]
  exact⟨(hA.lh j hj).1,.inl (hA.lh j hj).2⟩
 ·rw[B9 dW];exact hA.B8
 ·intro c k hc
  have gB:=hA.sub c k hc
  rw[ext_get _ _ _ _ gS]
  by_cases e:c=base+it.i
  ·rw[e,gS] at gB;cases gB
  ·rw[if_neg e];exact gB
 ·intro t ht
  have h1:o.dst≠some t:=ht it.i o ho ((cy.set (by omega)).2 (.inr rfl)) lN
  rw[fE,if_neg h1]
  exact hA.agree t fun j oj hj c8 gU=>ht j oj hj ((cy.set (by omega)).2 (.inl c8)) gU
 ·exact az.trans (nu.weaken fun c hc=>by rw[hc];exact Nat.le_add_right _ _)
end
end Go.Ev
end
