/- Proved: parts of the way: BD5, BEq22, BEq23, BD6, BD7, BEq24, BEq25, BD8. -/
import Derived.Test.YtbajncpfmemdgaaGreatDoorEvQ20
set_option linter.unusedVariables false
set_option linter.unusedSimpArgs false
section
namespace Go.Proofs.YtbajncpfmemdgaaGreatDoor
open Go Go.Ev Go.IntWalk
theorem F311:bS Tryz.prog 311 Tryz.f311:=.of (by kernel_rfl) (by kernel_rfl)
def ko (t:aa) (i:Nat):aj:=t.f2.getD i default
def fh (s:SP) (L:List aj):Prop:=(L=[]∧s=.val .ai)∨∃n f,0<n∧bC n f L∧s=.row n f 7
theorem fh.nil {L:List aj} (h:fh (.val .ai) L):L=[]:=by
 rcases h with ⟨h,_⟩ | ⟨_,_,_,_,h⟩
 ·exact h
 ·cases h
theorem fh.one (x:aj):fh (.row 1 (fun _=>.agg (aj.cells x)) 7) [x]:=.inr ⟨1,_,by omega,bC.one x,rfl⟩
theorem fh.push {n:Nat} {f:Nat→V} {L:List aj} (h:bC n f L) (x:aj):fh (.row (n+1) (dU n f fun _=>.agg (aj.cells x)) 7) (L++[x]):=.inr ⟨_,_,by omega,h.push x,rfl⟩
theorem fh.clean [Env] {s:SP} {L:List aj} (h:fh s L):s.clean:=by
 rcases h with ⟨_,rfl⟩ | ⟨n,f,_,hr,rfl⟩
 ·exact Go.Ev.Clean.ai
 ·exact hr.cl
theorem vn {α:Type} {p:Nat→Bool} {q:Nat→α} (h0:p 0=true):∀n,0<n→bp p q n≠[]
 | 0,h=>absurd h (Nat.lt_irrefl 0)
 | n+1,_=>by
  show(if p n=true then bp p q n++[q n] else bp p q n)≠[]
  by_cases e:n=0
  ·subst e;rw[if_pos h0];simp
  ·split
   ·simp
   ·exact vn h0 n (by omega)
def dL (t:aa) (c:ak) (b:Bool) (i:Nat):List aj:=bp (jd t c b) (ko t) i
abbrev zr (c:ak) (t:aa) (r1 r2:SP):SV:=.nest (.sl 2 2 3 true) [.val (.str c.f3),.val (.int .i64 t.f1),r1,.val (.str c.f4),.val (.int .i64 t.f1),r2]
def lP (t:aa) (c:ak) (i:Nat):Int:=if bA t (c.f7.getD i default)<t.f1∨fk c.f7 (c.f7.getD i default)≠i then 10 else 0
def wS (c:ak) (t:aa):Nat→List SV→Prop
 | 0,ss=>∃i:Nat,(i≤c.f7.length∧aP c.f3=0∧aP c.f4=0∧¬c.f3=c.f4)∧(∀j,j<i→lP t c j=0)∧ss=[.box c.cells,.box t.cells,.val (af V.str 1 c.f7),.val (.int .i64 ((c.f7.length:Nat):Int)),.val (.int .i64 (i:Int))]
 | 1,ss=>oP t c=0∧∃(i:Nat) (r1 r2:SP),i≤t.f2.length∧fh r1 (dL t c true i)∧fh r2 (dL t c false i)∧ss=[.box c.cells,.box t.cells,zr c t r1 r2,.val (af aj.enc 7 t.f2),.val (.int .i64 ((t.f2.length:Nat):Int)),.val (.int .i64 (i:Int))]
 | 2,ss=>oP t c=0∧∃(i q:Nat) (r1 r2:SP),i<t.f2.length∧q≤2∧fh r1 (dL t c true (i+if 1≤q then 1 else 0))∧fh r2 (dL t c false (i+if 2≤q then 1 else 0))∧
   ss=[.box c.cells,.box t.cells,zr c t r1 r2,.val (.int .i64 (i:Int)),.box (ko t i).cells,.val (.bool (named t c i)),.val (af aj.enc 7 t.f2),.val (.int .i64 ((t.f2.length:Nat):Int)),.val (.int .i64 (i:Int)),.val (.int .i64 (2:Int)),.val (.int .i64 (q:Int))]
 | _,_=>False
def at3:List SV→Nat
 | [_,_,_,.val (.int _ u),_,_,_,_,_,_,_]=>u.toNat
 | _=>0
def aay (c:ak) (t:aa):Nat→List SV→Nat
 | 0,ss=>200+(c.f7.length-cF ss)
 | 1,ss=>10*(t.f2.length-cF ss)+5
 | _,ss=>10*(t.f2.length-at3 ss)+(3-cF ss)
section
variable [Env]
omit [Env] in
theorem CL {t:aa} {c:ak} (h1:aP c.f3=0) (h2:aP c.f4=0) (h3:¬c.f3=c.f4) {i:Nat} (hi:i<c.f7.length) (hb:lP t c i≠0) (hj:∀j,j<i→lP t c j=0):oP t c=10:=by
 have:cZ (lP t c) c.f7.length=lP t c i:=jC _ _ i hi hb hj
 have pe:lP t c i=10:=by
  unfold lP at hb⊢
  split
  ·rfl
  ·rename_i h;rw[if_neg h] at hb;exact(hb rfl).elim
 unfold oP
 rw[if_neg fun h=>h h1,if_neg fun h=>h h2,if_neg h3]
 exact this.trans pe
omit [Env] in
theorem Qr {t:aa} {c:ak} (h1:aP c.f3=0) (h2:aP c.f4=0) (h3:¬c.f3=c.f4) (hj:∀j,j<c.f7.length→lP t c j=0):oP t c=0:=by
 unfold oP
 rw[if_neg fun h=>h h1,if_neg fun h=>h h2,if_neg h3]
 exact(cm (lP t c) c.f7.length).2 hj
omit [Env] in
theorem vo {t:aa} {c:ak} {b:Bool} {i:Nat} (h:jd t c b i=true):dL t c b (i+1)=dL t c b i++[ko t i]:=if_pos h
omit [Env] in
theorem CM {t:aa} {c:ak} {b:Bool} {i:Nat} (h:¬jd t c b i=true):dL t c b (i+1)=dL t c b i:=if_neg h
omit [Env] in
theorem oT {t:aa} {c:ak} {b:Bool} {i:Nat} (h:(i:Int)<t.f1):jd t c b i=true:=by unfold jd;rw[decide_eq_true h,Bool.true_or]
omit [Env] in
theorem pI {t:aa} {c:ak} {b:Bool} {i:Nat} (h:¬(i:Int)<t.f1):jd t c b i=(named t c i==b):=by unfold jd;rw[decide_eq_false h,Bool.false_or]
theorem Io {c:ak} {t:aa} {l:List SV} (hl:∀u∈l,u.clean):∀u∈SV.box c.cells::SV.box t.cells::l,u.clean:=ax (ak.clean c) (ax (aa.clean t) hl)
theorem yh {c:ak} {t:aa} {r1 r2:SP} (h1:r1.clean) (h2:r2.clean):(zr c t r1 r2).clean:=by
 intro p hp
 have hp:p∈[SP.val (.str c.f3),SP.val (.int .i64 t.f1),r1,SP.val (.str c.f4),SP.val (.int .i64 t.f1),r2]:=hp
 simp only[List.mem_cons,List.not_mem_nil,or_false] at hp
 rcases hp with rfl | rfl | rfl | rfl | rfl | rfl
 ·exact Go.Ev.Clean.str _
 ·exact Go.Ev.Clean.int _ _
 ·exact h1
 ·exact Go.Ev.Clean.str _
 ·exact Go.Ev.Clean.int _ _
 ·exact h2
theorem wS.clean {c:ak} {t:aa}:∀k ss,wS c t k ss→∀s∈ss,s.clean
 | 0,_,⟨_,_,_,e⟩=>by subst e;exact Io (ax (eK _) (aF (aF bW)))
 | 1,_,⟨_,_,_,_,_,h1,h2,e⟩=>by subst e;exact Io (ax (yh h1.clean h2.clean) (ax (e6 _) (aF (aF bW))))
 | 2,_,⟨_,_,_,_,_,_,_,h1,h2,e⟩=>by subst e;exact Io (ax (yh h1.clean h2.clean) (aF (ax (aj.clean _) (ax (Go.Ev.Clean.bool _) (ax (e6 _) (aF (aF (aF (aF bW)))))))))
 | n+3,_,h=>h.elim
omit [Env] in
theorem fh.CN {s:SP} {L:List aj} (h:fh s L) (hL:L=[]):s=.val .ai:=by
 rcases h with ⟨_,h⟩ | ⟨n,f,h0,hr,_⟩
 ·exact h
 ·have:=hr.1;rw[hL] at this;simp at this;omega
omit [Env] in
theorem fh.uk {s:SP} {L:List aj} (h:fh s L) (hL:L≠[]):∃n f,bC n f L∧s=.row n f 7:=by
 rcases h with ⟨h,_⟩ | ⟨n,f,_,hr,h⟩
 ·exact(hL h).elim
 ·exact⟨n,f,hr,h⟩
omit [Env] in
theorem bC.lt {t:aa} {c:ak} {b:Bool} {i n:Nat} {f:Nat→V} (h:bC n f (dL t c b i)) (hi:i≤9):n≤9:=by
 have:=oS (jd t c b) (ko t) i
 have h2:n=(dL t c b i).length:=h.1
 unfold dL at h2
 omega
omit [Env] in
theorem Qs (x y:Int):OL [x,y]=if x≠0 then x else y:=by
 show(if (if (0:Int)≠0 then 0 else x)≠0 then(if (0:Int)≠0 then 0 else x) else y)=_
 rw[if_neg (show ¬(0:Int)≠0 by decide)]
variable [aE] {vs:List V} {σ:St} {k:ah}
theorem Qt (h:Uw vs σ k):ag Tryz.prog 311 vs k σ:=by
 obtain⟨c,l,hf,⟨hc,h0,jV,hl,_,ht⟩,hk,eA⟩:=h
 have ho:vX σ k _ _:=⟨hk,eA⟩
 obtain⟨qY,vY⟩:=ht _ (bf (show 0<l.length by omega))
 rw[Im h0 (l.getD 0 default),Il h0 (l.getD 0 default) (l.getD 1 default)] at ho
 obtain⟨t,Yq⟩:∃t,t=l.getD 0 default:=⟨_,rfl⟩
 rw[←Yq] at ho vY qY
 have hlen:0<t.f2.length∧t.f2.length≤8∧1≤t.f1:=by have:=(lI vY).1;obtain⟨_,h1,h2,_⟩:=this;omega
 have bQ:∀b i,0<i→dL t c b i≠[]:=fun b i hi=>vn (oT (by omega)) i hi
 refine ag.mj hf (F311.j9 (live:=fy) (call:=jD) (fun h=>F7 h) 3 (by kernel_rfl) Nat.lt_wfRel.wf (aay c t) (wS c t) wS.clean ?_ ?_)
 ·rw[aaw,←Yq]
  have h3:oP t c=if aP c.f3≠0 then aP c.f3 else if aP c.f4≠0 then aP c.f4 else if c.f3=c.f4 then 12 else cZ (lP t c) c.f7.length:=rfl
  refine⟨⟨by omega,by omega⟩,cB (by simp [V.beq]) ⟨[aP c.f3,aP c.f4],.cons (.jM (.slice (es:=[.int .i64 (aP c.f3),.int .i64 (aP c.f4)]) (by rfl) (.cons (.int _ _) (.cons (.int _ _) .nil)) (fun v hv=>?_) rfl)) .nil,by simp,rfl,?_⟩⟩
  ·simp only[List.mem_cons,List.not_mem_nil,or_false] at hv
   rcases hv with rfl | rfl<;>rfl
  ·rw[Qs]
   refine av (fun a=>ho.err ?_ a) fun a=>av (fun a2=>ho.err ?_ (by decide)) fun a2=>⟨0,⟨by omega,?_,?_,a2⟩,fun j hj=>absurd hj (Nat.not_lt_zero j),rfl⟩
   ·rw[h3]
    by_cases g1:aP c.f3=0
    ·have e3:¬aP c.f3≠0:=fun h=>h g1
     rw[if_neg e3] at a
     rw[if_neg e3,if_neg e3,if_pos a]
    ·rw[if_pos g1,if_pos g1]
   ·have g1:aP c.f3=0:=Classical.byContradiction fun g=>a (by rw[if_pos g];exact g)
    have g2:aP c.f4=0:=Classical.byContradiction fun g=>a (by rw[if_neg fun h=>h g1];exact g)
    rw[h3,if_neg fun h=>h g1,if_neg fun h=>h g2,if_pos a2]
   ·exact Classical.byContradiction fun g=>a (by rw[if_pos g];exact g)
   ·have g1:aP c.f3=0:=Classical.byContradiction fun g=>a (by rw[if_pos g];exact g)
    exact Classical.byContradiction fun g=>a (by rw[if_neg fun h=>h g1];exact g)
 ·intro j hj ss hI
  match j,hI with
  | 0,hI=>
   obtain⟨i,⟨hi,g1,g2,g3⟩,hb,rfl⟩:=hI
   rw[Wa]
   refine⟨rfl,av (fun a1=>⟨⟨by omega,by omega⟩,t,_,rfl,by omega,cB (by simp [V.beq]) ⟨rfl,av (fun a2=>ho.err ?_ (by decide)) fun a2=>⟨_,rfl,jV,rfl,av (fun a3=>ho.err ?_ (by decide)) fun a3=>?_⟩⟩⟩) fun a1=>?_⟩
   ·rw[eu] at a2
    exact CL g1 g2 g3 (i:=i) (by omega) (by unfold lP;rw[if_pos (.inl a2)];decide) hb
   ·rw[eu] at a2 a3
    exact CL g1 g2 g3 (i:=i) (by omega) (by unfold lP;rw[if_pos (.inr a3)];decide) hb
   ·rw[eu] at a2 a3
    rw[i64_in ((i:Int)+1) (by omega)]
    refine⟨⟨i+1,⟨by omega,g1,g2,g3⟩,fun j hj=>?_,rfl⟩,?_⟩
    ·by_cases e:j=i
     ·subst e;unfold lP;rw[if_neg]
      rintro(h | h)
      ·exact a2 h
      ·exact a3 h
     ·exact hb j (by omega)
    ·show 200+(c.f7.length-((i:Int)+1).toNat)<200+(c.f7.length-(i:Int).toNat)
     omega
   ·obtain rfl:i=c.f7.length:=by omega
    refine⟨⟨Qr g1 g2 g3 hb,0,.val .ai,.val .ai,by omega,.inl ⟨rfl,rfl⟩,.inl ⟨rfl,rfl⟩,rfl⟩,?_⟩
    show 10*(t.f2.length-(0:Int).toNat)+5<200+_
    omega
  | 1,hI=>
   obtain⟨hE,i,r1,r2,hi,h1,h2,rfl⟩:=hI
   by_cases e0:i=0
   ·subst e0
    obtain rfl:=h1.CN rfl
    obtain rfl:=h2.CN rfl
    rw[Wb]
    refine⟨rfl,av (fun a1=>⟨⟨by omega,by omega⟩,_,rfl,jV,⟨hE,0,0,.val .ai,.val .ai,by omega,by omega,.inl ⟨rfl,rfl⟩,.inl ⟨rfl,rfl⟩,rfl⟩,?_⟩) fun a1=>by omega⟩
    show 10*(t.f2.length-(0:Int).toNat)+(3-(0:Int).toNat)<10*(t.f2.length-(0:Int).toNat)+5
    omega
   ·obtain⟨a,f,F9,rfl⟩:=h1.uk (bQ _ _ (by omega))
    obtain⟨b,g,zO,rfl⟩:=h2.uk (bQ _ _ (by omega))
    rw[Wc]
    refine⟨rfl,av (fun a1=>⟨⟨by omega,by omega⟩,_,rfl,jV,⟨rfl,rfl⟩,⟨rfl,rfl⟩,⟨hE,i,0,_,_,by omega,by omega,h1,h2,rfl⟩,?_⟩) fun a1=>?_⟩
    ·show 10*(t.f2.length-(i:Int).toNat)+(3-(0:Int).toNat)<10*(t.f2.length-(i:Int).toNat)+5
     omega
    ·obtain rfl:i=t.f2.length:=by omega
     refine bk.pair (b:=2) (n:=2) (esz:=3) (g:=fun i=>aa.enc ((oQ t c).getD i default)) (.slice (p:=false) (by rfl) (.inl ⟨rfl,Nat.le_refl _⟩) (fun _ _=>rfl) fun i hi=>?_) (.int _ _) (ho.ok hE)
     rcases(show i=0∨i=1 by omega) with rfl | rfl
     ·obtain⟨rfl,hr⟩:=F9
      exact⟨_,by rfl,.cons (.str _) (.cons (.int _ _) (.cons (.own (g:=fun i=>aj.enc ((dL t c true t.f2.length).getD i default)) (p:=false) (by rfl) (fun i hi=>by rw[hr i hi];exact jP (aj.clean _)) fun i hi=>rfl) .nil))⟩
     ·obtain⟨rfl,hr⟩:=zO
      exact⟨_,by rfl,.cons (.str _) (.cons (.int _ _) (.cons (.own (g:=fun i=>aj.enc ((dL t c false t.f2.length).getD i default)) (p:=false) (by rfl) (fun i hi=>by rw[hr i hi];exact jP (aj.clean _)) fun i hi=>rfl) .nil))⟩
  | 2,hI=>
   obtain⟨hE,i,q,r1,r2,hi,hq,h1,h2,rfl⟩:=hI
   have key:((i:Nat):Int)<t.f1→∀b,jd t c b i=true:=fun h b=>oT h
   rcases(show q=0∨q=1∨q=2 by omega) with rfl | rfl | rfl
   ·have h1:fh r1 (dL t c true i):=h1
    have h2:fh r2 (dL t c false i):=h2
    have nx:∀r,fh r (dL t c true (i+1))→∀b,named t c i=b→wS c t 2 [.box c.cells,.box t.cells,zr c t r r2,.val (.int .i64 (i:Int)),.box (ko t i).cells,.val (.bool b),.val (af aj.enc 7 t.f2),.val (.int .i64 ((t.f2.length:Nat):Int)),.val (.int .i64 (i:Int)),.val (.int .i64 (2:Int)),.val (.int .i64 (1:Int))]∧
      10*(t.f2.length-(i:Int).toNat)+(3-(1:Int).toNat)<10*(t.f2.length-(i:Int).toNat)+(3-(0:Int).toNat):=fun r hr b hb=>⟨⟨hE,i,1,r,r2,hi,by omega,hr,h2,by rw[hb];rfl⟩,by omega⟩
    rw[show(((0:Nat)):Int)=0 from rfl]
    by_cases e0:i=0
    ·subst e0
     obtain rfl:=h1.CN rfl
     obtain rfl:=h2.CN rfl
     have s1:dL t c true (0+1)=[ko t 0]:=vo (key (by omega) _)
     have nx:=fun b hb=>nx (.row 1 (fun _=>.agg (aj.cells (ko t 0))) 7) (by rw[s1];exact fh.one _) b hb
     cases hb:named t c 0 with
     | true=>rw[Qd];unfold M8;exact⟨rfl,rfl,av (fun _=>⟨⟨rfl,rfl,rfl⟩,nx _ hb⟩) fun a=>absurd (show((0:Nat):Int)<t.f1 by omega) a⟩
     | false=>rw[Qe];unfold M7;exact⟨rfl,rfl,av (fun _=>⟨⟨rfl,rfl,rfl⟩,nx _ hb⟩) fun a=>absurd (show((0:Nat):Int)<t.f1 by omega) a⟩
    ·obtain⟨a,f,F9,rfl⟩:=h1.uk (bQ _ _ (by omega))
     obtain⟨b,g,zO,rfl⟩:=h2.uk (bQ _ _ (by omega))
     have ha:=F9.lt (by omega)
     have CO:jd t c true i=true→∀b',named t c i=b'→_:=fun h b' hb=>nx (.row (a+1) (dU a f fun _=>.agg (aj.cells (ko t i))) 7) (by rw[vo h];exact fh.push F9 _) b' hb
     have Nj:¬jd t c true i=true→∀b',named t c i=b'→_:=fun h b' hb=>nx (.row a f 7) (by rw[CM h];exact h1) b' hb
     cases hb:named t c i with
     | true=>rw[Qh];unfold Nd Ih;exact⟨rfl,rfl,av (fun k=>⟨⟨rfl,by omega⟩,⟨rfl,rfl⟩,⟨rfl,rfl⟩,CO (key k _) _ hb⟩) fun k=>⟨rfl,ae.mk (fun _=>⟨⟨rfl,by omega⟩,⟨rfl,rfl⟩,⟨rfl,rfl⟩,CO (by rw[pI k,hb];rfl) _ hb⟩) fun h=>by cases h⟩⟩
     | false=>rw[Qi];unfold Nb Ig;exact⟨rfl,rfl,av (fun k=>⟨⟨rfl,by omega⟩,⟨rfl,rfl⟩,⟨rfl,rfl⟩,CO (key k _) _ hb⟩) fun k=>⟨rfl,ae.mk (fun h=>by cases h) fun _=>⟨⟨rfl,rfl⟩,⟨rfl,rfl⟩,Nj (by rw[pI k,hb];decide) _ hb⟩⟩⟩
   ·have h1:fh r1 (dL t c true (i+1)):=h1
    have h2:fh r2 (dL t c false i):=h2
    have nx:∀r,fh r (dL t c false (i+1))→∀b,named t c i=b→wS c t 2 [.box c.cells,.box t.cells,zr c t r1 r,.val (.int .i64 (i:Int)),.box (ko t i).cells,.val (.bool b),.val (af aj.enc 7 t.f2),.val (.int .i64 ((t.f2.length:Nat):Int)),.val (.int .i64 (i:Int)),.val (.int .i64 (2:Int)),.val (.int .i64 (2:Int))]∧
      10*(t.f2.length-(i:Int).toNat)+(3-(2:Int).toNat)<10*(t.f2.length-(i:Int).toNat)+(3-(1:Int).toNat):=fun r hr b hb=>⟨⟨hE,i,2,r1,r,hi,by omega,h1,hr,by rw[hb];rfl⟩,by omega⟩
    rw[show(((1:Nat)):Int)=1 from rfl]
    obtain⟨a,f,F9,rfl⟩:=h1.uk (bQ _ _ (by omega))
    by_cases e0:i=0
    ·subst e0
     obtain rfl:=h2.CN rfl
     have s1:dL t c false (0+1)=[ko t 0]:=vo (key (by omega) _)
     have nx:=fun b hb=>nx (.row 1 (fun _=>.agg (aj.cells (ko t 0))) 7) (by rw[s1];exact fh.one _) b hb
     cases hb:named t c 0 with
     | true=>rw[Qf];unfold Na;exact⟨rfl,rfl,av (fun _=>⟨⟨rfl,rfl⟩,⟨rfl,rfl,rfl⟩,nx _ hb⟩) fun a=>absurd (show((0:Nat):Int)<t.f1 by omega) a⟩
     | false=>rw[Qg];unfold M9;exact⟨rfl,rfl,av (fun _=>⟨⟨rfl,rfl⟩,⟨rfl,rfl,rfl⟩,nx _ hb⟩) fun a=>absurd (show((0:Nat):Int)<t.f1 by omega) a⟩
    ·obtain⟨b,g,zO,rfl⟩:=h2.uk (bQ _ _ (by omega))
     have bq:=zO.lt (by omega)
     have CO:jd t c false i=true→∀b',named t c i=b'→_:=fun h b' hb=>nx (.row (b+1) (dU b g fun _=>.agg (aj.cells (ko t i))) 7) (by rw[vo h];exact fh.push zO _) b' hb
     have Nj:¬jd t c false i=true→∀b',named t c i=b'→_:=fun h b' hb=>nx (.row b g 7) (by rw[CM h];exact h2) b' hb
     cases hb:named t c i with
     | false=>rw[Qk];unfold Nc Ig;exact⟨rfl,rfl,av (fun k=>⟨⟨rfl,by omega⟩,⟨rfl,rfl⟩,⟨rfl,rfl⟩,CO (key k _) _ hb⟩) fun k=>⟨rfl,ae.mk (fun _=>⟨⟨rfl,by omega⟩,⟨rfl,rfl⟩,⟨rfl,rfl⟩,CO (by rw[pI k,hb];rfl) _ hb⟩) fun h=>by cases h⟩⟩
     | true=>rw[Qj];unfold Nf Ih;exact⟨rfl,rfl,av (fun k=>⟨⟨rfl,by omega⟩,⟨rfl,rfl⟩,⟨rfl,rfl⟩,CO (key k _) _ hb⟩) fun k=>⟨rfl,ae.mk (fun h=>by cases h) fun _=>⟨⟨rfl,rfl⟩,⟨rfl,rfl⟩,Nj (by rw[pI k,hb];decide) _ hb⟩⟩⟩
   ·have h1:fh r1 (dL t c true (i+1)):=h1
    have h2:fh r2 (dL t c false (i+1)):=h2
    rw[show(((2:Nat)):Int)=2 from rfl]
    obtain⟨a,f,F9,rfl⟩:=h1.uk (bQ _ _ (by omega))
    obtain⟨b,g,zO,rfl⟩:=h2.uk (bQ _ _ (by omega))
    have nx:wS c t 1 [.box c.cells,.box t.cells,zr c t (.row a f 7) (.row b g 7),.val (af aj.enc 7 t.f2),.val (.int .i64 ((t.f2.length:Nat):Int)),.val (.int .i64 (IntKind.i64.wrap ((i:Int)+1)))]∧
      10*(t.f2.length-(IntKind.i64.wrap ((i:Int)+1)).toNat)+5<10*(t.f2.length-(i:Int).toNat)+(3-(2:Int).toNat):=by
     rw[i64_in ((i:Int)+1) (by omega)]
     exact⟨⟨hE,i+1,_,_,by omega,h1,h2,rfl⟩,by omega⟩
    cases hb:named t c i with
    | true=>rw[Ql];unfold Ii;exact⟨rfl,⟨rfl,rfl⟩,⟨rfl,rfl⟩,nx⟩
    | false=>rw[Qm];unfold Ii;exact⟨rfl,⟨rfl,rfl⟩,⟨rfl,rfl⟩,nx⟩
  | n+3,hI=>exact hI.elim
theorem Qu:∀ {f:FuncId} {vs:List V} {σ:St} {k:ah},Ux f vs σ k→ag Tryz.prog f vs k σ:=fun h=>aR Qt F7 h
end
end Go.Proofs.YtbajncpfmemdgaaGreatDoor
end
section
namespace Go.Proofs.YtbajncpfmemdgaaGreatDoor
open Go Go.Ev
end Go.Proofs.YtbajncpfmemdgaaGreatDoor
end
section
namespace Go.Proofs.YtbajncpfmemdgaaGreatDoor
open Go Go.Ev
end Go.Proofs.YtbajncpfmemdgaaGreatDoor
end
section
namespace Go.Proofs.YtbajncpfmemdgaaGreatDoor
open Go Go.Ev Go.IntWalk
theorem bC.kP {n i:Nat} {f:Nat→V} {L:List aj} (h:bC n f L) (hi:i<n) (x:aj) {v:V} (hv:v=aj.enc x):bC n (fe f i v) (L.set i x):=by
 subst hv
 obtain⟨rfl,h2⟩:=h
 refine⟨by simp,fun j hj=>?_⟩
 by_cases e:j=i
 ·subst e;rw[vb];simp [List.getD_eq_getElem?_getD,hi]
 ·rw[vc _ _ e,h2 j hj]
  simp [List.getD_eq_getElem?_getD,List.getElem?_set_ne (Ne.symm e)]
section
variable [Env] [aE] {vs:List V} {σ:St} {k:ah}
omit [aE] in
theorem bk.qZ {σ:St} {k:ah} {τ:St} {vs us:List V} (h:bn τ vs us) (hk:k (.tuple us) σ):bk σ k (.tuple vs) τ:=bk.ic (.tuple h) hk
omit [Env] [aE] in
theorem lQ {t:aa} {s:List UInt8} {d:Int} (h:bA t s<t.f1):Cw t s d=10:=if_pos h
omit [Env] [aE] in
theorem mZ {t:aa} {s:List UInt8} {d:Int} (h:¬bA t s<t.f1) (h2:lK (ye t s).f1 d=false):Cw t s d=5:=(if_neg h).trans (if_neg (by rw[h2];decide))
omit [Env] [aE] in
theorem nd {t:aa} {s:List UInt8} {d:Int} (h:¬bA t s<t.f1) (h2:lK (ye t s).f1 d=true):Cw t s d=0:=(if_neg h).trans (if_pos h2)
omit [aE] in
theorem CP {τ:St} {b m:Nat} {ex:Bool} {t:aa} (h:τ.cells b 0 (1*3)=some t.cells):dQ τ (.slice b 0 1 m ex 3) (af aa.enc 3 [t]):=
 .jM (.slice (es:=[aa.enc t]) h (jP t.clean) (fun v hv=>by rw[List.mem_singleton.1 hv];rfl) rfl)
omit [aE] in
theorem CQ {τ:St}:dQ τ .ai (af aa.enc 3 []):=.jM (.empty _ _)
omit [aE] in
theorem Kz {τ:St} {e:Int}:bn τ [.ai,.int .i64 e] [af aa.enc 3 [],.int .i64 e]:=.cons CQ (.cons (.int _ _) .nil)
omit [Env] [aE] in
theorem dx (l:List aa) (s:List UInt8): -1≤bh l s∧bh l s<l.length:=by
 rcases gV s (fun i=>(l.getD i default).f0) l.length with ⟨h,_⟩ | ⟨i,h,hi,_⟩
 ·have:bh l s= -1:=h
  omega
 ·have:bh l s=i:=h
  omega
abbrev Ip (s:List UInt8) (q:Int) (n:Nat) (f:Nat→V):SV:=.nest .ptr [.val (.str s),.val (.int .i64 q),.row n f 7]
def Uz (c:ak) (t:aa):Nat→List SV→Prop
 | 0,ss=>∃i:Nat,(i≤c.f7.length∧aP c.f3=0∧aP c.f4=0∧¬c.f3=c.f4)∧(∀j,j<i→lP t c j=0)∧ss=[.box t.cells,.box c.cells,.val (.int .i64 (i:Int))]
 | 1,ss=>oP t c=0∧((ss=[.box t.cells,.box c.cells,.box [.str c.f3,.int .i64 t.f1,.ai],.box [.str c.f4,.int .i64 t.f1,.ai],.val (.int .i64 (0:Int))])∨
   ∃(i a b:Nat) (f g:Nat→V),0<i∧i≤t.f2.length∧bC a f (dL t c true i)∧bC b g (dL t c false i)∧ss=[.box t.cells,.box c.cells,Ip c.f3 t.f1 a f,Ip c.f4 t.f1 b g,.val (.int .i64 (i:Int))])
 | _,_=>False
omit [aE] in
theorem vZ {s:List UInt8} {q:Int} {n:Nat} {f:Nat→V} {L:List aj} (h:bC n f L):(Ip s q n f).clean:=by
 intro p hp
 have hp:p∈[SP.val (.str s),SP.val (.int .i64 q),SP.row n f 7]:=hp
 simp only[List.mem_cons,List.not_mem_nil,or_false] at hp
 rcases hp with rfl | rfl | rfl
 ·exact Go.Ev.Clean.str _
 ·exact Go.Ev.Clean.int _ _
 ·exact h.cl
omit [aE] in
theorem Uz.clean {c:ak} {t:aa}:∀k ss,Uz c t k ss→∀s∈ss,s.clean
 | 0,_,⟨_,_,_,e⟩=>by subst e;exact ax (aa.clean t) (ax (ak.clean c) (aF bW))
 | 1,_,⟨_,.inl e⟩=>by
  subst e
  have nb:∀s:List UInt8,(SV.box [.str s,.int .i64 t.f1,.ai]).clean:=fun s=>aw (Go.Ev.Clean.str _) (aw (Go.Ev.Clean.int _ _) (aw Go.Ev.Clean.ai cw))
  exact ax (aa.clean t) (ax (ak.clean c) (ax (nb _) (ax (nb _) (aF bW))))
 | 1,_,⟨_,.inr ⟨_,_,_,_,_,_,_,h1,h2,e⟩⟩=>by subst e;exact ax (aa.clean t) (ax (ak.clean c) (ax (vZ h1) (ax (vZ h2) (aF bW))))
 | n+2,_,h=>h.elim
end
end Go.Proofs.YtbajncpfmemdgaaGreatDoor
end
section
namespace Go.Proofs.YtbajncpfmemdgaaGreatDoor
open Go Go.Ev Go.IntWalk
theorem cJ {l:List aa} (h:cr l=0):l.length≤16∧∀t∈l,bB t=0:=by
 by_cases h1:l.length>16
 ·rw[x9 h1] at h;cases h
 refine⟨by omega,fun t ht=>?_⟩
 have h2:cZ (fun i=>bB (l.getD i default)) l.length=0:=Classical.byContradiction fun h3=>by
  unfold cr at h
  rw[if_neg h1,if_pos h3] at h
  exact h3 h
 obtain⟨i,hi,rfl⟩:=List.getElem_of_mem ht
 have:=(cm _ _).1 h2 i hi
 rwa [cI hi] at this
theorem pJ {l:List aa} {c:ak} (h:cr l≠0):cx l c=cr l:=if_pos h
theorem OM {l:List aa} {c:ak} (h:cr l=0) (h2:c.f0<1∨6<c.f0):cx l c=1:=(if_neg fun g=>g h).trans (if_pos h2)
theorem si {l:List aa} {c:ak} (h:cr l=0) (h2:¬(c.f0<1∨6<c.f0)) (h3:ew l (aQ c)≠0):cx l c=ew l (aQ c):=((if_neg fun g=>g h).trans (if_neg h2)).trans (if_pos h3)
theorem sj {l:List aa} {c:ak} (h:cr l=0) (h2:¬(c.f0<1∨6<c.f0)) (h3:ew l (aQ c)=0) (h4:kE c (aC l c.f1) (aC l c.f2)≠0):cx l c=kE c (aC l c.f1) (aC l c.f2):=
 (((if_neg fun g=>g h).trans (if_neg h2)).trans (if_neg fun g=>g h3)).trans (if_pos h4)
theorem iR {l:List aa} {c:ak} (h:cr l=0) (h2:¬(c.f0<1∨6<c.f0)) (h3:ew l (aQ c)=0) (h4:kE c (aC l c.f1) (aC l c.f2)=0):cx l c=OK l (aQ c) (kT c (aC l c.f1)):=
 (((if_neg fun g=>g h).trans (if_neg h2)).trans (if_neg fun g=>g h3)).trans (if_neg fun g=>g h4)
def lR (l:List aa) (ss:List (List UInt8)) (i:Nat):Prop:=bh l (ss.getD i default)<0
theorem kZ {l:List aa} {ss:List (List UInt8)} {i:Nat} (hi:i<ss.length) (h:lR l ss i) (hj:∀j,j<i→¬lR l ss j):ew l ss=9:=by
 have h9:(if bh l (ss.getD i default)<0 then(9:Int) else 0)=9:=if_pos h
 have:=jC (fun i=>if bh l (ss.getD i default)<0 then(9:Int) else 0) ss.length i hi (fun g=>by rw[h9] at g;cases g) fun j jg=>if_neg (hj j jg)
 exact this.trans h9
theorem oU {l:List aa} {ss:List (List UInt8)} (hj:∀j,j<ss.length→¬lR l ss j):ew l ss=0:=(cm _ _).2 fun j h=>if_neg (hj j h)
def oV (l:List aa) (ss:List (List UInt8)) (o:List aa) (i:Nat):Prop:=0≤bh l (o.getD i default).f0∧fk ss (o.getD i default).f0<0
theorem n9 {l o:List aa} {ss:List (List UInt8)} {i:Nat} (hi:i<o.length) (h:oV l ss o i) (hj:∀j,j<i→¬oV l ss o j):OK l ss o=12:=by
 have h9:(if 0≤bh l (o.getD i default).f0∧fk ss (o.getD i default).f0<0 then(12:Int) else 0)=12:=if_pos h
 have:=jC (fun i=>if 0≤bh l (o.getD i default).f0∧fk ss (o.getD i default).f0<0 then(12:Int) else 0) o.length i hi (fun g=>by rw[h9] at g;cases g) fun j jg=>if_neg (hj j jg)
 exact this.trans h9
theorem oW {l o:List aa} {ss:List (List UInt8)} (hj:∀j,j<o.length→¬oV l ss o j):OK l ss o=0:=(cm _ _).2 fun j h=>if_neg (hj j h)
theorem q0 {l:List aa} {c:ak} (hr:¬(c.f0<1∨6<c.f0)) (hj:∀j,j<(aQ c).length→¬lR l (aQ c) j):(c.f0≠1→0≤bh l c.f1)∧(c.f0=6→0≤bh l c.f2):=by
 refine⟨fun h=>?_,fun h=>?_⟩
 ·by_cases h6:c.f0=6
  ·have:=hj 0 (by rw[qX h6];exact Nat.zero_lt_succ _)
   unfold lR at this
   rw[qX h6] at this
   exact Int.not_lt.1 this
  ·have hs:=im (c:=c) (by omega)
   have:=hj 0 (by rw[hs];exact Nat.zero_lt_succ _)
   unfold lR at this
   rw[hs] at this
   exact Int.not_lt.1 this
 ·have:=hj 1 (by rw[qX h];exact Nat.le_refl _)
  unfold lR at this
  rw[qX h] at this
  exact Int.not_lt.1 this
theorem Nk (c:ak):(aQ c).length≤2:=by
 unfold aQ
 split
 ·exact Nat.le_refl 2
 ·split
  ·exact Nat.le_succ 1
  ·exact Nat.zero_le _
section
variable [Env] {σ:St} {k:ah}
variable [aE] {vs:List V}
def Yr (l:List aa) (c:ak):Nat→List SV→Prop
 | 0,ss=>∃i:Nat,(cr l=0∧¬(c.f0<1∨6<c.f0))∧i≤(aQ c).length∧(∀j,j<i→¬lR l (aQ c) j)∧ss=[.val (af aa.enc 3 l),.box c.cells,.val (af V.str 1 (aQ c)),.val (.int .i64 (i:Int))]
 | 1,ss=>∃i:Nat,(cr l=0∧¬(c.f0<1∨6<c.f0)∧ew l (aQ c)=0∧kE c (aC l c.f1) (aC l c.f2)=0)∧i≤(kT c (aC l c.f1)).length∧(∀j,j<i→¬oV l (aQ c) (kT c (aC l c.f1)) j)∧
   ss=[.val (af aa.enc 3 l),.val (af V.str 1 (aQ c)),.val (af aa.enc 3 (kT c (aC l c.f1))),.val (.int .i64 (i:Int))]
 | _,_=>False
omit [Env] [aE] in
theorem oX (c:ak) (t:aa):(kT c t).length≤2:=by
 unfold kT oQ
 repeat' split
 all_goals first | exact Nat.le_refl 2 | exact Nat.le_succ 1
omit [aE] in
theorem Yr.clean {l:List aa} {c:ak}:∀k ss,Yr l c k ss→∀s∈ss,s.clean
 | 0,_,⟨_,_,_,_,e⟩=>by subst e;exact ax (bX l) (ax (ak.clean c) (ax (eK _) (aF bW)))
 | 1,_,⟨_,_,_,_,e⟩=>by subst e;exact ax (bX l) (ax (eK _) (ax (bX _) (aF bW)))
 | n+2,_,h=>h.elim
omit [aE] in
theorem cK {l:List aa} {c:ak} (hk:k (.tuple [af aa.enc 3 (bZ l c),.int .i64 (cx l c)]) σ) {e:Int} (h:cx l c=e) (h0:e≠0) {τ:St}:bk σ k (.tuple [.ai,.int .i64 e]) τ:=by
 have e':bZ l c=[]:=if_neg (by rw[h];exact h0)
 rw[e',h] at hk
 exact bk.qZ Kz hk
end
end Go.Proofs.YtbajncpfmemdgaaGreatDoor
end
section
namespace Go.Proofs.YtbajncpfmemdgaaGreatDoor
open Go Go.Ev
def ON [Env] (vs:List V) (σ:St) (k:ah):Prop:=
 ∃(t:aa) (s:List UInt8),vs=[aa.enc t,.str s]∧t.f2.length≤8∧(bA t s= -1→k (.int .i64 (-1)) σ)∧(bA t s=0→k (.int .i64 (0)) σ)∧(bA t s=1→k (.int .i64 (1)) σ)∧(bA t s=2→k (.int .i64 (2)) σ)∧(bA t s=3→k (.int .i64 (3)) σ)∧(bA t s=4→k (.int .i64 (4)) σ)∧(bA t s=5→k (.int .i64 (5)) σ)∧(bA t s=6→k (.int .i64 (6)) σ)∧(bA t s=7→k (.int .i64 (7)) σ)
def Iq [Env]:=kS 226 ON Ux
def Ga:Nat→List Nat:=(fun _=>[])
abbrev qd [Env] (A:Nat→List SV→Prop) (Q:V→St→Prop) (c:ak) (l:List aa) (p0:aa) (p1:List UInt8) (p2:Int) (p3:Nat):Prop:=
 (bA p0 p1=p2→((.i64:IntKind)=.i64∧ae (decide ((p2:Int)<((l.getD 0 default).f1))) (Q (.tuple [.ai,.int .i64 (10:Int)]) ⟨(St.new (St.new Go.Ev.start 0 (.cells 18 [] (an (ak.cells c) .leaf 0) true false)) 1 (.cells 3 [] (an (aa.cells (l.getD 0 default)) .leaf 0) true false)).heap,2⟩) (((0≤(p2:Int)∧(p2:Int)<((((l.getD 0 default).f2).length:Nat):Int))∧ae ((!(lK ((((l.getD 0 default).f2).getD p3 default).f1) c.f6))) (Q (.tuple [.ai,.int .i64 (5:Int)]) ⟨(St.new (St.new Go.Ev.start 0 (.cells 18 [] (an (ak.cells c) .leaf 0) true false)) 1 (.cells 3 [] (an (aa.cells (l.getD 0 default)) .leaf 0) true false)).heap,13⟩) ((∃b0:List aj,[af aj.enc 7 ((l.getD 0 default).f2)]=[af aj.enc 7 b0]∧(0<b0.length∧b0.length≤1000)∧((0≤(p2:Int)∧(p2:Int)<((b0.length:Nat):Int))∧(p3<b0.length∧(p3<b0.length∧(E8 (⟨((b0.getD p3 default).f3.f0),((b0.getD p3 default).f3.f1),((b0.getD p3 default).f3.f2),((b0.getD p3 default).f3.f3)⟩:ay)∧(p3<b0.length∧(∃(b1:aa) (b2:Int),bn ⟨(St.new (St.new (St.new Go.Ev.start 0 (.cells 18 [] (an (ak.cells c) .leaf 0) true false)) 1 (.cells 3 [] (an [.str ((l.getD 0 default).f0),.int .i64 ((l.getD 0 default).f1),.own 13 b0.length 7] .leaf 0) true false)) 13 (.row b0.length (fe (fe (fun i=>aj.enc (b0.getD i default)) p3 (.agg [.str ((b0.getD p3 default).f0),.int .i64 c.f6,.bool (b0.getD p3 default).f2,.int .i64 ((b0.getD p3 default).f3.f0),.int .i64 ((b0.getD p3 default).f3.f1),.int .u64 ((b0.getD p3 default).f3.f2),.str ((b0.getD p3 default).f3.f3)])) p3 (.agg [.str ((b0.getD p3 default).f0),.int .i64 c.f6,.bool (b0.getD p3 default).f2,.int .i64 ((Cl (⟨((b0.getD p3 default).f3.f0),((b0.getD p3 default).f3.f1),((b0.getD p3 default).f3.f2),((b0.getD p3 default).f3.f3)⟩:ay) c.f6).f0),.int .i64 ((Cl (⟨((b0.getD p3 default).f3.f0),((b0.getD p3 default).f3.f1),((b0.getD p3 default).f3.f2),((b0.getD p3 default).f3.f3)⟩:ay) c.f6).f1),.int .u64 ((Cl (⟨((b0.getD p3 default).f3.f0),((b0.getD p3 default).f3.f1),((b0.getD p3 default).f3.f2),((b0.getD p3 default).f3.f3)⟩:ay) c.f6).f2),.str ((Cl (⟨((b0.getD p3 default).f3.f0),((b0.getD p3 default).f3.f1),((b0.getD p3 default).f3.f2),((b0.getD p3 default).f3.f3)⟩:ay) c.f6).f3)])) 7 false)).heap,28⟩ [.agg [.str ((l.getD 0 default).f0),.int .i64 ((l.getD 0 default).f1),.own 13 b0.length 7],.int .i64 (0:Int)] [aa.enc b1,.int .i64 b2]∧(b2=0→Q (.tuple [.own 28 (1) 3,.int .i64 (0:Int)]) ⟨(St.new Go.Ev.start 28 (.row (1) (fun i=>aa.enc (([b1]).getD i default)) 3 false)).heap,29⟩)∧(b2≠0→Q (.tuple [.ai,.int .i64 b2]) ⟨Go.Ev.start.heap,28⟩)))))))))))))
theorem aaz [Env] (A:Nat→List SV→Prop) (Q:V→St→Prop) (c:ak) (l:List aa):WE Tryz.prog 309 Tryz.f309 Iq 0 Ga A Q [ak.enc c,af aa.enc 3 l] Go.Ev.start=
  (((0≤(0:Int)∧(0:Int)<((l.length:Nat):Int))∧(∃(oY:aa) (qe:List UInt8),[.agg (aa.cells (l.getD 0 default)),.str c.f5]=[aa.enc oY,.str qe]∧oY.f2.length≤8∧(qd A Q c l oY qe (-1) 0)∧(qd A Q c l oY qe 0 0)∧(qd A Q c l oY qe 1 1)∧(qd A Q c l oY qe 2 2)∧(qd A Q c l oY qe 3 3)∧(qd A Q c l oY qe 4 4)∧(qd A Q c l oY qe 5 5)∧(qd A Q c l oY qe 6 6)∧(qd A Q c l oY qe 7 7)))):=by kernel_rfl
def UA [Env] (vs:List V) (σ:St) (k:ah):Prop:=
 ∃(c:ak) (l:List aa),bn σ vs [ak.enc c,af aa.enc 3 l]∧(e7 c∧c.f0=4∧c.f7.length≤1000000∧1≤l.length∧l.length≤16∧∀t∈l,dY t∧bB t=0)∧(kE c (l.getD 0 default) (l.getD 1 default)=0→k (.tuple [.own σ.next (kT c (l.getD 0 default)).length 3,.int .i64 0]) ((void σ.next).new σ.next (.row (kT c (l.getD 0 default)).length (fun i=>aa.enc ((kT c (l.getD 0 default)).getD i default)) 3 false)))∧(kE c (l.getD 0 default) (l.getD 1 default)≠0→k (.tuple [.ai,.int .i64 (kE c (l.getD 0 default) (l.getD 1 default))]) (void σ.next))
def UB [Env]:=kS 309 UA Iq
def UC [Env] (vs:List V) (σ:St) (k:ah):Prop:=
 ∃l:List aj,vs=[af aj.enc 7 l]∧(0<l.length∧l.length≤1000)∧k (af aj.enc 7 l) σ
def fA [Env]:=kS 74 UC UB
def dF:Nat→List Nat:=(fun i=>match i with | 0=>[0,6,8,9,30,31,32] | 1=>[0,6,9,13,58,59,60] | _=>[])
abbrev oZ [Env] (A:Nat→List SV→Prop) (Q:V→St→Prop) (l:List aa) (c:ak) (p0:ak) (p1:Int) (p2:Nat):Prop:=
 (p0.f0=p1→(∃b0:List aa,[af aa.enc 3 l]=[af aa.enc 3 b0]∧(∀b1∈b0,ie b1)∧((.i64:IntKind)=.i64∧ae (decide ((cr b0)≠(0:Int))) (Q (.tuple [.ai,.int .i64 (cr b0)]) ⟨(St.new Go.Ev.start 0 (.cells 18 [] (an (ak.cells c) .leaf 0) true false)).heap,1⟩) ((∃b2:ak,[ak.enc p0]=[ak.enc b2]∧A 0 [.val (af aa.enc 3 l),.val (.iface p2 (ak.enc p0)),.val (.ai),.val (af V.str 1 (([b2.f1]))),.val (af V.str 1 (([b2.f1]))),.val (.int .i64 ((((([b2.f1])).length:Nat):Int))),.val (.int .i64 (0:Int))])))))
theorem CR [Env] (A:Nat→List SV→Prop) (Q:V→St→Prop) (l:List aa) (c:ak):WE Tryz.prog 30 Tryz.f30 fA 0 dF A Q [af aa.enc 3 l,ak.enc c] Go.Ev.start=
  ((∃ml:ak,[.agg (ak.cells c)]=[ak.enc ml]∧(ml.f0=1→(∃Ir:List aa,[af aa.enc 3 l]=[af aa.enc 3 Ir]∧(∀t∈Ir,ie t)∧((.i64:IntKind)=.i64∧ae (decide ((cr Ir)≠(0:Int))) (Q (.tuple [.ai,.int .i64 (cr Ir)]) ⟨(St.new Go.Ev.start 0 (.cells 18 [] (an (ak.cells c) .leaf 0) true false)).heap,1⟩) ((∃aaA:ak,[ak.enc ml]=[ak.enc aaA]∧A 0 [.val (af aa.enc 3 l),.val (.iface 159 (ak.enc ml)),.val (.ai),.val (af V.str 1 ((([]:List (List UInt8))))),.val (af V.str 1 ((([]:List (List UInt8))))),.val (.int .i64 (((((([]:List (List UInt8)))).length:Nat):Int))),.val (.int .i64 (0:Int))])))))∧(oZ A Q l c ml 2 160)∧(oZ A Q l c ml 3 161)∧(oZ A Q l c ml 4 162)∧(oZ A Q l c ml 5 163)∧(ml.f0=6→(∃Is:List aa,[af aa.enc 3 l]=[af aa.enc 3 Is]∧(∀t∈Is,ie t)∧((.i64:IntKind)=.i64∧ae (decide ((cr Is)≠(0:Int))) (Q (.tuple [.ai,.int .i64 (cr Is)]) ⟨(St.new Go.Ev.start 0 (.cells 18 [] (an (ak.cells c) .leaf 0) true false)).heap,1⟩) ((∃wT:ak,[ak.enc ml]=[ak.enc wT]∧A 0 [.val (af aa.enc 3 l),.val (.iface 164 (ak.enc ml)),.val (.ai),.val (af V.str 1 (([wT.f1,wT.f2]))),.val (af V.str 1 (([wT.f1,wT.f2]))),.val (.int .i64 ((((([wT.f1,wT.f2])).length:Nat):Int))),.val (.int .i64 (0:Int))])))))∧((ml.f0<1∨6<ml.f0)→(∃It:List aa,[af aa.enc 3 l]=[af aa.enc 3 It]∧(∀t∈It,ie t)∧((.i64:IntKind)=.i64∧ae (decide ((cr It)≠(0:Int))) (Q (.tuple [.ai,.int .i64 (cr It)]) ⟨(St.new Go.Ev.start 0 (.cells 18 [] (an (ak.cells c) .leaf 0) true false)).heap,1⟩) (Q (.tuple [.ai,.int .i64 (1:Int)]) ⟨(St.new Go.Ev.start 0 (.cells 18 [] (an (ak.cells c) .leaf 0) true false)).heap,1⟩)))))):=by kernel_rfl
abbrev nr [Env] (A:Nat→List SV→Prop) (Q:V→St→Prop) (l:List aa) (c:ak) (s:List (List UInt8)) (m i:Int) (p0:Nat) (p1:Int) (p2:Nat):Prop:=
 ((.i64:IntKind)=.i64∧ae (decide (i<m)) (((0≤i∧i<((s.length:Nat):Int))∧(∃(b0:List aa) (b1:List UInt8),[af aa.enc 3 l,.str ((s.getD i.toNat default))]=[af aa.enc 3 b0,.str b1]∧b0.length≤1000000∧((.i64:IntKind)=.i64∧ae (decide ((bh b0 b1)<(0:Int))) (Q (.tuple [.ai,.int .i64 (9:Int)]) ⟨Go.Ev.start.heap,0⟩) (((0≤(bh b0 b1)∧(bh b0 b1)<((l.length:Nat):Int))∧(((1:Nat)=1∧(1:Nat)=1∧1*3=1*3)∧A 0 [.val (af aa.enc 3 l),.val (.iface p0 (ak.enc c)),.row 1 (fun _=>.agg (aa.cells (l.getD (bh b0 b1).toNat default))) 3,.val (af V.str 1 s),.val (af V.str 1 s),.val (.int .i64 m),.val (.int .i64 (IntKind.i64.wrap (i+(1:Int))))]))))))) ((∃(b2:ak) (b3:List aa),bn ⟨Go.Ev.start.heap,0⟩ [ak.enc c,.ai] [ak.enc b2,af aa.enc 3 b3]∧(e7 b2∧b2.f0=p1∧b2.f7.length≤1000000∧p2≤b3.length∧b3.length≤16∧∀b4∈b3,dY b4∧bB b4=0)∧(kE b2 (b3.getD 0 default) (b3.getD 1 default)=0→((.i64:IntKind)=.i64∧((((kT b2 (b3.getD 0 default)).length)=((kT b2 (b3.getD 0 default)).length)∧3=3)∧A 1 [.val (af aa.enc 3 l),.val (.iface p0 (ak.enc c)),.val (af V.str 1 s),.row ((kT b2 (b3.getD 0 default)).length) (fun i=>aa.enc ((kT b2 (b3.getD 0 default)).getD i default)) 3,.al 0 ((kT b2 (b3.getD 0 default)).length) 3,.val (.int .i64 ((((kT b2 (b3.getD 0 default)).length:Nat):Int))),.val (.int .i64 (0:Int))])))∧(kE b2 (b3.getD 0 default) (b3.getD 1 default)≠0→((.i64:IntKind)=.i64∧ae (decide (((kE b2 (b3.getD 0 default) (b3.getD 1 default)))≠(0:Int))) (Q (.tuple [.ai,.int .i64 ((kE b2 (b3.getD 0 default) (b3.getD 1 default)))]) ⟨Go.Ev.start.heap,0⟩) (A 1 [.val (af aa.enc 3 l),.val (.iface p0 (ak.enc c)),.val (af V.str 1 s),.val (.ai),.val (.ai),.val (.int .i64 (0:Int)),.val (.int .i64 (0:Int))]))))))
theorem Wd [Env] (A:Nat→List SV→Prop) (Q:V→St→Prop) (l:List aa) (c:ak) (s:List (List UInt8)) (m i:Int):WL Tryz.prog 30 Tryz.f30 fA 0 dF A Q 0 [.val (af aa.enc 3 l),.val (.iface 159 (ak.enc c)),.val (.ai),.val (af V.str 1 s),.val (af V.str 1 s),.val (.int .i64 m),.val (.int .i64 i)]=
  ((nr A Q l c s m i 159 1 0)):=by kernel_rfl
theorem We [Env] (A:Nat→List SV→Prop) (Q:V→St→Prop) (l:List aa) (c:ak) (s:List (List UInt8)) (m i:Int):WL Tryz.prog 30 Tryz.f30 fA 0 dF A Q 0 [.val (af aa.enc 3 l),.val (.iface 160 (ak.enc c)),.val (.ai),.val (af V.str 1 s),.val (af V.str 1 s),.val (.int .i64 m),.val (.int .i64 i)]=
  ((nr A Q l c s m i 160 2 1)):=by kernel_rfl
theorem Wf [Env] (A:Nat→List SV→Prop) (Q:V→St→Prop) (l:List aa) (c:ak) (s:List (List UInt8)) (m i:Int):WL Tryz.prog 30 Tryz.f30 fA 0 dF A Q 0 [.val (af aa.enc 3 l),.val (.iface 161 (ak.enc c)),.val (.ai),.val (af V.str 1 s),.val (af V.str 1 s),.val (.int .i64 m),.val (.int .i64 i)]=
  ((nr A Q l c s m i 161 3 1)):=by kernel_rfl
theorem Wg [Env] (A:Nat→List SV→Prop) (Q:V→St→Prop) (l:List aa) (c:ak) (s:List (List UInt8)) (m i:Int):WL Tryz.prog 30 Tryz.f30 fA 0 dF A Q 0 [.val (af aa.enc 3 l),.val (.iface 162 (ak.enc c)),.val (.ai),.val (af V.str 1 s),.val (af V.str 1 s),.val (.int .i64 m),.val (.int .i64 i)]=
  ((nr A Q l c s m i 162 4 1)):=by kernel_rfl
theorem Wi [Env] (A:Nat→List SV→Prop) (Q:V→St→Prop) (l:List aa) (c:ak) (s:List (List UInt8)) (m i:Int):WL Tryz.prog 30 Tryz.f30 fA 0 dF A Q 0 [.val (af aa.enc 3 l),.val (.iface 163 (ak.enc c)),.val (.ai),.val (af V.str 1 s),.val (af V.str 1 s),.val (.int .i64 m),.val (.int .i64 i)]=
  ((nr A Q l c s m i 163 5 1)):=by kernel_rfl
theorem Wj [Env] (A:Nat→List SV→Prop) (Q:V→St→Prop) (l:List aa) (c:ak) (s:List (List UInt8)) (m i:Int):WL Tryz.prog 30 Tryz.f30 fA 0 dF A Q 0 [.val (af aa.enc 3 l),.val (.iface 164 (ak.enc c)),.val (.ai),.val (af V.str 1 s),.val (af V.str 1 s),.val (.int .i64 m),.val (.int .i64 i)]=
  ((nr A Q l c s m i 164 6 2)):=by kernel_rfl
abbrev o0 [Env] (A:Nat→List SV→Prop) (Q:V→St→Prop) (l:List aa) (c:ak) (s:List (List UInt8)) (n:Nat) (f:Nat→V) (m i:Int) (p0:Nat) (p1:Int) (p2:Nat):Prop:=
 ((.i64:IntKind)=.i64∧ae (decide (i<m)) (((0≤i∧i<((s.length:Nat):Int))∧(∃(b0:List aa) (b1:List UInt8),[af aa.enc 3 l,.str ((s.getD i.toNat default))]=[af aa.enc 3 b0,.str b1]∧b0.length≤1000000∧((.i64:IntKind)=.i64∧ae (decide ((bh b0 b1)<(0:Int))) (Q (.tuple [.ai,.int .i64 (9:Int)]) ⟨(St.new Go.Ev.start 0 (.row n f 3 false)).heap,1⟩) (((0≤(bh b0 b1)∧(bh b0 b1)<((l.length:Nat):Int))∧((n=n∧(n+1)*48≤1099511627776)∧(((n+1)=(n+1)∧3=3)∧A 0 [.val (af aa.enc 3 l),.val (.iface p0 (ak.enc c)),.row (n+1) (dU n f (fun _=>.agg (aa.cells (l.getD (bh b0 b1).toNat default)))) 3,.val (af V.str 1 s),.val (af V.str 1 s),.val (.int .i64 m),.val (.int .i64 (IntKind.i64.wrap (i+(1:Int))))])))))))) ((∃(b2:ak) (b3:List aa),bn ⟨(St.new Go.Ev.start 0 (.row n f 3 false)).heap,1⟩ [ak.enc c,.own 0 n 3] [ak.enc b2,af aa.enc 3 b3]∧(e7 b2∧b2.f0=p1∧b2.f7.length≤1000000∧p2≤b3.length∧b3.length≤16∧∀b4∈b3,dY b4∧bB b4=0)∧(kE b2 (b3.getD 0 default) (b3.getD 1 default)=0→((.i64:IntKind)=.i64∧((((kT b2 (b3.getD 0 default)).length)=((kT b2 (b3.getD 0 default)).length)∧3=3)∧A 1 [.val (af aa.enc 3 l),.val (.iface p0 (ak.enc c)),.val (af V.str 1 s),.row ((kT b2 (b3.getD 0 default)).length) (fun i=>aa.enc ((kT b2 (b3.getD 0 default)).getD i default)) 3,.al 0 ((kT b2 (b3.getD 0 default)).length) 3,.val (.int .i64 ((((kT b2 (b3.getD 0 default)).length:Nat):Int))),.val (.int .i64 (0:Int))])))∧(kE b2 (b3.getD 0 default) (b3.getD 1 default)≠0→((.i64:IntKind)=.i64∧ae (decide (((kE b2 (b3.getD 0 default) (b3.getD 1 default)))≠(0:Int))) (Q (.tuple [.ai,.int .i64 ((kE b2 (b3.getD 0 default) (b3.getD 1 default)))]) ⟨Go.Ev.start.heap,1⟩) (A 1 [.val (af aa.enc 3 l),.val (.iface p0 (ak.enc c)),.val (af V.str 1 s),.val (.ai),.val (.ai),.val (.int .i64 (0:Int)),.val (.int .i64 (0:Int))]))))))
theorem Wk [Env] (A:Nat→List SV→Prop) (Q:V→St→Prop) (l:List aa) (c:ak) (s:List (List UInt8)) (n:Nat) (f:Nat→V) (m i:Int):WL Tryz.prog 30 Tryz.f30 fA 0 dF A Q 0 [.val (af aa.enc 3 l),.val (.iface 160 (ak.enc c)),.row n f 3,.val (af V.str 1 s),.val (af V.str 1 s),.val (.int .i64 m),.val (.int .i64 i)]=
  ((o0 A Q l c s n f m i 160 2 1)):=by kernel_rfl
theorem Wl [Env] (A:Nat→List SV→Prop) (Q:V→St→Prop) (l:List aa) (c:ak) (s:List (List UInt8)) (n:Nat) (f:Nat→V) (m i:Int):WL Tryz.prog 30 Tryz.f30 fA 0 dF A Q 0 [.val (af aa.enc 3 l),.val (.iface 161 (ak.enc c)),.row n f 3,.val (af V.str 1 s),.val (af V.str 1 s),.val (.int .i64 m),.val (.int .i64 i)]=
  ((o0 A Q l c s n f m i 161 3 1)):=by kernel_rfl
theorem Wm [Env] (A:Nat→List SV→Prop) (Q:V→St→Prop) (l:List aa) (c:ak) (s:List (List UInt8)) (n:Nat) (f:Nat→V) (m i:Int):WL Tryz.prog 30 Tryz.f30 fA 0 dF A Q 0 [.val (af aa.enc 3 l),.val (.iface 162 (ak.enc c)),.row n f 3,.val (af V.str 1 s),.val (af V.str 1 s),.val (.int .i64 m),.val (.int .i64 i)]=
  ((o0 A Q l c s n f m i 162 4 1)):=by kernel_rfl
theorem Wn [Env] (A:Nat→List SV→Prop) (Q:V→St→Prop) (l:List aa) (c:ak) (s:List (List UInt8)) (n:Nat) (f:Nat→V) (m i:Int):WL Tryz.prog 30 Tryz.f30 fA 0 dF A Q 0 [.val (af aa.enc 3 l),.val (.iface 163 (ak.enc c)),.row n f 3,.val (af V.str 1 s),.val (af V.str 1 s),.val (.int .i64 m),.val (.int .i64 i)]=
  ((o0 A Q l c s n f m i 163 5 1)):=by kernel_rfl
theorem OO [Env] (A:Nat→List SV→Prop) (Q:V→St→Prop) (l:List aa) (c:ak) (s:List (List UInt8)) (n:Nat) (f:Nat→V) (m i:Int):WL Tryz.prog 30 Tryz.f30 fA 0 dF A Q 0 [.val (af aa.enc 3 l),.val (.iface 164 (ak.enc c)),.row n f 3,.val (af V.str 1 s),.val (af V.str 1 s),.val (.int .i64 m),.val (.int .i64 i)]=
  ((o0 A Q l c s n f m i 164 6 2)):=by kernel_rfl
end Go.Proofs.YtbajncpfmemdgaaGreatDoor
end
section
namespace Go.Proofs.YtbajncpfmemdgaaGreatDoor
open Go Go.Ev
abbrev wU [Env] (A:Nat→List SV→Prop) (Q:V→St→Prop) (l:List aa) (c:ak) (s:List (List UInt8)) (n:Nat) (T:List aa) (m i:Int) (p0:Nat):Prop:=
 (∃b0:List aj,[af aj.enc 7 ((T.getD i.toNat default).f2)]=[af aj.enc 7 b0]∧(0<b0.length∧b0.length≤1000)∧((0≤i∧i<((n:Nat):Int))∧(i.toNat<n∧((n=n∧3=3)∧A 1 [.val (af aa.enc 3 l),.val (.iface p0 (ak.enc c)),.val (af V.str 1 s),.row n (fe (fun i=>aa.enc (T.getD i default)) i.toNat (.agg [.str ((T.getD i.toNat default).f0),.int .i64 ((T.getD i.toNat default).f1),af aj.enc 7 b0])) 3,.al 0 n 3,.val (.int .i64 m),.val (.int .i64 (IntKind.i64.wrap (i+(1:Int))))]))))
abbrev qf [Env] (A:Nat→List SV→Prop) (Q:V→St→Prop) (l:List aa) (c:ak) (s:List (List UInt8)) (n:Nat) (T:List aa) (m i:Int) (p0:Nat):Prop:=
 ((.i64:IntKind)=.i64∧ae (decide (i<m)) (((0≤i∧i<((n:Nat):Int))∧(i.toNat<n∧(∃(b0:List aa) (b1:List UInt8),[af aa.enc 3 l,.str ((T.getD i.toNat default).f0)]=[af aa.enc 3 b0,.str b1]∧b0.length≤1000000∧((.i64:IntKind)=.i64∧ae (decide ((bh b0 b1)≥(0:Int))) ((∃b2:ak,([.iface p0 (ak.enc c)]:List V)=[.iface p0 (ak.enc b2)]∧((p0:TypeId)=159∨(p0:TypeId)=160∨(p0:TypeId)=161∨(p0:TypeId)=162∨(p0:TypeId)=163∨(p0:TypeId)=164)∧(∃b3:Nat→List UInt8,(fun i=>V.str (s.getD i default))=(fun i=>V.str (b3 i))∧s.length≤1000000∧ae ((!(decide (0≤cb ((T.getD i.toNat default).f0) b3 s.length)))) (Q (.tuple [.ai,.int .i64 (12:Int)]) ⟨(St.new (St.new Go.Ev.start 0 (.row n (fun i=>aa.enc (T.getD i default)) 3 false)) 1 (.cells 3 [] (an (aa.cells (T.getD i.toNat default)) .leaf 0) true false)).heap,2⟩) ((wU A Q l c s n T m i p0))))) ((wU A Q l c s n T m i p0))))))) (Q (.tuple [.own 0 n 3,.int .i64 (0:Int)]) ⟨(St.new Go.Ev.start 0 (.row n (fun i=>aa.enc (T.getD i default)) 3 false)).heap,1⟩))
theorem Wo [Env] (A:Nat→List SV→Prop) (Q:V→St→Prop) (l:List aa) (c:ak) (s:List (List UInt8)) (n:Nat) (T:List aa) (m i:Int):WL Tryz.prog 30 Tryz.f30 fA 0 dF A Q 1 [.val (af aa.enc 3 l),.val (.iface 159 (ak.enc c)),.val (af V.str 1 s),.row n (fun i=>aa.enc (T.getD i default)) 3,.al 0 n 3,.val (.int .i64 m),.val (.int .i64 i)]=
  (((.i64:IntKind)=.i64∧ae (decide (i<m)) (((0≤i∧i<((n:Nat):Int))∧(i.toNat<n∧(∃(Nl:List aa) (UD:List UInt8),[af aa.enc 3 l,.str ((T.getD i.toNat default).f0)]=[af aa.enc 3 Nl,.str UD]∧Nl.length≤1000000∧((.i64:IntKind)=.i64∧ae (decide ((bh Nl UD)≥(0:Int))) ((∃aaB:ak,([.iface 159 (ak.enc c)]:List V)=[.iface 159 (ak.enc aaB)]∧((159:TypeId)=159∨(159:TypeId)=160∨(159:TypeId)=161∨(159:TypeId)=162∨(159:TypeId)=163∨(159:TypeId)=164)∧Q (.tuple [.ai,.int .i64 (12:Int)]) ⟨(St.new (St.new Go.Ev.start 0 (.row n (fun i=>aa.enc (T.getD i default)) 3 false)) 1 (.cells 3 [] (an (aa.cells (T.getD i.toNat default)) .leaf 0) true false)).heap,2⟩)) ((∃Iu:List aj,[af aj.enc 7 ((T.getD i.toNat default).f2)]=[af aj.enc 7 Iu]∧(0<Iu.length∧Iu.length≤1000)∧((0≤i∧i<((n:Nat):Int))∧(i.toNat<n∧((n=n∧3=3)∧A 1 [.val (af aa.enc 3 l),.val (.iface 159 (ak.enc c)),.val (af V.str 1 s),.row n (fe (fun i=>aa.enc (T.getD i default)) i.toNat (.agg [.str ((T.getD i.toNat default).f0),.int .i64 ((T.getD i.toNat default).f1),af aj.enc 7 Iu])) 3,.al 0 n 3,.val (.int .i64 m),.val (.int .i64 (IntKind.i64.wrap (i+(1:Int))))])))))))))) (Q (.tuple [.own 0 n 3,.int .i64 (0:Int)]) ⟨(St.new Go.Ev.start 0 (.row n (fun i=>aa.enc (T.getD i default)) 3 false)).heap,1⟩))):=by kernel_rfl
theorem Wp [Env] (A:Nat→List SV→Prop) (Q:V→St→Prop) (l:List aa) (c:ak) (s:List (List UInt8)) (n:Nat) (T:List aa) (m i:Int):WL Tryz.prog 30 Tryz.f30 fA 0 dF A Q 1 [.val (af aa.enc 3 l),.val (.iface 160 (ak.enc c)),.val (af V.str 1 s),.row n (fun i=>aa.enc (T.getD i default)) 3,.al 0 n 3,.val (.int .i64 m),.val (.int .i64 i)]=
  ((qf A Q l c s n T m i 160)):=by kernel_rfl
theorem Wq [Env] (A:Nat→List SV→Prop) (Q:V→St→Prop) (l:List aa) (c:ak) (s:List (List UInt8)) (n:Nat) (T:List aa) (m i:Int):WL Tryz.prog 30 Tryz.f30 fA 0 dF A Q 1 [.val (af aa.enc 3 l),.val (.iface 161 (ak.enc c)),.val (af V.str 1 s),.row n (fun i=>aa.enc (T.getD i default)) 3,.al 0 n 3,.val (.int .i64 m),.val (.int .i64 i)]=
  ((qf A Q l c s n T m i 161)):=by kernel_rfl
theorem Ws [Env] (A:Nat→List SV→Prop) (Q:V→St→Prop) (l:List aa) (c:ak) (s:List (List UInt8)) (n:Nat) (T:List aa) (m i:Int):WL Tryz.prog 30 Tryz.f30 fA 0 dF A Q 1 [.val (af aa.enc 3 l),.val (.iface 162 (ak.enc c)),.val (af V.str 1 s),.row n (fun i=>aa.enc (T.getD i default)) 3,.al 0 n 3,.val (.int .i64 m),.val (.int .i64 i)]=
  ((qf A Q l c s n T m i 162)):=by kernel_rfl
theorem Wt [Env] (A:Nat→List SV→Prop) (Q:V→St→Prop) (l:List aa) (c:ak) (s:List (List UInt8)) (n:Nat) (T:List aa) (m i:Int):WL Tryz.prog 30 Tryz.f30 fA 0 dF A Q 1 [.val (af aa.enc 3 l),.val (.iface 163 (ak.enc c)),.val (af V.str 1 s),.row n (fun i=>aa.enc (T.getD i default)) 3,.al 0 n 3,.val (.int .i64 m),.val (.int .i64 i)]=
  ((qf A Q l c s n T m i 163)):=by kernel_rfl
theorem Wu [Env] (A:Nat→List SV→Prop) (Q:V→St→Prop) (l:List aa) (c:ak) (s:List (List UInt8)) (n:Nat) (T:List aa) (m i:Int):WL Tryz.prog 30 Tryz.f30 fA 0 dF A Q 1 [.val (af aa.enc 3 l),.val (.iface 164 (ak.enc c)),.val (af V.str 1 s),.row n (fun i=>aa.enc (T.getD i default)) 3,.al 0 n 3,.val (.int .i64 m),.val (.int .i64 i)]=
  ((qf A Q l c s n T m i 164)):=by kernel_rfl
def Ys [Env] (vs:List V) (σ:St) (k:ah):Prop:=
 ∃(l:List aa) (c:ak),vs=[af aa.enc 3 l,ak.enc c]∧(e7 c∧c.f7.length≤1000000∧∀t∈l,dY t)∧k (.tuple [af aa.enc 3 (bZ l c),.int .i64 (cx l c)]) σ
def UE [Env]:=kS 30 Ys fA
end Go.Proofs.YtbajncpfmemdgaaGreatDoor
end
section
namespace Go.Proofs.YtbajncpfmemdgaaGreatDoor
open Go Go.Ev Go.IntWalk
theorem F309:bS Tryz.prog 309 Tryz.f309:=.of (by kernel_rfl) (by kernel_rfl)
theorem F30:bS Tryz.prog 30 Tryz.f30:=.of (by kernel_rfl) (by kernel_rfl)
theorem k0 {t:aa} {s:List UInt8} {d:Int} {i:Nat} (h:bA t s=i) (hi:i<t.f2.length):
  bC t.f2.length (fe (fe (fun j=>aj.enc (t.f2.getD j default)) i (aj.enc ⟨(t.f2.getD i default).f0,d,(t.f2.getD i default).f2,(t.f2.getD i default).f3⟩)) i (aj.enc (HS (t.f2.getD i default) d))) (Cx t s d).f2:=by
 have e:(Cx t s d).f2=(t.f2.set i ⟨(t.f2.getD i default).f0,d,(t.f2.getD i default).f2,(t.f2.getD i default).f3⟩).set i (HS (t.f2.getD i default) d):=by
  rw[List.set_set]
  show t.f2.set (bA t s).toNat (HS (t.f2.getD (bA t s).toNat default) d)=_
  rw[h];rfl
 rw[e]
 exact((bC.of t.f2).kP hi _ rfl).kP hi _ rfl
theorem ei {t:aa} {s:List UInt8} {i:Nat} (h:bA t s=i):ye t s=t.f2.getD i default:=by
 show t.f2.getD (bA t s).toNat default=_
 rw[h];rfl
section
variable [Env] [aE] {vs:List V} {σ:St} {k:ah}
theorem Nn (h:ON vs σ k):ag Tryz.prog 226 vs k σ:=by
 obtain⟨t,s,rfl,hn,hm,h0,h1,h2,h3,h4,h5,h6,h7⟩:=h
 refine FL ⟨t,s,rfl,by omega,?_⟩
 have hb:=wR t s
 generalize hx:bA t s=x at *
 rcases(show x= -1∨x=0∨x=1∨x=2∨x=3∨x=4∨x=5∨x=6∨x=7 by omega) with rfl | rfl | rfl | rfl | rfl | rfl | rfl | rfl | rfl
 ·exact hm rfl
 ·exact h0 rfl
 ·exact h1 rfl
 ·exact h2 rfl
 ·exact h3 rfl
 ·exact h4 rfl
 ·exact h5 rfl
 ·exact h6 rfl
 ·exact h7 rfl
theorem Gb:∀ {f:FuncId} {vs:List V} {σ:St} {k:ah},Iq f vs σ k→ag Tryz.prog f vs k σ:=fun h=>aR Nn Qu h
set_option maxRecDepth 100000 in
theorem Qv (h:UA vs σ k):ag Tryz.prog 309 vs k σ:=by
 obtain⟨c,l,hf,⟨hc,h0,_,hl,_,ht⟩,hk,eA⟩:=h
 have ho:vX σ k _ _:=⟨hk,eA⟩
 obtain⟨qY,vY⟩:=ht _ (bf (show 0<l.length by omega))
 have hlen:0<(l.getD 0 default).f2.length∧(l.getD 0 default).f2.length≤8∧1≤(l.getD 0 default).f1:=by have:=(lI vY).1;obtain⟨_,h1,h2,_⟩:=this;omega
 refine ag.mj hf (F309.cg (live:=Ga) (call:=Iq) (fun h=>Gb h) (by kernel_rfl) ?_)
 rw[Nh h0 (l.getD 0 default),Ng h0 (l.getD 0 default) (l.getD 1 default)] at ho
 have hca:=wR (l.getD 0 default) c.f5
 rw[aaz];unfold qd
 refine⟨⟨by omega,by omega⟩,_,_,rfl,hlen.2.1,fun h=>⟨rfl,av (fun a1=>ho.err (lQ (by omega)) (by decide)) fun a1=>absurd (show(-1:Int)<(l.getD 0 default).f1 by omega) a1⟩,?_,?_,?_,?_,?_,?_,?_,?_⟩
 ·intro h
  have hh:bA (l.getD 0 default) c.f5=((0:Nat):Int):=h
  have hi:0<(l.getD 0 default).f2.length:=by omega
  refine⟨rfl,av (fun a1=>ho.err (lQ (by rw[h];exact a1)) (by decide)) fun a1=>⟨⟨by omega,by omega⟩,ae.mk (fun a2=>ho.err (mZ (by rw[h];exact a1) ?_) (by decide)) fun a2=>⟨(l.getD 0 default).f2,rfl,⟨by omega,by omega⟩,⟨by omega,by omega⟩,by omega,by omega,qY _ (bf hi),by omega,_,_,fi (p:=false) (by rfl) (k0 hh hi),ho.one rfl (nd (by rw[h];exact a1) ?_)⟩⟩⟩
  ·rw[Bool.not_eq_true'] at a2;rw[ei hh];exact a2
  ·rw[Bool.not_eq_false'] at a2;rw[ei hh];exact a2
 ·intro h
  have hh:bA (l.getD 0 default) c.f5=((1:Nat):Int):=h
  have hi:1<(l.getD 0 default).f2.length:=by omega
  refine⟨rfl,av (fun a1=>ho.err (lQ (by rw[h];exact a1)) (by decide)) fun a1=>⟨⟨by omega,by omega⟩,ae.mk (fun a2=>ho.err (mZ (by rw[h];exact a1) ?_) (by decide)) fun a2=>⟨(l.getD 0 default).f2,rfl,⟨by omega,by omega⟩,⟨by omega,by omega⟩,by omega,by omega,qY _ (bf hi),by omega,_,_,fi (p:=false) (by rfl) (k0 hh hi),ho.one rfl (nd (by rw[h];exact a1) ?_)⟩⟩⟩
  ·rw[Bool.not_eq_true'] at a2;rw[ei hh];exact a2
  ·rw[Bool.not_eq_false'] at a2;rw[ei hh];exact a2
 ·intro h
  have hh:bA (l.getD 0 default) c.f5=((2:Nat):Int):=h
  have hi:2<(l.getD 0 default).f2.length:=by omega
  refine⟨rfl,av (fun a1=>ho.err (lQ (by rw[h];exact a1)) (by decide)) fun a1=>⟨⟨by omega,by omega⟩,ae.mk (fun a2=>ho.err (mZ (by rw[h];exact a1) ?_) (by decide)) fun a2=>⟨(l.getD 0 default).f2,rfl,⟨by omega,by omega⟩,⟨by omega,by omega⟩,by omega,by omega,qY _ (bf hi),by omega,_,_,fi (p:=false) (by rfl) (k0 hh hi),ho.one rfl (nd (by rw[h];exact a1) ?_)⟩⟩⟩
  ·rw[Bool.not_eq_true'] at a2;rw[ei hh];exact a2
  ·rw[Bool.not_eq_false'] at a2;rw[ei hh];exact a2
 ·intro h
  have hh:bA (l.getD 0 default) c.f5=((3:Nat):Int):=h
  have hi:3<(l.getD 0 default).f2.length:=by omega
  refine⟨rfl,av (fun a1=>ho.err (lQ (by rw[h];exact a1)) (by decide)) fun a1=>⟨⟨by omega,by omega⟩,ae.mk (fun a2=>ho.err (mZ (by rw[h];exact a1) ?_) (by decide)) fun a2=>⟨(l.getD 0 default).f2,rfl,⟨by omega,by omega⟩,⟨by omega,by omega⟩,by omega,by omega,qY _ (bf hi),by omega,_,_,fi (p:=false) (by rfl) (k0 hh hi),ho.one rfl (nd (by rw[h];exact a1) ?_)⟩⟩⟩
  ·rw[Bool.not_eq_true'] at a2;rw[ei hh];exact a2
  ·rw[Bool.not_eq_false'] at a2;rw[ei hh];exact a2
 ·intro h
  have hh:bA (l.getD 0 default) c.f5=((4:Nat):Int):=h
  have hi:4<(l.getD 0 default).f2.length:=by omega
  refine⟨rfl,av (fun a1=>ho.err (lQ (by rw[h];exact a1)) (by decide)) fun a1=>⟨⟨by omega,by omega⟩,ae.mk (fun a2=>ho.err (mZ (by rw[h];exact a1) ?_) (by decide)) fun a2=>⟨(l.getD 0 default).f2,rfl,⟨by omega,by omega⟩,⟨by omega,by omega⟩,by omega,by omega,qY _ (bf hi),by omega,_,_,fi (p:=false) (by rfl) (k0 hh hi),ho.one rfl (nd (by rw[h];exact a1) ?_)⟩⟩⟩
  ·rw[Bool.not_eq_true'] at a2;rw[ei hh];exact a2
  ·rw[Bool.not_eq_false'] at a2;rw[ei hh];exact a2
 ·intro h
  have hh:bA (l.getD 0 default) c.f5=((5:Nat):Int):=h
  have hi:5<(l.getD 0 default).f2.length:=by omega
  refine⟨rfl,av (fun a1=>ho.err (lQ (by rw[h];exact a1)) (by decide)) fun a1=>⟨⟨by omega,by omega⟩,ae.mk (fun a2=>ho.err (mZ (by rw[h];exact a1) ?_) (by decide)) fun a2=>⟨(l.getD 0 default).f2,rfl,⟨by omega,by omega⟩,⟨by omega,by omega⟩,by omega,by omega,qY _ (bf hi),by omega,_,_,fi (p:=false) (by rfl) (k0 hh hi),ho.one rfl (nd (by rw[h];exact a1) ?_)⟩⟩⟩
  ·rw[Bool.not_eq_true'] at a2;rw[ei hh];exact a2
  ·rw[Bool.not_eq_false'] at a2;rw[ei hh];exact a2
 ·intro h
  have hh:bA (l.getD 0 default) c.f5=((6:Nat):Int):=h
  have hi:6<(l.getD 0 default).f2.length:=by omega
  refine⟨rfl,av (fun a1=>ho.err (lQ (by rw[h];exact a1)) (by decide)) fun a1=>⟨⟨by omega,by omega⟩,ae.mk (fun a2=>ho.err (mZ (by rw[h];exact a1) ?_) (by decide)) fun a2=>⟨(l.getD 0 default).f2,rfl,⟨by omega,by omega⟩,⟨by omega,by omega⟩,by omega,by omega,qY _ (bf hi),by omega,_,_,fi (p:=false) (by rfl) (k0 hh hi),ho.one rfl (nd (by rw[h];exact a1) ?_)⟩⟩⟩
  ·rw[Bool.not_eq_true'] at a2;rw[ei hh];exact a2
  ·rw[Bool.not_eq_false'] at a2;rw[ei hh];exact a2
 ·intro h
  have hh:bA (l.getD 0 default) c.f5=((7:Nat):Int):=h
  have hi:7<(l.getD 0 default).f2.length:=by omega
  refine⟨rfl,av (fun a1=>ho.err (lQ (by rw[h];exact a1)) (by decide)) fun a1=>⟨⟨by omega,by omega⟩,ae.mk (fun a2=>ho.err (mZ (by rw[h];exact a1) ?_) (by decide)) fun a2=>⟨(l.getD 0 default).f2,rfl,⟨by omega,by omega⟩,⟨by omega,by omega⟩,by omega,by omega,qY _ (bf hi),by omega,_,_,fi (p:=false) (by rfl) (k0 hh hi),ho.one rfl (nd (by rw[h];exact a1) ?_)⟩⟩⟩
  ·rw[Bool.not_eq_true'] at a2;rw[ei hh];exact a2
  ·rw[Bool.not_eq_false'] at a2;rw[ei hh];exact a2
theorem Qw:∀ {f:FuncId} {vs:List V} {σ:St} {k:ah},UB f vs σ k→ag Tryz.prog f vs k σ:=fun h=>aR Qv Gb h
theorem Qx (h:UC vs σ k):ag Tryz.prog 74 vs k σ:=by
 obtain⟨l,rfl,hn,h⟩:=h
 refine ag.aJ (us:=[af aj.enc 7 l]) (aA (e6 l) bm) (bH.imp (us:=[Hd aj.enc 7 l]) (fun ρ xs hx=>?_) (F74.cg (live:=Cz) (call:=Cy) (fun h=>zm h) (by kernel_rfl) ?_))
 ·cases hx with
  | cons h1 h2=>exact .cons (Kr hn.1 h1) h2
 ·rw[Yl]
  exact av (fun h1=>by omega) fun h1=>⟨by omega,bk.ic (.own (g:=fun i=>aj.enc (l.getD i default)) (p:=true) (by rfl) (fun i hi=>jP (aj.clean _)) fun i hi=>rfl) h⟩
theorem k5:∀ {f:FuncId} {vs:List V} {σ:St} {k:ah},fA f vs σ k→ag Tryz.prog f vs k σ:=fun h=>aR Qx Qw h
end
end Go.Proofs.YtbajncpfmemdgaaGreatDoor
end
