/- Proved: parts of the way: BD5, BEq22, BEq23, BD6, BD7, BEq24, BEq25, BD8. -/
import Derived.Test.YtbajncpfmemdgaaGreatDoorEvQ20
set_option linter.unusedVariables false
set_option linter.unusedSimpArgs false
section
namespace Go.Proofs.YtbajncpfmemdgaaGreatDoor
open Go Go.Ev Go.IntWalk
theorem F311:bU Tryz.prog 311 Tryz.f311:=.of (by kernel_rfl) (by kernel_rfl)
def kB (t:aa) (i:Nat):aj:=t.f2.getD i default
def fu (s:SP) (L:List aj):Prop:=(L=[]∧s=.val .ai)∨∃n f,0<n∧bE n f L∧s=.row n f 7
theorem fu.nil {L:List aj} (h:fu (.val .ai) L):L=[]:=by
 rcases h with ⟨h,_⟩ | ⟨_,_,_,_,h⟩
 ·exact h
 ·cases h
theorem fu.one (x:aj):fu (.row 1 (fun _=>.agg (aj.cells x)) 7) [x]:=.inr ⟨1,_,by omega,bE.one x,rfl⟩
theorem fu.push {n:Nat} {f:Nat→V} {L:List aj} (h:bE n f L) (x:aj):fu (.row (n+1) (dY n f fun _=>.agg (aj.cells x)) 7) (L++[x]):=.inr ⟨_,_,by omega,h.push x,rfl⟩
theorem fu.clean [Env] {s:SP} {L:List aj} (h:fu s L):s.clean:=by
 rcases h with ⟨_,rfl⟩ | ⟨n,f,_,hr,rfl⟩
 ·exact Go.Ev.Clean.ai
 ·exact hr.cl
theorem vG {α:Type} {p:Nat→Bool} {q:Nat→α} (h0:p 0=true):∀n,0<n→bj p q n≠[]
 | 0,h=>absurd h (Nat.lt_irrefl 0)
 | n+1,_=>by
  show(if p n=true then bj p q n++[q n] else bj p q n)≠[]
  by_cases e:n=0
  ·subst e;rw[if_pos h0];simp
  ·split
   ·simp
   ·exact vG h0 n (by omega)
def fw (t:aa) (c:ak) (b:Bool) (i:Nat):List aj:=bj (kQ t c b) (kB t) i
abbrev zV (c:ak) (t:aa) (r1 r2:SP):SV:=.nest (.sl 2 2 3 true) [.val (.str c.f3),.val (.int .i64 t.f1),r1,.val (.str c.f4),.val (.int .i64 t.f1),r2]
def l7 (t:aa) (c:ak) (i:Nat):Int:=if bw t (c.f7.getD i default)<t.f1∨eT c.f7 (c.f7.getD i default)≠i then 10 else 0
def xq (c:ak) (t:aa):Nat→List SV→Prop
 | 0,ss=>∃i:Nat,(i≤c.f7.length∧aD c.f3=0∧aD c.f4=0∧¬c.f3=c.f4)∧(∀j,j<i→l7 t c j=0)∧ss=[.box c.cells,.box t.cells,.val (ae V.str 1 c.f7),.val (.int .i64 ((c.f7.length:Nat):Int)),.val (.int .i64 (i:Int))]
 | 1,ss=>mJ t c=0∧∃(i:Nat) (r1 r2:SP),i≤t.f2.length∧fu r1 (fw t c true i)∧fu r2 (fw t c false i)∧ss=[.box c.cells,.box t.cells,zV c t r1 r2,.val (ae aj.enc 7 t.f2),.val (.int .i64 ((t.f2.length:Nat):Int)),.val (.int .i64 (i:Int))]
 | 2,ss=>mJ t c=0∧∃(i q:Nat) (r1 r2:SP),i<t.f2.length∧q≤2∧fu r1 (fw t c true (i+if 1≤q then 1 else 0))∧fu r2 (fw t c false (i+if 2≤q then 1 else 0))∧
   ss=[.box c.cells,.box t.cells,zV c t r1 r2,.val (.int .i64 (i:Int)),.box (kB t i).cells,.val (.bool (named t c i)),.val (ae aj.enc 7 t.f2),.val (.int .i64 ((t.f2.length:Nat):Int)),.val (.int .i64 (i:Int)),.val (.int .i64 (2:Int)),.val (.int .i64 (q:Int))]
 | _,_=>False
def at3:List SV→Nat
 | [_,_,_,.val (.int _ u),_,_,_,_,_,_,_]=>u.toNat
 | _=>0
def abu (c:ak) (t:aa):Nat→List SV→Nat
 | 0,ss=>200+(c.f7.length-cu ss)
 | 1,ss=>10*(t.f2.length-cu ss)+5
 | _,ss=>10*(t.f2.length-at3 ss)+(3-cu ss)
section
variable [Env]
omit [Env] in
theorem Dn {t:aa} {c:ak} (h1:aD c.f3=0) (h2:aD c.f4=0) (h3:¬c.f3=c.f4) {i:Nat} (hi:i<c.f7.length) (hb:l7 t c i≠0) (hj:∀j,j<i→l7 t c j=0):mJ t c=10:=by
 have:c9 (l7 t c) c.f7.length=l7 t c i:=jK _ _ i hi hb hj
 have kg:l7 t c i=10:=by
  unfold l7 at hb⊢
  split
  ·rfl
  ·rename_i h;rw[if_neg h] at hb;exact(hb rfl).elim
 unfold mJ
 rw[if_neg fun h=>h h1,if_neg fun h=>h h2,if_neg h3]
 exact this.trans kg
omit [Env] in
theorem Q9 {t:aa} {c:ak} (h1:aD c.f3=0) (h2:aD c.f4=0) (h3:¬c.f3=c.f4) (hj:∀j,j<c.f7.length→l7 t c j=0):mJ t c=0:=by
 unfold mJ
 rw[if_neg fun h=>h h1,if_neg fun h=>h h2,if_neg h3]
 exact(ca (l7 t c) c.f7.length).2 hj
omit [Env] in
theorem vH {t:aa} {c:ak} {b:Bool} {i:Nat} (h:kQ t c b i=true):fw t c b (i+1)=fw t c b i++[kB t i]:=if_pos h
omit [Env] in
theorem Dp {t:aa} {c:ak} {b:Bool} {i:Nat} (h:¬kQ t c b i=true):fw t c b (i+1)=fw t c b i:=if_neg h
omit [Env] in
theorem o4 {t:aa} {c:ak} {b:Bool} {i:Nat} (h:(i:Int)<t.f1):kQ t c b i=true:=by unfold kQ;rw[decide_eq_true h,Bool.true_or]
omit [Env] in
theorem pR {t:aa} {c:ak} {b:Bool} {i:Nat} (h:¬(i:Int)<t.f1):kQ t c b i=(named t c i==b):=by unfold kQ;rw[decide_eq_false h,Bool.false_or]
theorem I8 {c:ak} {t:aa} {l:List SV} (hl:∀u∈l,u.clean):∀u∈SV.box c.cells::SV.box t.cells::l,u.clean:=aw (ak.clean c) (aw (aa.clean t) hl)
theorem yN {c:ak} {t:aa} {r1 r2:SP} (h1:r1.clean) (h2:r2.clean):(zV c t r1 r2).clean:=by
 intro p hp
 have hp:p∈[SP.val (.str c.f3),SP.val (.int .i64 t.f1),r1,SP.val (.str c.f4),SP.val (.int .i64 t.f1),r2]:=hp
 simp only[List.mem_cons,List.not_mem_nil,or_false] at hp
 rcases hp with rfl | rfl | rfl | rfl | rfl | rfl
 ·exact Go.Ev.Clean.str _
 ·exact Go.Ev.Clean.int _ _
 ·exact h1
 ·exact Go.Ev.Clean.str _
 ·exact Go.Ev.Clean.int _ _
 ·exact h2
theorem xq.clean {c:ak} {t:aa}:∀k ss,xq c t k ss→∀s∈ss,s.clean
 | 0,_,⟨_,_,_,e⟩=>by subst e;exact I8 (aw (et _) (aE (aE bM)))
 | 1,_,⟨_,_,_,_,_,h1,h2,e⟩=>by subst e;exact I8 (aw (yN h1.clean h2.clean) (aw (fg _) (aE (aE bM))))
 | 2,_,⟨_,_,_,_,_,_,_,h1,h2,e⟩=>by subst e;exact I8 (aw (yN h1.clean h2.clean) (aE (aw (aj.clean _) (aw (Go.Ev.Clean.bool _) (aw (fg _) (aE (aE (aE (aE bM)))))))))
 | n+3,_,h=>h.elim
omit [Env] in
theorem fu.Dq {s:SP} {L:List aj} (h:fu s L) (hL:L=[]):s=.val .ai:=by
 rcases h with ⟨_,h⟩ | ⟨n,f,h0,hr,_⟩
 ·exact h
 ·have:=hr.1;rw[hL] at this;simp at this;omega
omit [Env] in
theorem fu.uh {s:SP} {L:List aj} (h:fu s L) (hL:L≠[]):∃n f,bE n f L∧s=.row n f 7:=by
 rcases h with ⟨h,_⟩ | ⟨n,f,_,hr,h⟩
 ·exact(hL h).elim
 ·exact⟨n,f,hr,h⟩
omit [Env] in
theorem bE.lt {t:aa} {c:ak} {b:Bool} {i n:Nat} {f:Nat→V} (h:bE n f (fw t c b i)) (hi:i≤9):n≤9:=by
 have:=kU (kQ t c b) (kB t) i
 have h2:n=(fw t c b i).length:=h.1
 unfold fw at h2
 omega
omit [Env] in
theorem Ra (x y:Int):Py [x,y]=if x≠0 then x else y:=by
 show(if (if (0:Int)≠0 then 0 else x)≠0 then(if (0:Int)≠0 then 0 else x) else y)=_
 rw[if_neg (show ¬(0:Int)≠0 by decide)]
variable [aC] {vs:List V} {σ:St} {k:ah}
theorem Rb (h:Vj vs σ k):ag Tryz.prog 311 vs k σ:=by
 obtain⟨c,l,hf,⟨hc,h0,j5,hl,_,ht⟩,hk,ed⟩:=h
 have ho:wK σ k _ _:=⟨hk,ed⟩
 obtain⟨rj,wL⟩:=ht _ (ba (show 0<l.length by omega))
 rw[I5 h0 (l.getD 0 default),Dm h0 (l.getD 0 default) (l.getD 1 default)] at ho
 obtain⟨t,Zo⟩:∃t,t=l.getD 0 default:=⟨_,rfl⟩
 rw[←Zo] at ho wL rj
 have hlen:0<t.f2.length∧t.f2.length≤8∧1≤t.f1:=by have:=(lX wL).1;obtain⟨_,h1,h2,_⟩:=this;omega
 have bQ:∀b i,0<i→fw t c b i≠[]:=fun b i hi=>vG (o4 (by omega)) i hi
 refine ag.mH hf (F311.kp (live:=fG) (call:=jM) (fun h=>GL h) 3 (by kernel_rfl) Nat.lt_wfRel.wf (abu c t) (xq c t) xq.clean ?_ ?_)
 ·rw[abt,←Zo]
  have h3:mJ t c=if aD c.f3≠0 then aD c.f3 else if aD c.f4≠0 then aD c.f4 else if c.f3=c.f4 then 12 else c9 (l7 t c) c.f7.length:=rfl
  refine⟨⟨by omega,by omega⟩,cB (by simp [V.beq]) ⟨[aD c.f3,aD c.f4],.cons (.lT (.slice (es:=[.int .i64 (aD c.f3),.int .i64 (aD c.f4)]) (by rfl) (.cons (.int _ _) (.cons (.int _ _) .nil)) (fun v hv=>?_) rfl)) .nil,by simp,rfl,?_⟩⟩
  ·simp only[List.mem_cons,List.not_mem_nil,or_false] at hv
   rcases hv with rfl | rfl<;>rfl
  ·rw[Ra]
   refine av (fun a=>ho.err ?_ a) fun a=>av (fun a2=>ho.err ?_ (by decide)) fun a2=>⟨0,⟨by omega,?_,?_,a2⟩,fun j hj=>absurd hj (Nat.not_lt_zero j),rfl⟩
   ·rw[h3]
    by_cases g1:aD c.f3=0
    ·have e3:¬aD c.f3≠0:=fun h=>h g1
     rw[if_neg e3] at a
     rw[if_neg e3,if_neg e3,if_pos a]
    ·rw[if_pos g1,if_pos g1]
   ·have g1:aD c.f3=0:=Classical.byContradiction fun g=>a (by rw[if_pos g];exact g)
    have g2:aD c.f4=0:=Classical.byContradiction fun g=>a (by rw[if_neg fun h=>h g1];exact g)
    rw[h3,if_neg fun h=>h g1,if_neg fun h=>h g2,if_pos a2]
   ·exact Classical.byContradiction fun g=>a (by rw[if_pos g];exact g)
   ·have g1:aD c.f3=0:=Classical.byContradiction fun g=>a (by rw[if_pos g];exact g)
    exact Classical.byContradiction fun g=>a (by rw[if_neg fun h=>h g1];exact g)
 ·intro j hj ss hI
  match j,hI with
  | 0,hI=>
   obtain⟨i,⟨hi,g1,g2,g3⟩,hb,rfl⟩:=hI
   rw[Xd]
   refine⟨rfl,av (fun a1=>⟨⟨by omega,by omega⟩,t,_,rfl,by omega,cB (by simp [V.beq]) ⟨rfl,av (fun a2=>ho.err ?_ (by decide)) fun a2=>⟨_,rfl,j5,rfl,av (fun a3=>ho.err ?_ (by decide)) fun a3=>?_⟩⟩⟩) fun a1=>?_⟩
   ·rw[dU] at a2
    exact Dn g1 g2 g3 (i:=i) (by omega) (by unfold l7;rw[if_pos (.inl a2)];decide) hb
   ·rw[dU] at a2 a3
    exact Dn g1 g2 g3 (i:=i) (by omega) (by unfold l7;rw[if_pos (.inr a3)];decide) hb
   ·rw[dU] at a2 a3
    rw[i64_in ((i:Int)+1) (by omega)]
    refine⟨⟨i+1,⟨by omega,g1,g2,g3⟩,fun j hj=>?_,rfl⟩,?_⟩
    ·by_cases e:j=i
     ·subst e;unfold l7;rw[if_neg]
      rintro(h | h)
      ·exact a2 h
      ·exact a3 h
     ·exact hb j (by omega)
    ·show 200+(c.f7.length-((i:Int)+1).toNat)<200+(c.f7.length-(i:Int).toNat)
     omega
   ·obtain rfl:i=c.f7.length:=by omega
    refine⟨⟨Q9 g1 g2 g3 hb,0,.val .ai,.val .ai,by omega,.inl ⟨rfl,rfl⟩,.inl ⟨rfl,rfl⟩,rfl⟩,?_⟩
    show 10*(t.f2.length-(0:Int).toNat)+5<200+_
    omega
  | 1,hI=>
   obtain⟨hE,i,r1,r2,hi,h1,h2,rfl⟩:=hI
   by_cases e0:i=0
   ·subst e0
    obtain rfl:=h1.Dq rfl
    obtain rfl:=h2.Dq rfl
    rw[Xe]
    refine⟨rfl,av (fun a1=>⟨⟨by omega,by omega⟩,_,rfl,j5,⟨hE,0,0,.val .ai,.val .ai,by omega,by omega,.inl ⟨rfl,rfl⟩,.inl ⟨rfl,rfl⟩,rfl⟩,?_⟩) fun a1=>by omega⟩
    show 10*(t.f2.length-(0:Int).toNat)+(3-(0:Int).toNat)<10*(t.f2.length-(0:Int).toNat)+5
    omega
   ·obtain⟨a,f,GM,rfl⟩:=h1.uh (bQ _ _ (by omega))
    obtain⟨b,g,As,rfl⟩:=h2.uh (bQ _ _ (by omega))
    rw[Xf]
    refine⟨rfl,av (fun a1=>⟨⟨by omega,by omega⟩,_,rfl,j5,⟨rfl,rfl⟩,⟨rfl,rfl⟩,⟨hE,i,0,_,_,by omega,by omega,h1,h2,rfl⟩,?_⟩) fun a1=>?_⟩
    ·show 10*(t.f2.length-(i:Int).toNat)+(3-(0:Int).toNat)<10*(t.f2.length-(i:Int).toNat)+5
     omega
    ·obtain rfl:i=t.f2.length:=by omega
     refine bl.pair (b:=2) (n:=2) (esz:=3) (g:=fun i=>aa.enc ((Da t c).getD i default)) (.slice (p:=false) (by rfl) (.inl ⟨rfl,Nat.le_refl _⟩) (fun _ _=>rfl) fun i hi=>?_) (.int _ _) (ho.ok hE)
     rcases(show i=0∨i=1 by omega) with rfl | rfl
     ·obtain⟨rfl,hr⟩:=GM
      exact⟨_,by rfl,.cons (.str _) (.cons (.int _ _) (.cons (.own (g:=fun i=>aj.enc ((fw t c true t.f2.length).getD i default)) (p:=false) (by rfl) (fun i hi=>by rw[hr i hi];exact jh (aj.clean _)) fun i hi=>rfl) .nil))⟩
     ·obtain⟨rfl,hr⟩:=As
      exact⟨_,by rfl,.cons (.str _) (.cons (.int _ _) (.cons (.own (g:=fun i=>aj.enc ((fw t c false t.f2.length).getD i default)) (p:=false) (by rfl) (fun i hi=>by rw[hr i hi];exact jh (aj.clean _)) fun i hi=>rfl) .nil))⟩
  | 2,hI=>
   obtain⟨hE,i,q,r1,r2,hi,hq,h1,h2,rfl⟩:=hI
   have key:((i:Nat):Int)<t.f1→∀b,kQ t c b i=true:=fun h b=>o4 h
   rcases(show q=0∨q=1∨q=2 by omega) with rfl | rfl | rfl
   ·have h1:fu r1 (fw t c true i):=h1
    have h2:fu r2 (fw t c false i):=h2
    have nx:∀r,fu r (fw t c true (i+1))→∀b,named t c i=b→xq c t 2 [.box c.cells,.box t.cells,zV c t r r2,.val (.int .i64 (i:Int)),.box (kB t i).cells,.val (.bool b),.val (ae aj.enc 7 t.f2),.val (.int .i64 ((t.f2.length:Nat):Int)),.val (.int .i64 (i:Int)),.val (.int .i64 (2:Int)),.val (.int .i64 (1:Int))]∧
      10*(t.f2.length-(i:Int).toNat)+(3-(1:Int).toNat)<10*(t.f2.length-(i:Int).toNat)+(3-(0:Int).toNat):=fun r hr b hb=>⟨⟨hE,i,1,r,r2,hi,by omega,hr,h2,by rw[hb];rfl⟩,by omega⟩
    rw[show(((0:Nat)):Int)=0 from rfl]
    by_cases e0:i=0
    ·subst e0
     obtain rfl:=h1.Dq rfl
     obtain rfl:=h2.Dq rfl
     have s1:fw t c true (0+1)=[kB t 0]:=vH (key (by omega) _)
     have nx:=fun b hb=>nx (.row 1 (fun _=>.agg (aj.cells (kB t 0))) 7) (by rw[s1];exact fu.one _) b hb
     cases hb:named t c 0 with
     | true=>rw[QV];unfold NV;exact⟨rfl,rfl,av (fun _=>⟨⟨rfl,rfl,rfl⟩,nx _ hb⟩) fun a=>absurd (show((0:Nat):Int)<t.f1 by omega) a⟩
     | false=>rw[QW];unfold NU;exact⟨rfl,rfl,av (fun _=>⟨⟨rfl,rfl,rfl⟩,nx _ hb⟩) fun a=>absurd (show((0:Nat):Int)<t.f1 by omega) a⟩
    ·obtain⟨a,f,GM,rfl⟩:=h1.uh (bQ _ _ (by omega))
     obtain⟨b,g,As,rfl⟩:=h2.uh (bQ _ _ (by omega))
     have ha:=GM.lt (by omega)
     have Dr:kQ t c true i=true→∀b',named t c i=b'→_:=fun h b' hb=>nx (.row (a+1) (dY a f fun _=>.agg (aj.cells (kB t i))) 7) (by rw[vH h];exact fu.push GM _) b' hb
     have N3:¬kQ t c true i=true→∀b',named t c i=b'→_:=fun h b' hb=>nx (.row a f 7) (by rw[Dp h];exact h1) b' hb
     cases hb:named t c i with
     | true=>rw[QZ];unfold N0 IY;exact⟨rfl,rfl,av (fun k=>⟨⟨rfl,by omega⟩,⟨rfl,rfl⟩,⟨rfl,rfl⟩,Dr (key k _) _ hb⟩) fun k=>⟨rfl,af.mk (fun _=>⟨⟨rfl,by omega⟩,⟨rfl,rfl⟩,⟨rfl,rfl⟩,Dr (by rw[pR k,hb];rfl) _ hb⟩) fun h=>by cases h⟩⟩
     | false=>rw[Q0];unfold NY IX;exact⟨rfl,rfl,av (fun k=>⟨⟨rfl,by omega⟩,⟨rfl,rfl⟩,⟨rfl,rfl⟩,Dr (key k _) _ hb⟩) fun k=>⟨rfl,af.mk (fun h=>by cases h) fun _=>⟨⟨rfl,rfl⟩,⟨rfl,rfl⟩,N3 (by rw[pR k,hb];decide) _ hb⟩⟩⟩
   ·have h1:fu r1 (fw t c true (i+1)):=h1
    have h2:fu r2 (fw t c false i):=h2
    have nx:∀r,fu r (fw t c false (i+1))→∀b,named t c i=b→xq c t 2 [.box c.cells,.box t.cells,zV c t r1 r,.val (.int .i64 (i:Int)),.box (kB t i).cells,.val (.bool b),.val (ae aj.enc 7 t.f2),.val (.int .i64 ((t.f2.length:Nat):Int)),.val (.int .i64 (i:Int)),.val (.int .i64 (2:Int)),.val (.int .i64 (2:Int))]∧
      10*(t.f2.length-(i:Int).toNat)+(3-(2:Int).toNat)<10*(t.f2.length-(i:Int).toNat)+(3-(1:Int).toNat):=fun r hr b hb=>⟨⟨hE,i,2,r1,r,hi,by omega,h1,hr,by rw[hb];rfl⟩,by omega⟩
    rw[show(((1:Nat)):Int)=1 from rfl]
    obtain⟨a,f,GM,rfl⟩:=h1.uh (bQ _ _ (by omega))
    by_cases e0:i=0
    ·subst e0
     obtain rfl:=h2.Dq rfl
     have s1:fw t c false (0+1)=[kB t 0]:=vH (key (by omega) _)
     have nx:=fun b hb=>nx (.row 1 (fun _=>.agg (aj.cells (kB t 0))) 7) (by rw[s1];exact fu.one _) b hb
     cases hb:named t c 0 with
     | true=>rw[QX];unfold NX;exact⟨rfl,rfl,av (fun _=>⟨⟨rfl,rfl⟩,⟨rfl,rfl,rfl⟩,nx _ hb⟩) fun a=>absurd (show((0:Nat):Int)<t.f1 by omega) a⟩
     | false=>rw[QY];unfold NW;exact⟨rfl,rfl,av (fun _=>⟨⟨rfl,rfl⟩,⟨rfl,rfl,rfl⟩,nx _ hb⟩) fun a=>absurd (show((0:Nat):Int)<t.f1 by omega) a⟩
    ·obtain⟨b,g,As,rfl⟩:=h2.uh (bQ _ _ (by omega))
     have bq:=As.lt (by omega)
     have Dr:kQ t c false i=true→∀b',named t c i=b'→_:=fun h b' hb=>nx (.row (b+1) (dY b g fun _=>.agg (aj.cells (kB t i))) 7) (by rw[vH h];exact fu.push As _) b' hb
     have N3:¬kQ t c false i=true→∀b',named t c i=b'→_:=fun h b' hb=>nx (.row b g 7) (by rw[Dp h];exact h2) b' hb
     cases hb:named t c i with
     | false=>rw[Q2];unfold NZ IX;exact⟨rfl,rfl,av (fun k=>⟨⟨rfl,by omega⟩,⟨rfl,rfl⟩,⟨rfl,rfl⟩,Dr (key k _) _ hb⟩) fun k=>⟨rfl,af.mk (fun _=>⟨⟨rfl,by omega⟩,⟨rfl,rfl⟩,⟨rfl,rfl⟩,Dr (by rw[pR k,hb];rfl) _ hb⟩) fun h=>by cases h⟩⟩
     | true=>rw[Q1];unfold N1 IY;exact⟨rfl,rfl,av (fun k=>⟨⟨rfl,by omega⟩,⟨rfl,rfl⟩,⟨rfl,rfl⟩,Dr (key k _) _ hb⟩) fun k=>⟨rfl,af.mk (fun h=>by cases h) fun _=>⟨⟨rfl,rfl⟩,⟨rfl,rfl⟩,N3 (by rw[pR k,hb];decide) _ hb⟩⟩⟩
   ·have h1:fu r1 (fw t c true (i+1)):=h1
    have h2:fu r2 (fw t c false (i+1)):=h2
    rw[show(((2:Nat)):Int)=2 from rfl]
    obtain⟨a,f,GM,rfl⟩:=h1.uh (bQ _ _ (by omega))
    obtain⟨b,g,As,rfl⟩:=h2.uh (bQ _ _ (by omega))
    have nx:xq c t 1 [.box c.cells,.box t.cells,zV c t (.row a f 7) (.row b g 7),.val (ae aj.enc 7 t.f2),.val (.int .i64 ((t.f2.length:Nat):Int)),.val (.int .i64 (IntKind.i64.wrap ((i:Int)+1)))]∧
      10*(t.f2.length-(IntKind.i64.wrap ((i:Int)+1)).toNat)+5<10*(t.f2.length-(i:Int).toNat)+(3-(2:Int).toNat):=by
     rw[i64_in ((i:Int)+1) (by omega)]
     exact⟨⟨hE,i+1,_,_,by omega,h1,h2,rfl⟩,by omega⟩
    cases hb:named t c i with
    | true=>rw[Q3];unfold IZ;exact⟨rfl,⟨rfl,rfl⟩,⟨rfl,rfl⟩,nx⟩
    | false=>rw[Q4];unfold IZ;exact⟨rfl,⟨rfl,rfl⟩,⟨rfl,rfl⟩,nx⟩
  | n+3,hI=>exact hI.elim
theorem Rc:∀ {f:FuncId} {vs:List V} {σ:St} {k:ah},Vk f vs σ k→ag Tryz.prog f vs k σ:=fun h=>aP Rb GL h
end
end Go.Proofs.YtbajncpfmemdgaaGreatDoor
end
section
namespace Go.Proofs.YtbajncpfmemdgaaGreatDoor
open Go Go.Ev
end Go.Proofs.YtbajncpfmemdgaaGreatDoor
end
section
namespace Go.Proofs.YtbajncpfmemdgaaGreatDoor
open Go Go.Ev
end Go.Proofs.YtbajncpfmemdgaaGreatDoor
end
section
namespace Go.Proofs.YtbajncpfmemdgaaGreatDoor
open Go Go.Ev Go.IntWalk
theorem bE.k8 {n i:Nat} {f:Nat→V} {L:List aj} (h:bE n f L) (hi:i<n) (x:aj) {v:V} (hv:v=aj.enc x):bE n (fq f i v) (L.set i x):=by
 subst hv
 obtain⟨rfl,h2⟩:=h
 refine⟨by simp,fun j hj=>?_⟩
 by_cases e:j=i
 ·subst e;rw[vo];simp [List.getD_eq_getElem?_getD,hi]
 ·rw[vp _ _ e,h2 j hj]
  simp [List.getD_eq_getElem?_getD,List.getElem?_set_ne (Ne.symm e)]
section
variable [Env] [aC] {vs:List V} {σ:St} {k:ah}
omit [aC] in
theorem bl.rk {σ:St} {k:ah} {τ:St} {vs us:List V} (h:bn τ vs us) (hk:k (.tuple us) σ):bl σ k (.tuple vs) τ:=bl.ij (.tuple h) hk
omit [Env] [aC] in
theorem l8 {t:aa} {s:List UInt8} {d:Int} (h:bw t s<t.f1):xi t s d=10:=if_pos h
omit [Env] [aC] in
theorem nA {t:aa} {s:List UInt8} {d:Int} (h:¬bw t s<t.f1) (h2:il (jq t s).f1 d=false):xi t s d=5:=(if_neg h).trans (if_neg (by rw[h2];decide))
omit [Env] [aC] in
theorem nB {t:aa} {s:List UInt8} {d:Int} (h:¬bw t s<t.f1) (h2:il (jq t s).f1 d=true):xi t s d=0:=(if_neg h).trans (if_pos h2)
omit [aC] in
theorem Ds {τ:St} {b m:Nat} {ex:Bool} {t:aa} (h:τ.cells b 0 (1*3)=some t.cells):dQ τ (.slice b 0 1 m ex 3) (ae aa.enc 3 [t]):=
 .lT (.slice (es:=[aa.enc t]) h (jh t.clean) (fun v hv=>by rw[List.mem_singleton.1 hv];rfl) rfl)
omit [aC] in
theorem Dt {τ:St}:dQ τ .ai (ae aa.enc 3 []):=.lT (.empty _ _)
omit [aC] in
theorem Ld {τ:St} {e:Int}:bn τ [.ai,.int .i64 e] [ae aa.enc 3 [],.int .i64 e]:=.cons Dt (.cons (.int _ _) .nil)
omit [Env] [aC] in
theorem cY (l:List aa) (s:List UInt8): -1≤aW l s∧aW l s<l.length:=by
 rcases hG s (fun i=>(l.getD i default).f0) l.length with ⟨h,_⟩ | ⟨i,h,hi,_⟩
 ·have:aW l s= -1:=h
  omega
 ·have:aW l s=i:=h
  omega
abbrev I9 (s:List UInt8) (q:Int) (n:Nat) (f:Nat→V):SV:=.nest .ptr [.val (.str s),.val (.int .i64 q),.row n f 7]
def Vm (c:ak) (t:aa):Nat→List SV→Prop
 | 0,ss=>∃i:Nat,(i≤c.f7.length∧aD c.f3=0∧aD c.f4=0∧¬c.f3=c.f4)∧(∀j,j<i→l7 t c j=0)∧ss=[.box t.cells,.box c.cells,.val (.int .i64 (i:Int))]
 | 1,ss=>mJ t c=0∧((ss=[.box t.cells,.box c.cells,.box [.str c.f3,.int .i64 t.f1,.ai],.box [.str c.f4,.int .i64 t.f1,.ai],.val (.int .i64 (0:Int))])∨
   ∃(i a b:Nat) (f g:Nat→V),0<i∧i≤t.f2.length∧bE a f (fw t c true i)∧bE b g (fw t c false i)∧ss=[.box t.cells,.box c.cells,I9 c.f3 t.f1 a f,I9 c.f4 t.f1 b g,.val (.int .i64 (i:Int))])
 | _,_=>False
omit [aC] in
theorem wM {s:List UInt8} {q:Int} {n:Nat} {f:Nat→V} {L:List aj} (h:bE n f L):(I9 s q n f).clean:=by
 intro p hp
 have hp:p∈[SP.val (.str s),SP.val (.int .i64 q),SP.row n f 7]:=hp
 simp only[List.mem_cons,List.not_mem_nil,or_false] at hp
 rcases hp with rfl | rfl | rfl
 ·exact Go.Ev.Clean.str _
 ·exact Go.Ev.Clean.int _ _
 ·exact h.cl
omit [aC] in
theorem Vm.clean {c:ak} {t:aa}:∀k ss,Vm c t k ss→∀s∈ss,s.clean
 | 0,_,⟨_,_,_,e⟩=>by subst e;exact aw (aa.clean t) (aw (ak.clean c) (aE bM))
 | 1,_,⟨_,.inl e⟩=>by
  subst e
  have nb:∀s:List UInt8,(SV.box [.str s,.int .i64 t.f1,.ai]).clean:=fun s=>ax (Go.Ev.Clean.str _) (ax (Go.Ev.Clean.int _ _) (ax Go.Ev.Clean.ai cz))
  exact aw (aa.clean t) (aw (ak.clean c) (aw (nb _) (aw (nb _) (aE bM))))
 | 1,_,⟨_,.inr ⟨_,_,_,_,_,_,_,h1,h2,e⟩⟩=>by subst e;exact aw (aa.clean t) (aw (ak.clean c) (aw (wM h1) (aw (wM h2) (aE bM))))
 | n+2,_,h=>h.elim
end
end Go.Proofs.YtbajncpfmemdgaaGreatDoor
end
section
namespace Go.Proofs.YtbajncpfmemdgaaGreatDoor
open Go Go.Ev Go.IntWalk
theorem cJ {l:List aa} (h:cn l=0):l.length≤16∧∀t∈l,bu t=0:=by
 by_cases h1:l.length>16
 ·rw[yI h1] at h;cases h
 refine⟨by omega,fun t ht=>?_⟩
 have h2:c9 (fun i=>bu (l.getD i default)) l.length=0:=Classical.byContradiction fun h3=>by
  unfold cn at h
  rw[if_neg h1,if_pos h3] at h
  exact h3 h
 obtain⟨i,hi,rfl⟩:=List.getElem_of_mem ht
 have:=(ca _ _).1 h2 i hi
 rwa [cI hi] at this
theorem pS {l:List aa} {c:ak} (h:cn l≠0):ct l c=cn l:=if_pos h
theorem Pz {l:List aa} {c:ak} (h:cn l=0) (h2:c.f0<1∨6<c.f0):ct l c=1:=(if_neg fun g=>g h).trans (if_pos h2)
theorem sC {l:List aa} {c:ak} (h:cn l=0) (h2:¬(c.f0<1∨6<c.f0)) (h3:eB l (aK c)≠0):ct l c=eB l (aK c):=((if_neg fun g=>g h).trans (if_neg h2)).trans (if_pos h3)
theorem sD {l:List aa} {c:ak} (h:cn l=0) (h2:¬(c.f0<1∨6<c.f0)) (h3:eB l (aK c)=0) (h4:kE c (aX l c.f1) (aX l c.f2)≠0):ct l c=kE c (aX l c.f1) (aX l c.f2):=
 (((if_neg fun g=>g h).trans (if_neg h2)).trans (if_neg fun g=>g h3)).trans (if_pos h4)
theorem jr {l:List aa} {c:ak} (h:cn l=0) (h2:¬(c.f0<1∨6<c.f0)) (h3:eB l (aK c)=0) (h4:kE c (aX l c.f1) (aX l c.f2)=0):ct l c=Px l (aK c) (kT c (aX l c.f1)):=
 (((if_neg fun g=>g h).trans (if_neg h2)).trans (if_neg fun g=>g h3)).trans (if_neg fun g=>g h4)
def l9 (l:List aa) (ss:List (List UInt8)) (i:Nat):Prop:=aW l (ss.getD i default)<0
theorem ll {l:List aa} {ss:List (List UInt8)} {i:Nat} (hi:i<ss.length) (h:l9 l ss i) (hj:∀j,j<i→¬l9 l ss j):eB l ss=9:=by
 have h9:(if aW l (ss.getD i default)<0 then(9:Int) else 0)=9:=if_pos h
 have:=jK (fun i=>if aW l (ss.getD i default)<0 then(9:Int) else 0) ss.length i hi (fun g=>by rw[h9] at g;cases g) fun j iY=>if_neg (hj j iY)
 exact this.trans h9
theorem o5 {l:List aa} {ss:List (List UInt8)} (hj:∀j,j<ss.length→¬l9 l ss j):eB l ss=0:=(ca _ _).2 fun j h=>if_neg (hj j h)
def o6 (l:List aa) (ss:List (List UInt8)) (o:List aa) (i:Nat):Prop:=0≤aW l (o.getD i default).f0∧eT ss (o.getD i default).f0<0
theorem oz {l o:List aa} {ss:List (List UInt8)} {i:Nat} (hi:i<o.length) (h:o6 l ss o i) (hj:∀j,j<i→¬o6 l ss o j):Px l ss o=12:=by
 have h9:(if 0≤aW l (o.getD i default).f0∧eT ss (o.getD i default).f0<0 then(12:Int) else 0)=12:=if_pos h
 have:=jK (fun i=>if 0≤aW l (o.getD i default).f0∧eT ss (o.getD i default).f0<0 then(12:Int) else 0) o.length i hi (fun g=>by rw[h9] at g;cases g) fun j iY=>if_neg (hj j iY)
 exact this.trans h9
theorem rl {l o:List aa} {ss:List (List UInt8)} (hj:∀j,j<o.length→¬o6 l ss o j):Px l ss o=0:=(ca _ _).2 fun j h=>if_neg (hj j h)
theorem o7 {l:List aa} {c:ak} (hr:¬(c.f0<1∨6<c.f0)) (hj:∀j,j<(aK c).length→¬l9 l (aK c) j):(c.f0≠1→0≤aW l c.f1)∧(c.f0=6→0≤aW l c.f2):=by
 refine⟨fun h=>?_,fun h=>?_⟩
 ·by_cases h6:c.f0=6
  ·have:=hj 0 (by rw[o3 h6];exact Nat.zero_lt_succ _)
   unfold l9 at this
   rw[o3 h6] at this
   exact Int.not_lt.1 this
  ·have hs:=kq (c:=c) (by omega)
   have:=hj 0 (by rw[hs];exact Nat.zero_lt_succ _)
   unfold l9 at this
   rw[hs] at this
   exact Int.not_lt.1 this
 ·have:=hj 1 (by rw[o3 h];exact Nat.le_refl _)
  unfold l9 at this
  rw[o3 h] at this
  exact Int.not_lt.1 this
theorem Du (c:ak):(aK c).length≤2:=by
 unfold aK
 split
 ·exact Nat.le_refl 2
 ·split
  ·exact Nat.le_succ 1
  ·exact Nat.zero_le _
section
variable [Env] {σ:St} {k:ah}
variable [aC] {vs:List V}
def Zp (l:List aa) (c:ak):Nat→List SV→Prop
 | 0,ss=>∃i:Nat,(cn l=0∧¬(c.f0<1∨6<c.f0))∧i≤(aK c).length∧(∀j,j<i→¬l9 l (aK c) j)∧ss=[.val (ae aa.enc 3 l),.box c.cells,.val (ae V.str 1 (aK c)),.val (.int .i64 (i:Int))]
 | 1,ss=>∃i:Nat,(cn l=0∧¬(c.f0<1∨6<c.f0)∧eB l (aK c)=0∧kE c (aX l c.f1) (aX l c.f2)=0)∧i≤(kT c (aX l c.f1)).length∧(∀j,j<i→¬o6 l (aK c) (kT c (aX l c.f1)) j)∧
   ss=[.val (ae aa.enc 3 l),.val (ae V.str 1 (aK c)),.val (ae aa.enc 3 (kT c (aX l c.f1))),.val (.int .i64 (i:Int))]
 | _,_=>False
omit [Env] [aC] in
theorem o8 (c:ak) (t:aa):(kT c t).length≤2:=by
 unfold kT Da
 repeat' split
 all_goals first | exact Nat.le_refl 2 | exact Nat.le_succ 1
omit [aC] in
theorem Zp.clean {l:List aa} {c:ak}:∀k ss,Zp l c k ss→∀s∈ss,s.clean
 | 0,_,⟨_,_,_,_,e⟩=>by subst e;exact aw (bK l) (aw (ak.clean c) (aw (et _) (aE bM)))
 | 1,_,⟨_,_,_,_,e⟩=>by subst e;exact aw (bK l) (aw (et _) (aw (bK _) (aE bM)))
 | n+2,_,h=>h.elim
omit [aC] in
theorem cK {l:List aa} {c:ak} (hk:k (.tuple [ae aa.enc 3 (bY l c),.int .i64 (ct l c)]) σ) {e:Int} (h:ct l c=e) (h0:e≠0) {τ:St}:bl σ k (.tuple [.ai,.int .i64 e]) τ:=by
 have e':bY l c=[]:=if_neg (by rw[h];exact h0)
 rw[e',h] at hk
 exact bl.rk Ld hk
end
end Go.Proofs.YtbajncpfmemdgaaGreatDoor
end
section
namespace Go.Proofs.YtbajncpfmemdgaaGreatDoor
open Go Go.Ev
def PA [Env] (vs:List V) (σ:St) (k:ah):Prop:=
 ∃(t:aa) (s:List UInt8),vs=[aa.enc t,.str s]∧t.f2.length≤8∧(bw t s= -1→k (.int .i64 (-1)) σ)∧(bw t s=0→k (.int .i64 (0)) σ)∧(bw t s=1→k (.int .i64 (1)) σ)∧(bw t s=2→k (.int .i64 (2)) σ)∧(bw t s=3→k (.int .i64 (3)) σ)∧(bw t s=4→k (.int .i64 (4)) σ)∧(bw t s=5→k (.int .i64 (5)) σ)∧(bw t s=6→k (.int .i64 (6)) σ)∧(bw t s=7→k (.int .i64 (7)) σ)
def Ja [Env]:=kS 226 PA Vk
def GN:Nat→List Nat:=(fun _=>[])
abbrev qm [Env] (A:Nat→List SV→Prop) (Q:V→St→Prop) (c:ak) (l:List aa) (p0:aa) (p1:List UInt8) (p2:Int) (p3:Nat):Prop:=
 (bw p0 p1=p2→((.i64:IntKind)=.i64∧af (decide ((p2:Int)<((l.getD 0 default).f1))) (Q (.tuple [.ai,.int .i64 (10:Int)]) ⟨(St.new (St.new Go.Ev.start 0 (.cells 18 [] (an (ak.cells c) .leaf 0) true false)) 1 (.cells 3 [] (an (aa.cells (l.getD 0 default)) .leaf 0) true false)).heap,2⟩) (((0≤(p2:Int)∧(p2:Int)<((((l.getD 0 default).f2).length:Nat):Int))∧af ((!(il ((((l.getD 0 default).f2).getD p3 default).f1) c.f6))) (Q (.tuple [.ai,.int .i64 (5:Int)]) ⟨(St.new (St.new Go.Ev.start 0 (.cells 18 [] (an (ak.cells c) .leaf 0) true false)) 1 (.cells 3 [] (an (aa.cells (l.getD 0 default)) .leaf 0) true false)).heap,13⟩) ((∃b0:List aj,[ae aj.enc 7 ((l.getD 0 default).f2)]=[ae aj.enc 7 b0]∧(0<b0.length∧b0.length≤1000)∧((0≤(p2:Int)∧(p2:Int)<((b0.length:Nat):Int))∧(p3<b0.length∧(p3<b0.length∧(sU (⟨((b0.getD p3 default).f3.f0),((b0.getD p3 default).f3.f1),((b0.getD p3 default).f3.f2),((b0.getD p3 default).f3.f3)⟩:ay)∧(p3<b0.length∧(∃(b1:aa) (b2:Int),bn ⟨(St.new (St.new (St.new Go.Ev.start 0 (.cells 18 [] (an (ak.cells c) .leaf 0) true false)) 1 (.cells 3 [] (an [.str ((l.getD 0 default).f0),.int .i64 ((l.getD 0 default).f1),.own 13 b0.length 7] .leaf 0) true false)) 13 (.row b0.length (fq (fq (fun i=>aj.enc (b0.getD i default)) p3 (.agg [.str ((b0.getD p3 default).f0),.int .i64 c.f6,.bool (b0.getD p3 default).f2,.int .i64 ((b0.getD p3 default).f3.f0),.int .i64 ((b0.getD p3 default).f3.f1),.int .u64 ((b0.getD p3 default).f3.f2),.str ((b0.getD p3 default).f3.f3)])) p3 (.agg [.str ((b0.getD p3 default).f0),.int .i64 c.f6,.bool (b0.getD p3 default).f2,.int .i64 ((uc (⟨((b0.getD p3 default).f3.f0),((b0.getD p3 default).f3.f1),((b0.getD p3 default).f3.f2),((b0.getD p3 default).f3.f3)⟩:ay) c.f6).f0),.int .i64 ((uc (⟨((b0.getD p3 default).f3.f0),((b0.getD p3 default).f3.f1),((b0.getD p3 default).f3.f2),((b0.getD p3 default).f3.f3)⟩:ay) c.f6).f1),.int .u64 ((uc (⟨((b0.getD p3 default).f3.f0),((b0.getD p3 default).f3.f1),((b0.getD p3 default).f3.f2),((b0.getD p3 default).f3.f3)⟩:ay) c.f6).f2),.str ((uc (⟨((b0.getD p3 default).f3.f0),((b0.getD p3 default).f3.f1),((b0.getD p3 default).f3.f2),((b0.getD p3 default).f3.f3)⟩:ay) c.f6).f3)])) 7 false)).heap,28⟩ [.agg [.str ((l.getD 0 default).f0),.int .i64 ((l.getD 0 default).f1),.own 13 b0.length 7],.int .i64 (0:Int)] [aa.enc b1,.int .i64 b2]∧(b2=0→Q (.tuple [.own 28 (1) 3,.int .i64 (0:Int)]) ⟨(St.new Go.Ev.start 28 (.row (1) (fun i=>aa.enc (([b1]).getD i default)) 3 false)).heap,29⟩)∧(b2≠0→Q (.tuple [.ai,.int .i64 b2]) ⟨Go.Ev.start.heap,28⟩)))))))))))))
theorem abv [Env] (A:Nat→List SV→Prop) (Q:V→St→Prop) (c:ak) (l:List aa):WE Tryz.prog 309 Tryz.f309 Ja 0 GN A Q [ak.enc c,ae aa.enc 3 l] Go.Ev.start=
  (((0≤(0:Int)∧(0:Int)<((l.length:Nat):Int))∧(∃(o9:aa) (qn:List UInt8),[.agg (aa.cells (l.getD 0 default)),.str c.f5]=[aa.enc o9,.str qn]∧o9.f2.length≤8∧(qm A Q c l o9 qn (-1) 0)∧(qm A Q c l o9 qn 0 0)∧(qm A Q c l o9 qn 1 1)∧(qm A Q c l o9 qn 2 2)∧(qm A Q c l o9 qn 3 3)∧(qm A Q c l o9 qn 4 4)∧(qm A Q c l o9 qn 5 5)∧(qm A Q c l o9 qn 6 6)∧(qm A Q c l o9 qn 7 7)))):=by kernel_rfl
def Vn [Env] (vs:List V) (σ:St) (k:ah):Prop:=
 ∃(c:ak) (l:List aa),bn σ vs [ak.enc c,ae aa.enc 3 l]∧(fi c∧c.f0=4∧c.f7.length≤1000000∧1≤l.length∧l.length≤16∧∀t∈l,dz t∧bu t=0)∧(kE c (l.getD 0 default) (l.getD 1 default)=0→k (.tuple [.own σ.next (kT c (l.getD 0 default)).length 3,.int .i64 0]) ((void σ.next).new σ.next (.row (kT c (l.getD 0 default)).length (fun i=>aa.enc ((kT c (l.getD 0 default)).getD i default)) 3 false)))∧(kE c (l.getD 0 default) (l.getD 1 default)≠0→k (.tuple [.ai,.int .i64 (kE c (l.getD 0 default) (l.getD 1 default))]) (void σ.next))
def Vo [Env]:=kS 309 Vn Ja
def Vp [Env] (vs:List V) (σ:St) (k:ah):Prop:=
 ∃l:List aj,vs=[ae aj.enc 7 l]∧(0<l.length∧l.length≤1000)∧k (ae aj.enc 7 l) σ
def fH [Env]:=kS 74 Vp Vo
def dI:Nat→List Nat:=(fun i=>match i with | 0=>[0,6,8,9,30,31,32] | 1=>[0,6,9,13,58,59,60] | _=>[])
abbrev pa [Env] (A:Nat→List SV→Prop) (Q:V→St→Prop) (l:List aa) (c:ak) (p0:ak) (p1:Int) (p2:Nat):Prop:=
 (p0.f0=p1→(∃b0:List aa,[ae aa.enc 3 l]=[ae aa.enc 3 b0]∧(∀b1∈b0,gH b1)∧((.i64:IntKind)=.i64∧af (decide ((cn b0)≠(0:Int))) (Q (.tuple [.ai,.int .i64 (cn b0)]) ⟨(St.new Go.Ev.start 0 (.cells 18 [] (an (ak.cells c) .leaf 0) true false)).heap,1⟩) ((∃b2:ak,[ak.enc p0]=[ak.enc b2]∧A 0 [.val (ae aa.enc 3 l),.val (.iface p2 (ak.enc p0)),.val (.ai),.val (ae V.str 1 (([b2.f1]))),.val (ae V.str 1 (([b2.f1]))),.val (.int .i64 ((((([b2.f1])).length:Nat):Int))),.val (.int .i64 (0:Int))])))))
theorem Dv [Env] (A:Nat→List SV→Prop) (Q:V→St→Prop) (l:List aa) (c:ak):WE Tryz.prog 30 Tryz.f30 fH 0 dI A Q [ae aa.enc 3 l,ak.enc c] Go.Ev.start=
  ((∃mL:ak,[.agg (ak.cells c)]=[ak.enc mL]∧(mL.f0=1→(∃Jb:List aa,[ae aa.enc 3 l]=[ae aa.enc 3 Jb]∧(∀t∈Jb,gH t)∧((.i64:IntKind)=.i64∧af (decide ((cn Jb)≠(0:Int))) (Q (.tuple [.ai,.int .i64 (cn Jb)]) ⟨(St.new Go.Ev.start 0 (.cells 18 [] (an (ak.cells c) .leaf 0) true false)).heap,1⟩) ((∃abw:ak,[ak.enc mL]=[ak.enc abw]∧A 0 [.val (ae aa.enc 3 l),.val (.iface 159 (ak.enc mL)),.val (.ai),.val (ae V.str 1 ((([]:List (List UInt8))))),.val (ae V.str 1 ((([]:List (List UInt8))))),.val (.int .i64 (((((([]:List (List UInt8)))).length:Nat):Int))),.val (.int .i64 (0:Int))])))))∧(pa A Q l c mL 2 160)∧(pa A Q l c mL 3 161)∧(pa A Q l c mL 4 162)∧(pa A Q l c mL 5 163)∧(mL.f0=6→(∃Jc:List aa,[ae aa.enc 3 l]=[ae aa.enc 3 Jc]∧(∀t∈Jc,gH t)∧((.i64:IntKind)=.i64∧af (decide ((cn Jc)≠(0:Int))) (Q (.tuple [.ai,.int .i64 (cn Jc)]) ⟨(St.new Go.Ev.start 0 (.cells 18 [] (an (ak.cells c) .leaf 0) true false)).heap,1⟩) ((∃xr:ak,[ak.enc mL]=[ak.enc xr]∧A 0 [.val (ae aa.enc 3 l),.val (.iface 164 (ak.enc mL)),.val (.ai),.val (ae V.str 1 (([xr.f1,xr.f2]))),.val (ae V.str 1 (([xr.f1,xr.f2]))),.val (.int .i64 ((((([xr.f1,xr.f2])).length:Nat):Int))),.val (.int .i64 (0:Int))])))))∧((mL.f0<1∨6<mL.f0)→(∃Jd:List aa,[ae aa.enc 3 l]=[ae aa.enc 3 Jd]∧(∀t∈Jd,gH t)∧((.i64:IntKind)=.i64∧af (decide ((cn Jd)≠(0:Int))) (Q (.tuple [.ai,.int .i64 (cn Jd)]) ⟨(St.new Go.Ev.start 0 (.cells 18 [] (an (ak.cells c) .leaf 0) true false)).heap,1⟩) (Q (.tuple [.ai,.int .i64 (1:Int)]) ⟨(St.new Go.Ev.start 0 (.cells 18 [] (an (ak.cells c) .leaf 0) true false)).heap,1⟩)))))):=by kernel_rfl
abbrev nK [Env] (A:Nat→List SV→Prop) (Q:V→St→Prop) (l:List aa) (c:ak) (s:List (List UInt8)) (m i:Int) (p0:Nat) (p1:Int) (p2:Nat):Prop:=
 ((.i64:IntKind)=.i64∧af (decide (i<m)) (((0≤i∧i<((s.length:Nat):Int))∧(∃(b0:List aa) (b1:List UInt8),[ae aa.enc 3 l,.str ((s.getD i.toNat default))]=[ae aa.enc 3 b0,.str b1]∧b0.length≤1000000∧((.i64:IntKind)=.i64∧af (decide ((aW b0 b1)<(0:Int))) (Q (.tuple [.ai,.int .i64 (9:Int)]) ⟨Go.Ev.start.heap,0⟩) (((0≤(aW b0 b1)∧(aW b0 b1)<((l.length:Nat):Int))∧(((1:Nat)=1∧(1:Nat)=1∧1*3=1*3)∧A 0 [.val (ae aa.enc 3 l),.val (.iface p0 (ak.enc c)),.row 1 (fun _=>.agg (aa.cells (l.getD (aW b0 b1).toNat default))) 3,.val (ae V.str 1 s),.val (ae V.str 1 s),.val (.int .i64 m),.val (.int .i64 (IntKind.i64.wrap (i+(1:Int))))]))))))) ((∃(b2:ak) (b3:List aa),bn ⟨Go.Ev.start.heap,0⟩ [ak.enc c,.ai] [ak.enc b2,ae aa.enc 3 b3]∧(fi b2∧b2.f0=p1∧b2.f7.length≤1000000∧p2≤b3.length∧b3.length≤16∧∀b4∈b3,dz b4∧bu b4=0)∧(kE b2 (b3.getD 0 default) (b3.getD 1 default)=0→((.i64:IntKind)=.i64∧((((kT b2 (b3.getD 0 default)).length)=((kT b2 (b3.getD 0 default)).length)∧3=3)∧A 1 [.val (ae aa.enc 3 l),.val (.iface p0 (ak.enc c)),.val (ae V.str 1 s),.row ((kT b2 (b3.getD 0 default)).length) (fun i=>aa.enc ((kT b2 (b3.getD 0 default)).getD i default)) 3,.al 0 ((kT b2 (b3.getD 0 default)).length) 3,.val (.int .i64 ((((kT b2 (b3.getD 0 default)).length:Nat):Int))),.val (.int .i64 (0:Int))])))∧(kE b2 (b3.getD 0 default) (b3.getD 1 default)≠0→((.i64:IntKind)=.i64∧af (decide (((kE b2 (b3.getD 0 default) (b3.getD 1 default)))≠(0:Int))) (Q (.tuple [.ai,.int .i64 ((kE b2 (b3.getD 0 default) (b3.getD 1 default)))]) ⟨Go.Ev.start.heap,0⟩) (A 1 [.val (ae aa.enc 3 l),.val (.iface p0 (ak.enc c)),.val (ae V.str 1 s),.val (.ai),.val (.ai),.val (.int .i64 (0:Int)),.val (.int .i64 (0:Int))]))))))
theorem Xg [Env] (A:Nat→List SV→Prop) (Q:V→St→Prop) (l:List aa) (c:ak) (s:List (List UInt8)) (m i:Int):WL Tryz.prog 30 Tryz.f30 fH 0 dI A Q 0 [.val (ae aa.enc 3 l),.val (.iface 159 (ak.enc c)),.val (.ai),.val (ae V.str 1 s),.val (ae V.str 1 s),.val (.int .i64 m),.val (.int .i64 i)]=
  ((nK A Q l c s m i 159 1 0)):=by kernel_rfl
theorem Xh [Env] (A:Nat→List SV→Prop) (Q:V→St→Prop) (l:List aa) (c:ak) (s:List (List UInt8)) (m i:Int):WL Tryz.prog 30 Tryz.f30 fH 0 dI A Q 0 [.val (ae aa.enc 3 l),.val (.iface 160 (ak.enc c)),.val (.ai),.val (ae V.str 1 s),.val (ae V.str 1 s),.val (.int .i64 m),.val (.int .i64 i)]=
  ((nK A Q l c s m i 160 2 1)):=by kernel_rfl
theorem Xi [Env] (A:Nat→List SV→Prop) (Q:V→St→Prop) (l:List aa) (c:ak) (s:List (List UInt8)) (m i:Int):WL Tryz.prog 30 Tryz.f30 fH 0 dI A Q 0 [.val (ae aa.enc 3 l),.val (.iface 161 (ak.enc c)),.val (.ai),.val (ae V.str 1 s),.val (ae V.str 1 s),.val (.int .i64 m),.val (.int .i64 i)]=
  ((nK A Q l c s m i 161 3 1)):=by kernel_rfl
theorem Xj [Env] (A:Nat→List SV→Prop) (Q:V→St→Prop) (l:List aa) (c:ak) (s:List (List UInt8)) (m i:Int):WL Tryz.prog 30 Tryz.f30 fH 0 dI A Q 0 [.val (ae aa.enc 3 l),.val (.iface 162 (ak.enc c)),.val (.ai),.val (ae V.str 1 s),.val (ae V.str 1 s),.val (.int .i64 m),.val (.int .i64 i)]=
  ((nK A Q l c s m i 162 4 1)):=by kernel_rfl
theorem Xk [Env] (A:Nat→List SV→Prop) (Q:V→St→Prop) (l:List aa) (c:ak) (s:List (List UInt8)) (m i:Int):WL Tryz.prog 30 Tryz.f30 fH 0 dI A Q 0 [.val (ae aa.enc 3 l),.val (.iface 163 (ak.enc c)),.val (.ai),.val (ae V.str 1 s),.val (ae V.str 1 s),.val (.int .i64 m),.val (.int .i64 i)]=
  ((nK A Q l c s m i 163 5 1)):=by kernel_rfl
theorem Xl [Env] (A:Nat→List SV→Prop) (Q:V→St→Prop) (l:List aa) (c:ak) (s:List (List UInt8)) (m i:Int):WL Tryz.prog 30 Tryz.f30 fH 0 dI A Q 0 [.val (ae aa.enc 3 l),.val (.iface 164 (ak.enc c)),.val (.ai),.val (ae V.str 1 s),.val (ae V.str 1 s),.val (.int .i64 m),.val (.int .i64 i)]=
  ((nK A Q l c s m i 164 6 2)):=by kernel_rfl
abbrev pc [Env] (A:Nat→List SV→Prop) (Q:V→St→Prop) (l:List aa) (c:ak) (s:List (List UInt8)) (n:Nat) (f:Nat→V) (m i:Int) (p0:Nat) (p1:Int) (p2:Nat):Prop:=
 ((.i64:IntKind)=.i64∧af (decide (i<m)) (((0≤i∧i<((s.length:Nat):Int))∧(∃(b0:List aa) (b1:List UInt8),[ae aa.enc 3 l,.str ((s.getD i.toNat default))]=[ae aa.enc 3 b0,.str b1]∧b0.length≤1000000∧((.i64:IntKind)=.i64∧af (decide ((aW b0 b1)<(0:Int))) (Q (.tuple [.ai,.int .i64 (9:Int)]) ⟨(St.new Go.Ev.start 0 (.row n f 3 false)).heap,1⟩) (((0≤(aW b0 b1)∧(aW b0 b1)<((l.length:Nat):Int))∧((n=n∧(n+1)*48≤1099511627776)∧(((n+1)=(n+1)∧3=3)∧A 0 [.val (ae aa.enc 3 l),.val (.iface p0 (ak.enc c)),.row (n+1) (dY n f (fun _=>.agg (aa.cells (l.getD (aW b0 b1).toNat default)))) 3,.val (ae V.str 1 s),.val (ae V.str 1 s),.val (.int .i64 m),.val (.int .i64 (IntKind.i64.wrap (i+(1:Int))))])))))))) ((∃(b2:ak) (b3:List aa),bn ⟨(St.new Go.Ev.start 0 (.row n f 3 false)).heap,1⟩ [ak.enc c,.own 0 n 3] [ak.enc b2,ae aa.enc 3 b3]∧(fi b2∧b2.f0=p1∧b2.f7.length≤1000000∧p2≤b3.length∧b3.length≤16∧∀b4∈b3,dz b4∧bu b4=0)∧(kE b2 (b3.getD 0 default) (b3.getD 1 default)=0→((.i64:IntKind)=.i64∧((((kT b2 (b3.getD 0 default)).length)=((kT b2 (b3.getD 0 default)).length)∧3=3)∧A 1 [.val (ae aa.enc 3 l),.val (.iface p0 (ak.enc c)),.val (ae V.str 1 s),.row ((kT b2 (b3.getD 0 default)).length) (fun i=>aa.enc ((kT b2 (b3.getD 0 default)).getD i default)) 3,.al 0 ((kT b2 (b3.getD 0 default)).length) 3,.val (.int .i64 ((((kT b2 (b3.getD 0 default)).length:Nat):Int))),.val (.int .i64 (0:Int))])))∧(kE b2 (b3.getD 0 default) (b3.getD 1 default)≠0→((.i64:IntKind)=.i64∧af (decide (((kE b2 (b3.getD 0 default) (b3.getD 1 default)))≠(0:Int))) (Q (.tuple [.ai,.int .i64 ((kE b2 (b3.getD 0 default) (b3.getD 1 default)))]) ⟨Go.Ev.start.heap,1⟩) (A 1 [.val (ae aa.enc 3 l),.val (.iface p0 (ak.enc c)),.val (ae V.str 1 s),.val (.ai),.val (.ai),.val (.int .i64 (0:Int)),.val (.int .i64 (0:Int))]))))))
theorem Xm [Env] (A:Nat→List SV→Prop) (Q:V→St→Prop) (l:List aa) (c:ak) (s:List (List UInt8)) (n:Nat) (f:Nat→V) (m i:Int):WL Tryz.prog 30 Tryz.f30 fH 0 dI A Q 0 [.val (ae aa.enc 3 l),.val (.iface 160 (ak.enc c)),.row n f 3,.val (ae V.str 1 s),.val (ae V.str 1 s),.val (.int .i64 m),.val (.int .i64 i)]=
  ((pc A Q l c s n f m i 160 2 1)):=by kernel_rfl
theorem Xn [Env] (A:Nat→List SV→Prop) (Q:V→St→Prop) (l:List aa) (c:ak) (s:List (List UInt8)) (n:Nat) (f:Nat→V) (m i:Int):WL Tryz.prog 30 Tryz.f30 fH 0 dI A Q 0 [.val (ae aa.enc 3 l),.val (.iface 161 (ak.enc c)),.row n f 3,.val (ae V.str 1 s),.val (ae V.str 1 s),.val (.int .i64 m),.val (.int .i64 i)]=
  ((pc A Q l c s n f m i 161 3 1)):=by kernel_rfl
theorem Xo [Env] (A:Nat→List SV→Prop) (Q:V→St→Prop) (l:List aa) (c:ak) (s:List (List UInt8)) (n:Nat) (f:Nat→V) (m i:Int):WL Tryz.prog 30 Tryz.f30 fH 0 dI A Q 0 [.val (ae aa.enc 3 l),.val (.iface 162 (ak.enc c)),.row n f 3,.val (ae V.str 1 s),.val (ae V.str 1 s),.val (.int .i64 m),.val (.int .i64 i)]=
  ((pc A Q l c s n f m i 162 4 1)):=by kernel_rfl
theorem Xp [Env] (A:Nat→List SV→Prop) (Q:V→St→Prop) (l:List aa) (c:ak) (s:List (List UInt8)) (n:Nat) (f:Nat→V) (m i:Int):WL Tryz.prog 30 Tryz.f30 fH 0 dI A Q 0 [.val (ae aa.enc 3 l),.val (.iface 163 (ak.enc c)),.row n f 3,.val (ae V.str 1 s),.val (ae V.str 1 s),.val (.int .i64 m),.val (.int .i64 i)]=
  ((pc A Q l c s n f m i 163 5 1)):=by kernel_rfl
theorem PB [Env] (A:Nat→List SV→Prop) (Q:V→St→Prop) (l:List aa) (c:ak) (s:List (List UInt8)) (n:Nat) (f:Nat→V) (m i:Int):WL Tryz.prog 30 Tryz.f30 fH 0 dI A Q 0 [.val (ae aa.enc 3 l),.val (.iface 164 (ak.enc c)),.row n f 3,.val (ae V.str 1 s),.val (ae V.str 1 s),.val (.int .i64 m),.val (.int .i64 i)]=
  ((pc A Q l c s n f m i 164 6 2)):=by kernel_rfl
end Go.Proofs.YtbajncpfmemdgaaGreatDoor
end
section
namespace Go.Proofs.YtbajncpfmemdgaaGreatDoor
open Go Go.Ev
abbrev xu [Env] (A:Nat→List SV→Prop) (Q:V→St→Prop) (l:List aa) (c:ak) (s:List (List UInt8)) (n:Nat) (T:List aa) (m i:Int) (p0:Nat):Prop:=
 (∃b0:List aj,[ae aj.enc 7 ((T.getD i.toNat default).f2)]=[ae aj.enc 7 b0]∧(0<b0.length∧b0.length≤1000)∧((0≤i∧i<((n:Nat):Int))∧(i.toNat<n∧((n=n∧3=3)∧A 1 [.val (ae aa.enc 3 l),.val (.iface p0 (ak.enc c)),.val (ae V.str 1 s),.row n (fq (fun i=>aa.enc (T.getD i default)) i.toNat (.agg [.str ((T.getD i.toNat default).f0),.int .i64 ((T.getD i.toNat default).f1),ae aj.enc 7 b0])) 3,.al 0 n 3,.val (.int .i64 m),.val (.int .i64 (IntKind.i64.wrap (i+(1:Int))))]))))
abbrev qo [Env] (A:Nat→List SV→Prop) (Q:V→St→Prop) (l:List aa) (c:ak) (s:List (List UInt8)) (n:Nat) (T:List aa) (m i:Int) (p0:Nat):Prop:=
 ((.i64:IntKind)=.i64∧af (decide (i<m)) (((0≤i∧i<((n:Nat):Int))∧(i.toNat<n∧(∃(b0:List aa) (b1:List UInt8),[ae aa.enc 3 l,.str ((T.getD i.toNat default).f0)]=[ae aa.enc 3 b0,.str b1]∧b0.length≤1000000∧((.i64:IntKind)=.i64∧af (decide ((aW b0 b1)≥(0:Int))) ((∃b2:ak,([.iface p0 (ak.enc c)]:List V)=[.iface p0 (ak.enc b2)]∧((p0:TypeId)=159∨(p0:TypeId)=160∨(p0:TypeId)=161∨(p0:TypeId)=162∨(p0:TypeId)=163∨(p0:TypeId)=164)∧(∃b3:Nat→List UInt8,(fun i=>V.str (s.getD i default))=(fun i=>V.str (b3 i))∧s.length≤1000000∧af ((!(decide (0≤cd ((T.getD i.toNat default).f0) b3 s.length)))) (Q (.tuple [.ai,.int .i64 (12:Int)]) ⟨(St.new (St.new Go.Ev.start 0 (.row n (fun i=>aa.enc (T.getD i default)) 3 false)) 1 (.cells 3 [] (an (aa.cells (T.getD i.toNat default)) .leaf 0) true false)).heap,2⟩) ((xu A Q l c s n T m i p0))))) ((xu A Q l c s n T m i p0))))))) (Q (.tuple [.own 0 n 3,.int .i64 (0:Int)]) ⟨(St.new Go.Ev.start 0 (.row n (fun i=>aa.enc (T.getD i default)) 3 false)).heap,1⟩))
theorem Xq [Env] (A:Nat→List SV→Prop) (Q:V→St→Prop) (l:List aa) (c:ak) (s:List (List UInt8)) (n:Nat) (T:List aa) (m i:Int):WL Tryz.prog 30 Tryz.f30 fH 0 dI A Q 1 [.val (ae aa.enc 3 l),.val (.iface 159 (ak.enc c)),.val (ae V.str 1 s),.row n (fun i=>aa.enc (T.getD i default)) 3,.al 0 n 3,.val (.int .i64 m),.val (.int .i64 i)]=
  (((.i64:IntKind)=.i64∧af (decide (i<m)) (((0≤i∧i<((n:Nat):Int))∧(i.toNat<n∧(∃(N4:List aa) (Vq:List UInt8),[ae aa.enc 3 l,.str ((T.getD i.toNat default).f0)]=[ae aa.enc 3 N4,.str Vq]∧N4.length≤1000000∧((.i64:IntKind)=.i64∧af (decide ((aW N4 Vq)≥(0:Int))) ((∃abx:ak,([.iface 159 (ak.enc c)]:List V)=[.iface 159 (ak.enc abx)]∧((159:TypeId)=159∨(159:TypeId)=160∨(159:TypeId)=161∨(159:TypeId)=162∨(159:TypeId)=163∨(159:TypeId)=164)∧Q (.tuple [.ai,.int .i64 (12:Int)]) ⟨(St.new (St.new Go.Ev.start 0 (.row n (fun i=>aa.enc (T.getD i default)) 3 false)) 1 (.cells 3 [] (an (aa.cells (T.getD i.toNat default)) .leaf 0) true false)).heap,2⟩)) ((∃Je:List aj,[ae aj.enc 7 ((T.getD i.toNat default).f2)]=[ae aj.enc 7 Je]∧(0<Je.length∧Je.length≤1000)∧((0≤i∧i<((n:Nat):Int))∧(i.toNat<n∧((n=n∧3=3)∧A 1 [.val (ae aa.enc 3 l),.val (.iface 159 (ak.enc c)),.val (ae V.str 1 s),.row n (fq (fun i=>aa.enc (T.getD i default)) i.toNat (.agg [.str ((T.getD i.toNat default).f0),.int .i64 ((T.getD i.toNat default).f1),ae aj.enc 7 Je])) 3,.al 0 n 3,.val (.int .i64 m),.val (.int .i64 (IntKind.i64.wrap (i+(1:Int))))])))))))))) (Q (.tuple [.own 0 n 3,.int .i64 (0:Int)]) ⟨(St.new Go.Ev.start 0 (.row n (fun i=>aa.enc (T.getD i default)) 3 false)).heap,1⟩))):=by kernel_rfl
theorem Xr [Env] (A:Nat→List SV→Prop) (Q:V→St→Prop) (l:List aa) (c:ak) (s:List (List UInt8)) (n:Nat) (T:List aa) (m i:Int):WL Tryz.prog 30 Tryz.f30 fH 0 dI A Q 1 [.val (ae aa.enc 3 l),.val (.iface 160 (ak.enc c)),.val (ae V.str 1 s),.row n (fun i=>aa.enc (T.getD i default)) 3,.al 0 n 3,.val (.int .i64 m),.val (.int .i64 i)]=
  ((qo A Q l c s n T m i 160)):=by kernel_rfl
theorem Xs [Env] (A:Nat→List SV→Prop) (Q:V→St→Prop) (l:List aa) (c:ak) (s:List (List UInt8)) (n:Nat) (T:List aa) (m i:Int):WL Tryz.prog 30 Tryz.f30 fH 0 dI A Q 1 [.val (ae aa.enc 3 l),.val (.iface 161 (ak.enc c)),.val (ae V.str 1 s),.row n (fun i=>aa.enc (T.getD i default)) 3,.al 0 n 3,.val (.int .i64 m),.val (.int .i64 i)]=
  ((qo A Q l c s n T m i 161)):=by kernel_rfl
theorem Xt [Env] (A:Nat→List SV→Prop) (Q:V→St→Prop) (l:List aa) (c:ak) (s:List (List UInt8)) (n:Nat) (T:List aa) (m i:Int):WL Tryz.prog 30 Tryz.f30 fH 0 dI A Q 1 [.val (ae aa.enc 3 l),.val (.iface 162 (ak.enc c)),.val (ae V.str 1 s),.row n (fun i=>aa.enc (T.getD i default)) 3,.al 0 n 3,.val (.int .i64 m),.val (.int .i64 i)]=
  ((qo A Q l c s n T m i 162)):=by kernel_rfl
theorem Xu [Env] (A:Nat→List SV→Prop) (Q:V→St→Prop) (l:List aa) (c:ak) (s:List (List UInt8)) (n:Nat) (T:List aa) (m i:Int):WL Tryz.prog 30 Tryz.f30 fH 0 dI A Q 1 [.val (ae aa.enc 3 l),.val (.iface 163 (ak.enc c)),.val (ae V.str 1 s),.row n (fun i=>aa.enc (T.getD i default)) 3,.al 0 n 3,.val (.int .i64 m),.val (.int .i64 i)]=
  ((qo A Q l c s n T m i 163)):=by kernel_rfl
theorem Xv [Env] (A:Nat→List SV→Prop) (Q:V→St→Prop) (l:List aa) (c:ak) (s:List (List UInt8)) (n:Nat) (T:List aa) (m i:Int):WL Tryz.prog 30 Tryz.f30 fH 0 dI A Q 1 [.val (ae aa.enc 3 l),.val (.iface 164 (ak.enc c)),.val (ae V.str 1 s),.row n (fun i=>aa.enc (T.getD i default)) 3,.al 0 n 3,.val (.int .i64 m),.val (.int .i64 i)]=
  ((qo A Q l c s n T m i 164)):=by kernel_rfl
def Zq [Env] (vs:List V) (σ:St) (k:ah):Prop:=
 ∃(l:List aa) (c:ak),vs=[ae aa.enc 3 l,ak.enc c]∧(fi c∧c.f7.length≤1000000∧∀t∈l,dz t)∧k (.tuple [ae aa.enc 3 (bY l c),.int .i64 (ct l c)]) σ
def Vr [Env]:=kS 30 Zq fH
end Go.Proofs.YtbajncpfmemdgaaGreatDoor
end
section
namespace Go.Proofs.YtbajncpfmemdgaaGreatDoor
open Go Go.Ev Go.IntWalk
theorem F309:bU Tryz.prog 309 Tryz.f309:=.of (by kernel_rfl) (by kernel_rfl)
theorem F30:bU Tryz.prog 30 Tryz.f30:=.of (by kernel_rfl) (by kernel_rfl)
theorem ln {t:aa} {s:List UInt8} {d:Int} {i:Nat} (h:bw t s=i) (hi:i<t.f2.length):
  bE t.f2.length (fq (fq (fun j=>aj.enc (t.f2.getD j default)) i (aj.enc ⟨(t.f2.getD i default).f0,d,(t.f2.getD i default).f2,(t.f2.getD i default).f3⟩)) i (aj.enc (xj (t.f2.getD i default) d))) (uf t s d).f2:=by
 have e:(uf t s d).f2=(t.f2.set i ⟨(t.f2.getD i default).f0,d,(t.f2.getD i default).f2,(t.f2.getD i default).f3⟩).set i (xj (t.f2.getD i default) d):=by
  rw[List.set_set]
  show t.f2.set (bw t s).toNat (xj (t.f2.getD (bw t s).toNat default) d)=_
  rw[h];rfl
 rw[e]
 exact((bE.of t.f2).k8 hi _ rfl).k8 hi _ rfl
theorem eu {t:aa} {s:List UInt8} {i:Nat} (h:bw t s=i):jq t s=t.f2.getD i default:=by
 show t.f2.getD (bw t s).toNat default=_
 rw[h];rfl
section
variable [Env] [aC] {vs:List V} {σ:St} {k:ah}
theorem N5 (h:PA vs σ k):ag Tryz.prog 226 vs k σ:=by
 obtain⟨t,s,rfl,hn,hm,h0,h1,h2,h3,h4,h5,h6,h7⟩:=h
 refine Gp ⟨t,s,rfl,by omega,?_⟩
 have hb:=xp t s
 generalize hx:bw t s=x at *
 rcases(show x= -1∨x=0∨x=1∨x=2∨x=3∨x=4∨x=5∨x=6∨x=7 by omega) with rfl | rfl | rfl | rfl | rfl | rfl | rfl | rfl | rfl
 ·exact hm rfl
 ·exact h0 rfl
 ·exact h1 rfl
 ·exact h2 rfl
 ·exact h3 rfl
 ·exact h4 rfl
 ·exact h5 rfl
 ·exact h6 rfl
 ·exact h7 rfl
theorem GO:∀ {f:FuncId} {vs:List V} {σ:St} {k:ah},Ja f vs σ k→ag Tryz.prog f vs k σ:=fun h=>aP N5 Rc h
set_option maxRecDepth 100000 in
theorem Re (h:Vn vs σ k):ag Tryz.prog 309 vs k σ:=by
 obtain⟨c,l,hf,⟨hc,h0,_,hl,_,ht⟩,hk,ed⟩:=h
 have ho:wK σ k _ _:=⟨hk,ed⟩
 obtain⟨rj,wL⟩:=ht _ (ba (show 0<l.length by omega))
 have hlen:0<(l.getD 0 default).f2.length∧(l.getD 0 default).f2.length≤8∧1≤(l.getD 0 default).f1:=by have:=(lX wL).1;obtain⟨_,h1,h2,_⟩:=this;omega
 refine ag.mH hf (F309.ck (live:=GN) (call:=Ja) (fun h=>GO h) (by kernel_rfl) ?_)
 rw[I4 h0 (l.getD 0 default),I3 h0 (l.getD 0 default) (l.getD 1 default)] at ho
 have hca:=xp (l.getD 0 default) c.f5
 rw[abv];unfold qm
 refine⟨⟨by omega,by omega⟩,_,_,rfl,hlen.2.1,fun h=>⟨rfl,av (fun a1=>ho.err (l8 (by omega)) (by decide)) fun a1=>absurd (show(-1:Int)<(l.getD 0 default).f1 by omega) a1⟩,?_,?_,?_,?_,?_,?_,?_,?_⟩
 ·intro h
  have hh:bw (l.getD 0 default) c.f5=((0:Nat):Int):=h
  have hi:0<(l.getD 0 default).f2.length:=by omega
  refine⟨rfl,av (fun a1=>ho.err (l8 (by rw[h];exact a1)) (by decide)) fun a1=>⟨⟨by omega,by omega⟩,af.mk (fun a2=>ho.err (nA (by rw[h];exact a1) ?_) (by decide)) fun a2=>⟨(l.getD 0 default).f2,rfl,⟨by omega,by omega⟩,⟨by omega,by omega⟩,by omega,by omega,rj _ (ba hi),by omega,_,_,fx (p:=false) (by rfl) (ln hh hi),ho.one rfl (nB (by rw[h];exact a1) ?_)⟩⟩⟩
  ·rw[Bool.not_eq_true'] at a2;rw[eu hh];exact a2
  ·rw[Bool.not_eq_false'] at a2;rw[eu hh];exact a2
 ·intro h
  have hh:bw (l.getD 0 default) c.f5=((1:Nat):Int):=h
  have hi:1<(l.getD 0 default).f2.length:=by omega
  refine⟨rfl,av (fun a1=>ho.err (l8 (by rw[h];exact a1)) (by decide)) fun a1=>⟨⟨by omega,by omega⟩,af.mk (fun a2=>ho.err (nA (by rw[h];exact a1) ?_) (by decide)) fun a2=>⟨(l.getD 0 default).f2,rfl,⟨by omega,by omega⟩,⟨by omega,by omega⟩,by omega,by omega,rj _ (ba hi),by omega,_,_,fx (p:=false) (by rfl) (ln hh hi),ho.one rfl (nB (by rw[h];exact a1) ?_)⟩⟩⟩
  ·rw[Bool.not_eq_true'] at a2;rw[eu hh];exact a2
  ·rw[Bool.not_eq_false'] at a2;rw[eu hh];exact a2
 ·intro h
  have hh:bw (l.getD 0 default) c.f5=((2:Nat):Int):=h
  have hi:2<(l.getD 0 default).f2.length:=by omega
  refine⟨rfl,av (fun a1=>ho.err (l8 (by rw[h];exact a1)) (by decide)) fun a1=>⟨⟨by omega,by omega⟩,af.mk (fun a2=>ho.err (nA (by rw[h];exact a1) ?_) (by decide)) fun a2=>⟨(l.getD 0 default).f2,rfl,⟨by omega,by omega⟩,⟨by omega,by omega⟩,by omega,by omega,rj _ (ba hi),by omega,_,_,fx (p:=false) (by rfl) (ln hh hi),ho.one rfl (nB (by rw[h];exact a1) ?_)⟩⟩⟩
  ·rw[Bool.not_eq_true'] at a2;rw[eu hh];exact a2
  ·rw[Bool.not_eq_false'] at a2;rw[eu hh];exact a2
 ·intro h
  have hh:bw (l.getD 0 default) c.f5=((3:Nat):Int):=h
  have hi:3<(l.getD 0 default).f2.length:=by omega
  refine⟨rfl,av (fun a1=>ho.err (l8 (by rw[h];exact a1)) (by decide)) fun a1=>⟨⟨by omega,by omega⟩,af.mk (fun a2=>ho.err (nA (by rw[h];exact a1) ?_) (by decide)) fun a2=>⟨(l.getD 0 default).f2,rfl,⟨by omega,by omega⟩,⟨by omega,by omega⟩,by omega,by omega,rj _ (ba hi),by omega,_,_,fx (p:=false) (by rfl) (ln hh hi),ho.one rfl (nB (by rw[h];exact a1) ?_)⟩⟩⟩
  ·rw[Bool.not_eq_true'] at a2;rw[eu hh];exact a2
  ·rw[Bool.not_eq_false'] at a2;rw[eu hh];exact a2
 ·intro h
  have hh:bw (l.getD 0 default) c.f5=((4:Nat):Int):=h
  have hi:4<(l.getD 0 default).f2.length:=by omega
  refine⟨rfl,av (fun a1=>ho.err (l8 (by rw[h];exact a1)) (by decide)) fun a1=>⟨⟨by omega,by omega⟩,af.mk (fun a2=>ho.err (nA (by rw[h];exact a1) ?_) (by decide)) fun a2=>⟨(l.getD 0 default).f2,rfl,⟨by omega,by omega⟩,⟨by omega,by omega⟩,by omega,by omega,rj _ (ba hi),by omega,_,_,fx (p:=false) (by rfl) (ln hh hi),ho.one rfl (nB (by rw[h];exact a1) ?_)⟩⟩⟩
  ·rw[Bool.not_eq_true'] at a2;rw[eu hh];exact a2
  ·rw[Bool.not_eq_false'] at a2;rw[eu hh];exact a2
 ·intro h
  have hh:bw (l.getD 0 default) c.f5=((5:Nat):Int):=h
  have hi:5<(l.getD 0 default).f2.length:=by omega
  refine⟨rfl,av (fun a1=>ho.err (l8 (by rw[h];exact a1)) (by decide)) fun a1=>⟨⟨by omega,by omega⟩,af.mk (fun a2=>ho.err (nA (by rw[h];exact a1) ?_) (by decide)) fun a2=>⟨(l.getD 0 default).f2,rfl,⟨by omega,by omega⟩,⟨by omega,by omega⟩,by omega,by omega,rj _ (ba hi),by omega,_,_,fx (p:=false) (by rfl) (ln hh hi),ho.one rfl (nB (by rw[h];exact a1) ?_)⟩⟩⟩
  ·rw[Bool.not_eq_true'] at a2;rw[eu hh];exact a2
  ·rw[Bool.not_eq_false'] at a2;rw[eu hh];exact a2
 ·intro h
  have hh:bw (l.getD 0 default) c.f5=((6:Nat):Int):=h
  have hi:6<(l.getD 0 default).f2.length:=by omega
  refine⟨rfl,av (fun a1=>ho.err (l8 (by rw[h];exact a1)) (by decide)) fun a1=>⟨⟨by omega,by omega⟩,af.mk (fun a2=>ho.err (nA (by rw[h];exact a1) ?_) (by decide)) fun a2=>⟨(l.getD 0 default).f2,rfl,⟨by omega,by omega⟩,⟨by omega,by omega⟩,by omega,by omega,rj _ (ba hi),by omega,_,_,fx (p:=false) (by rfl) (ln hh hi),ho.one rfl (nB (by rw[h];exact a1) ?_)⟩⟩⟩
  ·rw[Bool.not_eq_true'] at a2;rw[eu hh];exact a2
  ·rw[Bool.not_eq_false'] at a2;rw[eu hh];exact a2
 ·intro h
  have hh:bw (l.getD 0 default) c.f5=((7:Nat):Int):=h
  have hi:7<(l.getD 0 default).f2.length:=by omega
  refine⟨rfl,av (fun a1=>ho.err (l8 (by rw[h];exact a1)) (by decide)) fun a1=>⟨⟨by omega,by omega⟩,af.mk (fun a2=>ho.err (nA (by rw[h];exact a1) ?_) (by decide)) fun a2=>⟨(l.getD 0 default).f2,rfl,⟨by omega,by omega⟩,⟨by omega,by omega⟩,by omega,by omega,rj _ (ba hi),by omega,_,_,fx (p:=false) (by rfl) (ln hh hi),ho.one rfl (nB (by rw[h];exact a1) ?_)⟩⟩⟩
  ·rw[Bool.not_eq_true'] at a2;rw[eu hh];exact a2
  ·rw[Bool.not_eq_false'] at a2;rw[eu hh];exact a2
theorem Rf:∀ {f:FuncId} {vs:List V} {σ:St} {k:ah},Vo f vs σ k→ag Tryz.prog f vs k σ:=fun h=>aP Re GO h
theorem Rg (h:Vp vs σ k):ag Tryz.prog 74 vs k σ:=by
 obtain⟨l,rfl,hn,h⟩:=h
 refine ag.aJ (us:=[ae aj.enc 7 l]) (aA (fg l) bm) (bI.imp (us:=[HQ aj.enc 7 l]) (fun ρ xs hx=>?_) (F74.ck (live:=Dc) (call:=Db) (fun h=>zS h) (by kernel_rfl) ?_))
 ·cases hx with
  | cons h1 h2=>exact .cons (K6 hn.1 h1) h2
 ·rw[Zj]
  exact av (fun h1=>by omega) fun h1=>⟨by omega,bl.ij (.own (g:=fun i=>aj.enc (l.getD i default)) (p:=true) (by rfl) (fun i hi=>jh (aj.clean _)) fun i hi=>rfl) h⟩
theorem lq:∀ {f:FuncId} {vs:List V} {σ:St} {k:ah},fH f vs σ k→ag Tryz.prog f vs k σ:=fun h=>aP Rg Rf h
end
end Go.Proofs.YtbajncpfmemdgaaGreatDoor
end
