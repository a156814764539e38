/- Proved: parts of the way: Told, Sem. -/
import Derived.Test.YtbajncpfmemdgaaGreatDoorEvQ09
set_option linter.unusedVariables false
set_option linter.unusedSimpArgs false
section
namespace Go.Ev
open Go Go.RowKit
noncomputable def rN {α:Type} (f:α→α→Bool) (l:List α):List α→Bool:=
 List.rec (motive:=fun _=>List α→Bool) (fun m=>List.rec (motive:=fun _=>Bool) true (fun _ _ _=>false) m)
  (fun a _ ih m=>List.rec (motive:=fun _=>Bool) false (fun b m' _=>Bool.rec false (ih m') (f a b)) m) l
theorem ma {α:Type} {f:α→α→Bool} (hf:∀a b,f a b=true→a=b):∀ {l m:List α},rN f l m=true→l=m
 | [],[],_=>rfl
 | [],_::_,h=>by cases h
 | _::_,[],h=>by cases h
 | a::l,b::m,h=>by
  have h':(Bool.rec false (rN f l m) (f a b):Bool)=true:=h
  cases BQ:f a b with
  | false=>rw[BQ] at h';cases h'
  | true=>rw[BQ] at h';rw[hf a b BQ,ma hf h']
noncomputable def N3 {α:Type} (f:α→α→Bool) (x y:Option α):Bool:=
 match x with
 | none=>match y with
  | none=>true
  | some _=>false
 | some a=>match y with
  | none=>false
  | some b=>f a b
theorem Lk {α:Type} {f:α→α→Bool} (hf:∀a b,f a b=true→a=b) {x y:Option α} (h:N3 f x y=true):x=y:=by
 cases x<;>cases y<;>first | rfl | cases h | (rw[hf _ _ h])
noncomputable def Trie.same {α:Type} (f:α→α→Bool) (s t:Trie α):Bool:=rN (rN (rN (rN (N3 f)))) s t
theorem Trie.u3 {α:Type} {f:α→α→Bool} (hf:∀a b,f a b=true→a=b) {s t:Trie α} (h:Trie.same f s t=true):s=t:=
 ma (fun _ _ h=>ma (fun _ _ h=>ma (fun _ _ h=>ma (fun _ _ h=>Lk hf h) h) h) h) h
noncomputable def yL (e e':V×V×Nat):Bool:=V.beq e.1 e'.1&&V.beq e.2.1 e'.2.1&&Nat.beq e.2.2 e'.2.2
theorem GY {e e':V×V×Nat} (h:yL e e'=true):e=e':=by
 obtain⟨a,b,n⟩:=e
 obtain⟨a',b',n'⟩:=e'
 simp only[yL,Bool.and_eq_true] at h
 rw[V.beq_eq h.1.1,V.beq_eq h.1.2,Nat.eq_of_beq_eq_true h.2]
noncomputable def bR.same (k k':bR):Bool:=
 match k with
 | .cells n z t p ro=>match k' with
  | .cells n' z' t' p' Xi=>Nat.beq n n'&&(V.gz z z'&&(Trie.same V.beq t t'&&(p==p'&&ro==Xi)))
  | _=>false
 | .map es c=>match k' with
  | .map A3 c'=>Nat.beq c c'&&rN yL es A3
  | _=>false
 | .iter m s l c=>match k' with
  | .iter m' s' l' c'=>decide (m=m')&&(Nat.beq s s'&&(decide (l=l')&&Nat.beq c c'))
  | _=>false
 | .deferred=>match k' with
  | .deferred=>true
  | _=>false
 | _=>false
theorem bR.u3 {k k':bR} (h:bR.same k k'=true):k=k':=by
 cases k<;>cases k'<;>first
  | rfl
  | (cases h;done)
  | (rename_i n z t p ro n' z' t' p' Xi
     simp only[bR.same,Bool.and_eq_true,beq_iff_eq] at h
     rw[Nat.eq_of_beq_eq_true h.1,V.jK h.2.1,Trie.u3 (fun _ _=>V.beq_eq) h.2.2.1,h.2.2.2.1,h.2.2.2.2])
  | (simp only[bR.same,Bool.and_eq_true] at h
     rw[Nat.eq_of_beq_eq_true h.1,ma (fun _ _=>GY) h.2])
  | (simp only[bR.same,Bool.and_eq_true,decide_eq_true_eq] at h
     rw[h.1,Nat.eq_of_beq_eq_true h.2.1,h.2.2.1,Nat.eq_of_beq_eq_true h.2.2.2])
structure Told where
 f:FuncId
 args:List V
 pre:List (Nat×bR)
 now:Nat
 v:V
 post:List (Nat×Option bR)
 then':Nat
noncomputable def N4 {α:Type} (l:List (Nat×Option α)):Trie α→Trie α:=
 List.rec (motive:=fun _=>Trie α→Trie α) (fun t=>t) (fun x _ ih t=>ih (t.put x.1 x.2)) l
noncomputable def AL {α:Type} (l:List (Nat×α)):Trie α→Trie α:=
 List.rec (motive:=fun _=>Trie α→Trie α) (fun t=>t) (fun x _ ih t=>ih (t.put x.1 (some x.2))) l
noncomputable def Jy {α:Type} (l:List (Nat×α)):Trie α→Trie α:=
 List.rec (motive:=fun _=>Trie α→Trie α) (fun t=>t) (fun x _ ih t=>ih (t.put x.1 none)) l
theorem zY {α:Type} {b:Nat} {k:α}:∀ {l:List (Nat×Option α)} {t:Trie α},(N4 l t).get b=some k→(b,some k)∈l∨t.get b=some k
 | [],_,h=>.inr h
 | x::l,t,h=>by
  rcases zY (l:=l) (t:=t.put x.1 x.2) h with h | h
  ·exact .inl (List.mem_cons_of_mem _ h)
  ·rw[Trie.bN] at h
   by_cases e:b=x.1
   ·rw[if_pos e] at h
    refine .inl (List.mem_cons.2 (.inl ?_))
    rw[e,←h]
   ·rw[if_neg e] at h;exact .inr h
theorem tR {α:Type} {b:Nat} {k:α}:∀ {l:List (Nat×α)} {t:Trie α},(AL l t).get b=some k→(b,k)∈l∨t.get b=some k
 | [],_,h=>.inr h
 | x::l,t,h=>by
  rcases tR (l:=l) (t:=t.put x.1 (some x.2)) h with h | h
  ·exact .inl (List.mem_cons_of_mem _ h)
  ·rw[Trie.bN] at h
   by_cases e:b=x.1
   ·rw[if_pos e] at h
    cases h
    exact .inl (List.mem_cons.2 (.inl (by rw[e])))
   ·rw[if_neg e] at h;exact .inr h
theorem xD {α:Type} {b:Nat} {k:α}:∀ {l:List (Nat×α)} {t:Trie α},(Jy l t).get b=some k→t.get b=some k∧∀x∈l,x.1≠b
 | [],_,h=>⟨h,fun _ hx=>by cases hx⟩
 | x::l,t,h=>by
  obtain⟨h1,h2⟩:=xD (l:=l) (t:=t.put x.1 none) h
  rw[Trie.bN] at h1
  by_cases e:b=x.1
  ·rw[if_pos e] at h1;cases h1
  ·rw[if_neg e] at h1
   refine⟨h1,fun y hy=>?_⟩
   rcases List.mem_cons.1 hy with rfl | hy
   ·exact fun h=>e h.symm
   ·exact h2 y hy
noncomputable def Told.st (e:Told):St:=⟨AL e.pre .leaf,e.now⟩
noncomputable def Told.put (e:Told) (σ:St):St:=⟨N4 e.post (Jy e.pre σ.heap),e.then'⟩
noncomputable def GZ (σ:St) (l:List (Nat×bR)):Bool:=
 List.rec (motive:=fun _=>Bool) true (fun x _ ih=>match σ.heap.get x.1 with
  | some k=>Bool.rec false ih (bR.same k x.2)
  | none=>false) l
noncomputable def xE (σ:St) (l:List (Nat×Option bR)):Bool:=
 List.rec (motive:=fun _=>Bool) true (fun x _ ih=>match x.2 with
  | none=>ih
  | some k'=>match σ.heap.get x.1 with
   | some k=>Bool.rec false ih (bR.same k k')
   | none=>false) l
theorem BR {σ:St}:∀ {l:List (Nat×bR)},GZ σ l=true→∀x∈l,σ.heap.get x.1=some x.2
 | [],_,_,hx=>by cases hx
 | y::l,h,x,hx=>by
  have h':(match σ.heap.get y.1 with
   | some k=>Bool.rec false (GZ σ l) (bR.same k y.2)
   | none=>false:Bool)=true:=h
  cases hk:σ.heap.get y.1 with
  | none=>rw[hk] at h';cases h'
  | some k=>
   rw[hk] at h'
   dsimp only at h'
   cases hs:bR.same k y.2 with
   | false=>rw[hs] at h';cases h'
   | true=>
    rw[hs] at h'
    rcases List.mem_cons.1 hx with rfl | hx
    ·rw[hk,bR.u3 hs]
    ·exact BR (l:=l) h' x hx
theorem tS {σ:St}:∀ {l:List (Nat×Option bR)},xE σ l=true→∀b k,(b,some k)∈l→σ.heap.get b=some k
 | [],_,_,_,hx=>by cases hx
 | y::l,h,b,k,hx=>by
  obtain⟨c,o⟩:=y
  cases o with
  | none=>
   rcases List.mem_cons.1 hx with hx | hx
   ·cases hx
   ·exact tS (l:=l) h b k hx
  | some k'=>
   have h':(match σ.heap.get c with
    | some k=>Bool.rec false (xE σ l) (bR.same k k')
    | none=>false:Bool)=true:=h
   cases hk:σ.heap.get c with
   | none=>rw[hk] at h';cases h'
   | some k₁=>
    rw[hk] at h'
    dsimp only at h'
    cases hs:bR.same k₁ k' with
    | false=>rw[hs] at h';cases h'
    | true=>
     rw[hs] at h'
     rcases List.mem_cons.1 hx with hx | hx
     ·cases hx;rw[hk,bR.u3 hs]
     ·exact tS (l:=l) h' b k hx
noncomputable def Told.fits (e:Told) (f:FuncId) (args:List V) (σ:St):Bool:=
 match Nat.beq e.f f with
 | true=>match Nat.beq e.now σ.next with
  | true=>match V.gz e.args args with
   | true=>GZ σ e.pre
   | false=>false
  | false=>false
 | false=>false
theorem Told.O6 {e:Told} {f:FuncId} {args:List V} {σ:St} (h:e.fits f args σ=true):e.f=f∧e.now=σ.next∧e.args=args∧∀x∈e.pre,σ.heap.get x.1=some x.2:=by
 unfold Told.fits at h
 split at h
 ·rename_i h1
  split at h
  ·rename_i h2
   split at h
   ·rename_i h3
    exact⟨Nat.eq_of_beq_eq_true h1,Nat.eq_of_beq_eq_true h2,V.jK h3,BR h⟩
   ·cases h
  ·cases h
 ·cases h
noncomputable def xF (O:List Told) (f:FuncId) (args:List V) (σ:St):Option Told:=
 List.rec (motive:=fun _=>Option Told) none (fun e _ ih=>match e.fits f args σ with
  | true=>some e
  | false=>ih) O
theorem BS {f:FuncId} {args:List V} {σ:St} {e:Told}:∀ {O:List Told},xF O f args σ=some e→e∈O∧e.fits f args σ=true
 | [],h=>by cases h
 | x::O,h=>by
  have h':(match x.fits f args σ with
   | true=>some x
   | false=>xF O f args σ)=some e:=h
  split at h'
  ·rename_i hx
   cases h'
   exact⟨List.mem_cons_self,hx⟩
  ·obtain⟨h1,h2⟩:=BS h'
   exact⟨List.mem_cons_of_mem _ h1,h2⟩
noncomputable def N5 (P:Program) (R:Task→St→Run) (f:FuncId) (args:List V) (σ:St):Option Told→Run
 | some e=>.ok (.val e.v,e.put σ)
 | none=>mS R f args σ P.funcs[f]?
noncomputable def N6 (P:Program) (O:List Told) (R:Task→St→Run) (t:Task) (σ:St):Run:=
 match t with
 | .call f args=>N5 P R f args σ (xF O f args σ)
 | t=>step P R t σ
noncomputable def yM (P:Program) (O:List Told) (n:Nat):Task→St→Run:=
 Nat.rec (motive:=fun _=>Task→St→Run) (fun _ _=>.fail "fuel") (fun _ ih=>N6 P O ih) n
def Told.says (e:Told):Out×St→Prop
 | (.val v,σ)=>v=e.v∧σ.next≤e.then'∧∀b k,(b,some k)∈e.post→σ.heap.get b=some k
 | _=>False
def Told.ok (P:Program) (e:Told):Prop:=
 ∀ [Env] {ρ:Ren} {w:World} {vs':List Value},R ρ e.st w→au ρ e.args vs'→(callFunc e.f ⟨vs'⟩).run P w=.ok (.enter e.f ⟨vs'⟩) w∧CallsIn Fence.wide 0 P e.f ⟨vs'⟩ w (cC e.says ρ e.st w)
theorem R.part [Env] {ρ:Ren} {σ τ:St} {w:World} (h:R ρ σ w) (hn:τ.next=σ.next) (hs:∀b k,τ.heap.get b=some k→σ.heap.get b=some k):R ρ τ w:=h.sub hs hn
theorem bc.frame [Env] {ρ ρ':Ren} {σ τ hZ σ':St} {w w':World} (hr:R ρ σ w) (hn:τ.next=σ.next) (hs:∀b k,τ.heap.get b=some k→σ.heap.get b=some k) (h:bc ph ρ τ w ρ' hZ w')
  (nz:hZ.next≤σ'.next) (mU:∀b k,σ'.heap.get b=some k→hZ.heap.get b=some k∨(σ.heap.get b=some k∧τ.heap.get b=none)):bc ph ρ σ w ρ' σ' w':=by
 have apart:∀b k l,σ.heap.get b=some k→τ.heap.get b=none→ρ b=some l→¬Wr ρ τ l.c:=by
  rintro b k l hb bq hl ⟨cP,k₁,cc,h1,_,h3,h4⟩
  have e:=hr.inj b cP k k₁ l cc hb (hs _ _ h1) hl h3 h4.symm
  rw[←e,bq] at h1
  cases h1
 have known:∀b k,σ.heap.get b=some k→∃l,ρ b=some l∧ρ' b=some l∧cz ρ w l k:=fun b k hb=>by
  obtain⟨l,hl,hk⟩:=hr.cS b k hb
  exact⟨l,hl,h.le b l hl,hk⟩
 have mixed:∀b b' k k' l l',hZ.heap.get b=some k→σ.heap.get b'=some k'→τ.heap.get b'=none→ρ' b=some l→ρ' b'=some l'→l.c=l'.c→False:=by
  intro b b' k k' l l' h1 h2 h3 h4 h5 h6
  obtain⟨lk,xq,RF,_⟩:=known b' k' h2
  rw[RF] at h5;cases h5
  refine apart b' k' l' h2 h3 xq ?_
  rw[←h6]
  exact h.wr l.c (by rw[h6];exact hr.valid _ _ xq) ⟨b,k,l,h1,rfl,h4,rfl⟩
 refine⟨⟨fun b k hb=>?_,fun b b' k k' l l' h1 h2 h3 h4 h5=>?_,fun b hb=>h.r.fresh b (Nat.le_trans nz hb),h.r.valid,fun c o x hx=>?_,h.r.laid⟩,h.le,Nat.le_trans (by rw[←hn];exact h.next) nz,fun b l hb=>?_,h.size,h.os,h.tape,h.output,fun c hc hw=>?_,?_,fun b k hb=>?_,fun c o x hx=>?_⟩
 ·rcases mU b k hb with h1 | ⟨h1,h2⟩
  ·exact h.r.cS b k h1
  ·obtain⟨l,hl,cD,hk⟩:=known b k h1
   exact⟨l,cD,hk.same h.le (h.aJ l.c (hr.valid _ _ hl) (apart b k l h1 h2 hl))⟩
 ·rcases mU b k h1 with g1 | ⟨g1,zZ⟩<;>rcases mU b' k' h2 with g2 | ⟨g2,vM⟩
  ·exact h.r.inj b b' k k' l l' g1 g2 h3 h4 h5
  ·exact(mixed b b' k k' l l' g1 g2 vM h3 h4 h5).elim
  ·exact(mixed b' b k' k l' l g2 g1 zZ h4 h3 h5.symm).elim
  ·obtain⟨cc,a1,a2,_⟩:=known b k g1
   obtain⟨lk,b1,b2,_⟩:=known b' k' g2
   rw[a2] at h3;rw[b2] at h4;cases h3;cases h4
   exact hr.inj b b' k k' l l' g1 g2 a1 b1 h5
 ·obtain⟨g1,g2⟩:=h.r.aL c o x hx
  refine⟨g1,?_⟩
  rintro⟨cP,k₁,cc,h1,h2,h3,h4⟩
  rcases mU cP k₁ h1 with g | ⟨g,g'⟩
  ·exact g2 ⟨cP,k₁,cc,g,h2,h3,h4⟩
  ·obtain⟨l,hl,cD,_⟩:=known cP k₁ g
   rw[cD] at h3;cases h3
   have bz:cc.c<w.heap.size:=hr.valid _ _ hl
   subst h4
   rcases h.gq cc.c o x hx with q | q | q
   ·exact(hr.aL _ _ _ q).2 ⟨cP,k₁,cc,g,h2,hl,rfl⟩
   ·omega
   ·exact apart cP k₁ cc g g' hl q
 ·rw[←hn];exact h.iw b l hb
 ·refine h.aJ c hc fun hh=>hw ?_
  obtain⟨cP,k₁,cc,h1,h2,h3,h4⟩:=hh
  exact⟨cP,k₁,cc,hs _ _ h1,h2,h3,h4⟩
 ·rintro c hc ⟨cP,k₁,cc,h1,h2,h3,h4⟩
  rcases mU cP k₁ h1 with g | ⟨g,_⟩
  ·obtain⟨cQ,k₂,lk,a1,a2,a3,a4⟩:=h.wr c hc ⟨cP,k₁,cc,g,h2,h3,h4⟩
   exact⟨cQ,k₂,lk,hs _ _ a1,a2,a3,a4⟩
  ·obtain⟨l,hl,cD,_⟩:=known cP k₁ g
   rw[cD] at h3;cases h3
   exact⟨cP,k₁,cc,g,h2,hl,h4⟩
 ·rcases mU b k hb with g | ⟨g,_⟩
  ·rcases h.iJ b k g with ⟨k',g⟩ | g | g
   ·exact .inl ⟨k',hs _ _ g⟩
   ·exact .inr (.inl (by rw[←hn];exact g))
   ·exact .inr (.inr g)
  ·exact .inl ⟨k,g⟩
 ·rcases h.gq c o x hx with q | q | q
  ·exact .inl q
  ·exact .inr (.inl q)
  ·obtain⟨cP,k₁,cc,h1,h2,h3,h4⟩:=q
   exact .inr (.inr ⟨cP,k₁,cc,hs _ _ h1,h2,h3,h4⟩)
section
variable {P:Program} {O:List Told}
theorem Jz [Env] {e:Told} (he:e.ok P) {f:FuncId} {vs:List V} {σ:St} (hf:e.fits f vs σ=true) {p:Out×St→Prop} (hp:p (.val e.v,e.put σ)) {ρ:Ren} {w:World} {vs':List Value} (hr:R ρ σ w) (hv:au ρ vs vs'):
  (callFunc f ⟨vs'⟩).run P w=.ok (.enter f ⟨vs'⟩) w∧CallsIn Fence.wide 0 P f ⟨vs'⟩ w (cC p ρ σ w):=by
 obtain⟨rfl,h2,rfl,h4⟩:=e.O6 hf
 have hs:∀b k,e.st.heap.get b=some k→σ.heap.get b=some k:=by
  intro b k hb
  rcases tR (l:=e.pre) (t:=.leaf) hb with hb | hb
  ·exact h4 _ hb
  ·rw[Trie.eG] at hb;cases hb
 obtain⟨g1,g2⟩:=he (hr.part (τ:=e.st) h2 hs) hv
 refine⟨g1,g2.mono fun en w' hx=>?_⟩
 obtain⟨v,hZ,ρ',v',⟨rfl,nz,hk⟩,rfl,lE,az⟩:=hx
 refine⟨_,_,ρ',v',hp,rfl,lE,az.frame hr h2 hs nz fun b k hb=>?_⟩
 rcases zY (l:=e.post) hb with hb | hb
 ·exact .inl (hk b k hb)
 ·obtain⟨h5,h6⟩:=xD hb
  refine .inr ⟨h5,?_⟩
  cases hq:e.st.heap.get b with
  | none=>rfl
  | some k'=>
   rcases tR (l:=e.pre) (t:=.leaf) hq with hq | hq
   ·exact absurd rfl (h6 _ hq)
   ·rw[Trie.eG] at hq;cases hq
theorem G0 [Env] (jc:P.follows .mixedOrders=true) (hO:∀e∈O,e.ok P) {Rn:Task→St→Run} (hg:Good P Rn):Good P (N6 P O Rn):=by
 have hs:=zR jc hg
 refine⟨hs.code,hs.loop,hs.inScope,?_,hs.deferred,hs.leave,hs.apply,hs.round⟩
 intro f vs σ p h ρ w vs' hr hv
 have h':(N5 P Rn f vs σ (xF O f vs σ)).Holds p:=h
 cases hf:xF O f vs σ with
 | none=>rw[hf] at h';exact hs.call (f:=f) (vs:=vs) h' hr hv
 | some e=>
  rw[hf] at h'
  obtain⟨h1,h2⟩:=BS hf
  exact Jz (hO e h1) h2 h' hr hv
theorem z6 [Env] (jc:P.follows .mixedOrders=true) (hO:∀e∈O,e.ok P):∀n,Good P (yM P O n):=by
 intro n
 induction n with
 | zero=>constructor<;>intros<;>exact bu.Holds.tB (by assumption)
 | succ n ih=>exact G0 jc hO ih
noncomputable def Told.check (e:Told):Out×St→Bool
 | (.val v,σ)=>V.beq v e.v&&(Nat.ble σ.next e.then'&&xE σ e.post)
 | _=>false
theorem Told.mb {e:Told} (jc:P.follows .mixedOrders=true) (hO:∀e∈O,e.ok P) (n:Nat) (h:(yM P O n (.call e.f e.args) e.st).check e.check=true):e.ok P:=by
 intro _ ρ w vs' hr hv
 refine(z6 jc hO n).call ((bu.l5 h).mono fun⟨o,σ⟩ hx=>?_) hr hv
 cases o with
 | exit x a=>cases hx
 | val v=>
  have cE:(V.beq v e.v&&(Nat.ble σ.next e.then'&&xE σ e.post))=true:=hx
  simp only[Bool.and_eq_true] at cE
  exact⟨V.beq_eq cE.1,Nat.le_of_ble_eq_true cE.2.1,tS cE.2.2⟩
end
end Go.Ev
end
section
namespace Go.Ev
open Go
def RG [Env] (P:Program) (t:Task) (σ:St) (p:Out×St→Prop):Prop:=
 match t with
 | .code ro _ c a=>∀(ρ:Ren) (w:World) (a':Go.Act) (F:Fence),R ρ σ w→bw ρ a a'→fH ρ ro F→c.wpIn F 0 P (bJ p ρ σ w) a' w∧∀x,c=.loop x→ju F P x (bJ p ρ σ w) a' w
 | .inScope ro _ x cur a=>∀(ρ:Ren) (w:World) (a':Go.Act) (F:Fence),R ρ σ w→bw ρ a a'→fH ρ ro F→kV F P x cur (bJ p ρ σ w) a' w
 | .call f vs=>∀(ρ:Ren) (w:World) (vs':List Value),R ρ σ w→au ρ vs vs'→(callFunc f ⟨vs'⟩).run P w=.ok (.enter f ⟨vs'⟩) w∧CallsIn Fence.wide 0 P f ⟨vs'⟩ w (cC p ρ σ w)
 | .deferred f vs=>∀(ρ:Ren) (w:World) (vs':List Value),R ρ σ w→au ρ vs vs'→(callFunc f ⟨vs'⟩).run P w=.ok (.enter f ⟨vs'⟩) w∧
   ∀u,CallsDIn Fence.wide 0 P f ⟨vs'⟩ u w (fun e u' w'=>u'=u∧cC p ρ σ w e w')
 | .leave fn a=>∀(ρ:Ren) (w:World) (a':Go.Act),R ρ σ w→bw ρ a a'→LeavesInM Fence.wide 0 P fn a'.tmps (cC p ρ σ w) a'.defers .returning w
 | .apply f vs=>∀(ρ:Ren) (w:World) (f':Value) (vs':List Value),R ρ σ w→aq ρ f f'→au ρ vs vs'→∃d,(Deferred.ofValue f' ⟨vs'⟩).run P w=.ok d w∧Enters P d w (cC p ρ σ w)
 | .round l vs=>∀(ρ:Ren) (w:World) (k:Loc) (vs':List Value),R ρ σ w→ρ l=some k→au ρ vs vs'→
   ∃g tmps adj bo,(Instr.yield k.c ⟨vs'⟩).run P w=.ok (.round k.c g tmps adj bo) w∧RoundIn Fence.wide 0 P k.c g tmps adj bo w (cC p ρ σ w)
def cj [Env] (P:Program) (t:Task) (σ:St) (p:Out×St→Prop):Prop:=(∃x,p x)∧RG P t σ p
theorem Good.xG [Env] {P:Program} {Rn:Task→St→Run} (hg:Good P Rn) {t:Task} {σ:St} {p:Out×St→Prop} (h:(Rn t σ).Holds p):cj P t σ p:=by
 refine⟨h.exists,?_⟩
 cases t with
 | code ro fn c a=>exact fun ρ w a' F hr ha bt=>⟨hg.code h hr ha bt,fun x hx=>by subst hx;exact hg.loop h hr ha bt⟩
 | inScope ro fn x cur a=>exact fun ρ w a' F hr ha bt=>hg.inScope h hr ha bt
 | call f vs=>exact fun ρ w vs' hr hv=>hg.call h hr hv
 | deferred f vs=>exact fun ρ w vs' hr hv=>hg.deferred h hr hv
 | leave fn a=>exact fun ρ w a' hr ha=>hg.leave h hr ha
 | apply f vs=>exact fun ρ w f' vs' hr hf hv=>hg.apply h hr hf hv
 | round l vs=>exact fun ρ w k vs' hr hl hv=>hg.round h hr hl hv
theorem Enters.mono {P:Program} {d:Deferred} {w:World} {Q Q':Ending→World→Prop} (h:Enters P d w Q) (hq:∀e w,Q e w→Q' e w):Enters P d w Q':=by
 rcases h with ⟨f,args,h1,h2⟩ | ⟨l,f,tmps,adj,bo,h1,h2⟩
 ·exact .inl ⟨f,args,h1,h2.mono hq⟩
 ·exact .inr ⟨l,f,tmps,adj,bo,h1,h2.mono hq⟩
theorem cj.mono [Env] {P:Program} {t:Task} {σ:St} {p q:Out×St→Prop} (sv:∀x,p x→q x) (h:cj P t σ p):cj P t σ q:=by
 refine⟨let ⟨x,hx⟩:=h.1;⟨x,sv x hx⟩,?_⟩
 have h:=h.2
 cases t with
 | code ro fn c a=>exact fun ρ w a' F hr ha bt=>⟨wpIn_mono (h ρ w a' F hr ha bt).1 fun _ _ _ hx=>bJ.mono hx sv,fun x hx=>((h ρ w a' F hr ha bt).2 x hx).mono fun _ _ _ hx=>bJ.mono hx sv⟩
 | inScope ro fn x cur a=>exact fun ρ w a' F hr ha bt=>(h ρ w a' F hr ha bt).mono fun _ _ _ hx=>bJ.mono hx sv
 | call f vs=>exact fun ρ w vs' hr hv=>⟨(h ρ w vs' hr hv).1,(h ρ w vs' hr hv).2.mono fun _ _ hx=>cC.mono hx sv⟩
 | deferred f vs=>exact fun ρ w vs' hr hv=>⟨(h ρ w vs' hr hv).1,fun u=>((h ρ w vs' hr hv).2 u).mono fun _ _ _ hx=>⟨hx.1,cC.mono hx.2 sv⟩⟩
 | leave fn a=>exact fun ρ w a' hr ha=>LeavesInM.mono (h ρ w a' hr ha) fun _ _ hx=>cC.mono hx sv
 | apply f vs=>exact fun ρ w f' vs' hr hf hv=>let ⟨d,h1,h2⟩:=h ρ w f' vs' hr hf hv;⟨d,h1,h2.mono fun _ _ hx=>cC.mono hx sv⟩
 | round l vs=>exact fun ρ w k vs' hr hl hv=>let ⟨g,tmps,adj,bo,h1,h2⟩:=h ρ w k vs' hr hl hv;⟨g,tmps,adj,bo,h1,h2.mono fun _ _ hx=>cC.mono hx sv⟩
theorem cj.at [Env] {P:Program} {t:Task} {σ:St} {p:Out×St→Prop} (h:cj P t σ p):RG P t σ p:=h.2
def eh [Env] (P:Program) (t:Task) (σ:St):Run:=.tr (cj P t σ) (fun _ _ h=>cj.mono h) fun _ h=>h.1
theorem JA [Env] (P:Program):Good P (eh P):=by
 constructor
 case code=>intro ro fn c a σ p h ρ w a' F hr ha bt;exact(cj.at h ρ w a' F hr ha bt).1
 case loop=>intro ro fn x a σ p h ρ w a' F hr ha bt;exact(cj.at h ρ w a' F hr ha bt).2 x rfl
 case inScope=>intro ro fn x cur a σ p h ρ w a' F hr ha bt;exact cj.at h ρ w a' F hr ha bt
 case call=>intro f vs σ p h ρ w vs' hr hv;exact cj.at h ρ w vs' hr hv
 case deferred=>intro f vs σ p h ρ w vs' hr hv;exact cj.at h ρ w vs' hr hv
 case leave=>intro fn a σ p h ρ w a' hr ha;exact cj.at h ρ w a' hr ha
 case apply=>intro f vs σ p h ρ w f' vs' hr hf hv;exact cj.at h ρ w f' vs' hr hf hv
 case round=>intro l vs σ p h ρ w k vs' hr hl hv;exact cj.at h ρ w k vs' hr hl hv
class eF (P:Program):Prop where
 h:P.follows .mixedOrders=true
section
variable {P:Program} [eF P] [Env]
theorem cj.n3 {t:Task} {σ:St} {p:Out×St→Prop} (h:(step P (eh P) t σ).Holds p):cj P t σ p:=(zR eF.h (JA P)).xG h
theorem cj.D4 {O:List Told} (hO:∀e∈O,e.ok P) {t:Task} {σ:St} {p:Out×St→Prop} {n:Nat} (h:(yM P O n t σ).Holds p):cj P t σ p:=(z6 eF.h hO n).xG h
end
structure nP [Env] (P:Program) (t:Task) (p:Out×St→Prop) (σ:St):Prop where
 h:cj P t σ p
structure ag [Env] (P:Program) (f:FuncId) (vs:List V) (Q:ah) (σ:St):Prop where
 h:cj P (.call f vs) σ (l9 Q)
structure ck [Env] (P:Program) (fn:FuncId) (ro:Option Nat) (c:Code) (Q:cd) (a:Act) (σ:St):Prop where
 h:((iH P fn c).f (eh P) ro a σ).Holds (j7 Q)
structure kj [Env] (P:Program) (fn:FuncId) (ro:Option Nat) (x:Code) (Q:cd) (a:Act) (σ:St):Prop where
 h:ck P fn ro (.loop x) Q a σ
structure tT [Env] (P:Program) (fn:FuncId) (ro:Option Nat) (x cur:Code) (Q:cd) (a:Act) (σ:St):Prop where
 h:cj P (.inScope ro fn x cur a) σ (j7 Q)
section
variable {P:Program} [eF P] [Env] {fn:FuncId} {ro:Option Nat}
omit [eF P] in
theorem ag.mono {f:FuncId} {vs:List V} {Q Q':ah} {σ:St} (h:ag P f vs Q σ) (hq:∀v σ,Q v σ→Q' v σ):ag P f vs Q' σ:=
 ⟨cj.mono (fun⟨o,σ⟩ hx=>by cases o with
  | val v=>exact hq _ _ hx
  | exit e a=>exact hx) h.h⟩
omit [eF P] in
theorem ck.mono {c:Code} {Q Q':cd} {a:Act} {σ:St} (h:ck P fn ro c Q a σ) (hq:∀e a σ,Q e a σ→Q' e a σ):ck P fn ro c Q' a σ:=
 ⟨h.h.mono fun⟨o,σ⟩ hx=>by cases o with
  | val v=>exact hx
  | exit e a=>exact hq _ _ _ hx⟩
theorem ck.xG {c:Code} {Q:cd} {a:Act} {σ:St} (h:ck P fn ro c Q a σ):cj P (.code ro fn c a) σ (j7 Q):=by
 by_cases hl:∃x,c=.loop x
 ·obtain⟨x,rfl⟩:=hl
  exact h.h
 ·refine .n3 (t:=.code ro fn c a) ?_
  show(wh P (eh P) ro fn a σ c).Holds (j7 Q)
  have h:=h.h
  cases c<;>first
   | exact absurd ⟨_,rfl⟩ hl
   | exact h
omit [eF P] in
theorem ck.seq {x y:Code} {Q:cd} {a:Act} {σ:St} (h:ck P fn ro x (ib (ck P fn ro y Q) Q) a σ):ck P fn ro (.seq x y) Q a σ:=by
 refine⟨bu.Holds.dN (h.h.mono fun⟨o,σ⟩ hz=>?_)⟩
 cases o with
 | val v=>exact hz.elim
 | exit e a=>cases e with
  | normal=>exact ck.h hz
  | _=>exact hz
omit [eF P] in
theorem ck.cond {x:Operand} {y z:Code} {Q:cd} {a:Act} {σ:St} (h:xw (ck P fn ro y Q a σ) (ck P fn ro z Q a σ) (a.eval x)):ck P fn ro (.cond x y z) Q a σ:=by
 constructor
 show(AB ((iH P fn y).f (eh P) ro) ((iH P fn z).f (eh P) ro) a σ (a.eval x)).Holds (j7 Q)
 cases hx:a.eval x with
 | none=>rw[hx] at h;exact h.elim
 | some v=>
  rw[hx] at h
  cases v with
  | bool b=>cases b with
   | true=>exact ck.h (show ck P fn ro y Q a σ from h)
   | false=>exact ck.h (show ck P fn ro z Q a σ from h)
  | _=>exact h.elim
omit [eF P] in
theorem ck.block {id:Nat} {x:Code} {Q:cd} {a:Act} {σ:St} (h:ck P fn ro x (oE id Q) a σ):ck P fn ro (.block id x) Q a σ:=by
 refine⟨bu.Holds.dN (h.h.mono fun⟨o,σ⟩ hx=>?_)⟩
 cases o with
 | val v=>exact hx.elim
 | exit e a=>cases e with
  | exit i=>
   show j7 Q (.exit (if i=id then .normal else .exit i) a,σ)
   have cE:(if i=id then Q .normal else Q (.exit i)) a σ:=hx
   by_cases e:i=id
   ·rw[if_pos e] at cE⊢;exact cE
   ·rw[if_neg e] at cE⊢;exact cE
  | _=>exact hx
theorem ck.loop {x:Code} {Q:cd} {a:Act} {σ:St} (h:ck P fn ro x (ib (kj P fn ro x Q) Q) a σ):kj P fn ro x Q a σ:=by
 refine⟨⟨(cj.n3 (t:=.code ro fn (.loop x) a) ?_:cj P _ _ _)⟩⟩
 refine bu.Holds.dN (h.h.mono fun⟨o,σ⟩ hz=>?_)
 cases o with
 | val v=>exact hz.elim
 | exit e a=>cases e with
  | normal=>exact(kj.h hz).xG
  | _=>exact hz
omit [eF P] in
theorem ck.scope {x:Code} {Q:cd} {a:Act} {σ:St} (h:tT P fn ro x x Q a σ):ck P fn ro (.scope x) Q a σ:=⟨h.h⟩
def RH (P:Program) (fn:FuncId) (ro:Option Nat) (x:Code) (Q:cd):cd
 | .goto l=>fun a σ=>match findLabel x l with
  | some rest=>tT P fn ro x rest Q a σ
  | none=>Q (.goto l) a σ
 | e=>Q e
theorem tT.of {x cur:Code} {Q:cd} {a:Act} {σ:St} (h:ck P fn ro cur (RH P fn ro x Q) a σ):tT P fn ro x cur Q a σ:=by
 refine⟨.n3 (bu.Holds.dN (h.h.mono fun⟨o,σ⟩ hz=>?_))⟩
 cases o with
 | val v=>exact hz.elim
 | exit e a=>cases e with
  | goto l=>
   have hz':(match findLabel x l with
    | some rest=>tT P fn ro x rest Q a σ
    | none=>Q (.goto l) a σ):=hz
   show(match findLabel x l with
    | some rest=>eh P (.inScope ro fn x rest a) σ
    | none=>.ok (.exit (.goto l) a,σ):Run).Holds (j7 Q)
   revert hz'
   cases findLabel x l with
   | none=>exact fun h=>h
   | some rest=>exact fun h=>h.h
  | _=>exact hz
def aO:Code→List Code
 | .seq x y=>aO x++aO y
 | .cond _ x y=>aO x++aO y
 | .block _ x=>aO x
 | .loop x=>x::aO x
 | .scope x=>aO x
 | _=>[]
def aD:Code→Nat
 | .seq x y=>aD x+aD y
 | .cond _ x y=>aD x+aD y
 | .block _ x=>aD x
 | .loop x=>aD x+1
 | .scope x=>aD x
 | _=>0
omit [eF P] [Env] in
theorem dK:∀c:Code,(aO c).length=aD c
 | .seq x y=>by simp [aO,aD,dK x,dK y]
 | .cond _ x y=>by simp [aO,aD,dK x,dK y]
 | .block _ x=>dK x
 | .loop x=>by simp [aO,aD,dK x]
 | .scope x=>dK x
 | .skip=>rfl
 | .label _=>rfl
 | .exit _=>rfl
 | .goto _=>rfl
 | .ret=>rfl
 | .region _ _ _=>rfl
 | .rangeFunc _ _ _ _=>rfl
 | .refuse _=>rfl
omit [eF P] [Env] in
theorem rO:∀(c:Code) {k:Nat} {x:Code},(aO c)[k]? =some x→∀ {j:Nat} {y:Code},(aO x)[j]? =some y→(aO c)[k+1+j]? =some y:=by
 intro c
 have two:∀ {a b:List Code},(∀ {k:Nat} {x:Code},a[k]? =some x→∀ {j:Nat} {y:Code},(aO x)[j]? =some y→a[k+1+j]? =some y)→(∀ {k:Nat} {x:Code},b[k]? =some x→∀ {j:Nat} {y:Code},(aO x)[j]? =some y→b[k+1+j]? =some y)→
   ∀ {k:Nat} {x:Code},(a++b)[k]? =some x→∀ {j:Nat} {y:Code},(aO x)[j]? =some y→(a++b)[k+1+j]? =some y:=by
  intro a b ha hb k x hk j y hj
  rcases Nat.lt_or_ge k a.length with bz | oz
  ·rw[List.getElem?_append_left bz] at hk
   have h2:=ha hk hj
   rw[List.getElem?_append_left (List.getElem?_eq_some_iff.1 h2).1]
   exact h2
  ·rw[List.getElem?_append_right oz] at hk
   have h2:=hb hk hj
   rw[List.getElem?_append_right (by omega),show k+1+j-a.length=k-a.length+1+j by omega]
   exact h2
 induction c with
 | seq a b RI RJ=>exact fun hk _ _ hj=>two (fun h _ _=>RI h) (fun h _ _=>RJ h) hk hj
 | cond o a b RI RJ=>exact fun hk _ _ hj=>two (fun h _ _=>RI h) (fun h _ _=>RJ h) hk hj
 | block i a ih=>exact fun hk _ _ hj=>ih hk hj
 | scope a ih=>exact fun hk _ _ hj=>ih hk hj
 | loop a ih=>
  intro k x hk j y hj
  cases k with
  | zero=>
   have e:a=x:=by simpa [aO] using hk
   subst e
   show(a::aO a)[0+1+j]? =some y
   rw[show 0+1+j=j+1 by omega,List.getElem?_cons_succ];exact hj
  | succ k=>
   have eA:(aO a)[k]? =some x:=by simpa [aO] using hk
   show(a::aO a)[k+1+1+j]? =some y
   rw[show k+1+1+j=(k+1+j)+1 by omega,List.getElem?_cons_succ]
   exact ih eA hj
 | _=>exact fun hk=>by simp [aO] at hk
structure eI (P:Program) [Env] where
 call:FuncId→List V→St→ah→Prop
 loop:FuncId→Option Nat→Nat→Code→cd→Act→St→Prop
 yield:Nat→List V→St→ah→Prop:=fun l vs σ k=>nP P (.round l vs) (l9 k) σ
 range:FuncId→Option Nat→Code→cd→Act→St→Prop:=fun fn ro c Q a σ=>ck P fn ro c Q a σ
def eI.nil (P:Program) [Env]:eI P:={call:=fun g vs σ k=>ag P g vs k σ,loop:=fun fn ro _ x Q a σ=>kj P fn ro x Q a σ}
structure eI.OkC {P:Program} [Env] (K:eI P):Prop where
 call:∀ {f:FuncId} {vs:List V} {σ:St} {k:ah},K.call f vs σ k→ag P f vs k σ
 yield:∀ {l:Nat} {vs:List V} {σ:St} {k:ah},K.yield l vs σ k→nP P (.round l vs) (l9 k) σ
structure eI.Ok {P:Program} [Env] (K:eI P):Prop extends K.OkC where
 loop:∀ {f:FuncId} {g:Func} {c x:Code} {j:Nat} {ro:Option Nat} {Q:cd} {a:Act} {σ:St},P.funcs[f]? =some g→g.body=some c→(aO c)[j]? =some x→K.loop f ro j x Q a σ→kj P f ro x Q a σ
 range:∀ {f:FuncId} {ro:Option Nat} {c:Code} {Q:cd} {a:Act} {σ:St},K.range f ro c Q a σ→ck P f ro c Q a σ
def BT (P:Program) [Env] (K:eI P) (g:FuncId) (vs:List V) (σ:St) (k:ah):Prop:=K.call g vs σ k
omit [eF P] in
theorem z7 {K:eI P} (hK:K.OkC) {g:FuncId} {vs:List V} {σ:St} {k:ah} (h:BT P K g vs σ k):ag P g vs k σ:=hK.call h
noncomputable def bD.aJ {α:Type} (t:bD α) (ks:List Nat):bD α:=
 List.rec (motive:=fun _=>bD α) [] (fun k _ ih=>match t.get k with
  | some v=>ih.put k v
  | none=>ih) ks
omit [eF P] [Env] in
theorem bD.Ll {α:Type} (t:bD α) (ks:List Nat) (n:Nat) {v:α} (h:(t.aJ ks).get n=some v):t.get n=some v:=by
 induction ks with
 | nil=>rw[show t.aJ []=[] from rfl,bD.get_nil] at h;cases h
 | cons k ks ih=>
  have e:t.aJ (k::ks)=match t.get k with
   | some v=>(t.aJ ks).put k v
   | none=>t.aJ ks:=rfl
  rw[e] at h
  cases hk:t.get k with
  | none=>rw[hk] at h;exact ih h
  | some u=>
   rw[hk] at h
   dsimp only at h
   rw[bD.bN] at h
   by_cases hn:n=k
   ·subst hn;rw[if_pos rfl] at h;rw[hk];exact h
   ·rw[if_neg hn] at h;exact ih h
noncomputable def Act.aJ (a:Act) (ks:List Nat):Act:=
 match a with
 | ⟨t,s,ds⟩=>⟨t.aJ ks,s,ds⟩
omit [eF P] in
theorem bw.aJ {ρ:Ren} {a:Act} {a':Go.Act} (h:bw ρ a a') (ks:List Nat):bw ρ (a.aJ ks) a':=
 ⟨fun i v hv=>h.tmps i v (bD.Ll _ ks _ hv),h.size,h.defers⟩
omit [eF P] in
theorem kj.enter {x:Code} {Q:cd} {a:Act} {σ:St} (ks:List Nat) (h:kj P fn ro x Q (a.aJ ks) σ):kj P fn ro x Q a σ:=by
 have h1:cj P (.code ro fn (.loop x) (a.aJ ks)) σ (j7 Q):=h.h.h
 refine⟨⟨(⟨h1.1,?_⟩:cj P (.code ro fn (.loop x) a) σ (j7 Q))⟩⟩
 exact fun ρ w a' F hr ha bt=>cj.at h1 ρ w a' F hr (ha.aJ ks) bt
omit [eF P] in
theorem kj.leave {x:Code} {Q:cd} {a:Act} {σ:St} (ks:List Nat) (h:kj P fn ro x (fun e a σ=>Q e (a.aJ ks) σ) a σ):kj P fn ro x Q a σ:=by
 have h1:cj P (.code ro fn (.loop x) a) σ (j7 fun e a σ=>Q e (a.aJ ks) σ):=h.h.h
 have hq:∀(ρ:Ren) (w:World) e a' w',bJ (j7 fun e a σ=>Q e (a.aJ ks) σ) ρ σ w e a' w'→bJ (j7 Q) ρ σ w e a' w':=by
  rintro ρ w e a' w' ⟨x,aY,σ',ρ',hp,rfl,ha,az⟩
  exact⟨x,aY.aJ ks,σ',ρ',hp,rfl,ha.aJ ks,az⟩
 refine⟨⟨(⟨?_,?_⟩:cj P (.code ro fn (.loop x) a) σ (j7 Q))⟩⟩
 ·obtain⟨⟨o,τ⟩,hx⟩:=h1.1
  cases o with
  | val v=>exact hx.elim
  | exit e a=>exact⟨(.exit e (a.aJ ks),τ),hx⟩
 ·intro ρ w a' F hr ha bt
  obtain⟨g1,g2⟩:=cj.at h1 ρ w a' F hr ha bt
  exact⟨wpIn_mono g1 fun _ _ _ hx=>hq _ _ _ _ _ hx,fun x hx=>(g2 x hx).mono fun _ _ _ hx=>hq _ _ _ _ _ hx⟩
def BU (P:Program) (K:eI P) (vs:List V) (σ:St) (k:ah):V→Prop
 | .func (.func g) first captured=>BT P K g (app first (app vs captured)) σ k
 | f=>nP P (.apply f vs) (l9 k) σ
def rQ (P:Program) (K:eI P) (σ:St) (k:ah):Option V→Option (List V)→Prop
 | some fv,some vs=>BU P K vs σ k fv
 | _,_=>False
def DA (P:Program) (K:eI P) (σ:St) (vs:List V) (k:ah):Option (FuncId×V)→Prop
 | some (f,recv)=>BT P K f (recv::vs) σ k
 | none=>False
def pW (P:Program) (K:eI P) (σ:St) (name:String) (k:ah):Option V→Option (List V)→Prop
 | some (.iface t v),some vs=>DA P K σ vs k (nZ P t v name)
 | _,_=>False
def G1 (σ:St) (e:Ext) (vs:Option (List V)) (k:ah):Prop:=
 match e,vs with
 | .Gs,some [.dJ .f64 b]=>(FloatKind.f64.decode b).isNaN=false∧k (.dJ .f64 (hQ b)) σ
 | e,vs=>dd (AA σ e vs) k
omit [eF P] [Env] in
theorem G2 {σ:St} {e:Ext} {vs:Option (List V)} {k:ah} (h:G1 σ e vs k):dd (AA σ e vs) k:=by
 unfold G1 at h
 split at h
 ·rename_i b
  refine dd.mk' (v:=_) (σ:=_) ?_ h.2
  show aJ σ "extern" (if (FloatKind.f64.decode b).isNaN then none else some (.dJ .f64 (hQ b)))=_
  rw[h.1];rfl
 ·exact h
def AM (P:Program) (K:eI P) (ro:Option Nat) (o:Op) (a:Act) (σ:St) (id:Nat) (k:uZ):Prop:=
 match o with
 | .call c=>match c.callee with
  | .value f=>match nE P f with
   | some e=>G1 σ e (a.bM c.args.toList) fun v σ=>k v a σ
   | none=>rQ P K σ (fun v σ=>k v a σ) (a.eval f) (a.bM c.args.toList)
  | .invoke x name=>pW P K σ name (fun v σ=>k v a σ) (a.eval x) (a.bM c.args.toList)
  | .builtin b=>wA P σ id b c.argTypes.toList (a.bM c.args.toList) fun v σ=>k v a σ
 | .defer c=>((qp c).f (fun _ _=>.fail) ro a σ id).Holds (jL k)
 | o=>RE P o a σ id fun v σ=>k v a σ
omit [eF P] in
theorem DB {a:Act} {σ:St} {f:FuncId} {vs:List V} {k:uZ} (h:ag P f vs (fun v σ=>k v a σ) σ):((eh P (.call f vs) σ).bind (valOf a)).Holds (jL k):=
 bu.Holds.dN (cj.mono (fun⟨o,σ⟩ hx=>by cases o with
  | val v=>exact hx
  | exit e a=>exact hx.elim) h.h)
theorem BV {K:eI P} (hK:K.OkC) {a:Act} {σ:St} {fv:V} {vs:List V} {k:uZ} (h:BU P K vs σ (fun v σ=>k v a σ) fv):((eh P (.apply fv vs) σ).bind (valOf a)).Holds (jL k):=by
 have other:nP P (.apply fv vs) (l9 fun v σ=>k v a σ) σ→((eh P (.apply fv vs) σ).bind (valOf a)).Holds (jL k):=fun h=>
  bu.Holds.dN (cj.mono (fun⟨o,σ⟩ hx=>by cases o with
   | val v=>exact hx
   | exit e a=>exact hx.elim) h.h)
 unfold BU at h
 split at h
 ·rename_i g first captured
  exact other ⟨.n3 (z7 hK h).h⟩
 ·exact other h
theorem DC {K:eI P} (hK:K.OkC) {o:Op} {a:Act} {σ:St} {id:Nat} {k:uZ} (h:AM P K ro o a σ id k):((iF P o).f (eh P) ro a σ id).Holds (jL k):=by
 have plain:∀ {o:Op},RE P o a σ id (fun v σ=>k v a σ)→((A1 (lU P o)).f (eh P) ro a σ id).Holds (jL k):=fun h=>bu.Holds.fq (Jv h)
 cases o with
 | call c=>
  obtain⟨callee,args,tys⟩:=c
  cases callee with
  | value f=>
   have h':match nE P f with
     | some e=>G1 σ e (a.bM args.toList) fun v σ=>k v a σ
     | none=>rQ P K σ (fun v σ=>k v a σ) (a.eval f) (a.bM args.toList):=h
   show((match nE P f with
    | some e=>⟨fun _ _ a σ _=>(AA σ e (a.bM args.toList)).bind (fq a)⟩
    | none=>⟨fun R _ a σ _=>mR R a σ (a.eval f) (a.bM args.toList)⟩:rm).f (eh P) ro a σ id).Holds (jL k)
   cases hx:nE P f with
   | some e=>rw[hx] at h';exact bu.Holds.fq (dd.holds (G2 h'))
   | none=>
    rw[hx] at h'
    show(mR (eh P) a σ (a.eval f) (a.bM args.toList)).Holds (jL k)
    replace h':rQ P K σ (fun v σ=>k v a σ) (a.eval f) (a.bM args.toList):=h'
    revert h'
    cases a.eval f with
    | none=>exact fun h=>h.elim
    | some fv=>cases a.bM args.toList with
     | none=>exact fun h=>h.elim
     | some vs=>exact fun h=>BV hK h
  | invoke x name=>
   show(nI P (eh P) a σ name (a.eval x) (a.bM args.toList)).Holds (jL k)
   have h':pW P K σ name (fun v σ=>k v a σ) (a.eval x) (a.bM args.toList):=h
   unfold pW at h'
   split at h'
   ·rename_i t v vs hx hv
    rw[hx,hv]
    show(mu (eh P) a σ vs (nZ P t v name)).Holds (jL k)
    cases hm:nZ P t v name with
    | none=>rw[hm] at h';exact h'.elim
    | some p=>obtain⟨f,recv⟩:=p;rw[hm] at h';exact DB (z7 hK h')
   ·exact h'.elim
  | builtin b=>exact bu.Holds.fq (dd.holds (yH h))
 | defer c=>
  have h':((qp c).f (fun _ _=>.fail) ro a σ id).Holds (jL k):=h
  show((qp c).f (eh P) ro a σ id).Holds (jL k)
  have e:∀R R',(qp c).f R ro a σ id=(qp c).f R' ro a σ id:=by
   intro R R'
   rfl
  rw[e _ fun _ _=>.fail];exact h'
 | _=>exact plain h
def VP (want:Bool) (y z:Prop):Option V→Prop
 | some (.bool b)=>ae (b==want) y z
 | some (.any _)=>False
 | some _=>z
 | none=>False
noncomputable def AN (P:Program) (K:eI P) (ro:Option Nat) (ops:List Oper) (o:Oper) (a:Act) (σ:St) (id:Nat) (k:Act→St→Prop):Prop:=
 match o.guard with
 | none=>AM P K ro o.op a σ id fun v a σ=>yI o.dst (fun a=>k a σ) a v
 | some (j,want)=>match fE ops j with
  | some d=>VP want (AM P K ro o.op a σ id fun v a σ=>yI o.dst (fun a=>k a σ) a v) (yI o.dst (fun a=>k a σ) a cO) (a.tmps.get d)
  | none=>yI o.dst (fun a=>k a σ) a cO
theorem vN {K:eI P} (hK:K.OkC) {ops:List Oper} {o:Oper} {a:Act} {σ:St} {id:Nat} {k:Act→St→Prop} (h:AN P K ro ops o a σ id k):((iG P ops o).f (eh P) ro a σ id).Holds (yJ k):=by
 have go:AM P K ro o.op a σ id (fun v a σ=>yI o.dst (fun a=>k a σ) a v)→(((iF P o.op).f (eh P) ro a σ id).bind (lf o.dst)).Holds (yJ k):=fun h=>
  bu.Holds.dN ((DC hK h).mono fun⟨v,a,σ⟩ hx=>nN hx)
 unfold AN at h
 unfold iG
 cases hg:o.guard with
 | none=>rw[hg] at h;exact go h
 | some jw=>
  obtain⟨j,want⟩:=jw
  rw[hg] at h
  dsimp only at h⊢
  cases hs:fE ops j with
  | none=>rw[hs] at h;exact nN h
  | some d=>
   rw[hs] at h
   dsimp only at h
   show(qq (iF P o.op) o.dst (eh P) ro a σ id (rk want (a.tmps.get d))).Holds (yJ k)
   revert h
   cases a.tmps.get d with
   | none=>exact fun h=>h.elim
   | some v=>cases v with
    | bool b=>
     intro h
     have h':ae (b==want) _ _:=h
     show(qq (iF P o.op) o.dst (eh P) ro a σ id (some (b==want))).Holds (yJ k)
     cases hb:b==want with
     | true=>exact go (ae.y h' hb)
     | false=>exact nN (ae.z h' hb)
    | any i=>exact fun h=>h.elim
    | _=>exact fun h=>nN h
noncomputable def Lm (P:Program) (K:eI P) (ro:Option Nat) (ops:List Oper) (k:Act→St→Prop):List Oper→Act→St→Prop
 | []=>k
 | o::l=>fun a σ=>AN P K ro ops o a σ σ.next (Lm P K ro ops k l)
theorem rR {K:eI P} (hK:K.OkC) {ops:List Oper} {Q:cd}:∀ {l:List Oper} {a:Act} {σ:St},Lm P K ro ops (Q .normal) l a σ→((Gv P ops l).f (eh P) ro a σ).Holds (j7 Q)
 | [],_,_,h=>h
 | _::_,_,_,h=>bu.Holds.dN ((vN hK h).mono fun _ hx=>rR hK hx)
noncomputable def qJ (P:Program) (K:eI P) (ro:Option Nat) (ops:List Oper) (base:Nat) (k:Act→St→Prop):List Item→List St→Act→St→Prop
 | [],_=>k
 | it::l,snaps=>fun a σ=>match nth ops it.i with
  | some o=>AN P K ro ops o a σ (Nat.add base it.i) fun a' σ'=>GX it.back (eo P (nj ops o a) it.back snaps a (lg a' o.dst) o.op) (qJ P K ro ops base k l (kM (bl o.op) σ' snaps) a' σ')
  | none=>False
theorem oH {K:eI P} (hK:K.OkC) {ops:List Oper} {Q:cd} {base:Nat}:∀ {l:List Item} {snaps:List St} {a:Act} {σ:St},qJ P K ro ops base (Q .normal) l snaps a σ→((j4 P ops l).f (eh P) ro base snaps a σ).Holds (j7 Q)
 | [],_,_,_,h=>h
 | it::l,snaps,a,σ,h=>by
  show((tg P ops it (j4 P ops l) (nth ops it.i)).f (eh P) ro base snaps a σ).Holds (j7 Q)
  unfold qJ at h
  cases hn:nth ops it.i with
  | none=>rw[hn] at h;exact h.elim
  | some o=>
   rw[hn] at h
   dsimp only at h
   refine bu.Holds.dN ((vN hK h).mono fun⟨a',σ'⟩ hx=>?_)
   have cE:GX it.back (eo P (nj ops o a) it.back snaps a (lg a' o.dst) o.op) (qJ P K ro ops base (Q .normal) l (kM (bl o.op) σ' snaps) a' σ'):=hx
   have hb:(Nat.beq it.back 0||eo P (nj ops o a) it.back snaps a (lg a' o.dst) o.op)=true∧qJ P K ro ops base (Q .normal) l (kM (bl o.op) σ' snaps) a' σ':=by
    unfold GX at cE
    split at cE
    ·rename_i hz;rw[hz];exact⟨rfl,cE⟩
    ·cases hc:eo P (nj ops o a) it.back snaps a (lg a' o.dst) o.op with
     | true=>exact⟨by rw[Bool.or_true],ae.y cE hc⟩
     | false=>exact(ae.z cE hc).elim
   show(match Nat.beq it.back 0||eo P (nj ops o a) it.back snaps a (lg a' o.dst) o.op with
    | true=>(j4 P ops l).f (eh P) ro base (kM (bl o.op) σ' snaps) a' σ'
    | false=>.fail "a load and a write, in either order":Run).Holds (j7 Q)
   rw[hb.1];exact oH hK hb.2
noncomputable def G3 (P:Program) (K:eI P) (ro:Option Nat) (ops:List Oper) (k:Act→St→Prop) (a:Act) (σ:St):Option (List Item)→Prop
 | some l=>qJ P K ro ops σ.next k l [ahead (len ops) σ] a (ahead (len ops) σ)
 | none=>False
noncomputable def yN (P:Program) (K:eI P) (ro:Option Nat) (ops:List Oper) (k:Act→St→Prop) (a:Act) (σ:St):Bool→Prop
 | false=>Lm P K ro ops k ops a σ
 | true=>G3 P K ro ops k a σ (j3 P ops)
def qK (Q:cd):cd
 | .goto _=>fun _ _=>False
 | e=>Q e
noncomputable def ws (P:Program) [Env] (K:eI P) (fn:FuncId) (ro:Option Nat):Nat→Code→cd→Act→St→Prop
 | _,.skip,Q=>Q .normal
 | _,.label _,Q=>Q .normal
 | i,.seq x y,Q=>ws P K fn ro i x (ib (ws P K fn ro (Nat.add i (aD x)) y Q) Q)
 | i,.cond x y z,Q=>fun a σ=>xw (ws P K fn ro i y Q a σ) (ws P K fn ro (Nat.add i (aD y)) z Q a σ) (a.eval x)
 | i,.block id x,Q=>ws P K fn ro i x (oE id Q)
 | i,.loop x,Q=>K.loop fn ro i x Q
 | _,.exit id,Q=>Q (.exit id)
 | _,.goto l,Q=>Q (.goto l)
 | _,.ret,Q=>Q .ret
 | _,.region _ ops draw,Q=>fun a σ=>yN P K ro ops.toList (Q .normal) a σ draw
 | i,.scope x,Q=>ws P K fn ro i x (qK Q)
 | _,.rangeFunc f ps adj bo,Q=>K.range fn ro (.rangeFunc f ps adj bo) Q
 | _,c,Q=>ck P fn ro c Q
def Part (pX:Code) (i:Nat) (c:Code):Prop:=∀ {j:Nat} {x:Code},(aO c)[j]? =some x→(aO pX)[i+j]? =some x
omit [eF P] [Env] in
theorem Part.left {pX x y c:Code} {i:Nat} (hc:aO c=aO x++aO y) (h:Part pX i c):Part pX i x:=fun hj=>
 h (by rw[hc,List.getElem?_append_left (List.getElem?_eq_some_iff.1 hj).1];exact hj)
omit [Env] in
theorem Part.right {pX x y c:Code} {i:Nat} (hc:aO c=aO x++aO y) (h:Part pX i c):Part pX (Nat.add i (aD x)) y:=fun {j z} hj=>by
 have:=h (j:=aD x+j) (x:=z) (by rw[hc,List.getElem?_append_right (by rw[dK];omega),dK,show aD x+j-aD x=j by omega];exact hj)
 rw[show i+(aD x+j)=Nat.add i (aD x)+j from (Nat.add_assoc _ _ _).symm] at this
 exact this
omit [eF P] [Env] in
theorem Part.whole (c:Code):Part c 0 c:=fun {j x} hj=>by rw[Nat.zero_add];exact hj
omit [Env] in
theorem Part.in {c x:Code} {k:Nat} (h:(aO c)[k]? =some x):Part c (k+1) x:=fun hj=>rO c h hj
theorem ck.gw {K:eI P} (hK:K.Ok) {g:Func} {pX:Code} (hf:P.funcs[fn]? =some g) (hb:g.body=some pX):∀ {c:Code} {i:Nat} (_:Part pX i c) {Q:cd} {a:Act} {σ:St},ws P K fn ro i c Q a σ→ck P fn ro c Q a σ
 | .skip,_,_,_,_,_,h=>⟨h⟩
 | .label _,_,_,_,_,_,h=>⟨h⟩
 | .seq x y,i,hp,Q,a,σ,h=>by
  have h':ws P K fn ro i x (ib (ws P K fn ro (Nat.add i (aD x)) y Q) Q) a σ:=h
  refine .seq ((ck.gw hK hf hb (hp.left rfl) h').mono fun e a σ hx=>?_)
  cases e with
  | normal=>exact ck.gw hK hf hb (hp.right rfl) hx
  | _=>exact hx
 | .cond x y z,i,hp,Q,a,σ,h=>by
  refine .cond ?_
  have h':xw (ws P K fn ro i y Q a σ) (ws P K fn ro (Nat.add i (aD y)) z Q a σ) (a.eval x):=h
  revert h'
  cases a.eval x with
  | none=>exact id
  | some v=>cases v with
   | bool b=>exact fun h=>.mk (fun e=>ck.gw hK hf hb (hp.left rfl) (ae.y h e)) fun e=>ck.gw hK hf hb (hp.right rfl) (ae.z h e)
   | _=>exact id
 | .block id x,i,hp,Q,a,σ,h=>.block (ck.gw hK hf hb (c:=x) (i:=i) (fun hj=>hp hj) h)
 | .loop x,i,hp,Q,a,σ,h=>kj.h (hK.loop hf hb (hp (j:=0) rfl) h)
 | .exit id,_,_,_,_,_,h=>⟨h⟩
 | .goto l,_,_,_,_,_,h=>⟨h⟩
 | .ret,_,_,_,_,_,h=>⟨h⟩
 | .region _ ops draw,_,_,Q,a,σ,h=>by
  have h':yN P K ro ops.toList (Q .normal) a σ draw:=h
  cases draw with
  | false=>exact⟨rR hK.toOkC h'⟩
  | true=>
   have h':G3 P K ro ops.toList (Q .normal) a σ (j3 P ops.toList):=h'
   constructor
   show((match j3 P ops.toList with
    | some l=>(⟨fun R ro a σ=>(j4 P ops.toList l).f R ro σ.next [ahead (len ops.toList) σ] a (ahead (len ops.toList) σ)⟩:uQ)
    | none=>⟨fun _ _ _ _=>.fail "plan"⟩).f (eh P) ro a σ).Holds (j7 Q)
   cases hp:j3 P ops.toList with
   | none=>rw[hp] at h';exact h'.elim
   | some l=>rw[hp] at h';exact oH hK.toOkC h'
 | .rangeFunc _ _ _ _,_,_,_,_,_,h=>hK.range h
 | .scope x,i,hp,Q,a,σ,h=>.scope (.of ((ck.gw hK hf hb (c:=x) (i:=i) (fun hj=>hp hj) h).mono fun e a σ hx=>by
  cases e with
  | goto l=>exact hx.elim
  | _=>exact hx))
 | .refuse _,_,_,_,_,_,h=>h
def oI (P:Program) (fn:Func) (Q:ah):cd
 | .normal=>fun a σ=>match a.defers with
  | []=>BO Q σ (eQ P a σ fn.results.toList)
  | _=>nP P (.leave fn a) (l9 Q) σ
 | .ret=>fun a σ=>match a.defers with
  | []=>BO Q σ (eQ P a σ fn.results.toList)
  | _=>nP P (.leave fn a) (l9 Q) σ
 | _=>fun _ _=>False
theorem oJ {fn:Func} {a:Act} {σ:St} {Q:ah} (h:match a.defers with
  | []=>BO Q σ (eQ P a σ fn.results.toList)
  | _=>nP P (.leave fn a) (l9 Q) σ):cj P (.leave fn a) σ (l9 Q):=by
 cases hd:a.defers with
 | nil=>
  rw[hd] at h
  refine .n3 ?_
  show(o9 P (eh P) fn a σ a.defers).Holds _
  rw[hd]
  show(yl σ (eQ P a σ fn.results.toList)).Holds _
  have h':BO Q σ (eQ P a σ fn.results.toList):=h
  revert h'
  cases eQ P a σ fn.results.toList with
  | none=>exact id
  | some l=>exact id
 | cons d l=>rw[hd] at h;exact nP.h h
theorem ag.N7 {f:FuncId} {fn:Func} {c:Code} {vs:List V} {Q:ah} {σ:St} (hf:P.funcs[f]? =some fn) (hb:fn.body=some c) (hn:(fn.name== "runtime.NumGoroutine")=false)
  (h:cj P (.code none f c (lb fn.ntmps vs)) σ (j7 (oI P fn Q))):ag P f vs Q σ:=by
 refine⟨.n3 ?_⟩
 show(mS (eh P) f vs σ P.funcs[f]?).Holds _
 rw[hf]
 show(rn (eh P) f fn vs σ (A2 (eh P) fn) fn.body).Holds _
 rw[hb]
 show(match fn.name== "runtime.NumGoroutine" with
  | true=>.fail "NumGoroutine"
  | false=>(eh P (.code none f c (lb fn.ntmps vs)) σ).bind (A2 (eh P) fn):Run).Holds _
 rw[hn]
 refine bu.Holds.dN (cj.mono (fun⟨o,σ⟩ hx=>?_) h)
 cases o with
 | val v=>exact hx.elim
 | exit e a=>cases e with
  | normal=>exact oJ hx
  | ret=>exact oJ hx
  | _=>exact hx.elim
theorem ag.code {f:FuncId} {fn:Func} {c:Code} {vs:List V} {Q:ah} {σ:St} (hf:P.funcs[f]? =some fn) (hb:fn.body=some c) (hn:(fn.name== "runtime.NumGoroutine")=false)
  (h:ck P f none c (oI P fn Q) (lb fn.ntmps vs) σ):ag P f vs Q σ:=.N7 hf hb hn h.xG
theorem ag.body {f:FuncId} {fn:Func} {c:Code} {vs:List V} {Q:ah} {σ:St} (hf:P.funcs[f]? =some fn) (hb:fn.body=some c) (hn:(fn.name== "runtime.NumGoroutine")=false)
  {K:eI P} (hK:K.Ok) (h:ws P K f none 0 c (oI P fn Q) (lb fn.ntmps vs) σ):ag P f vs Q σ:=.code hf hb hn (.gw hK hf hb (Part.whole c) h)
end
end Go.Ev
end
