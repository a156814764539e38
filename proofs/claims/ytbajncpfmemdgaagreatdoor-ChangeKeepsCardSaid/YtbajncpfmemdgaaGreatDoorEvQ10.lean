/- Proved: parts of the way: Told, Sem. -/
import Derived.Test.YtbajncpfmemdgaaGreatDoorEvQ09
set_option linter.unusedVariables false
set_option linter.unusedSimpArgs false
section
namespace Go.Ev
open Go Go.RowKit
noncomputable def sc {α:Type} (f:α→α→Bool) (l:List α):List α→Bool:=
 List.rec (motive:=fun _=>List α→Bool) (fun m=>List.rec (motive:=fun _=>Bool) true (fun _ _ _=>false) m)
  (fun a _ ih m=>List.rec (motive:=fun _=>Bool) false (fun b m' _=>Bool.rec false (ih m') (f a b)) m) l
theorem my {α:Type} {f:α→α→Bool} (hf:∀a b,f a b=true→a=b):∀ {l m:List α},sc f l m=true→l=m
 | [],[],_=>rfl
 | [],_::_,h=>by cases h
 | _::_,[],h=>by cases h
 | a::l,b::m,h=>by
  have h':(Bool.rec false (sc f l m) (f a b):Bool)=true:=h
  cases Cq:f a b with
  | false=>rw[Cq] at h';cases h'
  | true=>rw[Cq] at h';rw[hf a b Cq,my hf h']
noncomputable def OT {α:Type} (f:α→α→Bool) (x y:Option α):Bool:=
 match x with
 | none=>match y with
  | none=>true
  | some _=>false
 | some a=>match y with
  | none=>false
  | some b=>f a b
theorem L5 {α:Type} {f:α→α→Bool} (hf:∀a b,f a b=true→a=b) {x y:Option α} (h:OT f x y=true):x=y:=by
 cases x<;>cases y<;>first | rfl | cases h | (rw[hf _ _ h])
noncomputable def Trie.same {α:Type} (f:α→α→Bool) (s t:Trie α):Bool:=sc (sc (sc (sc (OT f)))) s t
theorem Trie.vi {α:Type} {f:α→α→Bool} (hf:∀a b,f a b=true→a=b) {s t:Trie α} (h:Trie.same f s t=true):s=t:=
 my (fun _ _ h=>my (fun _ _ h=>my (fun _ _ h=>my (fun _ _ h=>L5 hf h) h) h) h) h
noncomputable def zm (e e':V×V×Nat):Bool:=V.beq e.1 e'.1&&V.beq e.2.1 e'.2.1&&Nat.beq e.2.2 e'.2.2
theorem HB {e e':V×V×Nat} (h:zm e e'=true):e=e':=by
 obtain⟨a,b,n⟩:=e
 obtain⟨a',b',n'⟩:=e'
 simp only[zm,Bool.and_eq_true] at h
 rw[V.beq_eq h.1.1,V.beq_eq h.1.2,Nat.eq_of_beq_eq_true h.2]
noncomputable def bV.same (k k':bV):Bool:=
 match k with
 | .cells n z t p ro=>match k' with
  | .cells n' z' t' p' Yj=>Nat.beq n n'&&(V.gD z z'&&(Trie.same V.beq t t'&&(p==p'&&ro==Yj)))
  | _=>false
 | .map es c=>match k' with
  | .map BD c'=>Nat.beq c c'&&sc zm es BD
  | _=>false
 | .iter m s l c=>match k' with
  | .iter m' s' l' c'=>decide (m=m')&&(Nat.beq s s'&&(decide (l=l')&&Nat.beq c c'))
  | _=>false
 | .deferred=>match k' with
  | .deferred=>true
  | _=>false
 | _=>false
theorem bV.vi {k k':bV} (h:bV.same k k'=true):k=k':=by
 cases k<;>cases k'<;>first
  | rfl
  | (cases h;done)
  | (rename_i n z t p ro n' z' t' p' Yj
     simp only[bV.same,Bool.and_eq_true,beq_iff_eq] at h
     rw[Nat.eq_of_beq_eq_true h.1,V.jT h.2.1,Trie.vi (fun _ _=>V.beq_eq) h.2.2.1,h.2.2.2.1,h.2.2.2.2])
  | (simp only[bV.same,Bool.and_eq_true] at h
     rw[Nat.eq_of_beq_eq_true h.1,my (fun _ _=>HB) h.2])
  | (simp only[bV.same,Bool.and_eq_true,decide_eq_true_eq] at h
     rw[h.1,Nat.eq_of_beq_eq_true h.2.1,h.2.2.1,Nat.eq_of_beq_eq_true h.2.2.2])
structure Told where
 f:FuncId
 args:List V
 pre:List (Nat×bV)
 now:Nat
 v:V
 post:List (Nat×Option bV)
 then':Nat
noncomputable def OU {α:Type} (l:List (Nat×Option α)):Trie α→Trie α:=
 List.rec (motive:=fun _=>Trie α→Trie α) (fun t=>t) (fun x _ ih t=>ih (t.put x.1 x.2)) l
noncomputable def Bk {α:Type} (l:List (Nat×α)):Trie α→Trie α:=
 List.rec (motive:=fun _=>Trie α→Trie α) (fun t=>t) (fun x _ ih t=>ih (t.put x.1 (some x.2))) l
noncomputable def Kc {α:Type} (l:List (Nat×α)):Trie α→Trie α:=
 List.rec (motive:=fun _=>Trie α→Trie α) (fun t=>t) (fun x _ ih t=>ih (t.put x.1 none)) l
theorem AE {α:Type} {b:Nat} {k:α}:∀ {l:List (Nat×Option α)} {t:Trie α},(OU l t).get b=some k→(b,some k)∈l∨t.get b=some k
 | [],_,h=>.inr h
 | x::l,t,h=>by
  rcases AE (l:=l) (t:=t.put x.1 x.2) h with h | h
  ·exact .inl (List.mem_cons_of_mem _ h)
  ·rw[Trie.bP] at h
   by_cases e:b=x.1
   ·rw[if_pos e] at h
    refine .inl (List.mem_cons.2 (.inl ?_))
    rw[e,←h]
   ·rw[if_neg e] at h;exact .inr h
theorem tL {α:Type} {b:Nat} {k:α}:∀ {l:List (Nat×α)} {t:Trie α},(Bk l t).get b=some k→(b,k)∈l∨t.get b=some k
 | [],_,h=>.inr h
 | x::l,t,h=>by
  rcases tL (l:=l) (t:=t.put x.1 (some x.2)) h with h | h
  ·exact .inl (List.mem_cons_of_mem _ h)
  ·rw[Trie.bP] at h
   by_cases e:b=x.1
   ·rw[if_pos e] at h
    cases h
    exact .inl (List.mem_cons.2 (.inl (by rw[e])))
   ·rw[if_neg e] at h;exact .inr h
theorem yi {α:Type} {b:Nat} {k:α}:∀ {l:List (Nat×α)} {t:Trie α},(Kc l t).get b=some k→t.get b=some k∧∀x∈l,x.1≠b
 | [],_,h=>⟨h,fun _ hx=>by cases hx⟩
 | x::l,t,h=>by
  obtain⟨h1,h2⟩:=yi (l:=l) (t:=t.put x.1 none) h
  rw[Trie.bP] at h1
  by_cases e:b=x.1
  ·rw[if_pos e] at h1;cases h1
  ·rw[if_neg e] at h1
   refine⟨h1,fun y hy=>?_⟩
   rcases List.mem_cons.1 hy with rfl | hy
   ·exact fun h=>e h.symm
   ·exact h2 y hy
noncomputable def Told.st (e:Told):St:=⟨Bk e.pre .leaf,e.now⟩
noncomputable def Told.put (e:Told) (σ:St):St:=⟨OU e.post (Kc e.pre σ.heap),e.then'⟩
noncomputable def HC (σ:St) (l:List (Nat×bV)):Bool:=
 List.rec (motive:=fun _=>Bool) true (fun x _ ih=>match σ.heap.get x.1 with
  | some k=>Bool.rec false ih (bV.same k x.2)
  | none=>false) l
noncomputable def yj (σ:St) (l:List (Nat×Option bV)):Bool:=
 List.rec (motive:=fun _=>Bool) true (fun x _ ih=>match x.2 with
  | none=>ih
  | some k'=>match σ.heap.get x.1 with
   | some k=>Bool.rec false ih (bV.same k k')
   | none=>false) l
theorem Cr {σ:St}:∀ {l:List (Nat×bV)},HC σ l=true→∀x∈l,σ.heap.get x.1=some x.2
 | [],_,_,hx=>by cases hx
 | y::l,h,x,hx=>by
  have h':(match σ.heap.get y.1 with
   | some k=>Bool.rec false (HC σ l) (bV.same k y.2)
   | none=>false:Bool)=true:=h
  cases hk:σ.heap.get y.1 with
  | none=>rw[hk] at h';cases h'
  | some k=>
   rw[hk] at h'
   dsimp only at h'
   cases hs:bV.same k y.2 with
   | false=>rw[hs] at h';cases h'
   | true=>
    rw[hs] at h'
    rcases List.mem_cons.1 hx with rfl | hx
    ·rw[hk,bV.vi hs]
    ·exact Cr (l:=l) h' x hx
theorem tM {σ:St}:∀ {l:List (Nat×Option bV)},yj σ l=true→∀b k,(b,some k)∈l→σ.heap.get b=some k
 | [],_,_,_,hx=>by cases hx
 | y::l,h,b,k,hx=>by
  obtain⟨c,o⟩:=y
  cases o with
  | none=>
   rcases List.mem_cons.1 hx with hx | hx
   ·cases hx
   ·exact tM (l:=l) h b k hx
  | some k'=>
   have h':(match σ.heap.get c with
    | some k=>Bool.rec false (yj σ l) (bV.same k k')
    | none=>false:Bool)=true:=h
   cases hk:σ.heap.get c with
   | none=>rw[hk] at h';cases h'
   | some k₁=>
    rw[hk] at h'
    dsimp only at h'
    cases hs:bV.same k₁ k' with
    | false=>rw[hs] at h';cases h'
    | true=>
     rw[hs] at h'
     rcases List.mem_cons.1 hx with hx | hx
     ·cases hx;rw[hk,bV.vi hs]
     ·exact tM (l:=l) h' b k hx
noncomputable def Told.fits (e:Told) (f:FuncId) (args:List V) (σ:St):Bool:=
 match Nat.beq e.f f with
 | true=>match Nat.beq e.now σ.next with
  | true=>match V.gD e.args args with
   | true=>HC σ e.pre
   | false=>false
  | false=>false
 | false=>false
theorem Told.PS {e:Told} {f:FuncId} {args:List V} {σ:St} (h:e.fits f args σ=true):e.f=f∧e.now=σ.next∧e.args=args∧∀x∈e.pre,σ.heap.get x.1=some x.2:=by
 unfold Told.fits at h
 split at h
 ·rename_i h1
  split at h
  ·rename_i h2
   split at h
   ·rename_i h3
    exact⟨Nat.eq_of_beq_eq_true h1,Nat.eq_of_beq_eq_true h2,V.jT h3,Cr h⟩
   ·cases h
  ·cases h
 ·cases h
noncomputable def yk (O:List Told) (f:FuncId) (args:List V) (σ:St):Option Told:=
 List.rec (motive:=fun _=>Option Told) none (fun e _ ih=>match e.fits f args σ with
  | true=>some e
  | false=>ih) O
theorem Cs {f:FuncId} {args:List V} {σ:St} {e:Told}:∀ {O:List Told},yk O f args σ=some e→e∈O∧e.fits f args σ=true
 | [],h=>by cases h
 | x::O,h=>by
  have h':(match x.fits f args σ with
   | true=>some x
   | false=>yk O f args σ)=some e:=h
  split at h'
  ·rename_i hx
   cases h'
   exact⟨List.mem_cons_self,hx⟩
  ·obtain⟨h1,h2⟩:=Cs h'
   exact⟨List.mem_cons_of_mem _ h1,h2⟩
noncomputable def OW (P:Program) (R:Task→St→Run) (f:FuncId) (args:List V) (σ:St):Option Told→Run
 | some e=>.ok (.val e.v,e.put σ)
 | none=>nq R f args σ P.funcs[f]?
noncomputable def OX (P:Program) (O:List Told) (R:Task→St→Run) (t:Task) (σ:St):Run:=
 match t with
 | .call f args=>OW P R f args σ (yk O f args σ)
 | t=>step P R t σ
noncomputable def zn (P:Program) (O:List Told) (n:Nat):Task→St→Run:=
 Nat.rec (motive:=fun _=>Task→St→Run) (fun _ _=>.fail "fuel") (fun _ ih=>OX P O ih) n
def Told.says (e:Told):Out×St→Prop
 | (.val v,σ)=>v=e.v∧σ.next≤e.then'∧∀b k,(b,some k)∈e.post→σ.heap.get b=some k
 | _=>False
def Told.ok (P:Program) (e:Told):Prop:=
 ∀ [Env] {ρ:Ren} {w:World} {vs':List Value},R ρ e.st w→au ρ e.args vs'→(callFunc e.f ⟨vs'⟩).run P w=.ok (.enter e.f ⟨vs'⟩) w∧CallsIn Fence.wide 0 P e.f ⟨vs'⟩ w (cE e.says ρ e.st w)
theorem R.part [Env] {ρ:Ren} {σ τ:St} {w:World} (h:R ρ σ w) (hn:τ.next=σ.next) (hs:∀b k,τ.heap.get b=some k→σ.heap.get b=some k):R ρ τ w:=h.sub hs hn
theorem bf.frame [Env] {ρ ρ':Ren} {σ τ hJ σ':St} {w w':World} (hr:R ρ σ w) (hn:τ.next=σ.next) (hs:∀b k,τ.heap.get b=some k→σ.heap.get b=some k) (h:bf pw ρ τ w ρ' hJ w')
  (nP:hJ.next≤σ'.next) (nt:∀b k,σ'.heap.get b=some k→hJ.heap.get b=some k∨(σ.heap.get b=some k∧τ.heap.get b=none)):bf pw ρ σ w ρ' σ' w':=by
 have apart:∀b k l,σ.heap.get b=some k→τ.heap.get b=none→ρ b=some l→¬Wr ρ τ l.c:=by
  rintro b k l hb bq hl ⟨cQ,k₁,cg,h1,_,h3,h4⟩
  have e:=hr.inj b cQ k k₁ l cg hb (hs _ _ h1) hl h3 h4.symm
  rw[←e,bq] at h1
  cases h1
 have known:∀b k,σ.heap.get b=some k→∃l,ρ b=some l∧ρ' b=some l∧cC ρ w l k:=fun b k hb=>by
  obtain⟨l,hl,hk⟩:=hr.cP b k hb
  exact⟨l,hl,h.le b l hl,hk⟩
 have mixed:∀b b' k k' l l',hJ.heap.get b=some k→σ.heap.get b'=some k'→τ.heap.get b'=none→ρ' b=some l→ρ' b'=some l'→l.c=l'.c→False:=by
  intro b b' k k' l l' h1 h2 h3 h4 h5 h6
  obtain⟨lG,x8,Sq,_⟩:=known b' k' h2
  rw[Sq] at h5;cases h5
  refine apart b' k' l' h2 h3 x8 ?_
  rw[←h6]
  exact h.wr l.c (by rw[h6];exact hr.valid _ _ x8) ⟨b,k,l,h1,rfl,h4,rfl⟩
 refine⟨⟨fun b k hb=>?_,fun b b' k k' l l' h1 h2 h3 h4 h5=>?_,fun b hb=>h.r.fresh b (Nat.le_trans nP hb),h.r.valid,fun c o x hx=>?_,h.r.laid⟩,h.le,Nat.le_trans (by rw[←hn];exact h.next) nP,fun b l hb=>?_,h.size,h.os,h.tape,h.output,fun c hc hw=>?_,?_,fun b k hb=>?_,fun c o x hx=>?_⟩
 ·rcases nt b k hb with h1 | ⟨h1,h2⟩
  ·exact h.r.cP b k h1
  ·obtain⟨l,hl,cF,hk⟩:=known b k h1
   exact⟨l,cF,hk.same h.le (h.aJ l.c (hr.valid _ _ hl) (apart b k l h1 h2 hl))⟩
 ·rcases nt b k h1 with g1 | ⟨g1,AF⟩<;>rcases nt b' k' h2 with g2 | ⟨g2,wz⟩
  ·exact h.r.inj b b' k k' l l' g1 g2 h3 h4 h5
  ·exact(mixed b b' k k' l l' g1 g2 wz h3 h4 h5).elim
  ·exact(mixed b' b k' k l' l g2 g1 AF h4 h3 h5.symm).elim
  ·obtain⟨cg,a1,a2,_⟩:=known b k g1
   obtain⟨lG,b1,b2,_⟩:=known b' k' g2
   rw[a2] at h3;rw[b2] at h4;cases h3;cases h4
   exact hr.inj b b' k k' l l' g1 g2 a1 b1 h5
 ·obtain⟨g1,g2⟩:=h.r.aL c o x hx
  refine⟨g1,?_⟩
  rintro⟨cQ,k₁,cg,h1,h2,h3,h4⟩
  rcases nt cQ k₁ h1 with g | ⟨g,g'⟩
  ·exact g2 ⟨cQ,k₁,cg,g,h2,h3,h4⟩
  ·obtain⟨l,hl,cF,_⟩:=known cQ k₁ g
   rw[cF] at h3;cases h3
   have bB:cg.c<w.heap.size:=hr.valid _ _ hl
   subst h4
   rcases h.gv cg.c o x hx with q | q | q
   ·exact(hr.aL _ _ _ q).2 ⟨cQ,k₁,cg,g,h2,hl,rfl⟩
   ·omega
   ·exact apart cQ k₁ cg g g' hl q
 ·rw[←hn];exact h.iy b l hb
 ·refine h.aJ c hc fun hh=>hw ?_
  obtain⟨cQ,k₁,cg,h1,h2,h3,h4⟩:=hh
  exact⟨cQ,k₁,cg,hs _ _ h1,h2,h3,h4⟩
 ·rintro c hc ⟨cQ,k₁,cg,h1,h2,h3,h4⟩
  rcases nt cQ k₁ h1 with g | ⟨g,_⟩
  ·obtain⟨cR,k₂,lG,a1,a2,a3,a4⟩:=h.wr c hc ⟨cQ,k₁,cg,g,h2,h3,h4⟩
   exact⟨cR,k₂,lG,hs _ _ a1,a2,a3,a4⟩
  ·obtain⟨l,hl,cF,_⟩:=known cQ k₁ g
   rw[cF] at h3;cases h3
   exact⟨cQ,k₁,cg,g,h2,hl,h4⟩
 ·rcases nt b k hb with g | ⟨g,_⟩
  ·rcases h.iM b k g with ⟨k',g⟩ | g | g
   ·exact .inl ⟨k',hs _ _ g⟩
   ·exact .inr (.inl (by rw[←hn];exact g))
   ·exact .inr (.inr g)
  ·exact .inl ⟨k,g⟩
 ·rcases h.gv c o x hx with q | q | q
  ·exact .inl q
  ·exact .inr (.inl q)
  ·obtain⟨cQ,k₁,cg,h1,h2,h3,h4⟩:=q
   exact .inr (.inr ⟨cQ,k₁,cg,hs _ _ h1,h2,h3,h4⟩)
section
variable {P:Program} {O:List Told}
theorem Kd [Env] {e:Told} (he:e.ok P) {f:FuncId} {vs:List V} {σ:St} (hf:e.fits f vs σ=true) {p:Out×St→Prop} (hp:p (.val e.v,e.put σ)) {ρ:Ren} {w:World} {vs':List Value} (hr:R ρ σ w) (hv:au ρ vs vs'):
  (callFunc f ⟨vs'⟩).run P w=.ok (.enter f ⟨vs'⟩) w∧CallsIn Fence.wide 0 P f ⟨vs'⟩ w (cE p ρ σ w):=by
 obtain⟨rfl,h2,rfl,h4⟩:=e.PS hf
 have hs:∀b k,e.st.heap.get b=some k→σ.heap.get b=some k:=by
  intro b k hb
  rcases tL (l:=e.pre) (t:=.leaf) hb with hb | hb
  ·exact h4 _ hb
  ·rw[Trie.eK] at hb;cases hb
 obtain⟨g1,g2⟩:=he (hr.part (τ:=e.st) h2 hs) hv
 refine⟨g1,g2.mono fun en w' hx=>?_⟩
 obtain⟨v,hJ,ρ',v',⟨rfl,nP,hk⟩,rfl,kl,az⟩:=hx
 refine⟨_,_,ρ',v',hp,rfl,kl,az.frame hr h2 hs nP fun b k hb=>?_⟩
 rcases AE (l:=e.post) hb with hb | hb
 ·exact .inl (hk b k hb)
 ·obtain⟨h5,h6⟩:=yi hb
  refine .inr ⟨h5,?_⟩
  cases hq:e.st.heap.get b with
  | none=>rfl
  | some k'=>
   rcases tL (l:=e.pre) (t:=.leaf) hq with hq | hq
   ·exact absurd rfl (h6 _ hq)
   ·rw[Trie.eK] at hq;cases hq
theorem HD [Env] (ji:P.follows .mixedOrders=true) (hO:∀e∈O,e.ok P) {Rn:Task→St→Run} (hg:Good P Rn):Good P (OX P O Rn):=by
 have hs:=Aw ji hg
 refine⟨hs.code,hs.loop,hs.inScope,?_,hs.deferred,hs.leave,hs.apply,hs.round⟩
 intro f vs σ p h ρ w vs' hr hv
 have h':(OW P Rn f vs σ (yk O f vs σ)).Holds p:=h
 cases hf:yk O f vs σ with
 | none=>rw[hf] at h';exact hs.call (f:=f) (vs:=vs) h' hr hv
 | some e=>
  rw[hf] at h'
  obtain⟨h1,h2⟩:=Cs hf
  exact Kd (hO e h1) h2 h' hr hv
theorem AG [Env] (ji:P.follows .mixedOrders=true) (hO:∀e∈O,e.ok P):∀n,Good P (zn P O n):=by
 intro n
 induction n with
 | zero=>constructor<;>intros<;>exact bA.Holds.tu (by assumption)
 | succ n ih=>exact HD ji hO ih
noncomputable def Told.check (e:Told):Out×St→Bool
 | (.val v,σ)=>V.beq v e.v&&(Nat.ble σ.next e.then'&&yj σ e.post)
 | _=>false
theorem Told.mz {e:Told} (ji:P.follows .mixedOrders=true) (hO:∀e∈O,e.ok P) (n:Nat) (h:(zn P O n (.call e.f e.args) e.st).check e.check=true):e.ok P:=by
 intro _ ρ w vs' hr hv
 refine(AG ji hO n).call ((bA.mq h).mono fun⟨o,σ⟩ hx=>?_) hr hv
 cases o with
 | exit x a=>cases hx
 | val v=>
  have cG:(V.beq v e.v&&(Nat.ble σ.next e.then'&&yj σ e.post))=true:=hx
  simp only[Bool.and_eq_true] at cG
  exact⟨V.beq_eq cG.1,Nat.le_of_ble_eq_true cG.2.1,tM cG.2.2⟩
end
end Go.Ev
end
section
namespace Go.Ev
open Go
def Sr [Env] (P:Program) (t:Task) (σ:St) (p:Out×St→Prop):Prop:=
 match t with
 | .code ro _ c a=>∀(ρ:Ren) (w:World) (a':Go.Act) (F:Fence),R ρ σ w→bC ρ a a'→fN ρ ro F→c.wpIn F 0 P (bJ p ρ σ w) a' w∧∀x,c=.loop x→jD F P x (bJ p ρ σ w) a' w
 | .inScope ro _ x cur a=>∀(ρ:Ren) (w:World) (a':Go.Act) (F:Fence),R ρ σ w→bC ρ a a'→fN ρ ro F→lf F P x cur (bJ p ρ σ w) a' w
 | .call f vs=>∀(ρ:Ren) (w:World) (vs':List Value),R ρ σ w→au ρ vs vs'→(callFunc f ⟨vs'⟩).run P w=.ok (.enter f ⟨vs'⟩) w∧CallsIn Fence.wide 0 P f ⟨vs'⟩ w (cE p ρ σ w)
 | .deferred f vs=>∀(ρ:Ren) (w:World) (vs':List Value),R ρ σ w→au ρ vs vs'→(callFunc f ⟨vs'⟩).run P w=.ok (.enter f ⟨vs'⟩) w∧
   ∀u,CallsDIn Fence.wide 0 P f ⟨vs'⟩ u w (fun e u' w'=>u'=u∧cE p ρ σ w e w')
 | .leave fn a=>∀(ρ:Ren) (w:World) (a':Go.Act),R ρ σ w→bC ρ a a'→LeavesInM Fence.wide 0 P fn a'.tmps (cE p ρ σ w) a'.defers .returning w
 | .apply f vs=>∀(ρ:Ren) (w:World) (f':Value) (vs':List Value),R ρ σ w→aq ρ f f'→au ρ vs vs'→∃d,(Deferred.ofValue f' ⟨vs'⟩).run P w=.ok d w∧Enters P d w (cE p ρ σ w)
 | .round l vs=>∀(ρ:Ren) (w:World) (k:Loc) (vs':List Value),R ρ σ w→ρ l=some k→au ρ vs vs'→
   ∃g tmps aef bo,(Instr.yield k.c ⟨vs'⟩).run P w=.ok (.round k.c g tmps aef bo) w∧RoundIn Fence.wide 0 P k.c g tmps aef bo w (cE p ρ σ w)
def cm [Env] (P:Program) (t:Task) (σ:St) (p:Out×St→Prop):Prop:=(∃x,p x)∧Sr P t σ p
theorem Good.yl [Env] {P:Program} {Rn:Task→St→Run} (hg:Good P Rn) {t:Task} {σ:St} {p:Out×St→Prop} (h:(Rn t σ).Holds p):cm P t σ p:=by
 refine⟨h.exists,?_⟩
 cases t with
 | code ro fn c a=>exact fun ρ w a' F hr ha bt=>⟨hg.code h hr ha bt,fun x hx=>by subst hx;exact hg.loop h hr ha bt⟩
 | inScope ro fn x cur a=>exact fun ρ w a' F hr ha bt=>hg.inScope h hr ha bt
 | call f vs=>exact fun ρ w vs' hr hv=>hg.call h hr hv
 | deferred f vs=>exact fun ρ w vs' hr hv=>hg.deferred h hr hv
 | leave fn a=>exact fun ρ w a' hr ha=>hg.leave h hr ha
 | apply f vs=>exact fun ρ w f' vs' hr hf hv=>hg.apply h hr hf hv
 | round l vs=>exact fun ρ w k vs' hr hl hv=>hg.round h hr hl hv
theorem Enters.mono {P:Program} {d:Deferred} {w:World} {Q Q':Ending→World→Prop} (h:Enters P d w Q) (hq:∀e w,Q e w→Q' e w):Enters P d w Q':=by
 rcases h with ⟨f,args,h1,h2⟩ | ⟨l,f,tmps,aef,bo,h1,h2⟩
 ·exact .inl ⟨f,args,h1,h2.mono hq⟩
 ·exact .inr ⟨l,f,tmps,aef,bo,h1,h2.mono hq⟩
theorem cm.mono [Env] {P:Program} {t:Task} {σ:St} {p q:Out×St→Prop} (sN:∀x,p x→q x) (h:cm P t σ p):cm P t σ q:=by
 refine⟨let ⟨x,hx⟩:=h.1;⟨x,sN x hx⟩,?_⟩
 have h:=h.2
 cases t with
 | code ro fn c a=>exact fun ρ w a' F hr ha bt=>⟨wpIn_mono (h ρ w a' F hr ha bt).1 fun _ _ _ hx=>bJ.mono hx sN,fun x hx=>((h ρ w a' F hr ha bt).2 x hx).mono fun _ _ _ hx=>bJ.mono hx sN⟩
 | inScope ro fn x cur a=>exact fun ρ w a' F hr ha bt=>(h ρ w a' F hr ha bt).mono fun _ _ _ hx=>bJ.mono hx sN
 | call f vs=>exact fun ρ w vs' hr hv=>⟨(h ρ w vs' hr hv).1,(h ρ w vs' hr hv).2.mono fun _ _ hx=>cE.mono hx sN⟩
 | deferred f vs=>exact fun ρ w vs' hr hv=>⟨(h ρ w vs' hr hv).1,fun u=>((h ρ w vs' hr hv).2 u).mono fun _ _ _ hx=>⟨hx.1,cE.mono hx.2 sN⟩⟩
 | leave fn a=>exact fun ρ w a' hr ha=>LeavesInM.mono (h ρ w a' hr ha) fun _ _ hx=>cE.mono hx sN
 | apply f vs=>exact fun ρ w f' vs' hr hf hv=>let ⟨d,h1,h2⟩:=h ρ w f' vs' hr hf hv;⟨d,h1,h2.mono fun _ _ hx=>cE.mono hx sN⟩
 | round l vs=>exact fun ρ w k vs' hr hl hv=>let ⟨g,tmps,aef,bo,h1,h2⟩:=h ρ w k vs' hr hl hv;⟨g,tmps,aef,bo,h1,h2.mono fun _ _ hx=>cE.mono hx sN⟩
theorem cm.at [Env] {P:Program} {t:Task} {σ:St} {p:Out×St→Prop} (h:cm P t σ p):Sr P t σ p:=h.2
def er [Env] (P:Program) (t:Task) (σ:St):Run:=.tr (cm P t σ) (fun _ _ h=>cm.mono h) fun _ h=>h.1
theorem Ke [Env] (P:Program):Good P (er P):=by
 constructor
 case code=>intro ro fn c a σ p h ρ w a' F hr ha bt;exact(cm.at h ρ w a' F hr ha bt).1
 case loop=>intro ro fn x a σ p h ρ w a' F hr ha bt;exact(cm.at h ρ w a' F hr ha bt).2 x rfl
 case inScope=>intro ro fn x cur a σ p h ρ w a' F hr ha bt;exact cm.at h ρ w a' F hr ha bt
 case call=>intro f vs σ p h ρ w vs' hr hv;exact cm.at h ρ w vs' hr hv
 case deferred=>intro f vs σ p h ρ w vs' hr hv;exact cm.at h ρ w vs' hr hv
 case leave=>intro fn a σ p h ρ w a' hr ha;exact cm.at h ρ w a' hr ha
 case apply=>intro f vs σ p h ρ w f' vs' hr hf hv;exact cm.at h ρ w f' vs' hr hf hv
 case round=>intro l vs σ p h ρ w k vs' hr hl hv;exact cm.at h ρ w k vs' hr hl hv
class eJ (P:Program):Prop where
 h:P.follows .mixedOrders=true
section
variable {P:Program} [eJ P] [Env]
theorem cm.ov {t:Task} {σ:St} {p:Out×St→Prop} (h:(step P (er P) t σ).Holds p):cm P t σ p:=(Aw eJ.h (Ke P)).yl h
theorem cm.EI {O:List Told} (hO:∀e∈O,e.ok P) {t:Task} {σ:St} {p:Out×St→Prop} {n:Nat} (h:(zn P O n t σ).Holds p):cm P t σ p:=(AG eJ.h hO n).yl h
end
structure oa [Env] (P:Program) (t:Task) (p:Out×St→Prop) (σ:St):Prop where
 h:cm P t σ p
structure ag [Env] (P:Program) (f:FuncId) (vs:List V) (Q:ah) (σ:St):Prop where
 h:cm P (.call f vs) σ (mw Q)
structure cp [Env] (P:Program) (fn:FuncId) (ro:Option Nat) (c:Code) (Q:cj) (a:Act) (σ:St):Prop where
 h:((iK P fn c).f (er P) ro a σ).Holds (kj Q)
structure kz [Env] (P:Program) (fn:FuncId) (ro:Option Nat) (x:Code) (Q:cj) (a:Act) (σ:St):Prop where
 h:cp P fn ro (.loop x) Q a σ
structure tN [Env] (P:Program) (fn:FuncId) (ro:Option Nat) (x cur:Code) (Q:cj) (a:Act) (σ:St):Prop where
 h:cm P (.inScope ro fn x cur a) σ (kj Q)
section
variable {P:Program} [eJ P] [Env] {fn:FuncId} {ro:Option Nat}
omit [eJ P] in
theorem ag.mono {f:FuncId} {vs:List V} {Q Q':ah} {σ:St} (h:ag P f vs Q σ) (hq:∀v σ,Q v σ→Q' v σ):ag P f vs Q' σ:=
 ⟨cm.mono (fun⟨o,σ⟩ hx=>by cases o with
  | val v=>exact hq _ _ hx
  | exit e a=>exact hx) h.h⟩
omit [eJ P] in
theorem cp.mono {c:Code} {Q Q':cj} {a:Act} {σ:St} (h:cp P fn ro c Q a σ) (hq:∀e a σ,Q e a σ→Q' e a σ):cp P fn ro c Q' a σ:=
 ⟨h.h.mono fun⟨o,σ⟩ hx=>by cases o with
  | val v=>exact hx
  | exit e a=>exact hq _ _ _ hx⟩
theorem cp.yl {c:Code} {Q:cj} {a:Act} {σ:St} (h:cp P fn ro c Q a σ):cm P (.code ro fn c a) σ (kj Q):=by
 by_cases hl:∃x,c=.loop x
 ·obtain⟨x,rfl⟩:=hl
  exact h.h
 ·refine .ov (t:=.code ro fn c a) ?_
  show(wT P (er P) ro fn a σ c).Holds (kj Q)
  have h:=h.h
  cases c<;>first
   | exact absurd ⟨_,rfl⟩ hl
   | exact h
omit [eJ P] in
theorem cp.seq {x y:Code} {Q:cj} {a:Act} {σ:St} (h:cp P fn ro x (ig (cp P fn ro y Q) Q) a σ):cp P fn ro (.seq x y) Q a σ:=by
 refine⟨bA.Holds.dP (h.h.mono fun⟨o,σ⟩ hz=>?_)⟩
 cases o with
 | val v=>exact hz.elim
 | exit e a=>cases e with
  | normal=>exact cp.h hz
  | _=>exact hz
omit [eJ P] in
theorem cp.cond {x:Operand} {y z:Code} {Q:cj} {a:Act} {σ:St} (h:yb (cp P fn ro y Q a σ) (cp P fn ro z Q a σ) (a.eval x)):cp P fn ro (.cond x y z) Q a σ:=by
 constructor
 show(Bc ((iK P fn y).f (er P) ro) ((iK P fn z).f (er P) ro) a σ (a.eval x)).Holds (kj Q)
 cases hx:a.eval x with
 | none=>rw[hx] at h;exact h.elim
 | some v=>
  rw[hx] at h
  cases v with
  | bool b=>cases b with
   | true=>exact cp.h (show cp P fn ro y Q a σ from h)
   | false=>exact cp.h (show cp P fn ro z Q a σ from h)
  | _=>exact h.elim
omit [eJ P] in
theorem cp.block {id:Nat} {x:Code} {Q:cj} {a:Act} {σ:St} (h:cp P fn ro x (oS id Q) a σ):cp P fn ro (.block id x) Q a σ:=by
 refine⟨bA.Holds.dP (h.h.mono fun⟨o,σ⟩ hx=>?_)⟩
 cases o with
 | val v=>exact hx.elim
 | exit e a=>cases e with
  | exit i=>
   show kj Q (.exit (if i=id then .normal else .exit i) a,σ)
   have cG:(if i=id then Q .normal else Q (.exit i)) a σ:=hx
   by_cases e:i=id
   ·rw[if_pos e] at cG⊢;exact cG
   ·rw[if_neg e] at cG⊢;exact cG
  | _=>exact hx
theorem cp.loop {x:Code} {Q:cj} {a:Act} {σ:St} (h:cp P fn ro x (ig (kz P fn ro x Q) Q) a σ):kz P fn ro x Q a σ:=by
 refine⟨⟨(cm.ov (t:=.code ro fn (.loop x) a) ?_:cm P _ _ _)⟩⟩
 refine bA.Holds.dP (h.h.mono fun⟨o,σ⟩ hz=>?_)
 cases o with
 | val v=>exact hz.elim
 | exit e a=>cases e with
  | normal=>exact(kz.h hz).yl
  | _=>exact hz
omit [eJ P] in
theorem cp.scope {x:Code} {Q:cj} {a:Act} {σ:St} (h:tN P fn ro x x Q a σ):cp P fn ro (.scope x) Q a σ:=⟨h.h⟩
def Ss (P:Program) (fn:FuncId) (ro:Option Nat) (x:Code) (Q:cj):cj
 | .goto l=>fun a σ=>match findLabel x l with
  | some rest=>tN P fn ro x rest Q a σ
  | none=>Q (.goto l) a σ
 | e=>Q e
theorem tN.of {x cur:Code} {Q:cj} {a:Act} {σ:St} (h:cp P fn ro cur (Ss P fn ro x Q) a σ):tN P fn ro x cur Q a σ:=by
 refine⟨.ov (bA.Holds.dP (h.h.mono fun⟨o,σ⟩ hz=>?_))⟩
 cases o with
 | val v=>exact hz.elim
 | exit e a=>cases e with
  | goto l=>
   have hz':(match findLabel x l with
    | some rest=>tN P fn ro x rest Q a σ
    | none=>Q (.goto l) a σ):=hz
   show(match findLabel x l with
    | some rest=>er P (.inScope ro fn x rest a) σ
    | none=>.ok (.exit (.goto l) a,σ):Run).Holds (kj Q)
   revert hz'
   cases findLabel x l with
   | none=>exact fun h=>h
   | some rest=>exact fun h=>h.h
  | _=>exact hz
def aQ:Code→List Code
 | .seq x y=>aQ x++aQ y
 | .cond _ x y=>aQ x++aQ y
 | .block _ x=>aQ x
 | .loop x=>x::aQ x
 | .scope x=>aQ x
 | _=>[]
def aF:Code→Nat
 | .seq x y=>aF x+aF y
 | .cond _ x y=>aF x+aF y
 | .block _ x=>aF x
 | .loop x=>aF x+1
 | .scope x=>aF x
 | _=>0
omit [eJ P] [Env] in
theorem dN:∀c:Code,(aQ c).length=aF c
 | .seq x y=>by simp [aQ,aF,dN x,dN y]
 | .cond _ x y=>by simp [aQ,aF,dN x,dN y]
 | .block _ x=>dN x
 | .loop x=>by simp [aQ,aF,dN x]
 | .scope x=>dN x
 | .skip=>rfl
 | .label _=>rfl
 | .exit _=>rfl
 | .goto _=>rfl
 | .ret=>rfl
 | .region _ _ _=>rfl
 | .rangeFunc _ _ _ _=>rfl
 | .refuse _=>rfl
omit [eJ P] [Env] in
theorem sd:∀(c:Code) {k:Nat} {x:Code},(aQ c)[k]? =some x→∀ {j:Nat} {y:Code},(aQ x)[j]? =some y→(aQ c)[k+1+j]? =some y:=by
 intro c
 have two:∀ {a b:List Code},(∀ {k:Nat} {x:Code},a[k]? =some x→∀ {j:Nat} {y:Code},(aQ x)[j]? =some y→a[k+1+j]? =some y)→(∀ {k:Nat} {x:Code},b[k]? =some x→∀ {j:Nat} {y:Code},(aQ x)[j]? =some y→b[k+1+j]? =some y)→
   ∀ {k:Nat} {x:Code},(a++b)[k]? =some x→∀ {j:Nat} {y:Code},(aQ x)[j]? =some y→(a++b)[k+1+j]? =some y:=by
  intro a b ha hb k x hk j y hj
  rcases Nat.lt_or_ge k a.length with bB | oN
  ·rw[List.getElem?_append_left bB] at hk
   have h2:=ha hk hj
   rw[List.getElem?_append_left (List.getElem?_eq_some_iff.1 h2).1]
   exact h2
  ·rw[List.getElem?_append_right oN] at hk
   have h2:=hb hk hj
   rw[List.getElem?_append_right (by omega),show k+1+j-a.length=k-a.length+1+j by omega]
   exact h2
 induction c with
 | seq a b Su Sv=>exact fun hk _ _ hj=>two (fun h _ _=>Su h) (fun h _ _=>Sv h) hk hj
 | cond o a b Su Sv=>exact fun hk _ _ hj=>two (fun h _ _=>Su h) (fun h _ _=>Sv h) hk hj
 | block i a ih=>exact fun hk _ _ hj=>ih hk hj
 | scope a ih=>exact fun hk _ _ hj=>ih hk hj
 | loop a ih=>
  intro k x hk j y hj
  cases k with
  | zero=>
   have e:a=x:=by simpa [aQ] using hk
   subst e
   show(a::aQ a)[0+1+j]? =some y
   rw[show 0+1+j=j+1 by omega,List.getElem?_cons_succ];exact hj
  | succ k=>
   have ed:(aQ a)[k]? =some x:=by simpa [aQ] using hk
   show(a::aQ a)[k+1+1+j]? =some y
   rw[show k+1+1+j=(k+1+j)+1 by omega,List.getElem?_cons_succ]
   exact ih ed hj
 | _=>exact fun hk=>by simp [aQ] at hk
structure eM (P:Program) [Env] where
 call:FuncId→List V→St→ah→Prop
 loop:FuncId→Option Nat→Nat→Code→cj→Act→St→Prop
 yield:Nat→List V→St→ah→Prop:=fun l vs σ k=>oa P (.round l vs) (mw k) σ
 range:FuncId→Option Nat→Code→cj→Act→St→Prop:=fun fn ro c Q a σ=>cp P fn ro c Q a σ
def eM.nil (P:Program) [Env]:eM P:={call:=fun g vs σ k=>ag P g vs k σ,loop:=fun fn ro _ x Q a σ=>kz P fn ro x Q a σ}
structure eM.OkC {P:Program} [Env] (K:eM P):Prop where
 call:∀ {f:FuncId} {vs:List V} {σ:St} {k:ah},K.call f vs σ k→ag P f vs k σ
 yield:∀ {l:Nat} {vs:List V} {σ:St} {k:ah},K.yield l vs σ k→oa P (.round l vs) (mw k) σ
structure eM.Ok {P:Program} [Env] (K:eM P):Prop extends K.OkC where
 loop:∀ {f:FuncId} {g:Func} {c x:Code} {j:Nat} {ro:Option Nat} {Q:cj} {a:Act} {σ:St},P.funcs[f]? =some g→g.body=some c→(aQ c)[j]? =some x→K.loop f ro j x Q a σ→kz P f ro x Q a σ
 range:∀ {f:FuncId} {ro:Option Nat} {c:Code} {Q:cj} {a:Act} {σ:St},K.range f ro c Q a σ→cp P f ro c Q a σ
def Ct (P:Program) [Env] (K:eM P) (g:FuncId) (vs:List V) (σ:St) (k:ah):Prop:=K.call g vs σ k
omit [eJ P] in
theorem AH {K:eM P} (hK:K.OkC) {g:FuncId} {vs:List V} {σ:St} {k:ah} (h:Ct P K g vs σ k):ag P g vs k σ:=hK.call h
noncomputable def bF.aJ {α:Type} (t:bF α) (ks:List Nat):bF α:=
 List.rec (motive:=fun _=>bF α) [] (fun k _ ih=>match t.get k with
  | some v=>ih.put k v
  | none=>ih) ks
omit [eJ P] [Env] in
theorem bF.L6 {α:Type} (t:bF α) (ks:List Nat) (n:Nat) {v:α} (h:(t.aJ ks).get n=some v):t.get n=some v:=by
 induction ks with
 | nil=>rw[show t.aJ []=[] from rfl,bF.get_nil] at h;cases h
 | cons k ks ih=>
  have e:t.aJ (k::ks)=match t.get k with
   | some v=>(t.aJ ks).put k v
   | none=>t.aJ ks:=rfl
  rw[e] at h
  cases hk:t.get k with
  | none=>rw[hk] at h;exact ih h
  | some u=>
   rw[hk] at h
   dsimp only at h
   rw[bF.bP] at h
   by_cases hn:n=k
   ·subst hn;rw[if_pos rfl] at h;rw[hk];exact h
   ·rw[if_neg hn] at h;exact ih h
noncomputable def Act.aJ (a:Act) (ks:List Nat):Act:=
 match a with
 | ⟨t,s,ds⟩=>⟨t.aJ ks,s,ds⟩
omit [eJ P] in
theorem bC.aJ {ρ:Ren} {a:Act} {a':Go.Act} (h:bC ρ a a') (ks:List Nat):bC ρ (a.aJ ks) a':=
 ⟨fun i v hv=>h.tmps i v (bF.L6 _ ks _ hv),h.size,h.defers⟩
omit [eJ P] in
theorem kz.enter {x:Code} {Q:cj} {a:Act} {σ:St} (ks:List Nat) (h:kz P fn ro x Q (a.aJ ks) σ):kz P fn ro x Q a σ:=by
 have h1:cm P (.code ro fn (.loop x) (a.aJ ks)) σ (kj Q):=h.h.h
 refine⟨⟨(⟨h1.1,?_⟩:cm P (.code ro fn (.loop x) a) σ (kj Q))⟩⟩
 exact fun ρ w a' F hr ha bt=>cm.at h1 ρ w a' F hr (ha.aJ ks) bt
omit [eJ P] in
theorem kz.leave {x:Code} {Q:cj} {a:Act} {σ:St} (ks:List Nat) (h:kz P fn ro x (fun e a σ=>Q e (a.aJ ks) σ) a σ):kz P fn ro x Q a σ:=by
 have h1:cm P (.code ro fn (.loop x) a) σ (kj fun e a σ=>Q e (a.aJ ks) σ):=h.h.h
 have hq:∀(ρ:Ren) (w:World) e a' w',bJ (kj fun e a σ=>Q e (a.aJ ks) σ) ρ σ w e a' w'→bJ (kj Q) ρ σ w e a' w':=by
  rintro ρ w e a' w' ⟨x,aZ,σ',ρ',hp,rfl,ha,az⟩
  exact⟨x,aZ.aJ ks,σ',ρ',hp,rfl,ha.aJ ks,az⟩
 refine⟨⟨(⟨?_,?_⟩:cm P (.code ro fn (.loop x) a) σ (kj Q))⟩⟩
 ·obtain⟨⟨o,τ⟩,hx⟩:=h1.1
  cases o with
  | val v=>exact hx.elim
  | exit e a=>exact⟨(.exit e (a.aJ ks),τ),hx⟩
 ·intro ρ w a' F hr ha bt
  obtain⟨g1,g2⟩:=cm.at h1 ρ w a' F hr ha bt
  exact⟨wpIn_mono g1 fun _ _ _ hx=>hq _ _ _ _ _ hx,fun x hx=>(g2 x hx).mono fun _ _ _ hx=>hq _ _ _ _ _ hx⟩
def Cu (P:Program) (K:eM P) (vs:List V) (σ:St) (k:ah):V→Prop
 | .func (.func g) first captured=>Ct P K g (app first (app vs captured)) σ k
 | f=>oa P (.apply f vs) (mw k) σ
def se (P:Program) (K:eM P) (σ:St) (k:ah):Option V→Option (List V)→Prop
 | some fv,some vs=>Cu P K vs σ k fv
 | _,_=>False
def Eb (P:Program) (K:eM P) (σ:St) (vs:List V) (k:ah):Option (FuncId×V)→Prop
 | some (f,recv)=>Ct P K f (recv::vs) σ k
 | none=>False
def qe (P:Program) (K:eM P) (σ:St) (name:String) (k:ah):Option V→Option (List V)→Prop
 | some (.iface t v),some vs=>Eb P K σ vs k (ot P t v name)
 | _,_=>False
def HE (σ:St) (e:Ext) (vs:Option (List V)) (k:ah):Prop:=
 match e,vs with
 | .G5,some [.dM .f64 b]=>(FloatKind.f64.decode b).isNaN=false∧k (.dM .f64 (ia b)) σ
 | e,vs=>di (Bb σ e vs) k
omit [eJ P] [Env] in
theorem HF {σ:St} {e:Ext} {vs:Option (List V)} {k:ah} (h:HE σ e vs k):di (Bb σ e vs) k:=by
 unfold HE at h
 split at h
 ·rename_i b
  refine di.mk' (v:=_) (σ:=_) ?_ h.2
  show aJ σ "extern" (if (FloatKind.f64.decode b).isNaN then none else some (.dM .f64 (ia b)))=_
  rw[h.1];rfl
 ·exact h
def Bl (P:Program) (K:eM P) (ro:Option Nat) (o:Op) (a:Act) (σ:St) (id:Nat) (k:vh):Prop:=
 match o with
 | .call c=>match c.callee with
  | .value f=>match nU P f with
   | some e=>HE σ e (a.bO c.args.toList) fun v σ=>k v a σ
   | none=>se P K σ (fun v σ=>k v a σ) (a.eval f) (a.bO c.args.toList)
  | .invoke x name=>qe P K σ name (fun v σ=>k v a σ) (a.eval x) (a.bO c.args.toList)
  | .builtin b=>w4 P σ id b c.argTypes.toList (a.bO c.args.toList) fun v σ=>k v a σ
 | .defer c=>((qC c).f (fun _ _=>.fail) ro a σ id).Holds (jU k)
 | o=>Sp P o a σ id fun v σ=>k v a σ
omit [eJ P] in
theorem Ec {a:Act} {σ:St} {f:FuncId} {vs:List V} {k:vh} (h:ag P f vs (fun v σ=>k v a σ) σ):((er P (.call f vs) σ).bind (valOf a)).Holds (jU k):=
 bA.Holds.dP (cm.mono (fun⟨o,σ⟩ hx=>by cases o with
  | val v=>exact hx
  | exit e a=>exact hx.elim) h.h)
theorem Cv {K:eM P} (hK:K.OkC) {a:Act} {σ:St} {fv:V} {vs:List V} {k:vh} (h:Cu P K vs σ (fun v σ=>k v a σ) fv):((er P (.apply fv vs) σ).bind (valOf a)).Holds (jU k):=by
 have other:oa P (.apply fv vs) (mw fun v σ=>k v a σ) σ→((er P (.apply fv vs) σ).bind (valOf a)).Holds (jU k):=fun h=>
  bA.Holds.dP (cm.mono (fun⟨o,σ⟩ hx=>by cases o with
   | val v=>exact hx
   | exit e a=>exact hx.elim) h.h)
 unfold Cu at h
 split at h
 ·rename_i g first captured
  exact other ⟨.ov (AH hK h).h⟩
 ·exact other h
theorem Ed {K:eM P} (hK:K.OkC) {o:Op} {a:Act} {σ:St} {id:Nat} {k:vh} (h:Bl P K ro o a σ id k):((iI P o).f (er P) ro a σ id).Holds (jU k):=by
 have plain:∀ {o:Op},Sp P o a σ id (fun v σ=>k v a σ)→((BB (me P o)).f (er P) ro a σ id).Holds (jU k):=fun h=>bA.Holds.fB (J9 h)
 cases o with
 | call c=>
  obtain⟨callee,args,tys⟩:=c
  cases callee with
  | value f=>
   have h':match nU P f with
     | some e=>HE σ e (a.bO args.toList) fun v σ=>k v a σ
     | none=>se P K σ (fun v σ=>k v a σ) (a.eval f) (a.bO args.toList):=h
   show((match nU P f with
    | some e=>⟨fun _ _ a σ _=>(Bb σ e (a.bO args.toList)).bind (fB a)⟩
    | none=>⟨fun R _ a σ _=>np R a σ (a.eval f) (a.bO args.toList)⟩:rD).f (er P) ro a σ id).Holds (jU k)
   cases hx:nU P f with
   | some e=>rw[hx] at h';exact bA.Holds.fB (di.holds (HF h'))
   | none=>
    rw[hx] at h'
    show(np (er P) a σ (a.eval f) (a.bO args.toList)).Holds (jU k)
    replace h':se P K σ (fun v σ=>k v a σ) (a.eval f) (a.bO args.toList):=h'
    revert h'
    cases a.eval f with
    | none=>exact fun h=>h.elim
    | some fv=>cases a.bO args.toList with
     | none=>exact fun h=>h.elim
     | some vs=>exact fun h=>Cv hK h
  | invoke x name=>
   show(nY P (er P) a σ name (a.eval x) (a.bO args.toList)).Holds (jU k)
   have h':qe P K σ name (fun v σ=>k v a σ) (a.eval x) (a.bO args.toList):=h
   unfold qe at h'
   split at h'
   ·rename_i t v vs hx hv
    rw[hx,hv]
    show(mP (er P) a σ vs (ot P t v name)).Holds (jU k)
    cases hm:ot P t v name with
    | none=>rw[hm] at h';exact h'.elim
    | some p=>obtain⟨f,recv⟩:=p;rw[hm] at h';exact Ec (AH hK h')
   ·exact h'.elim
  | builtin b=>exact bA.Holds.fB (di.holds (zi h))
 | defer c=>
  have h':((qC c).f (fun _ _=>.fail) ro a σ id).Holds (jU k):=h
  show((qC c).f (er P) ro a σ id).Holds (jU k)
  have e:∀R R',(qC c).f R ro a σ id=(qC c).f R' ro a σ id:=by
   intro R R'
   rfl
  rw[e _ fun _ _=>.fail];exact h'
 | _=>exact plain h
def WT (want:Bool) (y z:Prop):Option V→Prop
 | some (.bool b)=>af (b==want) y z
 | some (.any _)=>False
 | some _=>z
 | none=>False
noncomputable def Bm (P:Program) (K:eM P) (ro:Option Nat) (ops:List Oper) (o:Oper) (a:Act) (σ:St) (id:Nat) (k:Act→St→Prop):Prop:=
 match o.guard with
 | none=>Bl P K ro o.op a σ id fun v a σ=>zj o.dst (fun a=>k a σ) a v
 | some (j,want)=>match fK ops j with
  | some d=>WT want (Bl P K ro o.op a σ id fun v a σ=>zj o.dst (fun a=>k a σ) a v) (zj o.dst (fun a=>k a σ) a cO) (a.tmps.get d)
  | none=>zj o.dst (fun a=>k a σ) a cO
theorem wA {K:eM P} (hK:K.OkC) {ops:List Oper} {o:Oper} {a:Act} {σ:St} {id:Nat} {k:Act→St→Prop} (h:Bm P K ro ops o a σ id k):((iJ P ops o).f (er P) ro a σ id).Holds (zk k):=by
 have go:Bl P K ro o.op a σ id (fun v a σ=>zj o.dst (fun a=>k a σ) a v)→(((iI P o.op).f (er P) ro a σ id).bind (lD o.dst)).Holds (zk k):=fun h=>
  bA.Holds.dP ((Ed hK h).mono fun⟨v,a,σ⟩ hx=>n5 hx)
 unfold Bm at h
 unfold iJ
 cases hg:o.guard with
 | none=>rw[hg] at h;exact go h
 | some jw=>
  obtain⟨j,want⟩:=jw
  rw[hg] at h
  dsimp only at h⊢
  cases hs:fK ops j with
  | none=>rw[hs] at h;exact n5 h
  | some d=>
   rw[hs] at h
   dsimp only at h
   show(qD (iI P o.op) o.dst (er P) ro a σ id (rB want (a.tmps.get d))).Holds (zk k)
   revert h
   cases a.tmps.get d with
   | none=>exact fun h=>h.elim
   | some v=>cases v with
    | bool b=>
     intro h
     have h':af (b==want) _ _:=h
     show(qD (iI P o.op) o.dst (er P) ro a σ id (some (b==want))).Holds (zk k)
     cases hb:b==want with
     | true=>exact go (af.y h' hb)
     | false=>exact n5 (af.z h' hb)
    | any i=>exact fun h=>h.elim
    | _=>exact fun h=>n5 h
noncomputable def L7 (P:Program) (K:eM P) (ro:Option Nat) (ops:List Oper) (k:Act→St→Prop):List Oper→Act→St→Prop
 | []=>k
 | o::l=>fun a σ=>Bm P K ro ops o a σ σ.next (L7 P K ro ops k l)
theorem sf {K:eM P} (hK:K.OkC) {ops:List Oper} {Q:cj}:∀ {l:List Oper} {a:Act} {σ:St},L7 P K ro ops (Q .normal) l a σ→((G8 P ops l).f (er P) ro a σ).Holds (kj Q)
 | [],_,_,h=>h
 | _::_,_,_,h=>bA.Holds.dP ((wA hK h).mono fun _ hx=>sf hK hx)
noncomputable def qU (P:Program) (K:eM P) (ro:Option Nat) (ops:List Oper) (base:Nat) (k:Act→St→Prop):List Item→List St→Act→St→Prop
 | [],_=>k
 | it::l,snaps=>fun a σ=>match nth ops it.i with
  | some o=>Bm P K ro ops o a σ (Nat.add base it.i) fun a' σ'=>HA it.back (ey P (nF ops o a) it.back snaps a (lE a' o.dst) o.op) (qU P K ro ops base k l (k0 (bp o.op) σ' snaps) a' σ')
  | none=>False
theorem oV {K:eM P} (hK:K.OkC) {ops:List Oper} {Q:cj} {base:Nat}:∀ {l:List Item} {snaps:List St} {a:Act} {σ:St},qU P K ro ops base (Q .normal) l snaps a σ→((ke P ops l).f (er P) ro base snaps a σ).Holds (kj Q)
 | [],_,_,_,h=>h
 | it::l,snaps,a,σ,h=>by
  show((tc P ops it (ke P ops l) (nth ops it.i)).f (er P) ro base snaps a σ).Holds (kj Q)
  unfold qU at h
  cases hn:nth ops it.i with
  | none=>rw[hn] at h;exact h.elim
  | some o=>
   rw[hn] at h
   dsimp only at h
   refine bA.Holds.dP ((wA hK h).mono fun⟨a',σ'⟩ hx=>?_)
   have cG:HA it.back (ey P (nF ops o a) it.back snaps a (lE a' o.dst) o.op) (qU P K ro ops base (Q .normal) l (k0 (bp o.op) σ' snaps) a' σ'):=hx
   have hb:(Nat.beq it.back 0||ey P (nF ops o a) it.back snaps a (lE a' o.dst) o.op)=true∧qU P K ro ops base (Q .normal) l (k0 (bp o.op) σ' snaps) a' σ':=by
    unfold HA at cG
    split at cG
    ·rename_i hz;rw[hz];exact⟨rfl,cG⟩
    ·cases hc:ey P (nF ops o a) it.back snaps a (lE a' o.dst) o.op with
     | true=>exact⟨by rw[Bool.or_true],af.y cG hc⟩
     | false=>exact(af.z cG hc).elim
   show(match Nat.beq it.back 0||ey P (nF ops o a) it.back snaps a (lE a' o.dst) o.op with
    | true=>(ke P ops l).f (er P) ro base (k0 (bp o.op) σ' snaps) a' σ'
    | false=>.fail "a load and a write, in either order":Run).Holds (kj Q)
   rw[hb.1];exact oV hK hb.2
noncomputable def HG (P:Program) (K:eM P) (ro:Option Nat) (ops:List Oper) (k:Act→St→Prop) (a:Act) (σ:St):Option (List Item)→Prop
 | some l=>qU P K ro ops σ.next k l [ahead (len ops) σ] a (ahead (len ops) σ)
 | none=>False
noncomputable def zo (P:Program) (K:eM P) (ro:Option Nat) (ops:List Oper) (k:Act→St→Prop) (a:Act) (σ:St):Bool→Prop
 | false=>L7 P K ro ops k ops a σ
 | true=>HG P K ro ops k a σ (kc P ops)
def qV (Q:cj):cj
 | .goto _=>fun _ _=>False
 | e=>Q e
noncomputable def ws (P:Program) [Env] (K:eM P) (fn:FuncId) (ro:Option Nat):Nat→Code→cj→Act→St→Prop
 | _,.skip,Q=>Q .normal
 | _,.label _,Q=>Q .normal
 | i,.seq x y,Q=>ws P K fn ro i x (ig (ws P K fn ro (Nat.add i (aF x)) y Q) Q)
 | i,.cond x y z,Q=>fun a σ=>yb (ws P K fn ro i y Q a σ) (ws P K fn ro (Nat.add i (aF y)) z Q a σ) (a.eval x)
 | i,.block id x,Q=>ws P K fn ro i x (oS id Q)
 | i,.loop x,Q=>K.loop fn ro i x Q
 | _,.exit id,Q=>Q (.exit id)
 | _,.goto l,Q=>Q (.goto l)
 | _,.ret,Q=>Q .ret
 | _,.region _ ops draw,Q=>fun a σ=>zo P K ro ops.toList (Q .normal) a σ draw
 | i,.scope x,Q=>ws P K fn ro i x (qV Q)
 | _,.rangeFunc f ps aef bo,Q=>K.range fn ro (.rangeFunc f ps aef bo) Q
 | _,c,Q=>cp P fn ro c Q
def Part (qf:Code) (i:Nat) (c:Code):Prop:=∀ {j:Nat} {x:Code},(aQ c)[j]? =some x→(aQ qf)[i+j]? =some x
omit [eJ P] [Env] in
theorem Part.left {qf x y c:Code} {i:Nat} (hc:aQ c=aQ x++aQ y) (h:Part qf i c):Part qf i x:=fun hj=>
 h (by rw[hc,List.getElem?_append_left (List.getElem?_eq_some_iff.1 hj).1];exact hj)
omit [Env] in
theorem Part.right {qf x y c:Code} {i:Nat} (hc:aQ c=aQ x++aQ y) (h:Part qf i c):Part qf (Nat.add i (aF x)) y:=fun {j z} hj=>by
 have:=h (j:=aF x+j) (x:=z) (by rw[hc,List.getElem?_append_right (by rw[dN];omega),dN,show aF x+j-aF x=j by omega];exact hj)
 rw[show i+(aF x+j)=Nat.add i (aF x)+j from (Nat.add_assoc _ _ _).symm] at this
 exact this
omit [eJ P] [Env] in
theorem Part.whole (c:Code):Part c 0 c:=fun {j x} hj=>by rw[Nat.zero_add];exact hj
omit [Env] in
theorem Part.in {c x:Code} {k:Nat} (h:(aQ c)[k]? =some x):Part c (k+1) x:=fun hj=>sd c h hj
theorem cp.gA {K:eM P} (hK:K.Ok) {g:Func} {qf:Code} (hf:P.funcs[fn]? =some g) (hb:g.body=some qf):∀ {c:Code} {i:Nat} (_:Part qf i c) {Q:cj} {a:Act} {σ:St},ws P K fn ro i c Q a σ→cp P fn ro c Q a σ
 | .skip,_,_,_,_,_,h=>⟨h⟩
 | .label _,_,_,_,_,_,h=>⟨h⟩
 | .seq x y,i,hp,Q,a,σ,h=>by
  have h':ws P K fn ro i x (ig (ws P K fn ro (Nat.add i (aF x)) y Q) Q) a σ:=h
  refine .seq ((cp.gA hK hf hb (hp.left rfl) h').mono fun e a σ hx=>?_)
  cases e with
  | normal=>exact cp.gA hK hf hb (hp.right rfl) hx
  | _=>exact hx
 | .cond x y z,i,hp,Q,a,σ,h=>by
  refine .cond ?_
  have h':yb (ws P K fn ro i y Q a σ) (ws P K fn ro (Nat.add i (aF y)) z Q a σ) (a.eval x):=h
  revert h'
  cases a.eval x with
  | none=>exact id
  | some v=>cases v with
   | bool b=>exact fun h=>.mk (fun e=>cp.gA hK hf hb (hp.left rfl) (af.y h e)) fun e=>cp.gA hK hf hb (hp.right rfl) (af.z h e)
   | _=>exact id
 | .block id x,i,hp,Q,a,σ,h=>.block (cp.gA hK hf hb (c:=x) (i:=i) (fun hj=>hp hj) h)
 | .loop x,i,hp,Q,a,σ,h=>kz.h (hK.loop hf hb (hp (j:=0) rfl) h)
 | .exit id,_,_,_,_,_,h=>⟨h⟩
 | .goto l,_,_,_,_,_,h=>⟨h⟩
 | .ret,_,_,_,_,_,h=>⟨h⟩
 | .region _ ops draw,_,_,Q,a,σ,h=>by
  have h':zo P K ro ops.toList (Q .normal) a σ draw:=h
  cases draw with
  | false=>exact⟨sf hK.toOkC h'⟩
  | true=>
   have h':HG P K ro ops.toList (Q .normal) a σ (kc P ops.toList):=h'
   constructor
   show((match kc P ops.toList with
    | some l=>(⟨fun R ro a σ=>(ke P ops.toList l).f R ro σ.next [ahead (len ops.toList) σ] a (ahead (len ops.toList) σ)⟩:u7)
    | none=>⟨fun _ _ _ _=>.fail "plan"⟩).f (er P) ro a σ).Holds (kj Q)
   cases hp:kc P ops.toList with
   | none=>rw[hp] at h';exact h'.elim
   | some l=>rw[hp] at h';exact oV hK.toOkC h'
 | .rangeFunc _ _ _ _,_,_,_,_,_,h=>hK.range h
 | .scope x,i,hp,Q,a,σ,h=>.scope (.of ((cp.gA hK hf hb (c:=x) (i:=i) (fun hj=>hp hj) h).mono fun e a σ hx=>by
  cases e with
  | goto l=>exact hx.elim
  | _=>exact hx))
 | .refuse _,_,_,_,_,_,h=>h
def oW (P:Program) (fn:Func) (Q:ah):cj
 | .normal=>fun a σ=>match a.defers with
  | []=>Co Q σ (eW P a σ fn.results.toList)
  | _=>oa P (.leave fn a) (mw Q) σ
 | .ret=>fun a σ=>match a.defers with
  | []=>Co Q σ (eW P a σ fn.results.toList)
  | _=>oa P (.leave fn a) (mw Q) σ
 | _=>fun _ _=>False
theorem oX {fn:Func} {a:Act} {σ:St} {Q:ah} (h:match a.defers with
  | []=>Co Q σ (eW P a σ fn.results.toList)
  | _=>oa P (.leave fn a) (mw Q) σ):cm P (.leave fn a) σ (mw Q):=by
 cases hd:a.defers with
 | nil=>
  rw[hd] at h
  refine .ov ?_
  show(pk P (er P) fn a σ a.defers).Holds _
  rw[hd]
  show(yT σ (eW P a σ fn.results.toList)).Holds _
  have h':Co Q σ (eW P a σ fn.results.toList):=h
  revert h'
  cases eW P a σ fn.results.toList with
  | none=>exact id
  | some l=>exact id
 | cons d l=>rw[hd] at h;exact oa.h h
theorem ag.OY {f:FuncId} {fn:Func} {c:Code} {vs:List V} {Q:ah} {σ:St} (hf:P.funcs[f]? =some fn) (hb:fn.body=some c) (hn:(fn.name== "runtime.NumGoroutine")=false)
  (h:cm P (.code none f c (lC fn.ntmps vs)) σ (kj (oW P fn Q))):ag P f vs Q σ:=by
 refine⟨.ov ?_⟩
 show(nq (er P) f vs σ P.funcs[f]?).Holds _
 rw[hf]
 show(rE (er P) f fn vs σ (BC (er P) fn) fn.body).Holds _
 rw[hb]
 show(match fn.name== "runtime.NumGoroutine" with
  | true=>.fail "NumGoroutine"
  | false=>(er P (.code none f c (lC fn.ntmps vs)) σ).bind (BC (er P) fn):Run).Holds _
 rw[hn]
 refine bA.Holds.dP (cm.mono (fun⟨o,σ⟩ hx=>?_) h)
 cases o with
 | val v=>exact hx.elim
 | exit e a=>cases e with
  | normal=>exact oX hx
  | ret=>exact oX hx
  | _=>exact hx.elim
theorem ag.code {f:FuncId} {fn:Func} {c:Code} {vs:List V} {Q:ah} {σ:St} (hf:P.funcs[f]? =some fn) (hb:fn.body=some c) (hn:(fn.name== "runtime.NumGoroutine")=false)
  (h:cp P f none c (oW P fn Q) (lC fn.ntmps vs) σ):ag P f vs Q σ:=.OY hf hb hn h.yl
theorem ag.body {f:FuncId} {fn:Func} {c:Code} {vs:List V} {Q:ah} {σ:St} (hf:P.funcs[f]? =some fn) (hb:fn.body=some c) (hn:(fn.name== "runtime.NumGoroutine")=false)
  {K:eM P} (hK:K.Ok) (h:ws P K f none 0 c (oW P fn Q) (lC fn.ntmps vs) σ):ag P f vs Q σ:=.code hf hb hn (.gA hK hf hb (Part.whole c) h)
end
end Go.Ev
end
