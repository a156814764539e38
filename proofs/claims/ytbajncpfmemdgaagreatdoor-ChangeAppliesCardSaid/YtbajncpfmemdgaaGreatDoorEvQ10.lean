/- Proved: parts of the way: Told, Sem, Froz. -/
import Derived.Test.YtbajncpfmemdgaaGreatDoorEvQ09
set_option linter.unusedVariables false
set_option linter.unusedSimpArgs false
section
namespace Go.Ev
open Go Go.RowKit
noncomputable def sO {α:Type} (f:α→α→Bool) (l:List α):List α→Bool:=
 List.rec (motive:=fun _=>List α→Bool) (fun m=>List.rec (motive:=fun _=>Bool) true (fun _ _ _=>false) m)
  (fun a _ ih m=>List.rec (motive:=fun _=>Bool) false (fun b m' _=>Bool.rec false (ih m') (f a b)) m) l
theorem mX {α:Type} {f:α→α→Bool} (hf:∀a b,f a b=true→a=b):∀ {l m:List α},sO f l m=true→l=m
 | [],[],_=>rfl
 | [],_::_,h=>by cases h
 | _::_,[],h=>by cases h
 | a::l,b::m,h=>by
  have h':(Bool.rec false (sO f l m) (f a b):Bool)=true:=h
  cases xb:f a b with
  | false=>rw[xb] at h';cases h'
  | true=>rw[xb] at h';rw[hf a b xb,mX hf h']
noncomputable def SY {α:Type} (f:α→α→Bool) (x y:Option α):Bool:=
 match x with
 | none=>match y with
  | none=>true
  | some _=>false
 | some a=>match y with
  | none=>false
  | some b=>f a b
theorem Pn {α:Type} {f:α→α→Bool} (hf:∀a b,f a b=true→a=b) {x y:Option α} (h:SY f x y=true):x=y:=by
 cases x<;>cases y<;>first | rfl | cases h | (rw[hf _ _ h])
noncomputable def Trie.same {α:Type} (f:α→α→Bool) (s t:Trie α):Bool:=sO (sO (sO (sO (SY f)))) s t
theorem Trie.wh {α:Type} {f:α→α→Bool} (hf:∀a b,f a b=true→a=b) {s t:Trie α} (h:Trie.same f s t=true):s=t:=
 mX (fun _ _ h=>mX (fun _ _ h=>mX (fun _ _ h=>mX (fun _ _ h=>Pn hf h) h) h) h) h
noncomputable def Ac (e e':V×V×Nat):Bool:=V.beq e.1 e'.1&&V.beq e.2.1 e'.2.1&&Nat.beq e.2.2 e'.2.2
theorem KA {e e':V×V×Nat} (h:Ac e e'=true):e=e':=by
 obtain⟨a,b,n⟩:=e
 obtain⟨a',b',n'⟩:=e'
 simp only[Ac,Bool.and_eq_true] at h
 rw[V.beq_eq h.1.1,V.beq_eq h.1.2,Nat.eq_of_beq_eq_true h.2]
noncomputable def b9.same (k k':b9):Bool:=
 match k with
 | .cells n z t p ro=>match k' with
  | .cells n' z' t' p' ro'=>Nat.beq n n'&&(V.gS z z'&&(Trie.same V.beq t t'&&(p==p'&&ro==ro')))
  | _=>false
 | .map es c=>match k' with
  | .map C5 c'=>Nat.beq c c'&&sO Ac es C5
  | _=>false
 | .iter m s l c=>match k' with
  | .iter m' s' l' c'=>decide (m=m')&&(Nat.beq s s'&&(decide (l=l')&&Nat.beq c c'))
  | _=>false
 | .deferred=>match k' with
  | .deferred=>true
  | _=>false
 | _=>false
theorem b9.wh {k k':b9} (h:b9.same k k'=true):k=k':=by
 cases k<;>cases k'<;>first
  | rfl
  | (cases h;done)
  | (rename_i n z t p ro n' z' t' p' ro'
     simp only[b9.same,Bool.and_eq_true,beq_iff_eq] at h
     rw[Nat.eq_of_beq_eq_true h.1,V.kB h.2.1,Trie.wh (fun _ _=>V.beq_eq) h.2.2.1,h.2.2.2.1,h.2.2.2.2])
  | (simp only[b9.same,Bool.and_eq_true] at h
     rw[Nat.eq_of_beq_eq_true h.1,mX (fun _ _=>KA) h.2])
  | (simp only[b9.same,Bool.and_eq_true,decide_eq_true_eq] at h
     rw[h.1,Nat.eq_of_beq_eq_true h.2.1,h.2.2.1,Nat.eq_of_beq_eq_true h.2.2.2])
structure Told where
 f:FuncId
 args:List V
 pre:List (Nat×b9)
 now:Nat
 v:V
 post:List (Nat×Option b9)
 then':Nat
noncomputable def SZ {α:Type} (l:List (Nat×Option α)):Trie α→Trie α:=
 List.rec (motive:=fun _=>Trie α→Trie α) (fun t=>t) (fun x _ ih t=>ih (t.put x.1 x.2)) l
noncomputable def S0 {α:Type} (l:List (Nat×α)):Trie α→Trie α:=
 List.rec (motive:=fun _=>Trie α→Trie α) (fun t=>t) (fun x _ ih t=>ih (t.put x.1 (some x.2))) l
noncomputable def Np {α:Type} (l:List (Nat×α)):Trie α→Trie α:=
 List.rec (motive:=fun _=>Trie α→Trie α) (fun t=>t) (fun x _ ih t=>ih (t.put x.1 none)) l
theorem BQ {α:Type} {b:Nat} {k:α}:∀ {l:List (Nat×Option α)} {t:Trie α},(SZ l t).get b=some k→(b,some k)∈l∨t.get b=some k
 | [],_,h=>.inr h
 | x::l,t,h=>by
  rcases BQ (l:=l) (t:=t.put x.1 x.2) h with h | h
  ·exact .inl (List.mem_cons_of_mem _ h)
  ·rw[Trie.bY] at h
   by_cases e:b=x.1
   ·rw[if_pos e] at h
    refine .inl (List.mem_cons.2 (.inl ?_))
    rw[e,←h]
   ·rw[if_neg e] at h;exact .inr h
theorem vc {α:Type} {b:Nat} {k:α}:∀ {l:List (Nat×α)} {t:Trie α},(S0 l t).get b=some k→(b,k)∈l∨t.get b=some k
 | [],_,h=>.inr h
 | x::l,t,h=>by
  rcases vc (l:=l) (t:=t.put x.1 (some x.2)) h with h | h
  ·exact .inl (List.mem_cons_of_mem _ h)
  ·rw[Trie.bY] at h
   by_cases e:b=x.1
   ·rw[if_pos e] at h
    cases h
    exact .inl (List.mem_cons.2 (.inl (by rw[e])))
   ·rw[if_neg e] at h;exact .inr h
theorem yO {α:Type} {b:Nat} {k:α}:∀ {l:List (Nat×α)} {t:Trie α},(Np l t).get b=some k→t.get b=some k∧∀x∈l,x.1≠b
 | [],_,h=>⟨h,fun _ hx=>by cases hx⟩
 | x::l,t,h=>by
  obtain⟨h1,h2⟩:=yO (l:=l) (t:=t.put x.1 none) h
  rw[Trie.bY] at h1
  by_cases e:b=x.1
  ·rw[if_pos e] at h1;cases h1
  ·rw[if_neg e] at h1
   refine⟨h1,fun y hy=>?_⟩
   rcases List.mem_cons.1 hy with rfl | hy
   ·exact fun h=>e h.symm
   ·exact h2 y hy
noncomputable def Told.st (e:Told):St:=⟨S0 e.pre .leaf,e.now⟩
noncomputable def Told.put (e:Told) (σ:St):St:=⟨SZ e.post (Np e.pre σ.heap),e.then'⟩
noncomputable def KB (σ:St) (l:List (Nat×b9)):Bool:=
 List.rec (motive:=fun _=>Bool) true (fun x _ ih=>match σ.heap.get x.1 with
  | some k=>Bool.rec false ih (b9.same k x.2)
  | none=>false) l
noncomputable def yP (σ:St) (l:List (Nat×Option b9)):Bool:=
 List.rec (motive:=fun _=>Bool) true (fun x _ ih=>match x.2 with
  | none=>ih
  | some k'=>match σ.heap.get x.1 with
   | some k=>Bool.rec false ih (b9.same k k')
   | none=>false) l
theorem DV {σ:St}:∀ {l:List (Nat×b9)},KB σ l=true→∀x∈l,σ.heap.get x.1=some x.2
 | [],_,_,hx=>by cases hx
 | y::l,h,x,hx=>by
  have h':(match σ.heap.get y.1 with
   | some k=>Bool.rec false (KB σ l) (b9.same k y.2)
   | none=>false:Bool)=true:=h
  cases hk:σ.heap.get y.1 with
  | none=>rw[hk] at h';cases h'
  | some k=>
   rw[hk] at h'
   dsimp only at h'
   cases hs:b9.same k y.2 with
   | false=>rw[hs] at h';cases h'
   | true=>
    rw[hs] at h'
    rcases List.mem_cons.1 hx with rfl | hx
    ·rw[hk,b9.wh hs]
    ·exact DV (l:=l) h' x hx
theorem vd {σ:St}:∀ {l:List (Nat×Option b9)},yP σ l=true→∀b k,(b,some k)∈l→σ.heap.get b=some k
 | [],_,_,_,hx=>by cases hx
 | y::l,h,b,k,hx=>by
  obtain⟨c,o⟩:=y
  cases o with
  | none=>
   rcases List.mem_cons.1 hx with hx | hx
   ·cases hx
   ·exact vd (l:=l) h b k hx
  | some k'=>
   have h':(match σ.heap.get c with
    | some k=>Bool.rec false (yP σ l) (b9.same k k')
    | none=>false:Bool)=true:=h
   cases hk:σ.heap.get c with
   | none=>rw[hk] at h';cases h'
   | some k₁=>
    rw[hk] at h'
    dsimp only at h'
    cases hs:b9.same k₁ k' with
    | false=>rw[hs] at h';cases h'
    | true=>
     rw[hs] at h'
     rcases List.mem_cons.1 hx with hx | hx
     ·cases hx;rw[hk,b9.wh hs]
     ·exact vd (l:=l) h' b k hx
noncomputable def Told.fits (e:Told) (f:FuncId) (args:List V) (σ:St):Bool:=
 match Nat.beq e.f f with
 | true=>match Nat.beq e.now σ.next with
  | true=>match V.gS e.args args with
   | true=>KB σ e.pre
   | false=>false
  | false=>false
 | false=>false
theorem Told.Ul {e:Told} {f:FuncId} {args:List V} {σ:St} (h:e.fits f args σ=true):e.f=f∧e.now=σ.next∧e.args=args∧∀x∈e.pre,σ.heap.get x.1=some x.2:=by
 unfold Told.fits at h
 split at h
 ·rename_i h1
  split at h
  ·rename_i h2
   split at h
   ·rename_i h3
    exact⟨Nat.eq_of_beq_eq_true h1,Nat.eq_of_beq_eq_true h2,V.kB h3,DV h⟩
   ·cases h
  ·cases h
 ·cases h
noncomputable def yQ (O:List Told) (f:FuncId) (args:List V) (σ:St):Option Told:=
 List.rec (motive:=fun _=>Option Told) none (fun e _ ih=>match e.fits f args σ with
  | true=>some e
  | false=>ih) O
theorem DW {f:FuncId} {args:List V} {σ:St} {e:Told}:∀ {O:List Told},yQ O f args σ=some e→e∈O∧e.fits f args σ=true
 | [],h=>by cases h
 | x::O,h=>by
  have h':(match x.fits f args σ with
   | true=>some x
   | false=>yQ O f args σ)=some e:=h
  split at h'
  ·rename_i hx
   cases h'
   exact⟨List.mem_cons_self,hx⟩
  ·obtain⟨h1,h2⟩:=DW h'
   exact⟨List.mem_cons_of_mem _ h1,h2⟩
noncomputable def S1 (P:Program) (R:Task→St→Run) (f:FuncId) (args:List V) (σ:St):Option Told→Run
 | some e=>.ok (.val e.v,e.put σ)
 | none=>nR R f args σ P.funcs[f]?
noncomputable def S2 (P:Program) (O:List Told) (R:Task→St→Run) (t:Task) (σ:St):Run:=
 match t with
 | .call f args=>S1 P R f args σ (yQ O f args σ)
 | t=>step P R t σ
noncomputable def DX (P:Program) (O:List Told) (n:Nat):Task→St→Run:=
 Nat.rec (motive:=fun _=>Task→St→Run) (fun _ _=>.fail "fuel") (fun _ ih=>S2 P O ih) n
def Told.says (e:Told):Out×St→Prop
 | (.val v,σ)=>v=e.v∧σ.next≤e.then'∧∀b k,(b,some k)∈e.post→σ.heap.get b=some k
 | _=>False
def Told.ok (P:Program) (e:Told):Prop:=
 ∀ [Env] {ρ:Ren} {w:World} {vs':List Value},R ρ e.st w→aB ρ e.args vs'→(callFunc e.f ⟨vs'⟩).run P w=.ok (.enter e.f ⟨vs'⟩) w∧CallsIn Fence.wide 0 P e.f ⟨vs'⟩ w (cO e.says ρ e.st w)
theorem R.part [Env] {ρ:Ren} {σ τ:St} {w:World} (h:R ρ σ w) (hn:τ.next=σ.next) (hs:∀b k,τ.heap.get b=some k→σ.heap.get b=some k):R ρ τ w:=h.sub hs hn
theorem bn.frame [Env] {ρ ρ':Ren} {σ τ jD σ':St} {w w':World} (hr:R ρ σ w) (hn:τ.next=σ.next) (hs:∀b k,τ.heap.get b=some k→σ.heap.get b=some k) (h:bn qh ρ τ w ρ' jD w')
  (oD:jD.next≤σ'.next) (nV:∀b k,σ'.heap.get b=some k→jD.heap.get b=some k∨(σ.heap.get b=some k∧τ.heap.get b=none)):bn qh ρ σ w ρ' σ' w':=by
 have apart:∀b k l,σ.heap.get b=some k→τ.heap.get b=none→ρ b=some l→¬Wr ρ τ l.c:=by
  rintro b k l hb bG hl ⟨c9,k₁,cr,h1,_,h3,h4⟩
  have e:=hr.inj b c9 k k₁ l cr hb (hs _ _ h1) hl h3 h4.symm
  rw[←e,bG] at h1
  cases h1
 have known:∀b k,σ.heap.get b=some k→∃l,ρ b=some l∧ρ' b=some l∧cI ρ w l k:=fun b k hb=>by
  obtain⟨l,hl,hk⟩:=hr.di b k hb
  exact⟨l,hl,h.le b l hl,hk⟩
 have mixed:∀b b' k k' l l',jD.heap.get b=some k→σ.heap.get b'=some k'→τ.heap.get b'=none→ρ' b=some l→ρ' b'=some l'→l.c=l'.c→False:=by
  intro b b' k k' l l' h1 h2 h3 h4 h5 h6
  obtain⟨oe,yF,Xi,_⟩:=known b' k' h2
  rw[Xi] at h5;cases h5
  refine apart b' k' l' h2 h3 yF ?_
  rw[←h6]
  exact h.wr l.c (by rw[h6];exact hr.valid _ _ yF) ⟨b,k,l,h1,rfl,h4,rfl⟩
 refine⟨⟨fun b k hb=>?_,fun b b' k k' l l' h1 h2 h3 h4 h5=>?_,fun b hb=>h.r.fresh b (Nat.le_trans oD hb),h.r.valid,fun c o x hx=>?_,h.r.laid⟩,h.le,Nat.le_trans (by rw[←hn];exact h.next) oD,fun b l hb=>?_,h.size,h.os,h.tape,h.output,fun c hc hw=>?_,?_,fun b k hb=>?_,fun c o x hx=>?_⟩
 ·rcases nV b k hb with h1 | ⟨h1,h2⟩
  ·exact h.r.di b k h1
  ·obtain⟨l,hl,cS,hk⟩:=known b k h1
   exact⟨l,cS,hk.same h.le (h.aV l.c (hr.valid _ _ hl) (apart b k l h1 h2 hl))⟩
 ·rcases nV b k h1 with g1 | ⟨g1,BR⟩<;>rcases nV b' k' h2 with g2 | ⟨g2,xc⟩
  ·exact h.r.inj b b' k k' l l' g1 g2 h3 h4 h5
  ·exact(mixed b b' k k' l l' g1 g2 xc h3 h4 h5).elim
  ·exact(mixed b' b k' k l' l g2 g1 BR h4 h3 h5.symm).elim
  ·obtain⟨cr,a1,a2,_⟩:=known b k g1
   obtain⟨oe,b1,b2,_⟩:=known b' k' g2
   rw[a2] at h3;rw[b2] at h4;cases h3;cases h4
   exact hr.inj b b' k k' l l' g1 g2 a1 b1 h5
 ·obtain⟨g1,g2⟩:=h.r.aW c o x hx
  refine⟨g1,?_⟩
  rintro⟨c9,k₁,cr,h1,h2,h3,h4⟩
  rcases nV c9 k₁ h1 with g | ⟨g,g'⟩
  ·exact g2 ⟨c9,k₁,cr,g,h2,h3,h4⟩
  ·obtain⟨l,hl,cS,_⟩:=known c9 k₁ g
   rw[cS] at h3;cases h3
   have bI:cr.c<w.heap.size:=hr.valid _ _ hl
   subst h4
   rcases h.iG cr.c o x hx with q | q | q
   ·exact(hr.aW _ _ _ q).2 ⟨c9,k₁,cr,g,h2,hl,rfl⟩
   ·omega
   ·exact apart c9 k₁ cr g g' hl q
 ·rw[←hn];exact h.jz b l hb
 ·refine h.aV c hc fun hh=>hw ?_
  obtain⟨c9,k₁,cr,h1,h2,h3,h4⟩:=hh
  exact⟨c9,k₁,cr,hs _ _ h1,h2,h3,h4⟩
 ·rintro c hc ⟨c9,k₁,cr,h1,h2,h3,h4⟩
  rcases nV c9 k₁ h1 with g | ⟨g,_⟩
  ·obtain⟨dc,k₂,oe,a1,a2,a3,a4⟩:=h.wr c hc ⟨c9,k₁,cr,g,h2,h3,h4⟩
   exact⟨dc,k₂,oe,hs _ _ a1,a2,a3,a4⟩
  ·obtain⟨l,hl,cS,_⟩:=known c9 k₁ g
   rw[cS] at h3;cases h3
   exact⟨c9,k₁,cr,g,h2,hl,h4⟩
 ·rcases nV b k hb with g | ⟨g,_⟩
  ·rcases h.jL b k g with ⟨k',g⟩ | g | g
   ·exact .inl ⟨k',hs _ _ g⟩
   ·exact .inr (.inl (by rw[←hn];exact g))
   ·exact .inr (.inr g)
  ·exact .inl ⟨k,g⟩
 ·rcases h.iG c o x hx with q | q | q
  ·exact .inl q
  ·exact .inr (.inl q)
  ·obtain⟨c9,k₁,cr,h1,h2,h3,h4⟩:=q
   exact .inr (.inr ⟨c9,k₁,cr,hs _ _ h1,h2,h3,h4⟩)
section
variable {P:Program} {O:List Told}
theorem Nq [Env] {e:Told} (he:e.ok P) {f:FuncId} {vs:List V} {σ:St} (hf:e.fits f vs σ=true) {p:Out×St→Prop} (hp:p (.val e.v,e.put σ)) {ρ:Ren} {w:World} {vs':List Value} (hr:R ρ σ w) (hv:aB ρ vs vs'):
  (callFunc f ⟨vs'⟩).run P w=.ok (.enter f ⟨vs'⟩) w∧CallsIn Fence.wide 0 P f ⟨vs'⟩ w (cO p ρ σ w):=by
 obtain⟨rfl,h2,rfl,h4⟩:=e.Ul hf
 have hs:∀b k,e.st.heap.get b=some k→σ.heap.get b=some k:=by
  intro b k hb
  rcases vc (l:=e.pre) (t:=.leaf) hb with hb | hb
  ·exact h4 _ hb
  ·rw[Trie.eU] at hb;cases hb
 obtain⟨g1,g2⟩:=he (hr.part (τ:=e.st) h2 hs) hv
 refine⟨g1,g2.mono fun en w' hx=>?_⟩
 obtain⟨v,jD,ρ',v',⟨rfl,oD,hk⟩,rfl,pC,aH⟩:=hx
 refine⟨_,_,ρ',v',hp,rfl,pC,aH.frame hr h2 hs oD fun b k hb=>?_⟩
 rcases BQ (l:=e.post) hb with hb | hb
 ·exact .inl (hk b k hb)
 ·obtain⟨h5,h6⟩:=yO hb
  refine .inr ⟨h5,?_⟩
  cases hq:e.st.heap.get b with
  | none=>rfl
  | some k'=>
   rcases vc (l:=e.pre) (t:=.leaf) hq with hq | hq
   ·exact absurd rfl (h6 _ hq)
   ·rw[Trie.eU] at hq;cases hq
theorem KC [Env] (jM:P.follows .mixedOrders=true) (hO:∀e∈O,e.ok P) {Rn:Task→St→Run} (hg:Good P Rn):Good P (S2 P O Rn):=by
 have hs:=BK jM hg
 refine⟨hs.code,hs.loop,hs.inScope,?_,hs.deferred,hs.leave,hs.apply,hs.round⟩
 intro f vs σ p h ρ w vs' hr hv
 have h':(S1 P Rn f vs σ (yQ O f vs σ)).Holds p:=h
 cases hf:yQ O f vs σ with
 | none=>rw[hf] at h';exact hs.call (f:=f) (vs:=vs) h' hr hv
 | some e=>
  rw[hf] at h'
  obtain⟨h1,h2⟩:=DW hf
  exact Nq (hO e h1) h2 h' hr hv
theorem BS [Env] (jM:P.follows .mixedOrders=true) (hO:∀e∈O,e.ok P):∀n,Good P (DX P O n):=by
 intro n
 induction n with
 | zero=>constructor<;>intros<;>exact bL.Holds.uV (by assumption)
 | succ n ih=>exact KC jM hO ih
noncomputable def Told.check (e:Told):Out×St→Bool
 | (.val v,σ)=>V.beq v e.v&&(Nat.ble σ.next e.then'&&yP σ e.post)
 | _=>false
theorem Told.xL {e:Told} (jM:P.follows .mixedOrders=true) (hO:∀e∈O,e.ok P) (n:Nat) (h:(DX P O n (.call e.f e.args) e.st).check e.check=true):e.ok P:=by
 intro _ ρ w vs' hr hv
 refine(BS jM hO n).call ((bL.rm h).mono fun⟨o,σ⟩ hx=>?_) hr hv
 cases o with
 | exit x a=>cases hx
 | val v=>
  have cX:(V.beq v e.v&&(Nat.ble σ.next e.then'&&yP σ e.post))=true:=hx
  simp only[Bool.and_eq_true] at cX
  exact⟨V.beq_eq cX.1,Nat.le_of_ble_eq_true cX.2.1,vd cX.2.2⟩
end
end Go.Ev
end
section
namespace Go.Ev
open Go
def Xj [Env] (P:Program) (t:Task) (σ:St) (p:Out×St→Prop):Prop:=
 match t with
 | .code ro _ c a=>∀(ρ:Ren) (w:World) (a':Go.Act) (F:Fence),R ρ σ w→bO ρ a a'→fZ ρ ro F→c.wpIn F 0 P (bW p ρ σ w) a' w∧∀x,c=.loop x→j7 F P x (bW p ρ σ w) a' w
 | .inScope ro _ x cur a=>∀(ρ:Ren) (w:World) (a':Go.Act) (F:Fence),R ρ σ w→bO ρ a a'→fZ ρ ro F→lQ F P x cur (bW p ρ σ w) a' w
 | .call f vs=>∀(ρ:Ren) (w:World) (vs':List Value),R ρ σ w→aB ρ vs vs'→(callFunc f ⟨vs'⟩).run P w=.ok (.enter f ⟨vs'⟩) w∧CallsIn Fence.wide 0 P f ⟨vs'⟩ w (cO p ρ σ w)
 | .deferred f vs=>∀(ρ:Ren) (w:World) (vs':List Value),R ρ σ w→aB ρ vs vs'→(callFunc f ⟨vs'⟩).run P w=.ok (.enter f ⟨vs'⟩) w∧
   ∀u,CallsDIn Fence.wide 0 P f ⟨vs'⟩ u w (fun e u' w'=>u'=u∧cO p ρ σ w e w')
 | .leave fn a=>∀(ρ:Ren) (w:World) (a':Go.Act),R ρ σ w→bO ρ a a'→LeavesInM Fence.wide 0 P fn a'.tmps (cO p ρ σ w) a'.defers .returning w
 | .apply f vs=>∀(ρ:Ren) (w:World) (f':Value) (vs':List Value),R ρ σ w→au ρ f f'→aB ρ vs vs'→∃d,(Deferred.ofValue f' ⟨vs'⟩).run P w=.ok d w∧Enters P d w (cO p ρ σ w)
 | .round l vs=>∀(ρ:Ren) (w:World) (k:Loc) (vs':List Value),R ρ σ w→ρ l=some k→aB ρ vs vs'→
   ∃g tmps akK bo,(Instr.yield k.c ⟨vs'⟩).run P w=.ok (.round k.c g tmps akK bo) w∧RoundIn Fence.wide 0 P k.c g tmps akK bo w (cO p ρ σ w)
def dA [Env] (P:Program) (t:Task) (σ:St) (p:Out×St→Prop):Prop:=(∃x,p x)∧Xj P t σ p
theorem Good.G2 [Env] {P:Program} {Rn:Task→St→Run} (hg:Good P Rn) {t:Task} {σ:St} {p:Out×St→Prop} (h:(Rn t σ).Holds p):dA P t σ p:=by
 refine⟨h.exists,?_⟩
 cases t with
 | code ro fn c a=>exact fun ρ w a' F hr ha bH=>⟨hg.code h hr ha bH,fun x hx=>by subst hx;exact hg.loop h hr ha bH⟩
 | inScope ro fn x cur a=>exact fun ρ w a' F hr ha bH=>hg.inScope h hr ha bH
 | call f vs=>exact fun ρ w vs' hr hv=>hg.call h hr hv
 | deferred f vs=>exact fun ρ w vs' hr hv=>hg.deferred h hr hv
 | leave fn a=>exact fun ρ w a' hr ha=>hg.leave h hr ha
 | apply f vs=>exact fun ρ w f' vs' hr hf hv=>hg.apply h hr hf hv
 | round l vs=>exact fun ρ w k vs' hr hl hv=>hg.round h hr hl hv
theorem Enters.mono {P:Program} {d:Deferred} {w:World} {Q Q':Ending→World→Prop} (h:Enters P d w Q) (hq:∀e w,Q e w→Q' e w):Enters P d w Q':=by
 rcases h with ⟨f,args,h1,h2⟩ | ⟨l,f,tmps,akK,bo,h1,h2⟩
 ·exact .inl ⟨f,args,h1,h2.mono hq⟩
 ·exact .inr ⟨l,f,tmps,akK,bo,h1,h2.mono hq⟩
theorem dA.mono [Env] {P:Program} {t:Task} {σ:St} {p q:Out×St→Prop} (tZ:∀x,p x→q x) (h:dA P t σ p):dA P t σ q:=by
 refine⟨let ⟨x,hx⟩:=h.1;⟨x,tZ x hx⟩,?_⟩
 have h:=h.2
 cases t with
 | code ro fn c a=>exact fun ρ w a' F hr ha bH=>⟨wpIn_mono (h ρ w a' F hr ha bH).1 fun _ _ _ hx=>bW.mono hx tZ,fun x hx=>((h ρ w a' F hr ha bH).2 x hx).mono fun _ _ _ hx=>bW.mono hx tZ⟩
 | inScope ro fn x cur a=>exact fun ρ w a' F hr ha bH=>(h ρ w a' F hr ha bH).mono fun _ _ _ hx=>bW.mono hx tZ
 | call f vs=>exact fun ρ w vs' hr hv=>⟨(h ρ w vs' hr hv).1,(h ρ w vs' hr hv).2.mono fun _ _ hx=>cO.mono hx tZ⟩
 | deferred f vs=>exact fun ρ w vs' hr hv=>⟨(h ρ w vs' hr hv).1,fun u=>((h ρ w vs' hr hv).2 u).mono fun _ _ _ hx=>⟨hx.1,cO.mono hx.2 tZ⟩⟩
 | leave fn a=>exact fun ρ w a' hr ha=>LeavesInM.mono (h ρ w a' hr ha) fun _ _ hx=>cO.mono hx tZ
 | apply f vs=>exact fun ρ w f' vs' hr hf hv=>let ⟨d,h1,h2⟩:=h ρ w f' vs' hr hf hv;⟨d,h1,h2.mono fun _ _ hx=>cO.mono hx tZ⟩
 | round l vs=>exact fun ρ w k vs' hr hl hv=>let ⟨g,tmps,akK,bo,h1,h2⟩:=h ρ w k vs' hr hl hv;⟨g,tmps,akK,bo,h1,h2.mono fun _ _ hx=>cO.mono hx tZ⟩
theorem dA.at [Env] {P:Program} {t:Task} {σ:St} {p:Out×St→Prop} (h:dA P t σ p):Xj P t σ p:=h.2
def fr [Env] (P:Program) (t:Task) (σ:St):Run:=.tr (dA P t σ) (fun _ _ h=>dA.mono h) fun _ h=>h.1
theorem Nr [Env] (P:Program):Good P (fr P):=by
 constructor
 case code=>intro ro fn c a σ p h ρ w a' F hr ha bH;exact(dA.at h ρ w a' F hr ha bH).1
 case loop=>intro ro fn x a σ p h ρ w a' F hr ha bH;exact(dA.at h ρ w a' F hr ha bH).2 x rfl
 case inScope=>intro ro fn x cur a σ p h ρ w a' F hr ha bH;exact dA.at h ρ w a' F hr ha bH
 case call=>intro f vs σ p h ρ w vs' hr hv;exact dA.at h ρ w vs' hr hv
 case deferred=>intro f vs σ p h ρ w vs' hr hv;exact dA.at h ρ w vs' hr hv
 case leave=>intro fn a σ p h ρ w a' hr ha;exact dA.at h ρ w a' hr ha
 case apply=>intro f vs σ p h ρ w f' vs' hr hf hv;exact dA.at h ρ w f' vs' hr hf hv
 case round=>intro l vs σ p h ρ w k vs' hr hl hv;exact dA.at h ρ w k vs' hr hl hv
class iX (P:Program):Prop where
 h:P.follows .mixedOrders=true
section
variable {P:Program} [iX P] [Env]
theorem dA.wk {t:Task} {σ:St} {p:Out×St→Prop} (h:(step P (fr P) t σ).Holds p):dA P t σ p:=(BK iX.h (Nr P)).G2 h
theorem dA.Um {O:List Told} (hO:∀e∈O,e.ok P) {t:Task} {σ:St} {p:Out×St→Prop} {n:Nat} (h:(DX P O n t σ).Holds p):dA P t σ p:=(BS iX.h hO n).G2 h
end
structure oR [Env] (P:Program) (t:Task) (p:Out×St→Prop) (σ:St):Prop where
 h:dA P t σ p
structure ag [Env] (P:Program) (f:FuncId) (vs:List V) (Q:ai) (σ:St):Prop where
 h:dA P (.call f vs) σ (mV Q)
structure sP [Env] (P:Program) (fn:FuncId) (ro:Option Nat) (c:Code) (Q:dw) (a:Act) (σ:St):Prop where
 h:((kx P fn c).f (fr P) ro a σ).Holds (w7 Q)
section
variable {P:Program} [iX P] [Env] {fn:FuncId} {ro:Option Nat}
omit [iX P] in
theorem ag.mono {f:FuncId} {vs:List V} {Q Q':ai} {σ:St} (h:ag P f vs Q σ) (hq:∀v σ,Q v σ→Q' v σ):ag P f vs Q' σ:=
 ⟨dA.mono (fun⟨o,σ⟩ hx=>by cases o with
  | val v=>exact hq _ _ hx
  | exit e a=>exact hx) h.h⟩
theorem sP.G2 {c:Code} {Q:dw} {a:Act} {σ:St} (h:sP P fn ro c Q a σ):dA P (.code ro fn c a) σ (w7 Q):=by
 by_cases hl:∃x,c=.loop x
 ·obtain⟨x,rfl⟩:=hl
  exact h.h
 ·refine .wk (t:=.code ro fn c a) ?_
  show(xy P (fr P) ro fn a σ c).Holds (w7 Q)
  have h:=h.h
  cases c<;>first
   | exact absurd ⟨_,rfl⟩ hl
   | exact h
def bk:Code→List Code
 | .seq x y=>bk x++bk y
 | .cond _ x y=>bk x++bk y
 | .block _ x=>bk x
 | .loop x=>x::bk x
 | .scope x=>bk x
 | _=>[]
def aS:Code→Nat
 | .seq x y=>aS x+aS y
 | .cond _ x y=>aS x+aS y
 | .block _ x=>aS x
 | .loop x=>aS x+1
 | .scope x=>aS x
 | _=>0
omit [iX P] [Env] in
theorem eI:∀c:Code,(bk c).length=aS c
 | .seq x y=>by simp [bk,aS,eI x,eI y]
 | .cond _ x y=>by simp [bk,aS,eI x,eI y]
 | .block _ x=>eI x
 | .loop x=>by simp [bk,aS,eI x]
 | .scope x=>eI x
 | .skip=>rfl
 | .label _=>rfl
 | .exit _=>rfl
 | .goto _=>rfl
 | .ret=>rfl
 | .region _ _ _=>rfl
 | .rangeFunc _ _ _ _=>rfl
 | .refuse _=>rfl
omit [iX P] [Env] in
theorem yR:∀(c:Code) {k:Nat} {x:Code},(bk c)[k]? =some x→∀ {j:Nat} {y:Code},(bk x)[j]? =some y→(bk c)[k+1+j]? =some y:=by
 intro c
 have two:∀ {a b:List Code},(∀ {k:Nat} {x:Code},a[k]? =some x→∀ {j:Nat} {y:Code},(bk x)[j]? =some y→a[k+1+j]? =some y)→(∀ {k:Nat} {x:Code},b[k]? =some x→∀ {j:Nat} {y:Code},(bk x)[j]? =some y→b[k+1+j]? =some y)→
   ∀ {k:Nat} {x:Code},(a++b)[k]? =some x→∀ {j:Nat} {y:Code},(bk x)[j]? =some y→(a++b)[k+1+j]? =some y:=by
  intro a b ha hb k x hk j y hj
  rcases Nat.lt_or_ge k a.length with bI | pw
  ·rw[List.getElem?_append_left bI] at hk
   have h2:=ha hk hj
   rw[List.getElem?_append_left (List.getElem?_eq_some_iff.1 h2).1]
   exact h2
  ·rw[List.getElem?_append_right pw] at hk
   have h2:=hb hk hj
   rw[List.getElem?_append_right (by omega),show k+1+j-a.length=k-a.length+1+j by omega]
   exact h2
 induction c with
 | seq a b Xk Xl=>exact fun hk _ _ hj=>two (fun h _ _=>Xk h) (fun h _ _=>Xl h) hk hj
 | cond o a b Xk Xl=>exact fun hk _ _ hj=>two (fun h _ _=>Xk h) (fun h _ _=>Xl h) hk hj
 | block i a ih=>exact fun hk _ _ hj=>ih hk hj
 | scope a ih=>exact fun hk _ _ hj=>ih hk hj
 | loop a ih=>
  intro k x hk j y hj
  cases k with
  | zero=>
   have e:a=x:=by simpa [bk] using hk
   subst e
   show(a::bk a)[0+1+j]? =some y
   rw[show 0+1+j=j+1 by omega,List.getElem?_cons_succ];exact hj
  | succ k=>
   have fB:(bk a)[k]? =some x:=by simpa [bk] using hk
   show(a::bk a)[k+1+1+j]? =some y
   rw[show k+1+1+j=(k+1+j)+1 by omega,List.getElem?_cons_succ]
   exact ih fB hj
 | _=>exact fun hk=>by simp [bk] at hk
structure gq (P:Program) [Env] where
 call:FuncId→List V→St→ai→Prop
 loop:FuncId→Option Nat→Nat→Code→dw→Act→St→Prop
 yield:Nat→List V→St→ai→Prop:=fun l vs σ k=>oR P (.round l vs) (mV k) σ
 range:FuncId→Option Nat→Code→dw→Act→St→Prop:=fun fn ro c Q a σ=>sP P fn ro c Q a σ
structure gq.OkC {P:Program} [Env] (K:gq P):Prop where
 call:∀ {f:FuncId} {vs:List V} {σ:St} {k:ai},K.call f vs σ k→ag P f vs k σ
 yield:∀ {l:Nat} {vs:List V} {σ:St} {k:ai},K.yield l vs σ k→oR P (.round l vs) (mV k) σ
def DY (P:Program) [Env] (K:gq P) (g:FuncId) (vs:List V) (σ:St) (k:ai):Prop:=K.call g vs σ k
omit [iX P] in
theorem BT {K:gq P} (hK:K.OkC) {g:FuncId} {vs:List V} {σ:St} {k:ai} (h:DY P K g vs σ k):ag P g vs k σ:=hK.call h
def DZ (P:Program) (K:gq P) (vs:List V) (σ:St) (k:ai):V→Prop
 | .func (.func g) first captured=>DY P K g (app first (app vs captured)) σ k
 | f=>oR P (.apply f vs) (mV k) σ
def sQ (P:Program) (K:gq P) (σ:St) (k:ai):Option V→Option (List V)→Prop
 | some fv,some vs=>DZ P K vs σ k fv
 | _,_=>False
def GB (P:Program) (K:gq P) (σ:St) (vs:List V) (k:ai):Option (FuncId×V)→Prop
 | some (f,recv)=>DY P K f (recv::vs) σ k
 | none=>False
def qP (P:Program) (K:gq P) (σ:St) (name:String) (k:ai):Option V→Option (List V)→Prop
 | some (.iface t v),some vs=>GB P K σ vs k (o6 P t v name)
 | _,_=>False
def KD (σ:St) (e:Ext) (vs:Option (List V)) (k:ai):Prop:=
 match e,vs with
 | .J5,some [.dQ .f64 b]=>(FloatKind.f64.decode b).isNaN=false∧k (.dQ .f64 (iV b)) σ
 | e,vs=>dx (Cs σ e vs) k
omit [iX P] [Env] in
theorem KE {σ:St} {e:Ext} {vs:Option (List V)} {k:ai} (h:KD σ e vs k):dx (Cs σ e vs) k:=by
 unfold KD at h
 split at h
 ·rename_i b
  refine dx.mk' (v:=_) (σ:=_) ?_ h.2
  show aV σ "extern" (if (FloatKind.f64.decode b).isNaN then none else some (.dQ .f64 (iV b)))=_
  rw[h.1];rfl
 ·exact h
def CA (P:Program) (K:gq P) (ro:Option Nat) (o:Op) (a:Act) (σ:St) (id:Nat) (k:wg):Prop:=
 match o with
 | .call c=>match c.callee with
  | .value f=>match oG P f with
   | some e=>KD σ e (a.bR c.args.toList) fun v σ=>k v a σ
   | none=>sQ P K σ (fun v σ=>k v a σ) (a.eval f) (a.bR c.args.toList)
  | .invoke x name=>qP P K σ name (fun v σ=>k v a σ) (a.eval x) (a.bR c.args.toList)
  | .builtin b=>xJ P σ id b c.argTypes.toList (a.bR c.args.toList) fun v σ=>k v a σ
 | .defer c=>((rh c).f (fun _ _=>.fail) ro a σ id).Holds (kC k)
 | o=>Xh P o a σ id fun v σ=>k v a σ
omit [iX P] in
theorem GC {a:Act} {σ:St} {f:FuncId} {vs:List V} {k:wg} (h:ag P f vs (fun v σ=>k v a σ) σ):((fr P (.call f vs) σ).bind (valOf a)).Holds (kC k):=
 bL.Holds.fQ (dA.mono (fun⟨o,σ⟩ hx=>by cases o with
  | val v=>exact hx
  | exit e a=>exact hx.elim) h.h)
theorem D0 {K:gq P} (hK:K.OkC) {a:Act} {σ:St} {fv:V} {vs:List V} {k:wg} (h:DZ P K vs σ (fun v σ=>k v a σ) fv):((fr P (.apply fv vs) σ).bind (valOf a)).Holds (kC k):=by
 have other:oR P (.apply fv vs) (mV fun v σ=>k v a σ) σ→((fr P (.apply fv vs) σ).bind (valOf a)).Holds (kC k):=fun h=>
  bL.Holds.fQ (dA.mono (fun⟨o,σ⟩ hx=>by cases o with
   | val v=>exact hx
   | exit e a=>exact hx.elim) h.h)
 unfold DZ at h
 split at h
 ·rename_i g first captured
  exact other ⟨.wk (BT hK h).h⟩
 ·exact other h
theorem GD {K:gq P} (hK:K.OkC) {o:Op} {a:Act} {σ:St} {id:Nat} {k:wg} (h:CA P K ro o a σ id k):((jn P o).f (fr P) ro a σ id).Holds (kC k):=by
 have plain:∀ {o:Op},Xh P o a σ id (fun v σ=>k v a σ)→((C3 (mH P o)).f (fr P) ro a σ id).Holds (kC k):=fun h=>bL.Holds.fI (Nl h)
 cases o with
 | call c=>
  obtain⟨callee,args,tys⟩:=c
  cases callee with
  | value f=>
   have h':match oG P f with
     | some e=>KD σ e (a.bR args.toList) fun v σ=>k v a σ
     | none=>sQ P K σ (fun v σ=>k v a σ) (a.eval f) (a.bR args.toList):=h
   show((match oG P f with
    | some e=>⟨fun _ _ a σ _=>(Cs σ e (a.bR args.toList)).bind (fI a)⟩
    | none=>⟨fun R _ a σ _=>nQ R a σ (a.eval f) (a.bR args.toList)⟩:sq).f (fr P) ro a σ id).Holds (kC k)
   cases hx:oG P f with
   | some e=>rw[hx] at h';exact bL.Holds.fI (dx.holds (KE h'))
   | none=>
    rw[hx] at h'
    show(nQ (fr P) a σ (a.eval f) (a.bR args.toList)).Holds (kC k)
    replace h':sQ P K σ (fun v σ=>k v a σ) (a.eval f) (a.bR args.toList):=h'
    revert h'
    cases a.eval f with
    | none=>exact fun h=>h.elim
    | some fv=>cases a.bR args.toList with
     | none=>exact fun h=>h.elim
     | some vs=>exact fun h=>D0 hK h
  | invoke x name=>
   show(oL P (fr P) a σ name (a.eval x) (a.bR args.toList)).Holds (kC k)
   have h':qP P K σ name (fun v σ=>k v a σ) (a.eval x) (a.bR args.toList):=h
   unfold qP at h'
   split at h'
   ·rename_i t v vs hx hv
    rw[hx,hv]
    show(ny (fr P) a σ vs (o6 P t v name)).Holds (kC k)
    cases hm:o6 P t v name with
    | none=>rw[hm] at h';exact h'.elim
    | some p=>obtain⟨f,recv⟩:=p;rw[hm] at h';exact GC (BT hK h')
   ·exact h'.elim
  | builtin b=>exact bL.Holds.fI (dx.holds (z7 h))
 | defer c=>
  have h':((rh c).f (fun _ _=>.fail) ro a σ id).Holds (kC k):=h
  show((rh c).f (fr P) ro a σ id).Holds (kC k)
  have e:∀R R',(rh c).f R ro a σ id=(rh c).f R' ro a σ id:=by
   intro R R'
   rfl
  rw[e _ fun _ _=>.fail];exact h'
 | _=>exact plain h
def ab1 (want:Bool) (y z:Prop):Option V→Prop
 | some (.bool b)=>aa (b==want) y z
 | some (.any _)=>False
 | some _=>z
 | none=>False
noncomputable def CB (P:Program) (K:gq P) (ro:Option Nat) (ops:List Oper) (o:Oper) (a:Act) (σ:St) (id:Nat) (k:Act→St→Prop):Prop:=
 match o.guard with
 | none=>CA P K ro o.op a σ id fun v a σ=>z8 o.dst (fun a=>k a σ) a v
 | some (j,want)=>match fW ops j with
  | some d=>ab1 want (CA P K ro o.op a σ id fun v a σ=>z8 o.dst (fun a=>k a σ) a v) (z8 o.dst (fun a=>k a σ) a dg) (a.tmps.get d)
  | none=>z8 o.dst (fun a=>k a σ) a dg
theorem xd {K:gq P} (hK:K.OkC) {ops:List Oper} {o:Oper} {a:Act} {σ:St} {id:Nat} {k:Act→St→Prop} (h:CB P K ro ops o a σ id k):((jo P ops o).f (fr P) ro a σ id).Holds (Aa k):=by
 have go:CA P K ro o.op a σ id (fun v a σ=>z8 o.dst (fun a=>k a σ) a v)→(((jn P o.op).f (fr P) ro a σ id).bind (l6 o.dst)).Holds (Aa k):=fun h=>
  bL.Holds.fQ ((GD hK h).mono fun⟨v,a,σ⟩ hx=>oQ hx)
 unfold CB at h
 unfold jo
 cases hg:o.guard with
 | none=>rw[hg] at h;exact go h
 | some jw=>
  obtain⟨j,want⟩:=jw
  rw[hg] at h
  dsimp only at h⊢
  cases hs:fW ops j with
  | none=>rw[hs] at h;exact oQ h
  | some d=>
   rw[hs] at h
   dsimp only at h
   show(ri (jn P o.op) o.dst (fr P) ro a σ id (sn want (a.tmps.get d))).Holds (Aa k)
   revert h
   cases a.tmps.get d with
   | none=>exact fun h=>h.elim
   | some v=>cases v with
    | bool b=>
     intro h
     have h':aa (b==want) _ _:=h
     show(ri (jn P o.op) o.dst (fr P) ro a σ id (some (b==want))).Holds (Aa k)
     cases hb:b==want with
     | true=>exact go (aa.y h' hb)
     | false=>exact oQ (aa.z h' hb)
    | any i=>exact fun h=>h.elim
    | _=>exact fun h=>oQ h
noncomputable def Po (P:Program) (K:gq P) (ro:Option Nat) (ops:List Oper) (k:Act→St→Prop):List Oper→Act→St→Prop
 | []=>k
 | o::l=>fun a σ=>CB P K ro ops o a σ σ.next (Po P K ro ops k l)
theorem yS {K:gq P} (hK:K.OkC) {ops:List Oper} {Q:dw}:∀ {l:List Oper} {a:Act} {σ:St},Po P K ro ops (Q .normal) l a σ→((J8 P ops l).f (fr P) ro a σ).Holds (w7 Q)
 | [],_,_,h=>h
 | _::_,_,_,h=>bL.Holds.fQ ((xd hK h).mono fun _ hx=>yS hK hx)
noncomputable def rF (P:Program) (K:gq P) (ro:Option Nat) (ops:List Oper) (base:Nat) (k:Act→St→Prop):List Item→List St→Act→St→Prop
 | [],_=>k
 | it::l,snaps=>fun a σ=>match nth ops it.i with
  | some o=>CB P K ro ops o a σ (Nat.add base it.i) fun a' σ'=>Kz it.back (eH P (ob ops o a) it.back snaps a (l7 a' o.dst) o.op) (rF P K ro ops base k l (lK (bt o.op) σ' snaps) a' σ')
  | none=>False
theorem ve {K:gq P} (hK:K.OkC) {ops:List Oper} {Q:dw} {base:Nat}:∀ {l:List Item} {snaps:List St} {a:Act} {σ:St},rF P K ro ops base (Q .normal) l snaps a σ→((l8 P ops l).f (fr P) ro base snaps a σ).Holds (w7 Q)
 | [],_,_,_,h=>h
 | it::l,snaps,a,σ,h=>by
  show((uH P ops it (l8 P ops l) (nth ops it.i)).f (fr P) ro base snaps a σ).Holds (w7 Q)
  unfold rF at h
  cases hn:nth ops it.i with
  | none=>rw[hn] at h;exact h.elim
  | some o=>
   rw[hn] at h
   dsimp only at h
   refine bL.Holds.fQ ((xd hK h).mono fun⟨a',σ'⟩ hx=>?_)
   have cX:Kz it.back (eH P (ob ops o a) it.back snaps a (l7 a' o.dst) o.op) (rF P K ro ops base (Q .normal) l (lK (bt o.op) σ' snaps) a' σ'):=hx
   have hb:(Nat.beq it.back 0||eH P (ob ops o a) it.back snaps a (l7 a' o.dst) o.op)=true∧rF P K ro ops base (Q .normal) l (lK (bt o.op) σ' snaps) a' σ':=by
    unfold Kz at cX
    split at cX
    ·rename_i hz;rw[hz];exact⟨rfl,cX⟩
    ·cases hc:eH P (ob ops o a) it.back snaps a (l7 a' o.dst) o.op with
     | true=>exact⟨by rw[Bool.or_true],aa.y cX hc⟩
     | false=>exact(aa.z cX hc).elim
   show(match Nat.beq it.back 0||eH P (ob ops o a) it.back snaps a (l7 a' o.dst) o.op with
    | true=>(l8 P ops l).f (fr P) ro base (lK (bt o.op) σ' snaps) a' σ'
    | false=>.fail "a load and a write, in either order":Run).Holds (w7 Q)
   rw[hb.1];exact ve hK hb.2
noncomputable def S3 (P:Program) (K:gq P) (ro:Option Nat) (ops:List Oper) (k:Act→St→Prop) (a:Act) (σ:St):Option (List Item)→Prop
 | some l=>rF P K ro ops σ.next k l [ahead (len ops) σ] a (ahead (len ops) σ)
 | none=>False
noncomputable def G3 (P:Program) (K:gq P) (ro:Option Nat) (ops:List Oper) (k:Act→St→Prop) (a:Act) (σ:St):Bool→Prop
 | false=>Po P K ro ops k ops a σ
 | true=>S3 P K ro ops k a σ (pj P ops)
def rG (Q:dw):dw
 | .goto _=>fun _ _=>False
 | e=>Q e
noncomputable def ws (P:Program) [Env] (K:gq P) (fn:FuncId) (ro:Option Nat):Nat→Code→dw→Act→St→Prop
 | _,.skip,Q=>Q .normal
 | _,.label _,Q=>Q .normal
 | i,.seq x y,Q=>ws P K fn ro i x (kK (ws P K fn ro (Nat.add i (aS x)) y Q) Q)
 | i,.cond x y z,Q=>fun a σ=>Kt (ws P K fn ro i y Q a σ) (ws P K fn ro (Nat.add i (aS y)) z Q a σ) (a.eval x)
 | i,.block id x,Q=>ws P K fn ro i x (rC id Q)
 | i,.loop x,Q=>K.loop fn ro i x Q
 | _,.exit id,Q=>Q (.exit id)
 | _,.goto l,Q=>Q (.goto l)
 | _,.ret,Q=>Q .ret
 | _,.region _ ops draw,Q=>fun a σ=>G3 P K ro ops.toList (Q .normal) a σ draw
 | i,.scope x,Q=>ws P K fn ro i x (rG Q)
 | _,.rangeFunc f ps akK bo,Q=>K.range fn ro (.rangeFunc f ps akK bo) Q
 | _,c,Q=>sP P fn ro c Q
def sR (P:Program) (fn:Func) (Q:ai):dw
 | .normal=>fun a σ=>match a.defers with
  | []=>DR Q σ (fj P a σ fn.results.toList)
  | _=>oR P (.leave fn a) (mV Q) σ
 | .ret=>fun a σ=>match a.defers with
  | []=>DR Q σ (fj P a σ fn.results.toList)
  | _=>oR P (.leave fn a) (mV Q) σ
 | _=>fun _ _=>False
theorem pD {fn:Func} {a:Act} {σ:St} {Q:ai} (h:match a.defers with
  | []=>DR Q σ (fj P a σ fn.results.toList)
  | _=>oR P (.leave fn a) (mV Q) σ):dA P (.leave fn a) σ (mV Q):=by
 cases hd:a.defers with
 | nil=>
  rw[hd] at h
  refine .wk ?_
  show(qb P (fr P) fn a σ a.defers).Holds _
  rw[hd]
  show(zG σ (fj P a σ fn.results.toList)).Holds _
  have h':DR Q σ (fj P a σ fn.results.toList):=h
  revert h'
  cases fj P a σ fn.results.toList with
  | none=>exact id
  | some l=>exact id
 | cons d l=>rw[hd] at h;exact oR.h h
theorem ag.ab2 {f:FuncId} {fn:Func} {c:Code} {vs:List V} {Q:ai} {σ:St} (hf:P.funcs[f]? =some fn) (hb:fn.body=some c) (hn:(fn.name== "runtime.NumGoroutine")=false)
  (h:dA P (.code none f c (oK fn.ntmps vs)) σ (w7 (sR P fn Q))):ag P f vs Q σ:=by
 refine⟨.wk ?_⟩
 show(nR (fr P) f vs σ P.funcs[f]?).Holds _
 rw[hf]
 show(sr (fr P) f fn vs σ (C4 (fr P) fn) fn.body).Holds _
 rw[hb]
 show(match fn.name== "runtime.NumGoroutine" with
  | true=>.fail "NumGoroutine"
  | false=>(fr P (.code none f c (oK fn.ntmps vs)) σ).bind (C4 (fr P) fn):Run).Holds _
 rw[hn]
 refine bL.Holds.fQ (dA.mono (fun⟨o,σ⟩ hx=>?_) h)
 cases o with
 | val v=>exact hx.elim
 | exit e a=>cases e with
  | normal=>exact pD hx
  | ret=>exact pD hx
  | _=>exact hx.elim
end
end Go.Ev
end
section
namespace Go.Ev
open Go
def Clean [Env] (v:V):Prop:=∀(ρ ρ':Ren) (x:Value),(∀c o y,ρ.aW c o=some y→ρ'.aW c o=some y)→au ρ v x→au ρ' v x
mutual
inductive ei [Env] (σ:St):V→V→Prop
 | clean {v:V} (h:Clean v):ei σ v v
 | jT {v:V} {n:Nat} {g:Nat→V} {esz:Nat} {ex:Bool} (h:ei σ v (.br (cj n g) esz ex)):ei σ v (.arr n g esz ex false)
 | arr {n:Nat} {f g:Nat→V} {esz:Nat} {ex yT nn nn':Bool} (h:∀i,i<n→bA σ (f i).cells (g i).cells) (hu:∀i,i<n→(g i).cells.length=esz) (he:yT=true→ex=true) (hn:nn'=true→nn=true):ei σ (.arr n f esz ex nn) (.arr n g esz yT nn')
 | own {b n esz:Nat} {f g:Nat→V} {p nn:Bool} (hb:σ.heap.get b=some (.row n f esz p)) (h:∀i,i<n→bA σ (f i).cells (g i).cells) (hu:∀i,i<n→(g i).cells.length=esz):ei σ (.own b n esz) (.arr n g esz false nn)
 | int (k:IntKind) (n:Int):ei σ (.int k n) (.int k n)
 | bool (b:Bool):ei σ (.bool b) (.bool b)
 | str (s:List UInt8):ei σ (.str s) (.str s)
 | dQ (k:FloatKind) (b:Nat):ei σ (.dQ k b) (.dQ k b)
 | any (i:Nat):ei σ (.any i) (.any i)
 | ed:ei σ .ed .ed
 | dH:ei σ .dH .dH
 | dr:ei σ .dr .dr
 | bd:ei σ .bd .bd
 | aj:ei σ .aj .aj
 | empty (esz:Nat) (ex:Bool):ei σ .aj (.br [] esz ex)
 | br {es us:List V} {esz:Nat} {ex yT:Bool} (h:bA σ (aw es) (aw us)) (hu:∀v∈us,v.cells.length=esz) (hn:us.length=es.length) (he:yT=true→ex=true):ei σ (.br es esz ex) (.br us esz yT)
 | aQ {cs ds:List V} {o:Nat} (h:bA σ cs ds):ei σ (.aQ cs o) (.aQ ds o)
 | D3 {b off n:Nat} {cs ds:List V} (hc:σ.cells b 0 n=some cs) (h:bA σ cs ds):ei σ (.ptr b off) (.aQ ds off)
 | func {g:FuncId} {x y x' y':List V} (hx:bA σ x x') (hy:bA σ y y'):ei σ (.func (.func g) x y) (.func (.func g) x' y')
 | slice {b off n cap esz:Nat} {ex:Bool} {cs es:List V} (hc:σ.cells b off (n*esz)=some cs) (hf:bA σ cs (aw es)) (hu:∀v∈es,v.cells.length=esz) (hn:es.length=n):ei σ (.slice b off n cap ex esz) (.br es esz false)
 | agg {x y:List V} (h:bA σ x y):ei σ (.agg x) (.agg y)
 | tuple {x y:List V} (h:bA σ x y):ei σ (.tuple x) (.tuple y)
 | iface {t:TypeId} {x y:V} (h:ei σ x y):ei σ (.iface t x) (.iface t y)
inductive bA [Env] (σ:St):List V→List V→Prop
 | nil:bA σ [] []
 | cons {v u:V} {x y:List V} (h:ei σ v u) (hl:bA σ x y):bA σ (v::x) (u::y)
end
theorem bA.clean [Env] {σ:St}:∀ {cs:List V},(∀v∈cs,Clean v)→bA σ cs cs
 | [],_=>.nil
 | v::_,h=>.cons (.clean (h v List.mem_cons_self)) (bA.clean fun u hu=>h u (List.mem_cons_of_mem _ hu))
section
variable [Env]
theorem aB.clean {ρ ρ':Ren} (hi:∀c o y,ρ.aW c o=some y→ρ'.aW c o=some y):∀ {cs:List V} {xs:List Value},(∀v∈cs,Clean v)→aB ρ cs xs→aB ρ' cs xs
 | [],_,_,.nil=>.nil
 | v::_,_,h,.cons hx hl=>.cons (h v List.mem_cons_self _ _ _ hi hx) (aB.clean hi (fun u hu=>h u (List.mem_cons_of_mem _ hu)) hl)
theorem Clean.int (k:IntKind) (n:Int):Clean (.int k n):=fun _ _ _ _ h=>by cases h;exact .int k n
theorem Clean.bool (b:Bool):Clean (.bool b):=fun _ _ _ _ h=>by cases h;exact .bool b
theorem Clean.str (s:List UInt8):Clean (.str s):=fun _ _ _ _ h=>by cases h;exact .str s
theorem Clean.aj:Clean .aj:=fun _ _ _ _ h=>by cases h;exact .aj
theorem Clean.dQ (k:FloatKind) (b:Nat):Clean (.dQ k b):=fun _ _ _ _ h=>by cases h;exact .dQ k b
theorem Clean.iface {t:TypeId} {v:V} (hv:Clean v):Clean (.iface t v):=fun _ _ _ hi h=>by cases h with | iface h=>exact .iface (hv _ _ _ hi h)
theorem Clean.agg {cs:List V} (hc:∀v∈cs,Clean v):Clean (.agg cs):=fun _ _ _ hi h=>by cases h with | agg h=>exact .agg (h.clean hi hc)
theorem Clean.func (f:FuncId):Clean (.func (.func f) [] []):=fun _ _ _ _ h=>by
 cases h with
 | func hf hx hy=>
  cases hx;cases hy
  cases hf with
  | same h=>exact .func (.same h) .nil .nil
theorem Clean.fn {f:FuncId} {x y:List V} (hx:∀v∈x,Clean v) (hy:∀v∈y,Clean v):Clean (.func (.func f) x y):=fun _ _ _ hi h=>by
 cases h with
 | func hf h1 h2=>
  cases hf with
  | same h=>exact .func (.same h) (h1.clean hi hx) (h2.clean hi hy)
theorem Clean.aQ {cs:List V} {o:Nat} (hc:∀v∈cs,Clean v):Clean (.aQ cs o):=fun _ _ _ hi h=>by
 cases h with
 | aQ hx hm=>exact .aQ (hx.clean hi hc) fun k x h=>hi _ _ _ (hm k x h)
theorem Clean.br {es:List V} {esz:Nat} {ex:Bool} (hc:∀v∈es,∀u∈v.cells,Clean u):Clean (.br es esz ex):=fun _ _ _ hi h=>by
 have hf:∀ {l:List V},(∀v∈l,∀u∈v.cells,Clean u)→∀u∈aw l,Clean u:=by
  intro l
  induction l with
  | nil=>intro _ u hu;cases hu
  | cons v l ih=>
   intro hl u hu
   rw[ca] at hu
   rcases List.mem_append.1 hu with hu | hu
   ·exact hl v List.mem_cons_self u hu
   ·exact ih (fun w hw=>hl w (List.mem_cons_of_mem _ hw)) u hu
 cases h with
 | br hu hx hm gh he=>exact .br hu (hx.clean hi (hf hc)) (fun k x h=>hi _ _ _ (hm k x h)) gh he
 | dS=>exact .dS
 | du he=>exact .du he
theorem Clean.arr {n:Nat} {f:Nat→V} {esz:Nat} {ex nn:Bool} (hc:∀i,i<n→∀u∈(f i).cells,Clean u):Clean (.arr n f esz ex nn):=fun _ _ _ hi h=>by
 cases h with
 | arr hn h=>
  refine .arr hn (Clean.br (fun v hv=>?_) _ _ _ hi h)
  obtain⟨i,eQ,rfl⟩:=List.getElem_of_mem hv
  rw[aY] at eQ
  have:=dt (f:=f) eQ
  rw[List.getElem?_eq_getElem (by rw[aY];exact eQ)] at this
  rw[Option.some.inj this];exact hc i eQ
theorem D4 {ρ ρ':Ren} {n:Nat} {f g:Nat→V} (h:∀i,i<n→∀ys,aB ρ (f i).cells ys→aB ρ' (g i).cells ys):∀ {xs:List Value},aB ρ (aw (cj n f)) xs→aB ρ' (aw (cj n g)) xs:=by
 have key:∀(l:List Nat),(∀i∈l,i<n)→∀ {xs:List Value},aB ρ (aw (l.map f)) xs→aB ρ' (aw (l.map g)) xs:=by
  intro l
  induction l with
  | nil=>intro _ xs hx;exact(by cases hx;exact .nil)
  | cons i l ih=>
   intro hl xs hx
   rw[List.map_cons,ca] at hx⊢
   have h1:=hx.take (f i).cells.length
   have h2:=hx.drop (f i).cells.length
   rw[List.take_left' rfl] at h1
   rw[List.drop_left' rfl] at h2
   have e:xs=xs.take (f i).cells.length++xs.drop (f i).cells.length:=(List.take_append_drop _ _).symm
   rw[e]
   exact(h i (hl i List.mem_cons_self) _ h1).append (ih (fun j hj=>hl j (List.mem_cons_of_mem _ hj)) h2)
 intro xs hx
 exact key (List.range n) (fun i hi=>List.mem_range.1 hi) hx
theorem G4 {ρ ρ':Ren} (hi:∀c o x,ρ.aW c o=some x→ρ'.aW c o=some x) {es us:List V} {esz:Nat} {ex yT:Bool} {x:Value} (hx:au ρ (.br es esz ex) x) (h:∀xs,aB ρ (aw es) xs→aB ρ' (aw us) xs) (hu:∀v∈us,v.cells.length=esz) (hn:us.length=es.length) (he:yT=true→ex=true):au ρ' (.br us esz yT) x:=by
 cases hx with
 | br hu0 hx hm hc hex=>
  rename_i c off cap xs
  have key:=au.br (ρ:=ρ') (c:=c) (off:=off) (cap:=cap) (ex:=yT) hu (h _ hx) (fun k x h=>hi _ _ _ (hm k x h)) (by rw[hn];exact hc) (fun h=>(hex (he h)).trans hn.symm)
  rw[hn] at key;exact key
 | dS=>
  have:us=[]:=List.eq_nil_of_length_eq_zero hn
  subst this
  exact .dS
 | du hex=>
  have:us=[]:=List.eq_nil_of_length_eq_zero hn
  subst this
  exact .du fun h=>hex (he h)
theorem Ns {ρ:Ren} {w:World} {l:Loc} {n:Nat} {f:Nat→V} {esz:Nat} {p:Bool} (h:cI ρ w l (.row n f esz p)):∃xs:List Value,aB ρ (aw (cj n f)) xs∧∀(k:Nat) x,xs[k]? =some x→w.cell? ⟨l.c,l.o+k,none⟩=some x:=by
 cases h with
 | row hs hn hu hv hf hp=>
  refine pn fun k v hk=>?_
  have cP:=gB hu
  have bI:k<n*esz:=by
   have:=(List.getElem?_eq_some_iff.1 hk).1
   rw[c8 cP,aY] at this;exact this
  have h0:0<esz:=by
   rcases Nat.eq_zero_or_pos esz with h | h
   ·subst h;simp at bI
   ·exact h
  have hi:k/esz<n:=(Nat.div_lt_iff_lt_mul h0).2 bI
  have fB:k%esz<esz:=Nat.mod_lt _ h0
  have e:k/esz*esz+k%esz=k:=by rw[Nat.mul_comm];exact Nat.div_add_mod k esz
  have hg:=gp cP (dt (f:=f) hi) fB
  rw[e,hk] at hg
  obtain⟨x,hx,hr⟩:=hv _ hi _ v hg.symm
  rw[e] at hx
  exact⟨x,hx,hr⟩
end
theorem R.G5 [Env] {ρ:Ren} {σ:St} {w:World} (h:R ρ σ w) {b off k:Nat} {vs:List V} (hv:σ.cells b off k=some vs) {l:Loc} (hl:ρ b=some l):
  ∃xs:List Value,aB ρ vs xs∧xs.length=k∧∀i x,xs[i]? =some x→w.cell? ⟨l.c,l.o+off+i,none⟩=some x:=by
 unfold St.cells at hv
 split at hv
 ·rename_i n z t p ro hb
  obtain⟨hlen,cN⟩:=gJ _ _ hv
  have hc:=(h.cells hb hl).2.2.1
  have key:∀(vs:List V) (o:Nat),(∀i v,vs[i]? =some v→∃x,w.cell? ⟨l.c,o+i,none⟩=some x∧au ρ v x)→
    ∃xs:List Value,aB ρ vs xs∧∀i x,xs[i]? =some x→w.cell? ⟨l.c,o+i,none⟩=some x:=by
   intro vs
   induction vs with
   | nil=>intro o _;exact⟨[],.nil,fun i x hx=>by simp at hx⟩
   | cons v vs ih=>
    intro o hh
    obtain⟨x,hx,hr⟩:=hh 0 v rfl
    obtain⟨xs,l9,cN⟩:=ih (o+1) (fun i v hv=>by
     obtain⟨x,hx,hr⟩:=hh (i+1) v (by simpa using hv)
     exact⟨x,by rwa [show o+(i+1)=o+1+i by omega] at hx,hr⟩)
    refine⟨x::xs,.cons hr l9,fun i y hy=>?_⟩
    cases i with
    | zero=>simp at hy;subst hy;exact hx
    | succ i=>have:=cN i y (by simpa using hy);rwa [show o+1+i=o+(i+1) by omega] at this
  obtain⟨xs,l9,gh⟩:=key vs (l.o+off) (fun i v hi=>by
   obtain⟨x,hx,hr⟩:=hc _ _ (cN i v hi)
   exact⟨x,by rwa [show l.o+(off+i)=l.o+off+i by omega] at hx,hr⟩)
  exact⟨xs,l9,by rw[←l9.length,hlen],gh⟩
 ·cases hv
section
variable [Env] {ρ ρ':Ren} {σ τ:St} {w:World}
mutual
theorem o8 (hr:R ρ τ w) (hi:∀c o x,ρ.aW c o=some x→ρ'.aW c o=some x) (hk:∀b k l,τ.heap.get b=some k→ρ b=some l→∀o x,w.cell? ⟨l.c,o,none⟩=some x→ρ'.aW l.c o=some x):
  ∀ {v u:V} {x:Value},ei τ v u→au ρ v x→au ρ' u x
 | _,_,_,.int k n,.int _ _=>.int k n
 | _,_,_,.bool b,.bool _=>.bool b
 | _,_,_,.str s,.str _=>.str s
 | _,_,_,.dQ k b,.dQ _ _=>.dQ k b
 | _,_,_,.any i,.any _=>.any i
 | _,_,_,.ed,.ed=>.ed
 | _,_,_,.dH,.dH=>.dH
 | _,_,_,.dr,.dr=>.dr
 | _,_,_,.bd,.bd=>.bd
 | _,_,_,.aj,.aj=>.aj
 | _,_,_,.empty _ _,.aj=>.dS
 | _,_,_,.br h hu hn he,.br (c:=c) (off:=off) (cap:=cap) hu0 hx hm hc hex=>by
  have key:=au.br (ρ:=ρ') (c:=c) (off:=off) (cap:=cap) (ex:=_) hu (ft hr hi hk h hx) (fun k x h=>hi _ _ _ (hm k x h)) (by rw[hn];exact hc) (fun h=>(hex (he h)).trans hn.symm)
  rw[hn] at key;exact key
 | _,_,_,.br h hu hn he,.dS=>by
  have:_=[]:=List.eq_nil_of_length_eq_zero hn
  subst this
  exact .dS
 | _,_,_,.br h hu hn he,.du hex=>by
  have:_=[]:=List.eq_nil_of_length_eq_zero hn
  subst this
  exact .du fun h=>hex (he h)
 | _,_,_,.clean h,hx=>h _ _ _ hi hx
 | _,_,_,.jT h,hx=>.arr (fun h=>by cases h) (o8 hr hi hk h hx)
 | _,_,_,.arr h hu he hn,.arr BH hx=>.arr (fun h=>BH (hn h)) (G4 hi hx (fun xs=>D4 fun i cW ys hy=>ft hr hi hk (h i cW) hy) (gB hu) (by rw[aY,aY]) he)
 | _,_,_,@ei.own _ _ b n esz f g p nn hb h hu,.own (l:=l) (cap:=cap) hl hc hN=>by
  obtain⟨l',cS,cT⟩:=hr.di b _ hb
  rw[hl] at cS;cases cS
  obtain⟨xs,h1,h2⟩:=Ns cT
  have key:=au.br (ρ:=ρ') (c:=l.c) (off:=l.o) (cap:=cap) (ex:=false) (es:=cj n g) (gB hu) (D4 (fun i cW ys hy=>ft hr hi hk (h i cW) hy) h1) (fun i x hx=>hk b _ l hb hl _ _ (h2 i x hx)) (by rw[aY];exact hc) (fun h=>by cases h)
  rw[aY] at key
  exact .arr (fun _=>⟨_,_,_,rfl⟩) key
 | _,_,_,.aQ h,.aQ hx hm=>.aQ (ft hr hi hk h hx) fun k x h=>hi _ _ _ (hm k x h)
 | _,_,_,@ei.slice _ _ b off n cap esz ex cs es hc hf hu hn,.slice (l:=l) (off':=off') (cap':=cap') hl hex cW hN jB=>by
  subst hn
  by_cases hz:off'=l.o+off
  ·subst hz
   obtain⟨xs,h1,h2,h3⟩:=hr.G5 hc hl
   obtain⟨k,hb⟩:∃k,τ.heap.get b=some k:=by
    unfold St.cells at hc
    split at hc
    ·rename_i hb;exact⟨_,hb⟩
    ·cases hc
   refine .br hu (ft hr hi hk hf h1) (fun i x hx=>hk b k l hb hl _ _ (h3 i x hx)) ?_ (fun h=>by cases h)
   cases ex with
   | true=>rw[(hex rfl).1];exact jB
   | false=>exact Nat.le_trans jB (cW rfl).1
  ·have h0:es=[]:=by
    cases ex with
    | true=>exact absurd (hex rfl).2 hz
    | false=>
     rcases(cW rfl).2 with h' | h'
     ·exact absurd h' hz
     ·exact List.eq_nil_of_length_eq_zero h'.1
   subst h0
   exact .br (xs:=[]) (fun v hv=>by cases hv) .nil (fun k x h=>by simp at h) (Nat.zero_le _) (fun h=>by cases h)
 | _,_,_,@ei.D3 _ _ b off n cs ds hc h,.ptr (l:=l) hl=>by
  obtain⟨xs,h1,h2,h3⟩:=hr.G5 hc hl
  obtain⟨k,hb⟩:∃k,τ.heap.get b=some k:=by
   unfold St.cells at hc
   split at hc
   ·rename_i hb;exact⟨_,hb⟩
   ·cases hc
  exact .aQ (c:=l.c) (o:=l.o) (ft hr hi hk h h1) fun i x hx=>hk b k l hb hl _ _ (h3 i x hx)
 | _,_,_,.func hx hy,.func hf cX yI=>.func (by cases hf with
  | same h=>exact .same h) (ft hr hi hk hx cX) (ft hr hi hk hy yI)
 | _,_,_,.agg h,.agg hx=>.agg (ft hr hi hk h hx)
 | _,_,_,.tuple h,.tuple hx=>.tuple (ft hr hi hk h hx)
 | _,_,_,.iface h,.iface hx=>.iface (o8 hr hi hk h hx)
theorem ft (hr:R ρ τ w) (hi:∀c o x,ρ.aW c o=some x→ρ'.aW c o=some x) (hk:∀b k l,τ.heap.get b=some k→ρ b=some l→∀o x,w.cell? ⟨l.c,o,none⟩=some x→ρ'.aW l.c o=some x):
  ∀ {vs us:List V} {xs:List Value},bA τ vs us→aB ρ vs xs→aB ρ' us xs
 | _,_,_,.nil,.nil=>.nil
 | _,_,_,.cons h hl,.cons hx l9=>.cons (o8 hr hi hk h hx) (ft hr hi hk hl l9)
end
def void (n:Nat):St:=⟨.leaf,n⟩
omit [Env] in
theorem sS (n b:Nat):(void n).heap.get b=none:=Trie.eU b
variable {P:Program}
theorem ag.D5 {f:FuncId} {vs:List V} {Q:V→Prop} (hex:∃v,Q v)
  (h:∀(ρ:Ren) (w:World) (vs':List Value),R ρ σ w→aB ρ vs vs'→(callFunc f ⟨vs'⟩).run P w=.ok (.enter f ⟨vs'⟩) w∧Calls P f ⟨vs'⟩ w fun e w'=>∃v v',Q v∧e=.returned v'∧au ρ v v'∧RowKit.Below w.heap.size w w'):
  ag P f vs (fun v σ'=>Q v∧σ'=σ) σ:=by
 refine⟨⟨let ⟨v,hv⟩:=hex;⟨(.val v,σ),hv,rfl⟩,?_⟩⟩
 intro ρ w vs' hr hv
 obtain⟨g1,g2⟩:=h ρ w vs' hr hv
 refine⟨g1,(callsIn_wide.2 g2).mono fun e w' hx=>?_⟩
 obtain⟨v,v',hq,rfl,pC,hb⟩:=hx
 refine⟨v,σ,ρ,v',⟨hq,rfl⟩,rfl,pC,⟨⟨fun b k bG=>?_,hr.inj,hr.fresh,fun b l bG=>Nat.lt_of_lt_of_le (hr.valid b l bG) hb.size,fun c o x hx=>?_,hr.laid⟩,Ren.le.refl ρ,Nat.le_refl _,fun b l hb=>.inl hb,hb.size,hb.os,hb.tape,hb.output,
  fun c hc _=>hb.block c hc,fun c _ h=>h,fun b k hb=>.inl ⟨k,hb⟩,fun c o x hx=>.inl hx⟩⟩
 ·obtain⟨l,hl,hk⟩:=hr.di b k bG
  exact⟨l,hl,hk.same (Ren.le.refl ρ) (hb.block l.c (hr.valid b l hl))⟩
 ·obtain⟨a1,a2⟩:=hr.aW c o x hx
  exact⟨by rw[cell?_of_block (hb.block c (gy a1))];exact a1,a2⟩
end
end Go.Ev
end
