/- Proved: parts of the way: Told, Sem. -/
import Derived.Test.YtbajncpfmemdgaaGreatDoorEvQ10
section
namespace Go.Ev
open Go Go.RowKit
noncomputable def tq {α:Type} (f:α→α→Bool) (l:List α):List α→Bool:=
 List.rec (motive:=fun _=>List α→Bool) (fun m=>List.rec (motive:=fun _=>Bool) true (fun _ _ _=>false) m)
  (fun a _ ih m=>List.rec (motive:=fun _=>Bool) false (fun b m' _=>Bool.rec false (ih m') (f a b)) m) l
theorem nt {α:Type} {f:α→α→Bool} (hf:∀a b,f a b=true→a=b):∀ {l m:List α},tq f l m=true→l=m
 | [],[],_=>rfl
 | [],_::_,h=>by cases h
 | _::_,[],h=>by cases h
 | a::l,b::m,h=>by
  have h':(Bool.rec false (tq f l m) (f a b):Bool)=true:=h
  cases xA:f a b with
  | false=>rw[xA] at h';cases h'
  | true=>rw[xA] at h';rw[hf a b xA,nt hf h']
noncomputable def TL {α:Type} (f:α→α→Bool) (x y:Option α):Bool:=
 match x with
 | none=>match y with
  | none=>true
  | some _=>false
 | some a=>match y with
  | none=>false
  | some b=>f a b
theorem P3 {α:Type} {f:α→α→Bool} (hf:∀a b,f a b=true→a=b) {x y:Option α} (h:TL f x y=true):x=y:=by
 cases x<;>cases y<;>first | rfl | cases h | (rw[hf _ _ h])
noncomputable def Trie.same {α:Type} (f:α→α→Bool) (s t:Trie α):Bool:=tq (tq (tq (tq (TL f)))) s t
theorem Trie.wR {α:Type} {f:α→α→Bool} (hf:∀a b,f a b=true→a=b) {s t:Trie α} (h:Trie.same f s t=true):s=t:=
 nt (fun _ _ h=>nt (fun _ _ h=>nt (fun _ _ h=>nt (fun _ _ h=>P3 hf h) h) h) h) h
noncomputable def AI (e e':V×V×Nat):Bool:=V.beq e.1 e'.1&&V.beq e.2.1 e'.2.1&&Nat.beq e.2.2 e'.2.2
theorem Le {e e':V×V×Nat} (h:AI e e'=true):e=e':=by
 obtain⟨a,b,n⟩:=e
 obtain⟨a',b',n'⟩:=e'
 simp only[AI,Bool.and_eq_true] at h
 rw[V.beq_eq h.1.1,V.beq_eq h.1.2,Nat.eq_of_beq_eq_true h.2]
noncomputable def bU.same (k k':bU):Bool:=
 match k with
 | .cells n z t p ro=>match k' with
  | .cells n' z' t' p' ro'=>Nat.beq n n'&&(V.fJ z z'&&(Trie.same V.beq t t'&&(p==p'&&ro==ro')))
  | _=>false
 | .map es c=>match k' with
  | .map es' c'=>Nat.beq c c'&&tq AI es es'
  | _=>false
 | .iter m s l c=>match k' with
  | .iter m' s' l' c'=>decide (m=m')&&(Nat.beq s s'&&(decide (l=l')&&Nat.beq c c'))
  | _=>false
 | .deferred=>match k' with
  | .deferred=>true
  | _=>false
 | _=>false
theorem bU.wR {k k':bU} (h:bU.same k k'=true):k=k':=by
 cases k<;>cases k'<;>first
  | rfl
  | (cases h;done)
  | (rename_i n z t p ro n' z' t' p' ro'
     simp only[bU.same,Bool.and_eq_true,beq_iff_eq] at h
     rw[Nat.eq_of_beq_eq_true h.1,V.kM h.2.1,Trie.wR (fun _ _=>V.beq_eq) h.2.2.1,h.2.2.2.1,h.2.2.2.2])
  | (simp only[bU.same,Bool.and_eq_true] at h
     rw[Nat.eq_of_beq_eq_true h.1,nt (fun _ _=>Le) h.2])
  | (simp only[bU.same,Bool.and_eq_true,decide_eq_true_eq] at h
     rw[h.1,Nat.eq_of_beq_eq_true h.2.1,h.2.2.1,Nat.eq_of_beq_eq_true h.2.2.2])
structure Told where
 f:FuncId
 args:List V
 pre:List (Nat×bU)
 now:Nat
 v:V
 post:List (Nat×Option bU)
 then':Nat
noncomputable def TM {α:Type} (l:List (Nat×Option α)):Trie α→Trie α:=
 List.rec (motive:=fun _=>Trie α→Trie α) (fun t=>t) (fun x _ ih t=>ih (t.put x.1 x.2)) l
noncomputable def Da {α:Type} (l:List (Nat×α)):Trie α→Trie α:=
 List.rec (motive:=fun _=>Trie α→Trie α) (fun t=>t) (fun x _ ih t=>ih (t.put x.1 (some x.2))) l
noncomputable def N5 {α:Type} (l:List (Nat×α)):Trie α→Trie α:=
 List.rec (motive:=fun _=>Trie α→Trie α) (fun t=>t) (fun x _ ih t=>ih (t.put x.1 none)) l
theorem Cm {α:Type} {b:Nat} {k:α}:∀ {l:List (Nat×Option α)} {t:Trie α},(TM l t).get b=some k→(b,some k)∈l∨t.get b=some k
 | [],_,h=>.inr h
 | x::l,t,h=>by
  rcases Cm (l:=l) (t:=t.put x.1 x.2) h with h | h
  ·exact .inl (List.mem_cons_of_mem _ h)
  ·rw[Trie.b9] at h
   by_cases e:b=x.1
   ·rw[if_pos e] at h
    refine .inl (List.mem_cons.2 (.inl ?_))
    rw[e,←h]
   ·rw[if_neg e] at h;exact .inr h
theorem vS {α:Type} {b:Nat} {k:α}:∀ {l:List (Nat×α)} {t:Trie α},(Da l t).get b=some k→(b,k)∈l∨t.get b=some k
 | [],_,h=>.inr h
 | x::l,t,h=>by
  rcases vS (l:=l) (t:=t.put x.1 (some x.2)) h with h | h
  ·exact .inl (List.mem_cons_of_mem _ h)
  ·rw[Trie.b9] at h
   by_cases e:b=x.1
   ·rw[if_pos e] at h
    cases h
    exact .inl (List.mem_cons.2 (.inl (by rw[e])))
   ·rw[if_neg e] at h;exact .inr h
theorem zn {α:Type} {b:Nat} {k:α}:∀ {l:List (Nat×α)} {t:Trie α},(N5 l t).get b=some k→t.get b=some k∧∀x∈l,x.1≠b
 | [],_,h=>⟨h,fun _ hx=>by cases hx⟩
 | x::l,t,h=>by
  obtain⟨h1,h2⟩:=zn (l:=l) (t:=t.put x.1 none) h
  rw[Trie.b9] at h1
  by_cases e:b=x.1
  ·rw[if_pos e] at h1;cases h1
  ·rw[if_neg e] at h1
   refine⟨h1,fun y hy=>?_⟩
   rcases List.mem_cons.1 hy with rfl | hy
   ·exact fun h=>e h.symm
   ·exact h2 y hy
noncomputable def Told.st (e:Told):St:=⟨Da e.pre .leaf,e.now⟩
noncomputable def Told.put (e:Told) (σ:St):St:=⟨TM e.post (N5 e.pre σ.heap),e.then'⟩
noncomputable def Lf (σ:St) (l:List (Nat×bU)):Bool:=
 List.rec (motive:=fun _=>Bool) true (fun x _ ih=>match σ.heap.get x.1 with
  | some k=>Bool.rec false ih (bU.same k x.2)
  | none=>false) l
noncomputable def zo (σ:St) (l:List (Nat×Option bU)):Bool:=
 List.rec (motive:=fun _=>Bool) true (fun x _ ih=>match x.2 with
  | none=>ih
  | some k'=>match σ.heap.get x.1 with
   | some k=>Bool.rec false ih (bU.same k k')
   | none=>false) l
theorem EI {σ:St}:∀ {l:List (Nat×bU)},Lf σ l=true→∀x∈l,σ.heap.get x.1=some x.2
 | [],_,_,hx=>by cases hx
 | y::l,h,x,hx=>by
  have h':(match σ.heap.get y.1 with
   | some k=>Bool.rec false (Lf σ l) (bU.same k y.2)
   | none=>false:Bool)=true:=h
  cases hk:σ.heap.get y.1 with
  | none=>rw[hk] at h';cases h'
  | some k=>
   rw[hk] at h'
   dsimp only at h'
   cases hs:bU.same k y.2 with
   | false=>rw[hs] at h';cases h'
   | true=>
    rw[hs] at h'
    rcases List.mem_cons.1 hx with rfl | hx
    ·rw[hk,bU.wR hs]
    ·exact EI (l:=l) h' x hx
theorem vT {σ:St}:∀ {l:List (Nat×Option bU)},zo σ l=true→∀b k,(b,some k)∈l→σ.heap.get b=some k
 | [],_,_,_,hx=>by cases hx
 | y::l,h,b,k,hx=>by
  obtain⟨c,o⟩:=y
  cases o with
  | none=>
   rcases List.mem_cons.1 hx with hx | hx
   ·cases hx
   ·exact vT (l:=l) h b k hx
  | some k'=>
   have h':(match σ.heap.get c with
    | some k=>Bool.rec false (zo σ l) (bU.same k k')
    | none=>false:Bool)=true:=h
   cases hk:σ.heap.get c with
   | none=>rw[hk] at h';cases h'
   | some k₁=>
    rw[hk] at h'
    dsimp only at h'
    cases hs:bU.same k₁ k' with
    | false=>rw[hs] at h';cases h'
    | true=>
     rw[hs] at h'
     rcases List.mem_cons.1 hx with hx | hx
     ·cases hx;rw[hk,bU.wR hs]
     ·exact vT (l:=l) h' b k hx
noncomputable def Told.fits (e:Told) (f:FuncId) (args:List V) (σ:St):Bool:=
 match Nat.beq e.f f with
 | true=>match Nat.beq e.now σ.next with
  | true=>match V.fJ e.args args with
   | true=>Lf σ e.pre
   | false=>false
  | false=>false
 | false=>false
theorem Told.U6 {e:Told} {f:FuncId} {args:List V} {σ:St} (h:e.fits f args σ=true):e.f=f∧e.now=σ.next∧e.args=args∧∀x∈e.pre,σ.heap.get x.1=some x.2:=by
 unfold Told.fits at h
 split at h
 ·rename_i h1
  split at h
  ·rename_i h2
   split at h
   ·rename_i h3
    exact⟨Nat.eq_of_beq_eq_true h1,Nat.eq_of_beq_eq_true h2,V.kM h3,EI h⟩
   ·cases h
  ·cases h
 ·cases h
noncomputable def zp (O:List Told) (f:FuncId) (args:List V) (σ:St):Option Told:=
 List.rec (motive:=fun _=>Option Told) none (fun e _ ih=>match e.fits f args σ with
  | true=>some e
  | false=>ih) O
theorem EJ {f:FuncId} {args:List V} {σ:St} {e:Told}:∀ {O:List Told},zp O f args σ=some e→e∈O∧e.fits f args σ=true
 | [],h=>by cases h
 | x::O,h=>by
  have h':(match x.fits f args σ with
   | true=>some x
   | false=>zp O f args σ)=some e:=h
  split at h'
  ·rename_i hx
   cases h'
   exact⟨List.mem_cons_self,hx⟩
  ·obtain⟨h1,h2⟩:=EJ h'
   exact⟨List.mem_cons_of_mem _ h1,h2⟩
noncomputable def TN (P:Program) (R:Task→St→Run) (f:FuncId) (args:List V) (σ:St):Option Told→Run
 | some e=>.ok (.val e.v,e.put σ)
 | none=>n7 R f args σ P.funcs[f]?
noncomputable def TO (P:Program) (O:List Told) (R:Task→St→Run) (t:Task) (σ:St):Run:=
 match t with
 | .call f args=>TN P R f args σ (zp O f args σ)
 | t=>step P R t σ
noncomputable def AJ (P:Program) (O:List Told) (n:Nat):Task→St→Run:=
 Nat.rec (motive:=fun _=>Task→St→Run) (fun _ _=>.fail "fuel") (fun _ ih=>TO P O ih) n
def Told.X8 (e:Told):Out×St→Prop
 | (.val v,σ)=>v=e.v∧σ.next≤e.then'∧∀b k,(b,some k)∈e.post→σ.heap.get b=some k
 | _=>False
def Told.ok (P:Program) (e:Told):Prop:=
 ∀ [Env] {ρ:aA} {w:World} {vs':List Value},R ρ e.st w→ay ρ e.args vs'→(callFunc e.f ⟨vs'⟩).run P w=.ok (.enter e.f ⟨vs'⟩) w∧CallsIn Fence.wide 0 P e.f ⟨vs'⟩ w (cu e.X8 ρ e.st w)
theorem R.part [Env] {ρ:aA} {σ τ:St} {w:World} (h:R ρ σ w) (hn:τ.next=σ.next) (hs:∀b k,τ.heap.get b=some k→σ.heap.get b=some k):R ρ τ w:=h.sub hs hn
theorem aW.frame [Env] {ρ ρ':aA} {σ τ jf σ':St} {w w':World} (hr:R ρ σ w) (hn:τ.next=σ.next) (hs:∀b k,τ.heap.get b=some k→σ.heap.get b=some k) (h:aW m9 ρ τ w ρ' jf w')
  (oN:jf.next≤σ'.next) (ob:∀b k,σ'.heap.get b=some k→jf.heap.get b=some k∨(σ.heap.get b=some k∧τ.heap.get b=none)):aW m9 ρ σ w ρ' σ' w':=by
 have apart:∀b k l,σ.heap.get b=some k→τ.heap.get b=none→ρ b=some l→¬Wr ρ τ l.c:=by
  rintro b k l hb bA hl ⟨dd,k₁,cw,h1,_,h3,h4⟩
  have e:=hr.inj b dd k k₁ l cw hb (hs _ _ h1) hl h3 h4.symm
  rw[←e,bA] at h1
  cases h1
 have known:∀b k,σ.heap.get b=some k→∃l,ρ b=some l∧ρ' b=some l∧fN ρ w l k:=fun b k hb=>by
  obtain⟨l,hl,hk⟩:=hr.di b k hb
  exact⟨l,hl,h.le b l hl,hk⟩
 have mixed:∀b b' k k' l l',jf.heap.get b=some k→σ.heap.get b'=some k'→τ.heap.get b'=none→ρ' b=some l→ρ' b'=some l'→l.c=l'.c→False:=by
  intro b b' k k' l l' h1 h2 h3 h4 h5 h6
  obtain⟨mD,qH,Ya,_⟩:=known b' k' h2
  rw[Ya] at h5;cases h5
  refine apart b' k' l' h2 h3 qH ?_
  rw[←h6]
  exact h.wr l.c (by rw[h6];exact hr.valid _ _ qH) ⟨b,k,l,h1,rfl,h4,rfl⟩
 refine⟨⟨fun b k hb=>?_,fun b b' k k' l l' h1 h2 h3 h4 h5=>?_,fun b hb=>h.r.fresh b (Nat.le_trans oN hb),h.r.valid,fun c o x hx=>?_,h.r.laid⟩,h.le,Nat.le_trans (by rw[←hn];exact h.next) oN,fun b l hb=>?_,h.size,h.os,h.tape,h.output,fun c hc hw=>?_,?_,fun b k hb=>?_,fun c o x hx=>?_⟩
 ·rcases ob b k hb with h1 | ⟨h1,h2⟩
  ·exact h.r.di b k h1
  ·obtain⟨l,hl,cm,hk⟩:=known b k h1
   exact⟨l,cm,hk.same h.le (h.aQ l.c (hr.valid _ _ hl) (apart b k l h1 h2 hl))⟩
 ·rcases ob b k h1 with g1 | ⟨g1,Cn⟩<;>rcases ob b' k' h2 with g2 | ⟨g2,xB⟩
  ·exact h.r.inj b b' k k' l l' g1 g2 h3 h4 h5
  ·exact(mixed b b' k k' l l' g1 g2 xB h3 h4 h5).elim
  ·exact(mixed b' b k' k l' l g2 g1 Cn h4 h3 h5.symm).elim
  ·obtain⟨cw,a1,a2,_⟩:=known b k g1
   obtain⟨mD,b1,b2,_⟩:=known b' k' g2
   rw[a2] at h3;rw[b2] at h4;cases h3;cases h4
   exact hr.inj b b' k k' l l' g1 g2 a1 b1 h5
 ·obtain⟨g1,g2⟩:=h.r.aV c o x hx
  refine⟨g1,?_⟩
  rintro⟨dd,k₁,cw,h1,h2,h3,h4⟩
  rcases ob dd k₁ h1 with g | ⟨g,g'⟩
  ·exact g2 ⟨dd,k₁,cw,g,h2,h3,h4⟩
  ·obtain⟨l,hl,cm,_⟩:=known dd k₁ g
   rw[cm] at h3;cases h3
   have bE:cw.c<w.heap.size:=hr.valid _ _ hl
   subst h4
   rcases h.hH cw.c o x hx with q | q | q
   ·exact(hr.aV _ _ _ q).2 ⟨dd,k₁,cw,g,h2,hl,rfl⟩
   ·omega
   ·exact apart dd k₁ cw g g' hl q
 ·rw[←hn];exact h.jn b l hb
 ·refine h.aQ c hc fun hh=>hw ?_
  obtain⟨dd,k₁,cw,h1,h2,h3,h4⟩:=hh
  exact⟨dd,k₁,cw,hs _ _ h1,h2,h3,h4⟩
 ·rintro c hc ⟨dd,k₁,cw,h1,h2,h3,h4⟩
  rcases ob dd k₁ h1 with g | ⟨g,_⟩
  ·obtain⟨dg,k₂,mD,a1,a2,a3,a4⟩:=h.wr c hc ⟨dd,k₁,cw,g,h2,h3,h4⟩
   exact⟨dg,k₂,mD,hs _ _ a1,a2,a3,a4⟩
  ·obtain⟨l,hl,cm,_⟩:=known dd k₁ g
   rw[cm] at h3;cases h3
   exact⟨dd,k₁,cw,g,h2,hl,h4⟩
 ·rcases ob b k hb with g | ⟨g,_⟩
  ·rcases h.jC b k g with ⟨k',g⟩ | g | g
   ·exact .inl ⟨k',hs _ _ g⟩
   ·exact .inr (.inl (by rw[←hn];exact g))
   ·exact .inr (.inr g)
  ·exact .inl ⟨k,g⟩
 ·rcases h.hH c o x hx with q | q | q
  ·exact .inl q
  ·exact .inr (.inl q)
  ·obtain⟨dd,k₁,cw,h1,h2,h3,h4⟩:=q
   exact .inr (.inr ⟨dd,k₁,cw,hs _ _ h1,h2,h3,h4⟩)
section
variable {P:Program} {O:List Told}
theorem N6 [Env] {e:Told} (he:e.ok P) {f:FuncId} {vs:List V} {σ:St} (hf:e.fits f vs σ=true) {p:Out×St→Prop} (hp:p (.val e.v,e.put σ)) {ρ:aA} {w:World} {vs':List Value} (hr:R ρ σ w) (hv:ay ρ vs vs'):
  (callFunc f ⟨vs'⟩).run P w=.ok (.enter f ⟨vs'⟩) w∧CallsIn Fence.wide 0 P f ⟨vs'⟩ w (cu p ρ σ w):=by
 obtain⟨rfl,h2,rfl,h4⟩:=e.U6 hf
 have hs:∀b k,e.st.heap.get b=some k→σ.heap.get b=some k:=by
  intro b k hb
  rcases vS (l:=e.pre) (t:=.leaf) hb with hb | hb
  ·exact h4 _ hb
  ·rw[Trie.fw] at hb;cases hb
 obtain⟨g1,g2⟩:=he (hr.part (τ:=e.st) h2 hs) hv
 refine⟨g1,g2.mono fun en w' hx=>?_⟩
 obtain⟨v,jf,ρ',v',⟨rfl,oN,hk⟩,rfl,mS,aF⟩:=hx
 refine⟨_,_,ρ',v',hp,rfl,mS,aF.frame hr h2 hs oN fun b k hb=>?_⟩
 rcases Cm (l:=e.post) hb with hb | hb
 ·exact .inl (hk b k hb)
 ·obtain⟨h5,h6⟩:=zn hb
  refine .inr ⟨h5,?_⟩
  cases hq:e.st.heap.get b with
  | none=>rfl
  | some k'=>
   rcases vS (l:=e.pre) (t:=.leaf) hq with hq | hq
   ·exact absurd rfl (h6 _ hq)
   ·rw[Trie.fw] at hq;cases hq
theorem Lg [Env] (jV:P.follows .mixedOrders=true) (hO:∀e∈O,e.ok P) {Rn:Task→St→Run} (hg:Good P Rn):Good P (TO P O Rn):=by
 have hs:=Cf jV hg
 refine⟨hs.code,hs.loop,hs.inScope,?_,hs.deferred,hs.leave,hs.apply,hs.round⟩
 intro f vs σ p h ρ w vs' hr hv
 have h':(TN P Rn f vs σ (zp O f vs σ)).ar p:=h
 cases hf:zp O f vs σ with
 | none=>rw[hf] at h';exact hs.call (f:=f) (vs:=vs) h' hr hv
 | some e=>
  rw[hf] at h'
  obtain⟨h1,h2⟩:=EJ hf
  exact N6 (hO e h1) h2 h' hr hv
theorem Co [Env] (jV:P.follows .mixedOrders=true) (hO:∀e∈O,e.ok P):∀n,Good P (AJ P O n):=by
 intro n
 induction n with
 | zero=>constructor<;>intros<;>exact bw.ar.jr (by assumption)
 | succ n ih=>exact Lg jV hO ih
noncomputable def Told.check (e:Told):Out×St→Bool
 | (.val v,σ)=>V.beq v e.v&&(Nat.ble σ.next e.then'&&zo σ e.post)
 | _=>false
theorem Told.nu {e:Told} (jV:P.follows .mixedOrders=true) (hO:∀e∈O,e.ok P) (n:Nat) (h:(AJ P O n (.call e.f e.args) e.st).check e.check=true):e.ok P:=by
 intro _ ρ w vs' hr hv
 refine(Co jV hO n).call ((bw.nm h).mono fun⟨o,σ⟩ hx=>?_) hr hv
 cases o with
 | exit x a=>cases hx
 | val v=>
  have cS:(V.beq v e.v&&(Nat.ble σ.next e.then'&&zo σ e.post))=true:=hx
  simp only[Bool.and_eq_true] at cS
  exact⟨V.beq_eq cS.1,Nat.le_of_ble_eq_true cS.2.1,vT cS.2.2⟩
end
end Go.Ev
end
section
namespace Go.Ev
open Go
def Yb [Env] (P:Program) (t:Task) (σ:St) (p:Out×St→Prop):Prop:=
 match t with
 | .code ro _ c a=>∀(ρ:aA) (w:World) (a':Go.Act) (F:Fence),R ρ σ w→bD ρ a a'→fK ρ ro F→c.wpIn F 0 P (bP p ρ σ w) a' w∧∀x,c=.loop x→kj F P x (bP p ρ σ w) a' w
 | .inScope ro _ x cur a=>∀(ρ:aA) (w:World) (a':Go.Act) (F:Fence),R ρ σ w→bD ρ a a'→fK ρ ro F→me F P x cur (bP p ρ σ w) a' w
 | .call f vs=>∀(ρ:aA) (w:World) (vs':List Value),R ρ σ w→ay ρ vs vs'→(callFunc f ⟨vs'⟩).run P w=.ok (.enter f ⟨vs'⟩) w∧CallsIn Fence.wide 0 P f ⟨vs'⟩ w (cu p ρ σ w)
 | .deferred f vs=>∀(ρ:aA) (w:World) (vs':List Value),R ρ σ w→ay ρ vs vs'→(callFunc f ⟨vs'⟩).run P w=.ok (.enter f ⟨vs'⟩) w∧
   ∀u,CallsDIn Fence.wide 0 P f ⟨vs'⟩ u w (fun e u' w'=>u'=u∧cu p ρ σ w e w')
 | .leave fn a=>∀(ρ:aA) (w:World) (a':Go.Act),R ρ σ w→bD ρ a a'→LeavesInM Fence.wide 0 P fn a'.tmps (cu p ρ σ w) a'.defers .returning w
 | .apply f vs=>∀(ρ:aA) (w:World) (f':Value) (vs':List Value),R ρ σ w→au ρ f f'→ay ρ vs vs'→∃d,(Deferred.ofValue f' ⟨vs'⟩).run P w=.ok d w∧rY P d w (cu p ρ σ w)
 | .round l vs=>∀(ρ:aA) (w:World) (k:Loc) (vs':List Value),R ρ σ w→ρ l=some k→ay ρ vs vs'→
   ∃g tmps ak9 bo,(Instr.yield k.c ⟨vs'⟩).run P w=.ok (.round k.c g tmps ak9 bo) w∧RoundIn Fence.wide 0 P k.c g tmps ak9 bo w (cu p ρ σ w)
def cC [Env] (P:Program) (t:Task) (σ:St) (p:Out×St→Prop):Prop:=(∃x,p x)∧Yb P t σ p
theorem Good.vU [Env] {P:Program} {Rn:Task→St→Run} (hg:Good P Rn) {t:Task} {σ:St} {p:Out×St→Prop} (h:(Rn t σ).ar p):cC P t σ p:=by
 refine⟨h.exists,?_⟩
 cases t with
 | code ro fn c a=>exact fun ρ w a' F hr ha bq=>⟨hg.code h hr ha bq,fun x hx=>by subst hx;exact hg.loop h hr ha bq⟩
 | inScope ro fn x cur a=>exact fun ρ w a' F hr ha bq=>hg.inScope h hr ha bq
 | call f vs=>exact fun ρ w vs' hr hv=>hg.call h hr hv
 | deferred f vs=>exact fun ρ w vs' hr hv=>hg.deferred h hr hv
 | leave fn a=>exact fun ρ w a' hr ha=>hg.leave h hr ha
 | apply f vs=>exact fun ρ w f' vs' hr hf hv=>hg.apply h hr hf hv
 | round l vs=>exact fun ρ w k vs' hr hl hv=>hg.round h hr hl hv
theorem rY.mono {P:Program} {d:Deferred} {w:World} {Q Q':Ending→World→Prop} (h:rY P d w Q) (hq:∀e w,Q e w→Q' e w):rY P d w Q':=by
 rcases h with ⟨f,args,h1,h2⟩ | ⟨l,f,tmps,ak9,bo,h1,h2⟩
 ·exact .inl ⟨f,args,h1,h2.mono hq⟩
 ·exact .inr ⟨l,f,tmps,ak9,bo,h1,h2.mono hq⟩
theorem cC.mono [Env] {P:Program} {t:Task} {σ:St} {p q:Out×St→Prop} (uC:∀x,p x→q x) (h:cC P t σ p):cC P t σ q:=by
 refine⟨let ⟨x,hx⟩:=h.1;⟨x,uC x hx⟩,?_⟩
 have h:=h.2
 cases t with
 | code ro fn c a=>exact fun ρ w a' F hr ha bq=>⟨wpIn_mono (h ρ w a' F hr ha bq).1 fun _ _ _ hx=>bP.mono hx uC,fun x hx=>((h ρ w a' F hr ha bq).2 x hx).mono fun _ _ _ hx=>bP.mono hx uC⟩
 | inScope ro fn x cur a=>exact fun ρ w a' F hr ha bq=>(h ρ w a' F hr ha bq).mono fun _ _ _ hx=>bP.mono hx uC
 | call f vs=>exact fun ρ w vs' hr hv=>⟨(h ρ w vs' hr hv).1,(h ρ w vs' hr hv).2.mono fun _ _ hx=>cu.mono hx uC⟩
 | deferred f vs=>exact fun ρ w vs' hr hv=>⟨(h ρ w vs' hr hv).1,fun u=>((h ρ w vs' hr hv).2 u).mono fun _ _ _ hx=>⟨hx.1,cu.mono hx.2 uC⟩⟩
 | leave fn a=>exact fun ρ w a' hr ha=>LeavesInM.mono (h ρ w a' hr ha) fun _ _ hx=>cu.mono hx uC
 | apply f vs=>exact fun ρ w f' vs' hr hf hv=>let ⟨d,h1,h2⟩:=h ρ w f' vs' hr hf hv;⟨d,h1,h2.mono fun _ _ hx=>cu.mono hx uC⟩
 | round l vs=>exact fun ρ w k vs' hr hl hv=>let ⟨g,tmps,ak9,bo,h1,h2⟩:=h ρ w k vs' hr hl hv;⟨g,tmps,ak9,bo,h1,h2.mono fun _ _ hx=>cu.mono hx uC⟩
theorem cC.at [Env] {P:Program} {t:Task} {σ:St} {p:Out×St→Prop} (h:cC P t σ p):Yb P t σ p:=h.2
def dh [Env] (P:Program) (t:Task) (σ:St):Run:=.tr (cC P t σ) (fun _ _ h=>cC.mono h) fun _ h=>h.1
theorem N7 [Env] (P:Program):Good P (dh P):=by
 constructor
 case code=>intro ro fn c a σ p h ρ w a' F hr ha bq;exact(cC.at h ρ w a' F hr ha bq).1
 case loop=>intro ro fn x a σ p h ρ w a' F hr ha bq;exact(cC.at h ρ w a' F hr ha bq).2 x rfl
 case inScope=>intro ro fn x cur a σ p h ρ w a' F hr ha bq;exact cC.at h ρ w a' F hr ha bq
 case call=>intro f vs σ p h ρ w vs' hr hv;exact cC.at h ρ w vs' hr hv
 case deferred=>intro f vs σ p h ρ w vs' hr hv;exact cC.at h ρ w vs' hr hv
 case leave=>intro fn a σ p h ρ w a' hr ha;exact cC.at h ρ w a' hr ha
 case apply=>intro f vs σ p h ρ w f' vs' hr hf hv;exact cC.at h ρ w f' vs' hr hf hv
 case round=>intro l vs σ p h ρ w k vs' hr hl hv;exact cC.at h ρ w k vs' hr hl hv
class eQ (P:Program):Prop where
 h:P.follows .mixedOrders=true
section
variable {P:Program} [eQ P] [Env]
theorem cC.kP {t:Task} {σ:St} {p:Out×St→Prop} (h:(step P (dh P) t σ).ar p):cC P t σ p:=(Cf eQ.h (N7 P)).vU h
theorem cC.HM {O:List Told} (hO:∀e∈O,e.ok P) {t:Task} {σ:St} {p:Out×St→Prop} {n:Nat} (h:(AJ P O n t σ).ar p):cC P t σ p:=(Co eQ.h hO n).vU h
end
structure kQ [Env] (P:Program) (t:Task) (p:Out×St→Prop) (σ:St):Prop where
 h:cC P t σ p
structure ag [Env] (P:Program) (f:FuncId) (vs:List V) (Q:ah) (σ:St):Prop where
 h:cC P (.call f vs) σ (lS Q)
structure cr [Env] (P:Program) (fn:FuncId) (ro:Option Nat) (c:Code) (Q:cp) (a:Act) (σ:St):Prop where
 h:((iS P fn c).f (dh P) ro a σ).ar (kq Q)
structure lI [Env] (P:Program) (fn:FuncId) (ro:Option Nat) (x:Code) (Q:cp) (a:Act) (σ:St):Prop where
 h:cr P fn ro (.loop x) Q a σ
structure vV [Env] (P:Program) (fn:FuncId) (ro:Option Nat) (x cur:Code) (Q:cp) (a:Act) (σ:St):Prop where
 h:cC P (.inScope ro fn x cur a) σ (kq Q)
section
variable {P:Program} [eQ P] [Env] {fn:FuncId} {ro:Option Nat}
omit [eQ P] in
theorem ag.mono {f:FuncId} {vs:List V} {Q Q':ah} {σ:St} (h:ag P f vs Q σ) (hq:∀v σ,Q v σ→Q' v σ):ag P f vs Q' σ:=
 ⟨cC.mono (fun⟨o,σ⟩ hx=>by cases o with
  | val v=>exact hq _ _ hx
  | exit e a=>exact hx) h.h⟩
omit [eQ P] in
theorem cr.mono {c:Code} {Q Q':cp} {a:Act} {σ:St} (h:cr P fn ro c Q a σ) (hq:∀e a σ,Q e a σ→Q' e a σ):cr P fn ro c Q' a σ:=
 ⟨h.h.mono fun⟨o,σ⟩ hx=>by cases o with
  | val v=>exact hx
  | exit e a=>exact hq _ _ _ hx⟩
theorem cr.vU {c:Code} {Q:cp} {a:Act} {σ:St} (h:cr P fn ro c Q a σ):cC P (.code ro fn c a) σ (kq Q):=by
 by_cases hl:∃x,c=.loop x
 ·obtain⟨x,rfl⟩:=hl
  exact h.h
 ·refine .kP (t:=.code ro fn c a) ?_
  show(xT P (dh P) ro fn a σ c).ar (kq Q)
  have h:=h.h
  cases c<;>first
   | exact absurd ⟨_,rfl⟩ hl
   | exact h
omit [eQ P] in
theorem cr.seq {x y:Code} {Q:cp} {a:Act} {σ:St} (h:cr P fn ro x (jg (cr P fn ro y Q) Q) a σ):cr P fn ro (.seq x y) Q a σ:=by
 refine⟨bw.ar.dk (h.h.mono fun⟨o,σ⟩ hz=>?_)⟩
 cases o with
 | val v=>exact hz.elim
 | exit e a=>cases e with
  | normal=>exact cr.h hz
  | _=>exact hz
omit [eQ P] in
theorem cr.cond {x:Operand} {y z:Code} {Q:cp} {a:Act} {σ:St} (h:zh (cr P fn ro y Q a σ) (cr P fn ro z Q a σ) (a.eval x)):cr P fn ro (.cond x y z) Q a σ:=by
 constructor
 show(CX ((iS P fn y).f (dh P) ro) ((iS P fn z).f (dh P) ro) a σ (a.eval x)).ar (kq Q)
 cases hx:a.eval x with
 | none=>rw[hx] at h;exact h.elim
 | some v=>
  rw[hx] at h
  cases v with
  | bool b=>cases b with
   | true=>exact cr.h (show cr P fn ro y Q a σ from h)
   | false=>exact cr.h (show cr P fn ro z Q a σ from h)
  | _=>exact h.elim
omit [eQ P] in
theorem cr.block {id:Nat} {x:Code} {Q:cp} {a:Act} {σ:St} (h:cr P fn ro x (pT id Q) a σ):cr P fn ro (.block id x) Q a σ:=by
 refine⟨bw.ar.dk (h.h.mono fun⟨o,σ⟩ hx=>?_)⟩
 cases o with
 | val v=>exact hx.elim
 | exit e a=>cases e with
  | exit i=>
   show kq Q (.exit (if i=id then .normal else .exit i) a,σ)
   have cS:(if i=id then Q .normal else Q (.exit i)) a σ:=hx
   by_cases e:i=id
   ·rw[if_pos e] at cS⊢;exact cS
   ·rw[if_neg e] at cS⊢;exact cS
  | _=>exact hx
theorem cr.loop {x:Code} {Q:cp} {a:Act} {σ:St} (h:cr P fn ro x (jg (lI P fn ro x Q) Q) a σ):lI P fn ro x Q a σ:=by
 refine⟨⟨(cC.kP (t:=.code ro fn (.loop x) a) ?_:cC P _ _ _)⟩⟩
 refine bw.ar.dk (h.h.mono fun⟨o,σ⟩ hz=>?_)
 cases o with
 | val v=>exact hz.elim
 | exit e a=>cases e with
  | normal=>exact(lI.h hz).vU
  | _=>exact hz
omit [eQ P] in
theorem cr.scope {x:Code} {Q:cp} {a:Act} {σ:St} (h:vV P fn ro x x Q a σ):cr P fn ro (.scope x) Q a σ:=⟨h.h⟩
def Yc (P:Program) (fn:FuncId) (ro:Option Nat) (x:Code) (Q:cp):cp
 | .goto l=>fun a σ=>match findLabel x l with
  | some rest=>vV P fn ro x rest Q a σ
  | none=>Q (.goto l) a σ
 | e=>Q e
theorem vV.of {x cur:Code} {Q:cp} {a:Act} {σ:St} (h:cr P fn ro cur (Yc P fn ro x Q) a σ):vV P fn ro x cur Q a σ:=by
 refine⟨.kP (bw.ar.dk (h.h.mono fun⟨o,σ⟩ hz=>?_))⟩
 cases o with
 | val v=>exact hz.elim
 | exit e a=>cases e with
  | goto l=>
   have hz':(match findLabel x l with
    | some rest=>vV P fn ro x rest Q a σ
    | none=>Q (.goto l) a σ):=hz
   show(match findLabel x l with
    | some rest=>dh P (.inScope ro fn x rest a) σ
    | none=>.ok (.exit (.goto l) a,σ):Run).ar (kq Q)
   revert hz'
   cases findLabel x l with
   | none=>exact fun h=>h
   | some rest=>exact fun h=>h.h
  | _=>exact hz
def ba:Code→List Code
 | .seq x y=>ba x++ba y
 | .cond _ x y=>ba x++ba y
 | .block _ x=>ba x
 | .loop x=>x::ba x
 | .scope x=>ba x
 | _=>[]
def aR:Code→Nat
 | .seq x y=>aR x+aR y
 | .cond _ x y=>aR x+aR y
 | .block _ x=>aR x
 | .loop x=>aR x+1
 | .scope x=>aR x
 | _=>0
omit [eQ P] [Env] in
theorem dX:∀c:Code,(ba c).length=aR c
 | .seq x y=>by simp [ba,aR,dX x,dX y]
 | .cond _ x y=>by simp [ba,aR,dX x,dX y]
 | .block _ x=>dX x
 | .loop x=>by simp [ba,aR,dX x]
 | .scope x=>dX x
 | .skip=>rfl
 | .label _=>rfl
 | .exit _=>rfl
 | .goto _=>rfl
 | .ret=>rfl
 | .region _ _ _=>rfl
 | .rangeFunc _ _ _ _=>rfl
 | .refuse _=>rfl
omit [eQ P] [Env] in
theorem tt:∀(c:Code) {k:Nat} {x:Code},(ba c)[k]? =some x→∀ {j:Nat} {y:Code},(ba x)[j]? =some y→(ba c)[k+1+j]? =some y:=by
 intro c
 have two:∀ {a b:List Code},(∀ {k:Nat} {x:Code},a[k]? =some x→∀ {j:Nat} {y:Code},(ba x)[j]? =some y→a[k+1+j]? =some y)→(∀ {k:Nat} {x:Code},b[k]? =some x→∀ {j:Nat} {y:Code},(ba x)[j]? =some y→b[k+1+j]? =some y)→
   ∀ {k:Nat} {x:Code},(a++b)[k]? =some x→∀ {j:Nat} {y:Code},(ba x)[j]? =some y→(a++b)[k+1+j]? =some y:=by
  intro a b ha hb k x hk j y hj
  rcases Nat.lt_or_ge k a.length with bE | pO
  ·rw[List.getElem?_append_left bE] at hk
   have h2:=ha hk hj
   rw[List.getElem?_append_left (List.getElem?_eq_some_iff.1 h2).1]
   exact h2
  ·rw[List.getElem?_append_right pO] at hk
   have h2:=hb hk hj
   rw[List.getElem?_append_right (by omega),show k+1+j-a.length=k-a.length+1+j by omega]
   exact h2
 induction c with
 | seq a b Yd Ye=>exact fun hk _ _ hj=>two (fun h _ _=>Yd h) (fun h _ _=>Ye h) hk hj
 | cond o a b Yd Ye=>exact fun hk _ _ hj=>two (fun h _ _=>Yd h) (fun h _ _=>Ye h) hk hj
 | block i a ih=>exact fun hk _ _ hj=>ih hk hj
 | scope a ih=>exact fun hk _ _ hj=>ih hk hj
 | loop a ih=>
  intro k x hk j y hj
  cases k with
  | zero=>
   have e:a=x:=by simpa [ba] using hk
   subst e
   show(a::ba a)[0+1+j]? =some y
   rw[show 0+1+j=j+1 by omega,List.getElem?_cons_succ];exact hj
  | succ k=>
   have eV:(ba a)[k]? =some x:=by simpa [ba] using hk
   show(a::ba a)[k+1+1+j]? =some y
   rw[show k+1+1+j=(k+1+j)+1 by omega,List.getElem?_cons_succ]
   exact ih eV hj
 | _=>exact fun hk=>by simp [ba] at hk
structure ff (P:Program) [Env] where
 call:FuncId→List V→St→ah→Prop
 loop:FuncId→Option Nat→Nat→Code→cp→Act→St→Prop
 yield:Nat→List V→St→ah→Prop:=fun l vs σ k=>kQ P (.round l vs) (lS k) σ
 range:FuncId→Option Nat→Code→cp→Act→St→Prop:=fun fn ro c Q a σ=>cr P fn ro c Q a σ
def ff.nil (P:Program) [Env]:ff P:={call:=fun g vs σ k=>ag P g vs k σ,loop:=fun fn ro _ x Q a σ=>lI P fn ro x Q a σ}
structure ff.OkC {P:Program} [Env] (K:ff P):Prop where
 call:∀ {f:FuncId} {vs:List V} {σ:St} {k:ah},K.call f vs σ k→ag P f vs k σ
 yield:∀ {l:Nat} {vs:List V} {σ:St} {k:ah},K.yield l vs σ k→kQ P (.round l vs) (lS k) σ
structure ff.Ok {P:Program} [Env] (K:ff P):Prop extends K.OkC where
 loop:∀ {f:FuncId} {g:Func} {c x:Code} {j:Nat} {ro:Option Nat} {Q:cp} {a:Act} {σ:St},P.funcs[f]? =some g→g.body=some c→(ba c)[j]? =some x→K.loop f ro j x Q a σ→lI P f ro x Q a σ
 range:∀ {f:FuncId} {ro:Option Nat} {c:Code} {Q:cp} {a:Act} {σ:St},K.range f ro c Q a σ→cr P f ro c Q a σ
def EK (P:Program) [Env] (K:ff P) (g:FuncId) (vs:List V) (σ:St) (k:ah):Prop:=K.call g vs σ k
omit [eQ P] in
theorem Cp {K:ff P} (hK:K.OkC) {g:FuncId} {vs:List V} {σ:St} {k:ah} (h:EK P K g vs σ k):ag P g vs k σ:=hK.call h
noncomputable def bK.aQ {α:Type} (t:bK α) (ks:List Nat):bK α:=
 List.rec (motive:=fun _=>bK α) [] (fun k _ ih=>match t.get k with
  | some v=>ih.put k v
  | none=>ih) ks
omit [eQ P] [Env] in
theorem bK.P4 {α:Type} (t:bK α) (ks:List Nat) (n:Nat) {v:α} (h:(t.aQ ks).get n=some v):t.get n=some v:=by
 induction ks with
 | nil=>rw[show t.aQ []=[] from rfl,bK.get_nil] at h;cases h
 | cons k ks ih=>
  have e:t.aQ (k::ks)=match t.get k with
   | some v=>(t.aQ ks).put k v
   | none=>t.aQ ks:=rfl
  rw[e] at h
  cases hk:t.get k with
  | none=>rw[hk] at h;exact ih h
  | some u=>
   rw[hk] at h
   dsimp only at h
   rw[bK.b9] at h
   by_cases hn:n=k
   ·subst hn;rw[if_pos rfl] at h;rw[hk];exact h
   ·rw[if_neg hn] at h;exact ih h
noncomputable def Act.aQ (a:Act) (ks:List Nat):Act:=
 match a with
 | ⟨t,s,ds⟩=>⟨t.aQ ks,s,ds⟩
omit [eQ P] in
theorem bD.aQ {ρ:aA} {a:Act} {a':Go.Act} (h:bD ρ a a') (ks:List Nat):bD ρ (a.aQ ks) a':=
 ⟨fun i v hv=>h.tmps i v (bK.P4 _ ks _ hv),h.size,h.defers⟩
omit [eQ P] in
theorem lI.enter {x:Code} {Q:cp} {a:Act} {σ:St} (ks:List Nat) (h:lI P fn ro x Q (a.aQ ks) σ):lI P fn ro x Q a σ:=by
 have h1:cC P (.code ro fn (.loop x) (a.aQ ks)) σ (kq Q):=h.h.h
 refine⟨⟨(⟨h1.1,?_⟩:cC P (.code ro fn (.loop x) a) σ (kq Q))⟩⟩
 exact fun ρ w a' F hr ha bq=>cC.at h1 ρ w a' F hr (ha.aQ ks) bq
omit [eQ P] in
theorem lI.leave {x:Code} {Q:cp} {a:Act} {σ:St} (ks:List Nat) (h:lI P fn ro x (fun e a σ=>Q e (a.aQ ks) σ) a σ):lI P fn ro x Q a σ:=by
 have h1:cC P (.code ro fn (.loop x) a) σ (kq fun e a σ=>Q e (a.aQ ks) σ):=h.h.h
 have hq:∀(ρ:aA) (w:World) e a' w',bP (kq fun e a σ=>Q e (a.aQ ks) σ) ρ σ w e a' w'→bP (kq Q) ρ σ w e a' w':=by
  rintro ρ w e a' w' ⟨x,aT,σ',ρ',hp,rfl,ha,aF⟩
  exact⟨x,aT.aQ ks,σ',ρ',hp,rfl,ha.aQ ks,aF⟩
 refine⟨⟨(⟨?_,?_⟩:cC P (.code ro fn (.loop x) a) σ (kq Q))⟩⟩
 ·obtain⟨⟨o,τ⟩,hx⟩:=h1.1
  cases o with
  | val v=>exact hx.elim
  | exit e a=>exact⟨(.exit e (a.aQ ks),τ),hx⟩
 ·intro ρ w a' F hr ha bq
  obtain⟨g1,g2⟩:=cC.at h1 ρ w a' F hr ha bq
  exact⟨wpIn_mono g1 fun _ _ _ hx=>hq _ _ _ _ _ hx,fun x hx=>(g2 x hx).mono fun _ _ _ hx=>hq _ _ _ _ _ hx⟩
def EL (P:Program) (K:ff P) (vs:List V) (σ:St) (k:ah):V→Prop
 | .func (.func g) first captured=>EK P K g (app first (app vs captured)) σ k
 | .func (.yield l) first _=>K.yield l (app first vs) σ k
 | f=>kQ P (.apply f vs) (lS k) σ
def tu (P:Program) (K:ff P) (σ:St) (k:ah):Option V→Option (List V)→Prop
 | some fv,some vs=>EL P K vs σ k fv
 | _,_=>False
def He (P:Program) (K:ff P) (σ:St) (vs:List V) (k:ah):Option (FuncId×V)→Prop
 | some (f,recv)=>EK P K f (recv::vs) σ k
 | none=>False
def rh (P:Program) (K:ff P) (σ:St) (name:String) (k:ah):Option V→Option (List V)→Prop
 | some (.iface t v),some vs=>He P K σ vs k (po P t v name)
 | _,_=>False
def Lh (σ:St) (e:Ext) (vs:Option (List V)) (k:ah):Prop:=
 match e,vs with
 | .KE,some [.dO .f64 b]=>(FloatKind.f64.decode b).isNaN=false∧k (.dO .f64 (ja b)) σ
 | e,vs=>dz (CW σ e vs) k
omit [eQ P] [Env] in
theorem Li {σ:St} {e:Ext} {vs:Option (List V)} {k:ah} (h:Lh σ e vs k):dz (CW σ e vs) k:=by
 unfold Lh at h
 split at h
 ·rename_i b
  refine dz.mk' (v:=_) (σ:=_) ?_ h.2
  show aQ σ "extern" (if (FloatKind.f64.decode b).isNaN then none else some (.dO .f64 (ja b)))=_
  rw[h.1];rfl
 ·exact h
def Db (P:Program) (K:ff P) (ro:Option Nat) (o:Op) (a:Act) (σ:St) (id:Nat) (k:wQ):Prop:=
 match o with
 | .call c=>match c.callee with
  | .value f=>match oR P f with
   | some e=>Lh σ e (a.bQ c.args.toList) fun v σ=>k v a σ
   | none=>tu P K σ (fun v σ=>k v a σ) (a.eval f) (a.bQ c.args.toList)
  | .invoke x name=>rh P K σ name (fun v σ=>k v a σ) (a.eval x) (a.bQ c.args.toList)
  | .builtin b=>yc P σ id b c.argTypes.toList (a.bQ c.args.toList) fun v σ=>k v a σ
 | .defer c=>((jM c).f (fun _ _=>.fail) ro a σ id).ar (kO k)
 | o=>X7 P o a σ id fun v σ=>k v a σ
omit [eQ P] in
theorem Hf {a:Act} {σ:St} {f:FuncId} {vs:List V} {k:wQ} (h:ag P f vs (fun v σ=>k v a σ) σ):((dh P (.call f vs) σ).bind (valOf a)).ar (kO k):=
 bw.ar.dk (cC.mono (fun⟨o,σ⟩ hx=>by cases o with
  | val v=>exact hx
  | exit e a=>exact hx.elim) h.h)
theorem EM {K:ff P} (hK:K.OkC) {a:Act} {σ:St} {fv:V} {vs:List V} {k:wQ} (h:EL P K vs σ (fun v σ=>k v a σ) fv):((dh P (.apply fv vs) σ).bind (valOf a)).ar (kO k):=by
 have other:kQ P (.apply fv vs) (lS fun v σ=>k v a σ) σ→((dh P (.apply fv vs) σ).bind (valOf a)).ar (kO k):=fun h=>
  bw.ar.dk (cC.mono (fun⟨o,σ⟩ hx=>by cases o with
   | val v=>exact hx
   | exit e a=>exact hx.elim) h.h)
 unfold EL at h
 split at h
 ·rename_i g first captured
  exact other ⟨.kP (Cp hK h).h⟩
 ·exact other ⟨.kP (hK.yield h).h⟩
 ·exact other h
theorem Hg {K:ff P} (hK:K.OkC) {o:Op} {a:Act} {σ:St} {id:Nat} {k:wQ} (h:Db P K ro o a σ id k):((jA P o).f (dh P) ro a σ id).ar (kO k):=by
 have plain:∀ {o:Op},X7 P o a σ id (fun v σ=>k v a σ)→((DG (m7 P o)).f (dh P) ro a σ id).ar (kO k):=fun h=>bw.ar.fT (N2 h)
 cases o with
 | call c=>
  obtain⟨callee,args,tys⟩:=c
  cases callee with
  | value f=>
   have h':match oR P f with
     | some e=>Lh σ e (a.bQ args.toList) fun v σ=>k v a σ
     | none=>tu P K σ (fun v σ=>k v a σ) (a.eval f) (a.bQ args.toList):=h
   show((match oR P f with
    | some e=>⟨fun _ _ a σ _=>(CW σ e (a.bQ args.toList)).bind (fT a)⟩
    | none=>⟨fun R _ a σ _=>n6 R a σ (a.eval f) (a.bQ args.toList)⟩:sT).f (dh P) ro a σ id).ar (kO k)
   cases hx:oR P f with
   | some e=>rw[hx] at h';exact bw.ar.fT (dz.holds (Li h'))
   | none=>
    rw[hx] at h'
    show(n6 (dh P) a σ (a.eval f) (a.bQ args.toList)).ar (kO k)
    replace h':tu P K σ (fun v σ=>k v a σ) (a.eval f) (a.bQ args.toList):=h'
    revert h'
    cases a.eval f with
    | none=>exact fun h=>h.elim
    | some fv=>cases a.bQ args.toList with
     | none=>exact fun h=>h.elim
     | some vs=>exact fun h=>EM hK h
  | invoke x name=>
   show(oV P (dh P) a σ name (a.eval x) (a.bQ args.toList)).ar (kO k)
   have h':rh P K σ name (fun v σ=>k v a σ) (a.eval x) (a.bQ args.toList):=h
   unfold rh at h'
   split at h'
   ·rename_i t v vs hx hv
    rw[hx,hv]
    show(nN (dh P) a σ vs (po P t v name)).ar (kO k)
    cases hm:po P t v name with
    | none=>rw[hm] at h';exact h'.elim
    | some p=>obtain⟨f,recv⟩:=p;rw[hm] at h';exact Hf (Cp hK h')
   ·exact h'.elim
  | builtin b=>exact bw.ar.fT (dz.holds (AD h))
 | defer c=>
  have h':((jM c).f (fun _ _=>.fail) ro a σ id).ar (kO k):=h
  show((jM c).f (dh P) ro a σ id).ar (kO k)
  have e:∀R R',(jM c).f R ro a σ id=(jM c).f R' ro a σ id:=by
   intro R R'
   unfold jM
   split<;>rfl
  rw[e _ fun _ _=>.fail];exact h'
 | _=>exact plain h
def acD (want:Bool) (y z:Prop):Option V→Prop
 | some (.bool b)=>aa (b==want) y z
 | some (.any _)=>False
 | some _=>z
 | none=>False
noncomputable def Dc (P:Program) (K:ff P) (ro:Option Nat) (ops:List Oper) (o:Oper) (a:Act) (σ:St) (id:Nat) (k:Act→St→Prop):Prop:=
 match o.guard with
 | none=>Db P K ro o.op a σ id fun v a σ=>AE o.dst (fun a=>k a σ) a v
 | some (j,want)=>match gl ops j with
  | some d=>acD want (Db P K ro o.op a σ id fun v a σ=>AE o.dst (fun a=>k a σ) a v) (AE o.dst (fun a=>k a σ) a cI) (a.tmps.get d)
  | none=>AE o.dst (fun a=>k a σ) a cI
theorem xC {K:ff P} (hK:K.OkC) {ops:List Oper} {o:Oper} {a:Act} {σ:St} {id:Nat} {k:Act→St→Prop} (h:Dc P K ro ops o a σ id k):((jB P ops o).f (dh P) ro a σ id).ar (AF k):=by
 have go:Db P K ro o.op a σ id (fun v a σ=>AE o.dst (fun a=>k a σ) a v)→(((jA P o.op).f (dh P) ro a σ id).bind (mz o.dst)).ar (AF k):=fun h=>
  bw.ar.dk ((Hg hK h).mono fun⟨v,a,σ⟩ hx=>o6 hx)
 unfold Dc at h
 unfold jB
 cases hg:o.guard with
 | none=>rw[hg] at h;exact go h
 | some jw=>
  obtain⟨j,want⟩:=jw
  rw[hg] at h
  dsimp only at h⊢
  cases hs:gl ops j with
  | none=>rw[hs] at h;exact o6 h
  | some d=>
   rw[hs] at h
   dsimp only at h
   show(rI (jA P o.op) o.dst (dh P) ro a σ id (sQ want (a.tmps.get d))).ar (AF k)
   revert h
   cases a.tmps.get d with
   | none=>exact fun h=>h.elim
   | some v=>cases v with
    | bool b=>
     intro h
     have h':aa (b==want) _ _:=h
     show(rI (jA P o.op) o.dst (dh P) ro a σ id (some (b==want))).ar (AF k)
     cases hb:b==want with
     | true=>exact go (aa.y h' hb)
     | false=>exact o6 (aa.z h' hb)
    | any i=>exact fun h=>h.elim
    | _=>exact fun h=>o6 h
noncomputable def P5 (P:Program) (K:ff P) (ro:Option Nat) (ops:List Oper) (k:Act→St→Prop):List Oper→Act→St→Prop
 | []=>k
 | o::l=>fun a σ=>Dc P K ro ops o a σ σ.next (P5 P K ro ops k l)
theorem tv {K:ff P} (hK:K.OkC) {ops:List Oper} {Q:cp}:∀ {l:List Oper} {a:Act} {σ:St},P5 P K ro ops (Q .normal) l a σ→((KI P ops l).f (dh P) ro a σ).ar (kq Q)
 | [],_,_,h=>h
 | _::_,_,_,h=>bw.ar.dk ((xC hK h).mono fun _ hx=>tv hK hx)
noncomputable def sk (P:Program) (K:ff P) (ro:Option Nat) (ops:List Oper) (base:Nat) (k:Act→St→Prop):List Item→List St→Act→St→Prop
 | [],_=>k
 | it::l,snaps=>fun a σ=>match nth ops it.i with
  | some o=>Dc P K ro ops o a σ (Nat.add base it.i) fun a' σ'=>Ld it.back (eP P (ow ops o a) it.back snaps a (mB a' o.dst) o.op) (sk P K ro ops base k l (l7 (bC o.op) σ' snaps) a' σ')
  | none=>False
theorem pW {K:ff P} (hK:K.OkC) {ops:List Oper} {Q:cp} {base:Nat}:∀ {l:List Item} {snaps:List St} {a:Act} {σ:St},sk P K ro ops base (Q .normal) l snaps a σ→((la P ops l).f (dh P) ro base snaps a σ).ar (kq Q)
 | [],_,_,_,h=>h
 | it::l,snaps,a,σ,h=>by
  show((vf P ops it (la P ops l) (nth ops it.i)).f (dh P) ro base snaps a σ).ar (kq Q)
  unfold sk at h
  cases hn:nth ops it.i with
  | none=>rw[hn] at h;exact h.elim
  | some o=>
   rw[hn] at h
   dsimp only at h
   refine bw.ar.dk ((xC hK h).mono fun⟨a',σ'⟩ hx=>?_)
   have cS:Ld it.back (eP P (ow ops o a) it.back snaps a (mB a' o.dst) o.op) (sk P K ro ops base (Q .normal) l (l7 (bC o.op) σ' snaps) a' σ'):=hx
   have hb:(Nat.beq it.back 0||eP P (ow ops o a) it.back snaps a (mB a' o.dst) o.op)=true∧sk P K ro ops base (Q .normal) l (l7 (bC o.op) σ' snaps) a' σ':=by
    unfold Ld at cS
    split at cS
    ·rename_i hz;rw[hz];exact⟨rfl,cS⟩
    ·cases hc:eP P (ow ops o a) it.back snaps a (mB a' o.dst) o.op with
     | true=>exact⟨by rw[Bool.or_true],aa.y cS hc⟩
     | false=>exact(aa.z cS hc).elim
   show(match Nat.beq it.back 0||eP P (ow ops o a) it.back snaps a (mB a' o.dst) o.op with
    | true=>(la P ops l).f (dh P) ro base (l7 (bC o.op) σ' snaps) a' σ'
    | false=>.fail "a load and a write, in either order":Run).ar (kq Q)
   rw[hb.1];exact pW hK hb.2
noncomputable def Lj (P:Program) (K:ff P) (ro:Option Nat) (ops:List Oper) (k:Act→St→Prop) (a:Act) (σ:St):Option (List Item)→Prop
 | some l=>sk P K ro ops σ.next k l [ahead (len ops) σ] a (ahead (len ops) σ)
 | none=>False
noncomputable def AK (P:Program) (K:ff P) (ro:Option Nat) (ops:List Oper) (k:Act→St→Prop) (a:Act) (σ:St):Bool→Prop
 | false=>P5 P K ro ops k ops a σ
 | true=>Lj P K ro ops k a σ (k9 P ops)
def sm (Q:cp):cp
 | .goto _=>fun _ _=>False
 | e=>Q e
noncomputable def ws (P:Program) [Env] (K:ff P) (fn:FuncId) (ro:Option Nat):Nat→Code→cp→Act→St→Prop
 | _,.skip,Q=>Q .normal
 | _,.label _,Q=>Q .normal
 | i,.seq x y,Q=>ws P K fn ro i x (jg (ws P K fn ro (Nat.add i (aR x)) y Q) Q)
 | i,.cond x y z,Q=>fun a σ=>zh (ws P K fn ro i y Q a σ) (ws P K fn ro (Nat.add i (aR y)) z Q a σ) (a.eval x)
 | i,.block id x,Q=>ws P K fn ro i x (pT id Q)
 | i,.loop x,Q=>K.loop fn ro i x Q
 | _,.exit id,Q=>Q (.exit id)
 | _,.goto l,Q=>Q (.goto l)
 | _,.ret,Q=>Q .ret
 | _,.region _ ops draw,Q=>fun a σ=>AK P K ro ops.toList (Q .normal) a σ draw
 | i,.scope x,Q=>ws P K fn ro i x (sm Q)
 | _,.rangeFunc f ps ak9 bo,Q=>K.range fn ro (.rangeFunc f ps ak9 bo) Q
 | _,c,Q=>cr P fn ro c Q
def Part (ri:Code) (i:Nat) (c:Code):Prop:=∀ {j:Nat} {x:Code},(ba c)[j]? =some x→(ba ri)[i+j]? =some x
omit [eQ P] [Env] in
theorem Part.left {ri x y c:Code} {i:Nat} (hc:ba c=ba x++ba y) (h:Part ri i c):Part ri i x:=fun hj=>
 h (by rw[hc,List.getElem?_append_left (List.getElem?_eq_some_iff.1 hj).1];exact hj)
omit [Env] in
theorem Part.right {ri x y c:Code} {i:Nat} (hc:ba c=ba x++ba y) (h:Part ri i c):Part ri (Nat.add i (aR x)) y:=fun {j z} hj=>by
 have:=h (j:=aR x+j) (x:=z) (by rw[hc,List.getElem?_append_right (by rw[dX];omega),dX,show aR x+j-aR x=j by omega];exact hj)
 rw[show i+(aR x+j)=Nat.add i (aR x)+j from (Nat.add_assoc _ _ _).symm] at this
 exact this
omit [eQ P] [Env] in
theorem Part.whole (c:Code):Part c 0 c:=fun {j x} hj=>by rw[Nat.zero_add];exact hj
omit [Env] in
theorem Part.in {c x:Code} {k:Nat} (h:(ba c)[k]? =some x):Part c (k+1) x:=fun hj=>tt c h hj
theorem cr.ia {K:ff P} (hK:K.Ok) {g:Func} {ri:Code} (hf:P.funcs[fn]? =some g) (hb:g.body=some ri):∀ {c:Code} {i:Nat} (_:Part ri i c) {Q:cp} {a:Act} {σ:St},ws P K fn ro i c Q a σ→cr P fn ro c Q a σ
 | .skip,_,_,_,_,_,h=>⟨h⟩
 | .label _,_,_,_,_,_,h=>⟨h⟩
 | .seq x y,i,hp,Q,a,σ,h=>by
  have h':ws P K fn ro i x (jg (ws P K fn ro (Nat.add i (aR x)) y Q) Q) a σ:=h
  refine .seq ((cr.ia hK hf hb (hp.left rfl) h').mono fun e a σ hx=>?_)
  cases e with
  | normal=>exact cr.ia hK hf hb (hp.right rfl) hx
  | _=>exact hx
 | .cond x y z,i,hp,Q,a,σ,h=>by
  refine .cond ?_
  have h':zh (ws P K fn ro i y Q a σ) (ws P K fn ro (Nat.add i (aR y)) z Q a σ) (a.eval x):=h
  revert h'
  cases a.eval x with
  | none=>exact id
  | some v=>cases v with
   | bool b=>exact fun h=>.mk (fun e=>cr.ia hK hf hb (hp.left rfl) (aa.y h e)) fun e=>cr.ia hK hf hb (hp.right rfl) (aa.z h e)
   | _=>exact id
 | .block id x,i,hp,Q,a,σ,h=>.block (cr.ia hK hf hb (c:=x) (i:=i) (fun hj=>hp hj) h)
 | .loop x,i,hp,Q,a,σ,h=>lI.h (hK.loop hf hb (hp (j:=0) rfl) h)
 | .exit id,_,_,_,_,_,h=>⟨h⟩
 | .goto l,_,_,_,_,_,h=>⟨h⟩
 | .ret,_,_,_,_,_,h=>⟨h⟩
 | .region _ ops draw,_,_,Q,a,σ,h=>by
  have h':AK P K ro ops.toList (Q .normal) a σ draw:=h
  cases draw with
  | false=>exact⟨tv hK.toOkC h'⟩
  | true=>
   have h':Lj P K ro ops.toList (Q .normal) a σ (k9 P ops.toList):=h'
   constructor
   show((match k9 P ops.toList with
    | some l=>(⟨fun R ro a σ=>(la P ops.toList l).f R ro σ.next [ahead (len ops.toList) σ] a (ahead (len ops.toList) σ)⟩:wH)
    | none=>⟨fun _ _ _ _=>.fail "plan"⟩).f (dh P) ro a σ).ar (kq Q)
   cases hp:k9 P ops.toList with
   | none=>rw[hp] at h';exact h'.elim
   | some l=>rw[hp] at h';exact pW hK.toOkC h'
 | .rangeFunc _ _ _ _,_,_,_,_,_,h=>hK.range h
 | .scope x,i,hp,Q,a,σ,h=>.scope (.of ((cr.ia hK hf hb (c:=x) (i:=i) (fun hj=>hp hj) h).mono fun e a σ hx=>by
  cases e with
  | goto l=>exact hx.elim
  | _=>exact hx))
 | .refuse _,_,_,_,_,_,h=>h
def pX (P:Program) (fn:Func) (Q:ah):cp
 | .normal=>fun a σ=>match a.defers with
  | []=>AG Q σ (fc P a σ fn.results.toList)
  | _=>kQ P (.leave fn a) (lS Q) σ
 | .ret=>fun a σ=>match a.defers with
  | []=>AG Q σ (fc P a σ fn.results.toList)
  | _=>kQ P (.leave fn a) (lS Q) σ
 | _=>fun _ _=>False
theorem mT {fn:Func} {a:Act} {σ:St} {Q:ah} (h:match a.defers with
  | []=>AG Q σ (fc P a σ fn.results.toList)
  | _=>kQ P (.leave fn a) (lS Q) σ):cC P (.leave fn a) σ (lS Q):=by
 cases hd:a.defers with
 | nil=>
  rw[hd] at h
  refine .kP ?_
  show(qx P (dh P) fn a σ a.defers).ar _
  rw[hd]
  show(Ae σ (fc P a σ fn.results.toList)).ar _
  have h':AG Q σ (fc P a σ fn.results.toList):=h
  revert h'
  cases fc P a σ fn.results.toList with
  | none=>exact id
  | some l=>exact id
 | cons d l=>rw[hd] at h;exact kQ.h h
theorem ag.TP {f:FuncId} {fn:Func} {c:Code} {vs:List V} {Q:ah} {σ:St} (hf:P.funcs[f]? =some fn) (hb:fn.body=some c) (hn:(fn.name== "runtime.NumGoroutine")=false)
  (h:cC P (.code none f c (my fn.ntmps vs)) σ (kq (pX P fn Q))):ag P f vs Q σ:=by
 refine⟨.kP ?_⟩
 show(n7 (dh P) f vs σ P.funcs[f]?).ar _
 rw[hf]
 show(pB (dh P) f fn vs σ (DH (dh P) fn) fn.body).ar _
 rw[hb]
 show(match fn.name== "runtime.NumGoroutine" with
  | true=>.fail "NumGoroutine"
  | false=>(dh P (.code none f c (my fn.ntmps vs)) σ).bind (DH (dh P) fn):Run).ar _
 rw[hn]
 refine bw.ar.dk (cC.mono (fun⟨o,σ⟩ hx=>?_) h)
 cases o with
 | val v=>exact hx.elim
 | exit e a=>cases e with
  | normal=>exact mT hx
  | ret=>exact mT hx
  | _=>exact hx.elim
theorem ag.code {f:FuncId} {fn:Func} {c:Code} {vs:List V} {Q:ah} {σ:St} (hf:P.funcs[f]? =some fn) (hb:fn.body=some c) (hn:(fn.name== "runtime.NumGoroutine")=false)
  (h:cr P f none c (pX P fn Q) (my fn.ntmps vs) σ):ag P f vs Q σ:=.TP hf hb hn h.vU
theorem ag.body {f:FuncId} {fn:Func} {c:Code} {vs:List V} {Q:ah} {σ:St} (hf:P.funcs[f]? =some fn) (hb:fn.body=some c) (hn:(fn.name== "runtime.NumGoroutine")=false)
  {K:ff P} (hK:K.Ok) (h:ws P K f none 0 c (pX P fn Q) (my fn.ntmps vs) σ):ag P f vs Q σ:=.code hf hb hn (.ia hK hf hb (Part.whole c) h)
end
end Go.Ev
end
