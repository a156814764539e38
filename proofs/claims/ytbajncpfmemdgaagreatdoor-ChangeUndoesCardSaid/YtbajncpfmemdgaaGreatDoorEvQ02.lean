/- Proved: parts of the way: Mem, Ops, OpsA. -/
import Derived.Test.YtbajncpfmemdgaaGreatDoorEvQ01
import Derived.Laws.StructEq
import Derived.Laws.Concat
import Derived.MapKept
import Derived.ChangeKeysEq
set_option linter.unusedVariables false
set_option linter.unusedSimpArgs false
section
namespace Go.Ev
open Go
theorem pa {w w':World} {c:Nat} (h:w'.heap[c]? =w.heap[c]?):w'.shape? c=w.shape? c:=by
 unfold World.shape?;rw[h]
theorem cell?_of_block {w w':World} {c i:Nat} (h:w'.heap[c]? =w.heap[c]?):w'.cell? ⟨c,i,none⟩=w.cell? ⟨c,i,none⟩:=by
 unfold World.cell?;simp only[h]
theorem frozen?_of_block {w w':World} {c i:Nat} (h:w'.heap[c]? =w.heap[c]?):w'.frozen? ⟨c,i,none⟩=w.frozen? ⟨c,i,none⟩:=by
 unfold World.frozen?;simp only[h]
theorem qu.mono {ρ ρ':Ren} (dW:ρ.le ρ') {m m':Option Nat} (h:qu ρ m m'):qu ρ' m m':=by
 cases h with
 | none=>exact .none
 | some h=>exact .some (dW _ _ h)
theorem cz.same [Env] {ρ ρ':Ren} {w w':World} {l:Loc} {k:bR} (h:cz ρ w l k) (dW:ρ.le ρ') (hc:w'.heap[l.c]? =w.heap[l.c]?):cz ρ' w' l k:=by
 cases h with
 | cells hs hn hv hf hp=>
  exact .cells (by rw[pa hc];exact hs) hn
   (fun i v hi=>let ⟨x,hx,hr⟩:=hv i v hi;⟨x,by rw[cell?_of_block hc];exact hx,hr.mono dW⟩)
   (fun gH i hi=>by rw[frozen?_of_block hc];exact hf gH i hi) (fun qw i=>by rw[frozen?_of_block hc];exact hp qw i)
 | row hs hn hu hv hf hp=>
  exact .row (by rw[pa hc];exact hs) hn hu
   (fun i hi k v hk=>let ⟨x,hx,hr⟩:=hv i hi k v hk;⟨x,by rw[cell?_of_block hc];exact hx,hr.mono dW⟩)
   (fun i hi=>by rw[frozen?_of_block hc];exact hf i hi) (fun qw i=>by rw[frozen?_of_block hc];exact hp qw i)
 | map h he=>exact .map (by rw[hc];exact h) (he.mono dW)
 | iter h ho hm=>exact .iter (by rw[hc];exact h) ho (hm.mono dW)
 | loop h ht hs hd=>exact .loop (by rw[hc];exact h) (ht.mono dW) hs (dW _ _ hd)
 | deferred h=>exact .deferred (by rw[hc];exact h)
section
variable {ρ:Ren} {σ:St} {w:World}
theorem fB {w:World} {c o:Nat} {x:Value} (h:w.cell? ⟨c,o,none⟩=some x):c<w.heap.size:=by
 by_cases hc:c<w.heap.size
 ·exact hc
 ·unfold World.cell? at h
  have e:w.heap[c]? =none:=by rw[Array.getElem?_eq_none_iff];omega
  simp [e] at h
theorem R.qx [Env] {ρ':Ren} {σ':St} {w':World} (h:R ρ σ w) (he:ρ'.aL=ρ.aL) (aJ:∀c,c<w.heap.size→¬Wr ρ σ c→w'.heap[c]? =w.heap[c]?) (wr:∀c,c<w.heap.size→Wr ρ' σ' c→Wr ρ σ c):
  ∀c o x,ρ'.aL c o=some x→w'.cell? ⟨c,o,none⟩=some x∧¬Wr ρ' σ' c:=by
 intro c o x hx
 rw[he] at hx
 obtain⟨h1,h2⟩:=h.aL c o x hx
 have bz:=fB h1
 exact⟨by rw[cell?_of_block (aJ c bz h2)];exact h1,fun hw=>h2 (wr c bz hw)⟩
theorem R.congr [Env] (h:R ρ σ w) {w':World} (hw:w'.heap=w.heap):R ρ σ w':=
 ⟨fun b k hb=>let ⟨l,hl,hk⟩:=h.cS b k hb;⟨l,hl,hk.same (Ren.le.refl ρ) (by rw[hw])⟩,h.inj,h.fresh,fun b l hb=>by rw[hw];exact h.valid b l hb,h.qx rfl (fun _ _ _=>by rw[hw]) fun _ _ h=>h,h.laid⟩
theorem bc.drawn [Env] {ids:Nat→Prop} (h:R ρ σ w) {w':World} (hw:w'.heap=w.heap) (ho:w'.os=w.os) (ht:w'.tape=w.tape) (hp:w'.output=w.output):bc ids ρ σ w ρ σ w':=
 ⟨h.congr hw,Ren.le.refl ρ,Nat.le_refl _,fun _ _ h=>.inl h,by rw[hw];exact Nat.le_refl _,ho,ht,hp,fun _ _ _=>by rw[hw],fun _ _ h=>h,fun _ k h=>.inl ⟨k,h⟩,fun _ _ _ h=>.inl h⟩
@[simp] theorem l4 (σ:St) (b:Nat) (k:bR):(σ.set b k).heap=σ.heap.put b (some k):=by cases σ;rfl
@[simp] theorem rr (σ:St) (b:Nat) (k:bR):(σ.set b k).next=σ.next:=by cases σ;rfl
@[simp] theorem kN (σ:St) (b:Nat):(σ.kill b).heap=σ.heap.put b none:=by cases σ;rfl
@[simp] theorem ti (σ:St) (b:Nat):(σ.kill b).next=σ.next:=by cases σ;rfl
@[simp] theorem fr (σ:St) (b:Nat) (k:bR):(σ.new b k).heap=σ.heap.put b (some k):=by cases σ;rfl
theorem DI (n id:Nat):KQ n id=max n (id+1):=by
 unfold KQ
 cases h:Nat.ble n id with
 | true=>have:=Nat.le_of_ble_eq_true h;show id+1=_;omega
 | false=>
  have:¬n≤id:=fun h'=>by rw[Nat.ble_eq_true_of_le h'] at h;cases h
  show n=_;omega
@[simp] theorem kt (σ:St) (b:Nat) (k:bR):(σ.new b k).next=max σ.next (b+1):=by cases σ;exact DI _ _
theorem R.nk [Env] (h:R ρ σ w) {b:Nat} (hb:ρ b=none):σ.heap.get b=none:=by
 cases hk:σ.heap.get b with
 | none=>rfl
 | some k=>obtain⟨l,hl,_⟩:=h.cS b k hk;rw[hb] at hl;cases hl
theorem bc.set [Env] {ids:Nat→Prop} (h:R ρ σ w) {b:Nat} {k k':bR} {l:Loc} (hk:σ.heap.get b=some k) (hl:ρ b=some l) (A5:k.rq=true)
  {w':World} (ba:w'.heap.size=w.heap.size) (oo:∀c,c≠l.c→w'.heap[c]? =w.heap[c]?) (ho:w'.os=w.os) (ht:w'.tape=w.tape) (hp:w'.output=w.output)
  (dq:cz ρ w' l k'):bc ids ρ σ w ρ (σ.set b k') w':=by
 have IX:∀b' k₁,(σ.set b k').heap.get b'=some k₁→(∃k',σ.heap.get b'=some k')∨σ.next≤b'∨ids b':=by
  intro b' k₁ bq
  rw[l4,Trie.bN] at bq
  by_cases e:b'=b
  ·subst e;exact .inl ⟨_,hk⟩
  ·rw[if_neg e] at bq;exact .inl ⟨_,bq⟩
 have lh:∀c,c<w.heap.size→¬Wr ρ σ c→w'.heap[c]? =w.heap[c]? :=fun c _ hn=>oo c fun e=>hn ⟨b,k,l,hk,A5,hl,e.symm⟩
 have kO:∀c,c<w.heap.size→Wr ρ (σ.set b k') c→Wr ρ σ c:=by
  rintro c hc ⟨b',k₁,l',h1,h2,h3,h4⟩
  rw[l4,Trie.bN] at h1
  by_cases e:b'=b
  ·subst e
   rw[hl] at h3;cases h3
   exact⟨_,k,l,hk,A5,hl,h4⟩
  ·rw[if_neg e] at h1
   exact⟨b',k₁,l',h1,h2,h3,h4⟩
 refine⟨⟨?_,?_,?_,?_,h.qx rfl lh kO,h.laid⟩,Ren.le.refl ρ,by simp,fun _ _ h=>.inl h,by omega,ho,ht,hp,lh,kO,IX,fun _ _ _ h=>.inl h⟩
 ·intro b' k₁ bq
  rw[l4,Trie.bN] at bq
  by_cases e:b'=b
  ·subst e
   rw[if_pos rfl] at bq
   cases bq
   exact⟨l,hl,dq⟩
  ·rw[if_neg e] at bq
   obtain⟨l',cD,eA⟩:=h.cS b' k₁ bq
   exact⟨l',cD,eA.same (Ren.le.refl ρ) (oo _ fun ec=>e (h.inj b' b _ _ _ _ bq hk cD hl ec))⟩
 ·intro cP cQ k₁ k₂ cc lk h1 h2 g1 g2 e
  rw[l4,Trie.bN] at h1 h2
  have t1:∃k,σ.heap.get cP=some k:=by
   by_cases e1:cP=b
   ·subst e1;exact⟨_,hk⟩
   ·rw[if_neg e1] at h1;exact⟨_,h1⟩
  have t2:∃k,σ.heap.get cQ=some k:=by
   by_cases e1:cQ=b
   ·subst e1;exact⟨_,hk⟩
   ·rw[if_neg e1] at h2;exact⟨_,h2⟩
  obtain⟨_,t1⟩:=t1
  obtain⟨_,t2⟩:=t2
  exact h.inj cP cQ _ _ _ _ t1 t2 g1 g2 e
 ·intro b' bq;rw[rr] at bq;exact h.fresh b' bq
 ·intro b' l' bq;rw[ba];exact h.valid b' l' bq
theorem bc.kill [Env] {ids:Nat→Prop} (h:R ρ σ w) (b:Nat):bc ids ρ σ w ρ (σ.kill b) w:=by
 have key:∀b' k,(σ.kill b).heap.get b'=some k→σ.heap.get b'=some k:=by
  intro b' k bq
  rw[kN,Trie.bN] at bq
  by_cases e:b'=b
  ·rw[if_pos e] at bq;cases bq
  ·rw[if_neg e] at bq;exact bq
 have kO:∀c,c<w.heap.size→Wr ρ (σ.kill b) c→Wr ρ σ c:=by
  rintro c hc ⟨b',k₁,l',h1,h2,h3,h4⟩
  exact⟨b',k₁,l',key _ _ h1,h2,h3,h4⟩
 exact⟨⟨fun b' k bq=>h.cS b' k (key _ _ bq),fun cP cQ k₁ k₂ cc lk h1 h2=>h.inj cP cQ k₁ k₂ cc lk (key _ _ h1) (key _ _ h2),fun b' bq=>h.fresh b' (by simpa using bq),h.valid,h.qx rfl (fun _ _ _=>rfl) kO,h.laid⟩,
  Ren.le.refl ρ,by simp,fun _ _ h=>.inl h,Nat.le_refl _,rfl,rfl,rfl,fun _ _ _=>rfl,kO,fun b' k h=>.inl ⟨k,key b' k h⟩,fun _ _ _ h=>.inl h⟩
def kP (ρ:Ren) (id:Nat) (l:Loc):Ren:=⟨fun b=>if b=id then some l else ρ b,ρ.aL⟩
theorem jn (ρ:Ren) (id:Nat) (l:Loc) (b:Nat):kP ρ id l b=if b=id then some l else ρ b:=rfl
theorem jo (ρ:Ren) (id:Nat) (l:Loc):kP ρ id l id=some l:=by simp [kP]
theorem jq (ρ:Ren) {id:Nat} (l:Loc) (h:ρ id=none):ρ.le (kP ρ id l):=by
 refine⟨fun b l' hb=>?_,fun _ _ _ h=>h⟩
 rw[jn]
 by_cases e:b=id
 ·subst e;rw[h] at hb;cases hb
 ·rw[if_neg e];exact hb
theorem bc.new [Env] (h:R ρ σ w) {id:Nat} (cn:ρ id=none) {k:bR} {l:Loc} {w':World} (hc:l.c<w'.heap.size) (ba:w.heap.size≤w'.heap.size)
  (oo:∀c,c<w.heap.size→c≠l.c→w'.heap[c]? =w.heap[c]?) (ho:w'.os=w.os) (ht:w'.tape=w.tape) (hp:w'.output=w.output)
  (nK:∀b k l',σ.heap.get b=some k→ρ b=some l'→l'.c≠l.c) (dq:cz (kP ρ id l) w' l k):
  bc (fun b=>b=id) ρ σ w (kP ρ id l) (σ.new id k) w'∨l.c<w.heap.size:=by
 by_cases hold:l.c<w.heap.size
 ·exact .inr hold
 have IX:∀b' k₁,(σ.new id k).heap.get b'=some k₁→(∃k',σ.heap.get b'=some k')∨σ.next≤b'∨b'=id:=by
  intro b' k₁ bq
  rw[fr,Trie.bN] at bq
  by_cases e:b'=id
  ·exact .inr (.inr e)
  ·rw[if_neg e] at bq;exact .inl ⟨_,bq⟩
 have lh:∀c,c<w.heap.size→¬Wr ρ σ c→w'.heap[c]? =w.heap[c]? :=fun c gx _=>oo c gx (by omega)
 have kO:∀c,c<w.heap.size→Wr (kP ρ id l) (σ.new id k) c→Wr ρ σ c:=by
  rintro c gx ⟨b',k₁,l',h1,h2,h3,h4⟩
  rw[fr,Trie.bN] at h1
  rw[jn] at h3
  by_cases e:b'=id
  ·rw[if_pos e] at h3;cases h3;omega
  ·rw[if_neg e] at h1 h3
   exact⟨b',k₁,l',h1,h2,h3,h4⟩
 refine .inl ⟨⟨?_,?_,?_,?_,h.qx rfl lh kO,h.laid⟩,jq ρ l cn,by simp;omega,?_,ba,ho,ht,hp,lh,kO,IX,fun _ _ _ h=>.inl h⟩
 ·intro b' k₁ bq
  rw[fr,Trie.bN] at bq
  by_cases e:b'=id
  ·subst e
   rw[if_pos rfl] at bq
   cases bq
   exact⟨l,jo _ _ _,dq⟩
  ·rw[if_neg e] at bq
   obtain⟨l',cD,eA⟩:=h.cS b' k₁ bq
   exact⟨l',jq ρ l cn _ _ cD,eA.same (jq ρ l cn) (oo _ (h.valid _ _ cD) (nK _ _ _ bq cD))⟩
 ·intro cP cQ k₁ k₂ cc lk h1 h2 g1 g2 e
  rw[fr,Trie.bN] at h1 h2
  rw[jn] at g1 g2
  by_cases e1:cP=id
  ·by_cases e2:cQ=id
   ·rw[e1,e2]
   ·rw[if_pos e1] at g1;rw[if_neg e2] at g2 h2
    cases g1
    exact absurd e.symm (nK _ _ _ h2 g2)
  ·rw[if_neg e1] at g1 h1
   by_cases e2:cQ=id
   ·rw[if_pos e2] at g2
    cases g2
    exact absurd e (nK _ _ _ h1 g1)
   ·rw[if_neg e2] at g2 h2
    exact h.inj cP cQ _ _ _ _ h1 h2 g1 g2 e
 ·intro b' bq
  rw[kt] at bq
  rw[jn]
  rw[if_neg (by omega)]
  exact h.fresh b' (by omega)
 ·intro b' l' bq
  rw[jn] at bq
  by_cases e:b'=id
  ·rw[if_pos e] at bq;cases bq;exact hc
  ·rw[if_neg e] at bq;exact Nat.lt_of_lt_of_le (h.valid b' l' bq) ba
 ·intro b' l' bq
  rw[jn] at bq
  by_cases e:b'=id
  ·exact .inr (.inr e)
  ·rw[if_neg e] at bq;exact .inl bq
theorem bc.alloc [Env] (h:R ρ σ w) {id:Nat} (cn:ρ id=none) {k:bR} {o:Obj} {w':World} {N:Nat} (hw:w'.heap=w.heap.push o) (ho:w'.os=w.os) (ht:w'.tape=w.tape) (hp:w'.output=w.output)
  (dq:cz (kP ρ id ⟨w.heap.size,0,N⟩) w' ⟨w.heap.size,0,N⟩ k):
  bc (fun b=>b=id) ρ σ w (kP ρ id ⟨w.heap.size,0,N⟩) (σ.new id k) w':=by
 rcases bc.new (l:=⟨w.heap.size,0,N⟩) h cn (w':=w') (by rw[hw];simp) (by rw[hw];simp) (fun c hc _=>by rw[hw,Array.getElem?_push,if_neg (by omega)]) ho ht hp
  (fun b k l' hb hl=>by have:=h.valid b l' hl;simp only[ne_eq];omega) dq with h' | h'
 ·exact h'
 ·simp at h'
theorem bc.Vv [Env] (h:R ρ σ w) {id b:Nat} (cn:ρ id=none) {k Gw:bR} {cp l:Loc} (w7:σ.heap.get b=some Gw) (A5:Gw.rq=true) (kf:ρ b=some cp) (DJ:l.c=cp.c) {w':World}
  (ba:w'.heap.size=w.heap.size) (oo:∀c,c≠l.c→w'.heap[c]? =w.heap[c]?) (ho:w'.os=w.os) (ht:w'.tape=w.tape) (hp:w'.output=w.output) (dq:cz (kP ρ id l) w' l k):
  bc (fun b=>b=id) ρ σ w (kP ρ id l) ((σ.kill b).new id k) w':=by
 have bQ:b≠id:=fun e=>by rw[e,cn] at kf;cases kf
 have key:∀b' k₁,((σ.kill b).new id k).heap.get b'=some k₁→b'≠id→σ.heap.get b'=some k₁∧b'≠b:=by
  intro b' k₁ bq e
  rw[fr,Trie.bN,if_neg e,kN,Trie.bN] at bq
  by_cases e':b'=b
  ·rw[if_pos e'] at bq;cases bq
  ·rw[if_neg e'] at bq;exact⟨bq,e'⟩
 have hR:((σ.kill b).new id k).heap.get id=some k:=by rw[fr,Trie.bN,if_pos rfl]
 have IX:∀b' k₁,((σ.kill b).new id k).heap.get b'=some k₁→(∃k',σ.heap.get b'=some k')∨σ.next≤b'∨b'=id:=by
  intro b' k₁ bq
  by_cases e:b'=id
  ·exact .inr (.inr e)
  ·exact .inl ⟨_,(key b' k₁ bq e).1⟩
 have lh:∀c,c<w.heap.size→¬Wr ρ σ c→w'.heap[c]? =w.heap[c]? :=fun c _ hn=>oo c fun e=>hn ⟨b,Gw,cp,w7,A5,kf,(e.trans DJ).symm⟩
 have kO:∀c,c<w.heap.size→Wr (kP ρ id l) ((σ.kill b).new id k) c→Wr ρ σ c:=by
  rintro c gx ⟨b',k₁,l',h1,h2,h3,h4⟩
  rw[jn] at h3
  by_cases e:b'=id
  ·rw[if_pos e] at h3;cases h3
   exact⟨b,Gw,cp,w7,A5,kf,DJ.symm.trans h4⟩
  ·rw[if_neg e] at h3
   exact⟨b',k₁,l',(key b' k₁ h1 e).1,h2,h3,h4⟩
 refine⟨⟨?_,?_,?_,?_,h.qx rfl lh kO,h.laid⟩,jq ρ l cn,by simp;omega,?_,by omega,ho,ht,hp,lh,kO,IX,fun _ _ _ h=>.inl h⟩
 ·intro b' k₁ bq
  by_cases e:b'=id
  ·subst e
   rw[hR] at bq;cases bq
   exact⟨l,jo _ _ _,dq⟩
  ·obtain⟨hg,hb⟩:=key b' k₁ bq e
   obtain⟨l',cD,eA⟩:=h.cS b' k₁ hg
   exact⟨l',jq ρ l cn _ _ cD,eA.same (jq ρ l cn) (oo _ fun ec=>hb (h.inj b' b _ _ _ _ hg w7 cD kf (ec.trans DJ)))⟩
 ·intro cP cQ k₁ k₂ cc lk h1 h2 g1 g2 e
  rw[jn] at g1 g2
  by_cases e1:cP=id
  ·by_cases e2:cQ=id
   ·rw[e1,e2]
   ·rw[if_pos e1] at g1;rw[if_neg e2] at g2
    cases g1
    obtain⟨hg,hb⟩:=key cQ k₂ h2 e2
    exact absurd (h.inj cQ b _ _ _ _ hg w7 g2 kf (e.symm.trans DJ)) hb
  ·rw[if_neg e1] at g1
   obtain⟨zB,QX⟩:=key cP k₁ h1 e1
   by_cases e2:cQ=id
   ·rw[if_pos e2] at g2
    cases g2
    exact absurd (h.inj cP b _ _ _ _ zB w7 g1 kf (e.trans DJ)) QX
   ·rw[if_neg e2] at g2
    obtain⟨W7,_⟩:=key cQ k₂ h2 e2
    exact h.inj cP cQ _ _ _ _ zB W7 g1 g2 e
 ·intro b' bq
  rw[kt,ti] at bq
  rw[jn]
  rw[if_neg (by omega)]
  exact h.fresh b' (by omega)
 ·intro b' l' bq
  rw[jn] at bq
  by_cases e:b'=id
  ·rw[if_pos e] at bq;cases bq;rw[ba,DJ];exact h.valid _ _ kf
  ·rw[if_neg e] at bq;rw[ba];exact h.valid b' l' bq
 ·intro b' l' bq
  rw[jn] at bq
  by_cases e:b'=id
  ·exact .inr (.inr e)
  ·rw[if_neg e] at bq;exact .inl bq
theorem R.cells [Env] (h:R ρ σ w) {b n:Nat} {z:List V} {t:Trie V} {p ro:Bool} (hb:σ.heap.get b=some (.cells n z t p ro)) {l:Loc} (hl:ρ b=some l):
  (∃ty,w.shape? l.c=some (ty,l.N))∧l.o+n≤l.N∧(∀i v,cellOf n z t i=some v→∃x,w.cell? ⟨l.c,l.o+i,none⟩=some x∧aq ρ v x)∧
  (ro=false→∀i,i<l.N→w.frozen? ⟨l.c,i,none⟩=false)∧(p=true→∀i,w.frozen? ⟨l.c,i,none⟩=false):=by
 obtain⟨l',cD,hk⟩:=h.cS b _ hb
 rw[hl] at cD;cases cD
 cases hk with
 | cells hs hn hv hf hp=>exact⟨hs,hn,hv,hf,hp⟩
theorem R.cell [Env] (h:R ρ σ w) {b off:Nat} {v:V} (hv:σ.cell b off=some v) {l:Loc} (hl:ρ b=some l):∃x,w.cell? ⟨l.c,l.o+off,none⟩=some x∧aq ρ v x:=by
 unfold St.cell at hv
 split at hv
 ·rename_i n z t p ro hb
  exact(h.cells hb hl).2.2.1 off v hv
 ·cases hv
theorem ku {w:World} {c i N:Nat} {ty:TypeId} (h:w.shape? c=some (ty,N)) (hi:i<N):(w.cell? ⟨c,i,none⟩).isSome=true:=by
 unfold World.shape? at h
 unfold World.cell?
 split at h
 ·rename_i cs e fz heq
  simp only[Option.some.injEq,Prod.mk.injEq] at h
  obtain⟨_,rfl⟩:=h
  simp [heq,hi]
 ·cases h
theorem gh [Env] {n:Nat} {z:List V} {t:Trie V}:∀(k off:Nat) {vs:List V},cellsOf n z t k off=some vs→vs.length=k∧∀i v,vs[i]? =some v→cellOf n z t (off+i)=some v:=by
 intro k
 induction k with
 | zero=>
  intro off vs h
  have h':some []=some vs:=h
  cases h'
  exact⟨rfl,fun i v hv=>by simp at hv⟩
 | succ k ih=>
  intro off vs h
  obtain⟨v,r,h1,h2,rfl⟩:=nJ (x:=cellOf n z t off) (l:=cellsOf n z t k ((off+1))) h
  obtain⟨hlen,cR⟩:=ih _ h2
  refine⟨by simp [hlen],fun i u hu=>?_⟩
  cases i with
  | zero=>simp at hu;subst hu;exact h1
  | succ i=>have:=cR i u (by simpa using hu);rwa [show(off+1)+i=off+(i+1) by omega] at this
theorem ee (c o i:Nat):(⟨c,o,none⟩:Addr).add i=⟨c,o+i,none⟩:=by
 unfold Addr.add
 split
 ·rename_i h;subst h;rfl
 ·rfl
theorem R.loadCells [Env] {P:Program} (h:R ρ σ w) {b off k:Nat} {vs:List V} (hv:σ.cells b off k=some vs) {l:Loc} (hl:ρ b=some l):
  ∃xs:List Value,(∀bd:World,bd.heap=w.heap→(loadCells ⟨l.c,l.o+off,none⟩ k).run P bd=.ok ⟨xs⟩ bd)∧au ρ vs xs∧xs.length=k:=by
 unfold St.cells at hv
 split at hv
 ·rename_i n z t p ro hb
  obtain⟨hlen,cR⟩:=gh _ _ hv
  have hc:=(h.cells hb hl).2.2.1
  have key:∀(vs:List V) (o:Nat),(∀i v,vs[i]? =some v→∃x,w.cell? ⟨l.c,o+i,none⟩=some x∧aq ρ v x)→
    ∃xs:List Value,au ρ vs xs∧∀i x,xs[i]? =some x→w.cell? ⟨l.c,o+i,none⟩=some x:=by
   intro vs
   induction vs with
   | nil=>intro o _;exact⟨[],.nil,fun i x hx=>by simp at hx⟩
   | cons v vs ih=>
    intro o hh
    obtain⟨x,hx,hr⟩:=hh 0 v rfl
    obtain⟨xs,ll,cR⟩:=ih (o+1) (fun i v hv=>by
     obtain⟨x,hx,hr⟩:=hh (i+1) v (by simpa using hv)
     exact⟨x,by rwa [show o+(i+1)=o+1+i by omega] at hx,hr⟩)
    refine⟨x::xs,.cons hr ll,fun i y hy=>?_⟩
    cases i with
    | zero=>simp at hy;subst hy;exact hx
    | succ i=>have:=cR i y (by simpa using hy);rwa [show o+1+i=o+(i+1) by omega] at this
  obtain⟨xs,ll,gx⟩:=key vs (l.o+off) (fun i v hi=>by
   obtain⟨x,hx,hr⟩:=hc _ _ (cR i v hi)
   exact⟨x,by rwa [show l.o+(off+i)=l.o+off+i by omega] at hx,hr⟩)
  have zC:xs.length=k:=by rw[←ll.length,hlen]
  refine⟨xs,fun bd hw=>?_,ll,zC⟩
  have:=run_loadCells_list (P:=P) bd ⟨l.c,l.o+off,none⟩ xs (fun j x hj=>by rw[ee,cell?_of_block (w:=w) (by rw[hw])];exact gx j x hj)
  rw[zC] at this
  exact this
 ·cases hv
theorem R.uS [Env] {P:Program} (h:R ρ σ w) {c o:Nat} {xs:List Value} (hi:∀k x,xs[k]? =some x→ρ.aL c (o+k)=some x) (bd:World) (hw:bd.heap=w.heap):
  (Go.loadCells ⟨c,o,none⟩ xs.length).run P bd=.ok ⟨xs⟩ bd:=
 run_loadCells_list (P:=P) bd ⟨c,o,none⟩ xs fun j x hj=>by rw[ee,cell?_of_block (w:=w) (by rw[hw])];exact(h.aL _ _ _ (hi j x hj)).1
theorem jH:∀(vs:List V) (t:Trie V) (off i:Nat),(an vs t off).get i=if off≤i∧i<off+vs.length then vs[i-off]? else t.get i:=by
 intro vs
 induction vs with
 | nil=>
  intro t off i
  rw[if_neg (by simp only[List.length_nil];omega)];rfl
 | cons v vs ih=>
  intro t off i
  show(an vs (t.put off (some v)) ((off+1))).get i=_
  rw[ih,Trie.bN]
  by_cases h:i=off
  ·subst h
   rw[if_neg (by omega),if_pos rfl,if_pos (by simp)]
   simp
  ·by_cases h':off≤i∧i<off+(v::vs).length
   ·rw[if_pos h',if_pos (by simp at h';omega)]
    rw[show i-off=(i-(off+1))+1 by omega,List.getElem?_cons_succ]
   ·rw[if_neg h',if_neg (by simp at h'⊢;omega),if_neg h]
theorem tj {n:Nat} {z:List V} {t:Trie V} {i:Nat} {v:V} (h:cellOf n z t i=some v):i<n:=by
 unfold cellOf at h
 cases hb:Nat.blt i n with
 | true=>rw[Nat.blt_eq] at hb;exact hb
 | false=>simp [hb] at h
theorem fM [Env] {n:Nat} {z:List V} {t:Trie V} {vs:List V} {off i:Nat} {v:V} (h:cellOf n z (an vs t off) i=some v):
  (off≤i∧i<off+vs.length∧vs[i-off]? =some v)∨((i<off∨off+vs.length≤i)∧cellOf n z t i=some v):=by
 have bz:=tj h
 unfold cellOf at h⊢
 have hb:Nat.blt i n=true:=by rw[Nat.blt_eq];exact bz
 simp only[hb] at h⊢
 rw[jH] at h
 by_cases hi:off≤i∧i<off+vs.length
 ·rw[if_pos hi] at h
  have:∃u,vs[i-off]? =some u:=⟨vs[i-off]'(by omega),List.getElem?_eq_getElem _⟩
  obtain⟨u,hu⟩:=this
  rw[hu] at h
  simp only[Option.some.injEq] at h
  subst h
  exact .inl ⟨hi.1,hi.2,hu⟩
 ·rw[if_neg hi] at h
  exact .inr ⟨by omega,h⟩
theorem gv (c:Nat):∀(vs:List Value) (o:Nat) (w:World) (c':Nat),c'≠c→(w.setCells c o vs).heap[c']? =w.heap[c']?
 | [],_,_,_,_=>rfl
 | v::r,o,w,c',h=>by
  rw[World.setCells,gv c r (o+1) _ c' h]
  simp only[World.setCell,Array.getElem?_modify]
  rw[if_neg (by omega)]
theorem kg (c:Nat):∀(vs:List Value) (o:Nat) (w:World),(w.setCells c o vs).heap.size=w.heap.size
 | [],_,_=>rfl
 | v::r,o,w=>by rw[World.setCells,kg c r];simp [World.setCell]
theorem kh (c:Nat):∀(vs:List Value) (o:Nat) (w:World),(w.setCells c o vs).os=w.os∧(w.setCells c o vs).tape=w.tape∧(w.setCells c o vs).output=w.output
 | [],_,_=>⟨rfl,rfl,rfl⟩
 | v::r,o,w=>by rw[World.setCells];exact kh c r (o+1) _
theorem jI (c:Nat):∀(vs:List Value) (o:Nat) (w:World) (c':Nat),(w.setCells c o vs).shape? c'=w.shape? c'
 | [],_,_,_=>rfl
 | v::r,o,w,c'=>by
  rw[World.setCells,jI c r]
  unfold World.shape? World.setCell
  simp only[Array.getElem?_modify]
  by_cases h:c=c'
  ·subst h
   rw[if_pos rfl]
   cases w.heap[c]? with
   | none=>rfl
   | some k=>cases k<;>simp
  ·rw[if_neg h]
theorem R.store [Env] {P:Program} {ids:Nat→Prop} (h:R ρ σ w) {b off:Nat} {vs:List V} {σ':St} (az:σ.store b off vs=some σ') {l:Loc} (hl:ρ b=some l) {xs:List Value} (hx:au ρ vs xs):
  ∃w',(storeCells ⟨l.c,l.o+off,none⟩ xs).run P w=.ok () w'∧bc ids ρ σ w ρ σ' w':=by
 unfold St.store at az
 split at az
 ·rename_i n z t p hb
  unfold DG at az
  cases hc:(Nat.ble (Nat.add off (len vs)) n&&gE V.scalar vs) with
  | false=>rw[hc] at az;cases az
  | true=>
   rw[hc] at az
   simp only[Option.some.injEq] at az
   subst az
   rw[Bool.and_eq_true,q9,aZ] at hc
   obtain⟨hle,nv⟩:=hc
   have hle:off+vs.length≤n:=Nat.le_of_ble_eq_true hle
   obtain⟨⟨ty,hs⟩,hn,hv,hf,hp⟩:=h.cells hb hl
   have hlen:=hx.length
   have jf:∀j,j<xs.length→(w.cell? ⟨l.c,l.o+off+j,none⟩).isSome=true:=fun j hj=>ku hs (by omega)
   refine⟨w.setCells l.c (l.o+off) xs,?_,?_⟩
   ·have:=run_storeCells_cells (P:=P) l.c (l.o+off) xs 0 w (by simpa using jf)
     (fun j hj=>by simpa using hf rfl (l.o+off+j) (by omega)) (hx.l0 nv)
    simpa using this
   ·obtain⟨r1,r2,r3⟩:=kh l.c xs (l.o+off) w
    refine bc.set h hb hl rfl (kg _ _ _ _) (fun c hc=>gv _ _ _ _ _ hc) r1 r2 r3 ?_
    refine .cells ⟨ty,by rw[jI];exact hs⟩ hn (fun i v hi=>?_) (fun gH i hi=>by rw[World.frozen?_setCells];exact hf gH i hi) (fun qw i=>by rw[World.frozen?_setCells];exact hp qw i)
    rcases fM hi with ⟨h1,h2,h3⟩ | ⟨h1,h2⟩
    ·obtain⟨x,cE,hr⟩:=hx.get _ h3
     refine⟨x,?_,hr⟩
     have hj:i-off<xs.length:=by omega
     have:=World.cell?_setCells_in l.c xs (l.o+off) w jf (i-off) hj
     rw[show l.o+off+(i-off)=l.o+i by omega] at this
     rw[this]
     rw[List.getElem?_eq_getElem hj] at cE
     exact cE
    ·obtain⟨x,cE,hr⟩:=hv i v h2
     refine⟨x,?_,hr⟩
     rw[World.cell?_setCells_out l.c xs (l.o+off) w _ (fun _ _=>by simp;omega)]
     exact cE
 ·cases az
theorem oq [Env] {cs:List V} {p:Nat→Value→Prop} (h:∀k v,cs[k]? =some v→∃x,p k x∧aq ρ v x):∃xs:List Value,au ρ cs xs∧∀(k:Nat) x,xs[k]? =some x→p k x:=by
 induction cs generalizing p with
 | nil=>exact⟨[],.nil,fun k x hx=>by simp at hx⟩
 | cons v cs ih=>
  obtain⟨x,hx,hr⟩:=h 0 v rfl
  obtain⟨xs,ll,cR⟩:=ih (p:=fun k=>p (k+1)) fun k v hv=>h (k+1) v (by simpa using hv)
  refine⟨x::xs,.cons hr ll,fun k y hy=>?_⟩
  cases k with
  | zero=>simp at hy;subst hy;exact hx
  | succ k=>exact cR k y (by simpa using hy)
theorem R.fj [Env] (h:R ρ σ w) {b i esz:Nat} {cs:List V} (hc:σ.iD b i esz=some cs) {l:Loc} (hl:ρ b=some l):
  cs.length=esz∧∃xs:List Value,au ρ cs xs∧∀(k:Nat) x,xs[k]? =some x→w.cell? ⟨l.c,l.o+(i*esz+k),none⟩=some x:=by
 unfold St.iD at hc
 split at hc
 ·rename_i n f z p hb
  split at hc
  ·rename_i hi
   obtain⟨hi,rfl⟩:=hi
   cases hc
   obtain⟨l',cD,hk⟩:=h.cS b _ hb
   rw[hl] at cD;cases cD
   cases hk with
   | row hs hn hu hv hf hp=>exact⟨hu i hi,oq fun k v hk=>hv i hi k v hk⟩
  ·cases hc
 ·cases hc
theorem Ao {u v:V} {esz off:Nat} (hu:u.cells.length=esz) (h:off+v.cells.length≤esz):(qm u esz off v).cells=u.cells.take off++(v.cells++u.cells.drop (off+v.cells.length)):=by
 unfold qm
 rw[aZ]
 split
 ·rename_i hb
  have hb:=Nat.eq_of_beq_eq_true hb
  have:off=0:=by omega
  subst this
  rw[List.take_zero,List.nil_append,Nat.zero_add,List.drop_eq_nil_of_le (by omega),List.append_nil]
 ·show app _ _=_
  rw[gD,gD,eL,ek];rfl
theorem DK (f:Nat→V) (i:Nat) (v:V) (j:Nat):fe f i v j=if j=i then v else f j:=by
 unfold fe
 cases h:Nat.beq j i with
 | true=>rw[if_pos (Nat.eq_of_beq_eq_true h)]
 | false=>rw[if_neg fun e=>by subst e;rw[Nat.beq_refl] at h;cases h]
theorem kv {i n e k:Nat} (h:i<n) (hk:k≤e):i*e+k≤n*e:=by
 have:(i+1)*e≤n*e:=Nat.mul_le_mul_right e h
 rw[Nat.add_mul,Nat.one_mul] at this
 omega
theorem R.jj [Env] {P:Program} {ids:Nat→Prop} (h:R ρ σ w) {b i esz off:Nat} {v:V} {σ':St} (az:σ.jj b i esz off v=some σ') {l:Loc} (hl:ρ b=some l) {x:Value} (hvx:aq ρ v x):
  ∃w',(storeCells ⟨l.c,l.o+(i*esz+off),none⟩ x.cells.toList).run P w=.ok () w'∧bc ids ρ σ w ρ σ' w':=by
 unfold St.jj at az
 split at az
 ·rename_i n f z p hb
  split at az
  ·rename_i hi
   obtain⟨hi,rfl⟩:=hi
   cases hc:(Nat.ble (Nat.add off (len v.cells)) z&&gE V.scalar v.cells) with
   | false=>rw[hc] at az;cases az
   | true=>
    rw[hc] at az
    simp only[Option.some.injEq] at az
    subst az
    rw[Bool.and_eq_true,q9,aZ] at hc
    obtain⟨hle,nv⟩:=hc
    have hle:off+v.cells.length≤z:=Nat.le_of_ble_eq_true hle
    obtain⟨l',cD,hk⟩:=h.cS b _ hb
    rw[hl] at cD;cases cD
    cases hk with
    | row hs hn hu hv hf hp=>
     obtain⟨ty,hs⟩:=hs
     have hx:=hvx.cells
     have hlen:=hx.length
     have dS:=kv hi hle
     have jf:∀j,j<x.cells.toList.length→(w.cell? ⟨l.c,l.o+(i*z+off)+j,none⟩).isSome=true:=fun j hj=>ku hs (by omega)
     refine⟨w.setCells l.c (l.o+(i*z+off)) x.cells.toList,?_,?_⟩
     ·have:=run_storeCells_cells (P:=P) l.c (l.o+(i*z+off)) x.cells.toList 0 w (by simpa using jf)
       (fun j hj=>by simpa using hf (l.o+(i*z+off)+j) (by omega)) (hx.l0 nv)
      simpa using this
     ·obtain⟨r1,r2,r3⟩:=kh l.c x.cells.toList (l.o+(i*z+off)) w
      have hE:=Ao (u:=f i) (v:=v) (off:=off) (hu i hi) hle
      refine bc.set h hb hl rfl (kg _ _ _ _) (fun c hc=>gv _ _ _ _ _ hc) r1 r2 r3 ?_
      refine .row ⟨ty,by rw[jI];exact hs⟩ hn (fun j hj=>?_) (fun j hj k u hk=>?_) (fun i hi=>by rw[World.frozen?_setCells];exact hf i hi) (fun qw i=>by rw[World.frozen?_setCells];exact hp qw i)
      ·rw[DK]
       split
       ·rw[hE]
        have:=hu i hi
        simp only[List.length_append,List.length_take,List.length_drop]
        omega
       ·exact hu j hj
      ·rw[DK] at hk
       have out:∀u k,(f j).cells[k]? =some u→(j≠i∨k<off∨off+v.cells.length≤k)→∃y,(w.setCells l.c (l.o+(i*z+off)) x.cells.toList).cell? ⟨l.c,l.o+(j*z+k),none⟩=some y∧aq ρ u y:=by
        intro u k hk YE
        obtain⟨y,hy,hr⟩:=hv j hj k u hk
        have hkz:k<z:=by rw[←hu j hj];exact(List.getElem?_eq_some_iff.1 hk).1
        refine⟨y,?_,hr⟩
        rw[World.cell?_setCells_out l.c x.cells.toList (l.o+(i*z+off)) w _ (fun _ _=>?_)]
        ·exact hy
        ·dsimp only
         by_cases DL:j=i
         ·subst DL
          rcases YE with h | h | h
          ·exact absurd rfl h
          ·omega
          ·omega
         ·rcases Nat.lt_or_gt_of_ne DL with h | h
          ·have:=kv (e:=z) h (Nat.le_refl z);omega
          ·have:=kv (e:=z) h (Nat.le_refl z);omega
       by_cases DL:j=i
       ·subst DL
        rw[if_pos rfl,hE] at hk
        have huj:=hu j hj
        by_cases k1:k<off
        ·rw[List.getElem?_append_left (by rw[List.length_take];omega),List.getElem?_take,if_pos k1] at hk
         exact out u k hk (.inr (.inl k1))
        ·rw[List.getElem?_append_right (by rw[List.length_take];omega),List.length_take,Nat.min_eq_left (by omega)] at hk
         by_cases k2:k-off<v.cells.length
         ·rw[List.getElem?_append_left k2] at hk
          obtain⟨y,hy,hr⟩:=hx.get _ hk
          refine⟨y,?_,hr⟩
          have jg:k-off<x.cells.toList.length:=by omega
          have:=World.cell?_setCells_in l.c x.cells.toList (l.o+(j*z+off)) w jf (k-off) jg
          rw[show l.o+(j*z+off)+(k-off)=l.o+(j*z+k) by omega] at this
          rw[this]
          rw[List.getElem?_eq_getElem jg] at hy
          exact hy
         ·rw[List.getElem?_append_right (by omega),List.getElem?_drop,show off+v.cells.length+(k-off-v.cells.length)=k by omega] at hk
          exact out u k hk (.inr (.inr (by omega)))
       ·rw[if_neg DL] at hk
        exact out u k hk (.inl DL)
  ·cases az
 ·cases az
theorem bc.uT [Env] {ids:Nat→Prop} {bF:Ren} {σ₀:St} {eR:World} (h:bc ids bF σ₀ eR ρ σ w) {b n esz:Nat} {f:Nat→V} {z:List V} {t:Trie V} {p:Bool} (hb:σ.heap.get b=some (.cells (n*esz) z t p false))
  (hu:∀i,i<n→(f i).cells.length=esz) (hc:∀i,i<n→∀k v,(f i).cells[k]? =some v→cellOf (n*esz) z t (i*esz+k)=some v)
  {σ':St} (IY:∀b',σ'.heap.get b'=if b'=b then some (.row n f esz p) else σ.heap.get b') (hn:σ'.next=σ.next):bc ids bF σ₀ eR ρ σ' w:=by
 have hd:∀b' k,σ'.heap.get b'=some k→∃k',σ.heap.get b'=some k':=by
  intro b' k hk
  rw[IY] at hk
  by_cases e:b'=b
  ·subst e;exact⟨_,hb⟩
  ·rw[if_neg e] at hk;exact⟨_,hk⟩
 have kO:∀c,Wr ρ σ' c→Wr ρ σ c:=by
  rintro c ⟨b',k,l,h1,_,h3,h4⟩
  obtain⟨k',fG⟩:=hd b' k h1
  exact⟨b',k',l,fG,rfl,h3,h4⟩
 refine⟨⟨fun b' k hk=>?_,fun cP cQ k₁ k₂ cc lk h1 h2=>?_,fun b' bq=>h.r.fresh b' (by rw[←hn];exact bq),h.r.valid,fun c o x hx=>⟨(h.r.aL c o x hx).1,fun hw=>(h.r.aL c o x hx).2 (kO c hw)⟩,h.r.laid⟩,
  h.le,by rw[hn];exact h.next,h.iw,h.size,h.os,h.tape,h.output,h.aJ,fun c hc hw=>h.wr c hc (kO c hw),fun b' k hk=>?_,h.gq⟩
 ·rw[IY] at hk
  by_cases e:b'=b
  ·subst e
   rw[if_pos rfl] at hk
   cases hk
   obtain⟨l,hl,dq⟩:=h.r.cS _ _ hb
   refine⟨l,hl,?_⟩
   cases dq with
   | cells hs hn hv hf hp=>exact .row hs hn hu (fun i hi k v hk=>hv _ _ (hc i hi k v hk)) (hf rfl) hp
  ·rw[if_neg e] at hk;exact h.r.cS b' k hk
 ·obtain⟨Vw,fG⟩:=hd _ _ h1
  obtain⟨Vx,A6⟩:=hd _ _ h2
  exact h.r.inj _ _ _ _ _ _ fG A6
 ·obtain⟨k',eA⟩:=hd _ _ hk
  exact h.iJ b' k' eA
end
end Go.Ev
end
section
namespace Go.Ev
open Go
theorem bu.Holds.bind {α β:Type} {p:β→Prop} {r:bu α} {f:α→bu β} (h:(r.bind f).Holds p):r.Holds fun a=>(f a).Holds p:=by
 induction r with
 | ok a=>exact h
 | fail w=>exact h
 | pick n k ih=>exact⟨h.1,fun i hi=>ih i (h.2 i hi)⟩
 | tr C hm he=>exact h
theorem bu.Holds.dN {α β:Type} {p:β→Prop} {r:bu α} {f:α→bu β} (h:r.Holds fun a=>(f a).Holds p):(r.bind f).Holds p:=by
 induction r with
 | ok a=>exact h
 | fail w=>exact h
 | pick n k ih=>exact⟨h.1,fun i hi=>ih i (h.2 i hi)⟩
 | tr C hm he=>exact h
theorem bu.Da {n:Nat} {p:Nat→Bool} (h:bu.ql n p=true) {i:Nat} (hi:i<n):p i=true:=by
 induction n with
 | zero=>omega
 | succ n ih=>
  simp only[bu.ql,Bool.and_eq_true] at h
  by_cases e:i=n
  ·subst e;exact h.2
  ·exact ih h.1 (by omega)
theorem bu.l5 {α:Type} {p:α→Bool} {r:bu α} (h:r.check p=true):r.Holds fun a=>p a=true:=by
 induction r with
 | ok a=>exact h
 | fail w=>cases h
 | pick n k ih=>
  have h':(Nat.blt 0 n&&bu.ql n fun i=>(k i).check p)=true:=h
  rw[Bool.and_eq_true,Nat.blt_eq] at h'
  exact⟨h'.1,fun i hi=>ih i (bu.Da h'.2 hi)⟩
 | tr C hm he=>cases h
def Gx [Env] (P:Program) (s:Sem Next) (id:Nat) (ρ:Ren) (σ:St) (w:World) (p:V×St→Prop):Prop:=
 ∃v σ' ρ' v' w',p (v,σ')∧aq ρ' v v'∧bc (fun b=>b=id) ρ σ w ρ' σ' w'∧
  (s.run P w=.ok (.value v') w'∨(v'=undef∧s.run P w=.ok .skip w'))
section
variable {P:Program} {ρ:Ren} {σ:St} {w:World} {id:Nat} {p:V×St→Prop}
theorem Gx.value [Env] {s:Sem Next} (hr:R ρ σ w) {v:V} {v':Value} (hp:p (v,σ)) (hv:aq ρ v v') (h:s.run P w=.ok (.value v') w):Gx P s id ρ σ w p:=
 ⟨v,σ,ρ,v',w,hp,hv,bc.refl hr,.inl h⟩
theorem c8 {fT:String} {x:Option V} (h:(aJ σ fT x).Holds p):∃v,x=some v∧p (v,σ):=by
 cases x with
 | none=>exact h.elim
 | some v=>exact⟨v,rfl,h⟩
theorem dX {fT:String} {x:Option V} {k:V→VS} (h:(eP fT x k).Holds p):∃v,x=some v∧(k v).Holds p:=by
 cases x with
 | none=>exact h.elim
 | some v=>exact⟨v,rfl,h⟩
theorem kQ {fT:String} {x y:Option V} {k:V→V→VS} (h:(o8 fT x y k).Holds p):∃v u,x=some v∧y=some u∧(k v u).Holds p:=by
 cases x with
 | none=>exact h.elim
 | some v=>cases y with
  | none=>exact h.elim
  | some u=>exact⟨v,u,rfl,rfl,h⟩
theorem run_typeInfo {t:TypeId} {i:TypeInfo} (h:P.info? t=some i):(typeInfo t).run P w=.ok i w:=by simp [typeInfo,h]
theorem run_underlying {t:TypeId} {d:TypeDesc} (h:P.underlying t=some d):(underlying t).run P w=.ok d w:=by simp [underlying,h]
theorem br [Env] {t:TypeId} {n:Nat} (h:bL P t=some n):(sizeOf t).run P w=.ok n w:=by
 unfold bL at h
 rw[Option.map_eq_some_iff] at h
 obtain⟨i,hi,rfl⟩:=h
 simp [sizeOf,run_typeInfo hi]
theorem ru {t:TypeId} {n:Nat} (h:iS P t=some n):∃i,P.info? t=some i∧i.bytes=n:=by
 unfold iS at h
 rw[Option.map_eq_some_iff] at h
 exact h
theorem eS [Env] {t:TypeId} {b:Bool} (h:ra P t=some b):(isAgg t).run P w=.ok b w:=by
 unfold ra at h
 unfold isAgg
 cases hu:P.underlying t with
 | none=>simp [hu] at h
 | some d=>
  simp only[Sem.run_bind,run_underlying hu,Result.andThen_ok]
  rw[hu] at h
  cases d<;>simp at h<;>subst h<;>rfl
theorem gI [Env] {t:TypeId} {z:V} (h:gu P t=some z) (ρ:Ren):∃zv,(∀w,(zeroValue t).run P w=.ok zv w)∧aq ρ z zv:=by
 unfold gu at h
 rw[Option.bind_eq_some_iff] at h
 obtain⟨zv,h1,h2⟩:=h
 rw[Option.bind_eq_some_iff] at h1
 obtain⟨i,hi,hz⟩:=h1
 exact⟨zv,fun w=>by simp [zeroValue,run_typeInfo hi,hz],mv ρ zv h2⟩
theorem zD [Env] (hr:R ρ σ w) {t:TypeId} {x v:V} {x':Value} (hx:aq ρ x x') (h:ea P σ t x=some v):∃v',(Instr.loadAt t x').run P w=.ok v' w∧aq ρ v v'∧∃a,x'=.pointer (some a)∧(loadVar t a).run P w=.ok v' w:=by
 unfold ea at h
 split at h
 ·rename_i b off n fN ba
  cases hx with
  | ptr hl=>
   rw[Option.map_eq_some_iff] at h
   obtain⟨vs,gJ,rfl⟩:=h
   obtain⟨xs,w8,aN,_⟩:=hr.loadCells (P:=P) gJ hl
   have aH:=w8 w rfl
   refine⟨.agg ⟨xs⟩,?_,.agg aN,_,rfl,?_⟩
   ·simp [Instr.loadAt,Instr.sureAddr,loadVar,eS fN,br ba,aH]
   ·simp [loadVar,eS fN,br ba,aH]
 ·rename_i b off fN
  cases hx with
  | ptr hl=>
   obtain⟨x,hc,aN⟩:=hr.cell h hl
   refine⟨x,?_,aN,_,rfl,?_⟩
   ·simp [Instr.loadAt,Instr.sureAddr,loadVar,eS fN,hc]
   ·simp [loadVar,eS fN,hc]
 ·rename_i cs off n fN ba
  cases hx with
  | aK hx hi=>
   rename_i c o xs
   split at h
   ·rename_i hle
    cases h
    rw[aZ] at hle
    have hle:off+n≤cs.length:=Nat.le_of_ble_eq_true hle
    have hlen:=hx.length
    rw[eL,ek]
    have hl:((xs.drop off).take n).length=n:=by simp;omega
    have aH:∀bd:World,bd.heap=w.heap→(loadCells ⟨c,o+off,none⟩ n).run P bd=.ok ⟨(xs.drop off).take n⟩ bd:=fun bd hw=>by
     have:=hr.uS (P:=P) (c:=c) (o:=o+off) (xs:=(xs.drop off).take n) (fun k x hk=>by
      rw[Nat.add_assoc]
      refine hi (off+k) x ?_
      rw[List.getElem?_take] at hk
      split at hk
      ·rw[List.getElem?_drop] at hk;exact hk
      ·cases hk) bd hw
     rwa [hl] at this
    refine⟨.agg ⟨(xs.drop off).take n⟩,?_,.agg ((hx.drop off).take n),_,rfl,?_⟩
    ·simp [Instr.loadAt,Instr.sureAddr,loadVar,eS fN,br ba,aH w rfl]
    ·simp [loadVar,eS fN,br ba,aH w rfl]
   ·cases h
 ·rename_i cs off fN
  cases hx with
  | aK hx hi=>
   rename_i c o xs
   rw[dz] at h
   obtain⟨x,cE,aN⟩:=hx.get _ h
   have hc:w.cell? ⟨c,o+off,none⟩=some x:=(hr.aL _ _ _ (hi off x cE)).1
   refine⟨x,?_,aN,_,rfl,?_⟩
   ·simp [Instr.loadAt,Instr.sureAddr,loadVar,eS fN,hc]
   ·simp [loadVar,eS fN,hc]
 ·rename_i b i esz off n fN ba
  cases hx with
  | fj hl=>
   rename_i l
   rw[Option.bind_eq_some_iff] at h
   obtain⟨cs,dC,h⟩:=h
   obtain⟨hlen,xs,hx,jf⟩:=hr.fj dC hl
   unfold Gr at h
   split at h
   ·rename_i hle
    cases h
    rw[aZ] at hle
    have hle:off+n≤cs.length:=Nat.le_of_ble_eq_true hle
    have hlen:=hx.length
    rw[eL,ek]
    have hlx:((xs.drop off).take n).length=n:=by simp;omega
    have aH:(loadCells ⟨l.c,l.o+(i*esz+off),none⟩ n).run P w=.ok ⟨(xs.drop off).take n⟩ w:=by
     have:=run_loadCells_list (P:=P) w ⟨l.c,l.o+(i*esz+off),none⟩ ((xs.drop off).take n) (fun j x hj=>by
      rw[ee,show l.o+(i*esz+off)+j=l.o+(i*esz+(off+j)) by omega]
      refine jf (off+j) x ?_
      rw[List.getElem?_take] at hj
      split at hj
      ·rw[List.getElem?_drop] at hj;exact hj
      ·cases hj)
     rwa [hlx] at this
    refine⟨.agg ⟨(xs.drop off).take n⟩,?_,.agg ((hx.drop off).take n),_,rfl,?_⟩
    ·simp [Instr.loadAt,Instr.sureAddr,loadVar,eS fN,br ba,aH]
    ·simp [loadVar,eS fN,br ba,aH]
   ·cases h
 ·rename_i b i esz off fN
  cases hx with
  | fj hl=>
   rename_i l
   rw[Option.bind_eq_some_iff] at h
   obtain⟨cs,dC,h⟩:=h
   obtain⟨hlen,xs,hx,jf⟩:=hr.fj dC hl
   rw[dz] at h
   obtain⟨x,cE,aN⟩:=hx.get _ h
   have hc:w.cell? ⟨l.c,l.o+(i*esz+off),none⟩=some x:=jf off x cE
   refine⟨x,?_,aN,_,rfl,?_⟩
   ·simp [Instr.loadAt,Instr.sureAddr,loadVar,eS fN,hc]
   ·simp [loadVar,eS fN,hc]
 ·cases h
theorem zE [Env] (hr:R ρ σ w) (cn:ρ id=none) {vs:List V} {xs:List Value} (hx:au ρ vs xs) {ty:TypeId} {w':World} (hw:w'.heap=w.heap.push (.cells ⟨xs⟩ ty (0,0)))
  (ho:w'.os=w.os) (ht:w'.tape=w.tape) (hp:w'.output=w.output):
  bc (fun b=>b=id) ρ σ w (kP ρ id ⟨w.heap.size,0,xs.length⟩) (newRow σ id vs.length [] (an vs .leaf 0) true) w':=by
 have hR:w'.heap[w.heap.size]? =some (.cells ⟨xs⟩ ty (0,0)):=by rw[hw];simp
 refine bc.alloc hr cn hw ho ht hp (.cells ⟨ty,?_⟩ (by simp [hx.length]) (fun i v hi=>?_) (fun _ i _=>?_) (fun _ i=>?_))
 ·simp [World.shape?,hR]
 ·rcases fM hi with ⟨_,h2,h3⟩ | ⟨_,h2⟩
  ·obtain⟨x,cE,aN⟩:=hx.get _ h3
   refine⟨x,?_,aN.mono (jq ρ _ cn)⟩
   simpa [World.cell?,hR] using cE
  ·unfold cellOf at h2
   split at h2
   ·rw[Trie.eG] at h2;simp [dz] at h2
   ·cases h2
 ·simp [World.frozen?,hR]
 ·simp [World.frozen?,hR]
theorem DM [Env] (hr:R ρ σ w) (cn:ρ id=none) {v:V} {x:Value} (hx:aq ρ v x) (e:TypeId) (hp:p (.ptr id 0,newRow σ id (len v.cells) [] (an v.cells .leaf 0) true)) {s:Sem Next}
  (hs:s.run P w=.ok (.value (.pointer (some ⟨w.heap.size,0,none⟩))) {w with heap:=w.heap.push (.cells x.cells e)}):Gx P s id ρ σ w p:=by
 have hc:=hx.cells
 have az:=zE hr cn hc (ty:=e) (w':={w with heap:=w.heap.push (.cells x.cells e)}) rfl rfl rfl rfl
 rw[aZ] at hp
 exact⟨_,_,_,_,_,hp,.ptr (l:=⟨w.heap.size,0,x.cells.toList.length⟩) (jo _ _ _),az,.inl (by simpa using hs)⟩
inductive jr [Env] (ρ:Ren):List (Nat×V)→List (Nat×Value)→Prop
 | nil:jr ρ [] []
 | cons {i:Nat} {v:V} {x:Value} {l:List (Nat×V)} {l':List (Nat×Value)} (h:aq ρ v x) (hl:jr ρ l l'):jr ρ ((i,v)::l) ((i,x)::l')
theorem bw.parts [Env] {a:Act} {a':Go.Act} (h:bw ρ a a') (l:List (Nat×Operand)) {vs:List (Nat×V)} (hv:a.parts l=some vs):jr ρ vs (l.map fun q=>(q.1,a'.eval q.2)):=by
 induction l generalizing vs with
 | nil=>have lV:some []=some vs:=hv;cases lV;exact .nil
 | cons q l ih=>
  obtain⟨v,t,h1,h2,rfl⟩:=nJ (x:=uM a q) (l:=a.parts l) hv
  unfold uM at h1
  split at h1
  ·rename_i u hu
   cases h1
   exact .cons (h.eval q.2 hu) (ih h2)
  ·cases h1
theorem KS (off:Nat):∀(vs:List Value) (k:Nat) (A:List Value),off+k+vs.length≤A.length→
  (vs.zipIdx k).foldl (fun(cs:Array Value) (q:Value×Nat)=>cs.setIfInBounds (off+q.2) q.1) ⟨A⟩=⟨A.take (off+k)++(vs++A.drop (off+k+vs.length))⟩:=by
 intro vs
 induction vs with
 | nil=>intro k A _;simp
 | cons u vs ih=>
  intro k A hA
  simp only[List.length_cons] at hA
  have h1:((⟨A⟩:Array Value).setIfInBounds (off+k) u)=⟨A.set (off+k) u⟩:=by simp
  rw[List.zipIdx_cons,List.foldl_cons,h1,ih (k+1) _ (by simp;omega)]
  congr 1
  apply List.ext_getElem?
  intro i
  simp only[List.getElem?_append,List.length_take,List.length_set,List.getElem?_take,List.getElem?_set,List.getElem?_drop,List.length_cons,List.getElem?_cons]
  grind
theorem wk [Env] {place:Nat→Option (Nat×Nat)}:∀(ps:List (Nat×V)) (w9:List (Nat×Value)) (cs:List V) (k8:List Value) {r:List V},jr ρ ps w9→au ρ cs k8→
  rb place ps cs=some r→∃r':List Value,Instr.fill place ⟨k8⟩ w9=some ⟨r'⟩∧au ρ r r':=by
 intro ps
 induction ps with
 | nil=>
  intro w9 cs k8 r pc dC h
  cases pc
  have h':some cs=some r:=h
  cases h'
  exact⟨k8,rfl,dC⟩
 | cons q ps ih=>
  intro w9 cs k8 r pc dC h
  cases pc with
  | cons hv hl=>
   rename_i i v x l'
   have h':(match lY cs v.cells (place i) with | some xa=>rb place ps xa | none=>none)=some r:=h
   cases hf:lY cs v.cells (place i) with
   | none=>rw[hf] at h';cases h'
   | some xa=>
    rw[hf] at h'
    cases sw:place i with
    | none=>rw[sw] at hf;cases hf
    | some os=>
     obtain⟨off,size⟩:=os
     rw[sw] at hf
     unfold lY at hf
     dsimp only at hf
     cases hb:(Nat.beq (len v.cells) size&&Nat.ble (Nat.add off size) (len cs)) with
     | false=>rw[hb] at hf;cases hf
     | true=>
      rw[hb] at hf
      simp only[Option.some.injEq] at hf
      rw[Bool.and_eq_true,aZ,aZ] at hb
      have h1:v.cells.length=size:=Nat.eq_of_beq_eq_true hb.1
      have h2:off+size≤cs.length:=Nat.le_of_ble_eq_true hb.2
      have W8:=hv.cells
      have W9:x.cells.size=size:=by rw[←h1,W8.length];simp
      have iT:=dC.length
      subst hf
      rw[gD,gD,eL,ek] at h'
      have aN:au ρ (cs.take off++(v.cells++cs.drop (off+size))) (k8.take off++(x.cells.toList++k8.drop (off+size))):=
       (dC.take off).append (W8.append (dC.drop _))
      obtain⟨r',gr,dP⟩:=ih l' _ _ hl aN h'
      refine⟨r',?_,dP⟩
      simp only[Instr.fill,sw]
      have mT:(decide (x.cells.size≠size)||decide (off+x.cells.size>(⟨k8⟩:Array Value).size))=false:=by
       simp only[List.size_toArray,Bool.or_eq_false_iff,decide_eq_false_iff_not]
       omega
      rw[mT]
      simp only[Bool.false_eq_true,if_false]
      rw[←gr,←Array.foldl_toList,Array.toList_zipIdx,KS off x.cells.toList 0 k8 (by simp [W9];omega)]
      simp [W9]
end
end Go.Ev
end
section
namespace Go.Ev
open Go
section
variable {P:Program} {ρ:Ren} {σ:St} {w:World} {id:Nat} {p:V×St→Prop}
theorem kR [Env] {t:TypeId} {cs:List V} {k8:List Value} {off:Nat} {v:V} (hc:au ρ cs k8) (h:dR P t cs off=some v):
  ∃v',(∀w,(part t ⟨k8⟩ off).run P w=.ok v' w)∧aq ρ v v':=by
 unfold dR at h
 split at h
 ·rename_i n fN ba
  split at h
  ·rename_i hb
   cases h
   refine⟨.agg ⟨(k8.drop off).take n⟩,fun w=>?_,?_⟩
   ·simp only[part,Sem.run_bind,eS fN,Result.andThen_ok,if_true,br ba,Sem.run_pure]
    congr 2
    simp [List.extract_eq_take_drop]
   ·rw[eL,ek]
    exact .agg ((hc.drop off).take n)
  ·cases h
 ·rename_i fN
  rw[dz] at h
  obtain⟨x,hx,hr⟩:=hc.get off h
  refine⟨x,fun w=>?_,hr⟩
  simp [part,eS fN,hx]
 ·cases h
theorem Gy [Env] {fs:List Field} {l:List (Nat×Nat)} (h:places P fs=some l):∀w,(fs.mapM fun f=>(Prod.mk f.offset <$> sizeOf f.type:Sem (Nat×Nat))).run P w=.ok l w:=by
 induction fs generalizing l with
 | nil=>intro w;simp only[places,Option.some.injEq] at h;subst h;rfl
 | cons f fs ih=>
  intro w
  simp only[places] at h
  cases hs:bL P f.type with
  | none=>simp [hs] at h
  | some n=>
   cases hl:places P fs with
   | none=>simp [hs,hl] at h
   | some r=>
    simp only[hs,hl,Option.some.injEq] at h
    subst h
    simp [List.mapM_cons,br hs,ih hl]
theorem IZ [Env] {t:TypeId} {ps:List (Nat×V)} {w9:List (Nat×Value)} {v:V} (pc:jr ρ ps w9) (h:s9 P t ps=some v):
  ∃v',(∀w,(Instr.build t ⟨w9⟩).run P w=.ok v' w)∧aq ρ v v':=by
 unfold s9 at h
 split at h
 ·rename_i z fs hz hu
  split at h
  ·rename_i pl sw
   rw[Option.map_eq_some_iff] at h
   obtain⟨cs,dC,rfl⟩:=h
   obtain⟨zv,gy,pd⟩:=gI hz ρ
   obtain⟨r',gr,dP⟩:=wk ps w9 z.cells zv.cells.toList pc pd.cells dC
   refine⟨.agg ⟨r'⟩,fun w=>?_,.agg dP⟩
   have hm:(fs.mapM fun f=>(do pure (f.offset,←sizeOf f.type):Sem (Nat×Nat))).run P w=.ok pl.toArray w:=by
    rw[Array.mapM_eq_mapM_toList]
    simp [Gy sw w]
   have YF:(fun i=>(pl.toArray)[i]?)=nth pl:=by funext i;simp [dz]
   simp only[Instr.build,Sem.run_bind,gy,Result.andThen_ok,run_underlying hu,hm]
   rw[YF,gr]
   rfl
  ·cases h
 ·rename_i z n e hz hu
  split at h
  ·rename_i k hk
   rw[Option.map_eq_some_iff] at h
   obtain⟨cs,dC,rfl⟩:=h
   obtain⟨zv,gy,pd⟩:=gI hz ρ
   obtain⟨r',gr,dP⟩:=wk ps w9 z.cells zv.cells.toList pc pd.cells dC
   refine⟨.agg ⟨r'⟩,fun w=>?_,.agg dP⟩
   simp only[Instr.build,Sem.run_bind,gy,Result.andThen_ok,run_underlying hu,br hk]
   rw[gr]
   rfl
  ·cases h
 ·cases h
theorem gK {t e:TypeId} (h:gp P t=some e):P.underlying t=some (.slice e):=by
 unfold gp at h
 split at h
 ·cases h;assumption
 ·cases h
theorem rv {t e:TypeId} {n:Nat} (h:jk P t=some (n,e)):P.underlying t=some (.array n e):=by
 unfold jk at h
 split at h
 ·cases h;assumption
 ·cases h
theorem I0 (a b:List UInt8):((⟨⟨a⟩⟩:ByteArray)==⟨⟨b⟩⟩)=(a==b):=by
 show((⟨a⟩:Array UInt8)==⟨b⟩)=_
 simp
def uU [Env] (P:Program) (ρ:Ren) (eq:TypeId→V→V→Option Bool) (d:Nat):Prop:=
 ∀t x y b,eq t x y=some b→∀x' y',aq ρ x x'→aq ρ y y'→∀n,d≤n→∀w,(Op.equalIn n t x' y').run P w=.ok b w
theorem A7 [Env] {eq:TypeId→V→V→Option Bool} {d n:Nat} (he:uU P ρ eq d) (hn:d≤n) {xs ys:List V} {I1 I2:List Value} (hx:au ρ xs I1) (hy:au ρ ys I2):
  ∀(fs:List Field) {b:Bool},oa P eq xs ys fs=some b→∀w,(Op.eqFields n ⟨I1⟩ ⟨I2⟩ fs).run P w=.ok b w:=by
 intro fs
 induction fs with
 | nil=>intro b h w;have h':some true=some b:=h;cases h';simp [Op.eqFields]
 | cons f fs ih=>
  intro b h w
  have h':(match f.name== "_",dR P f.type xs f.offset,dR P f.type ys f.offset with
   | false,some a,some b=>match eq f.type a b with
    | some true=>oa P eq xs ys fs
    | some false=>some false
    | none=>none
   | _,_,_=>none)=some b:=h
  split at h'
  ·rename_i a c eb ha hc
   obtain⟨a',QY,I3⟩:=kR hx ha
   obtain⟨c',QZ,tk⟩:=kR hy hc
   have Q0:f.name≠ "_":=by simpa using eb
   simp only[Op.eqFields,if_pos Q0,Sem.run_bind,QY,QZ,Result.andThen_ok]
   split at h'
   ·rename_i heq
    simp only[he _ _ _ _ heq _ _ I3 tk n hn w,Result.andThen_ok]
    simpa using ih h' w
   ·rename_i heq
    cases h'
    simp only[he _ _ _ _ heq _ _ I3 tk n hn w,Result.andThen_ok]
    simp
   ·cases h'
  ·cases h'
theorem vu [Env] {eq:TypeId→V→V→Option Bool} {d n:Nat} (he:uU P ρ eq d) (hn:d≤n) {t:TypeId} {fs:Array Field} (hu:P.underlying t=some (.struct fs)) {x y:V} {b:Bool}
  (h:hJ P eq t fs.toList x y=some b) {x' y':Value} (hx:aq ρ x x') (hy:aq ρ y y') (w:World):(Op.equalIn (n+1) t x' y').run P w=.ok b w:=by
 unfold hJ at h
 split at h
 ·cases h
 ·rename_i az
  split at h
  ·split at h
   ·cases hx with | agg hx=>cases hy with | agg hy=>
    have hf:P.fieldsOf t=fs:=by simp [Program.fieldsOf,hu]
    rw[run_equalIn_struct (P:=P) w n t _ _ (by rw[hf];exact hu) az,hf]
    exact A7 he hn hx hy _ h w
   ·cases h
  ·cases h
theorem ry [Env]:∀(d:Nat),uU P ρ (j0 P d) d:=by
 intro d
 induction d with
 | zero=>intro t x y b h;cases h
 | succ d ih=>
  intro t x y b h x' y' hx hy n hn w
  obtain⟨n,rfl⟩:∃m,n=m+1:=⟨n-1,by omega⟩
  have h':uK P (j0 P d) t x y (P.underlying t)=some b:=h
  unfold uK at h'
  split at h'
  ·rename_i hu
   split at h'
   ·split at h'
    ·cases h';cases hx;cases hy;simp [Op.equalIn,run_underlying hu]
    ·cases h'
   ·cases h'
  ·rename_i hu
   split at h'
   ·split at h'
    ·split at h'
     ·rename_i hk;cases h';cases hx;cases hy;simp [Op.equalIn,run_underlying hu,hk]
     ·cases h'
    ·cases h'
   ·split at h'
    ·rename_i i j
     obtain⟨rfl,rfl,hi⟩:=Gq h'
     cases hx;cases hy
     obtain⟨q,hq⟩:=Env.int j hi
     rw[hq];simp [Op.equalIn,run_underlying hu]
    ·cases h'
   ·cases h'
  ·rename_i hu
   split at h'
   ·split at h'
    ·cases h';cases hx;cases hy;simp [Op.equalIn,run_underlying hu,I0]
    ·cases h'
   ·cases h'
  ·rename_i fs hu
   exact vu ih (by omega) hu h' hx hy w
  ·cases h'
theorem Db [Env] {eq:TypeId→V→V→Option Bool} {d n:Nat} (he:uU P ρ eq d) (hn:d≤n) {e:TypeId} {sz:Nat} {xs ys:List V} {I1 I2:List Value} (hx:au ρ xs I1) (hy:au ρ ys I2):
  ∀(k i:Nat) {b:Bool},qj P eq e sz xs ys k i=some b→∀w,(Op.eqItems n e sz ⟨I1⟩ ⟨I2⟩ (List.range' i k)).run P w=.ok b w:=by
 intro k
 induction k with
 | zero=>intro i b h w;have h':some true=some b:=h;cases h';simp [Op.eqItems]
 | succ k ih=>
  intro i b h w
  have h':(match dR P e xs (i*sz),dR P e ys (i*sz) with
   | some a,some b=>match eq e a b with
    | some true=>qj P eq e sz xs ys k (i+1)
    | some false=>some false
    | none=>none
   | _,_=>none)=some b:=h
  rw[List.range'_succ]
  split at h'
  ·rename_i a c ha hc
   obtain⟨a',QY,I3⟩:=kR hx ha
   obtain⟨c',QZ,tk⟩:=kR hy hc
   simp only[Op.eqItems,Sem.run_bind,QY,QZ,Result.andThen_ok]
   split at h'
   ·rename_i heq
    simp only[he _ _ _ _ heq _ _ I3 tk n hn w,Result.andThen_ok]
    simpa using ih (i+1) h' w
   ·rename_i heq
    cases h'
    simp only[he _ _ _ _ heq _ _ I3 tk n hn w,Result.andThen_ok]
    simp
   ·cases h'
  ·cases h'
theorem Dc [Env] {t e:TypeId} {k:Nat} (hu:P.underlying t=some (.array k e)) {x y:V} {b:Bool} (h:jF P t e k x y=some b) {x' y':Value} (hx:aq ρ x x') (hy:aq ρ y y') {n:Nat} (hn:eM≤n) (w:World):
  (Op.equalIn (n+1) t x' y').run P w=.ok b w:=by
 unfold jF at h
 split at h
 ·cases h
 ·split at h
  ·rename_i sz ba
   split at h
   ·split at h
    ·cases hx with | agg hx=>cases hy with | agg hy=>
     unfold bL at ba
     rw[Option.map_eq_some_iff] at ba
     obtain⟨i,hi,ba⟩:=ba
     have hc:P.cellsOf e=sz:=by unfold Program.cellsOf;rw[hi];exact ba
     rw[run_equalIn_array w n _ _ hu hi,hc,List.range_eq_range']
     exact Db (ry eM) hn hx hy k 0 h w
    ·cases h
   ·cases h
  ·cases h
theorem Ap (a b:Addr) (h:a.block=b.block) (w:World):(sameAddr a b).run P w=.ok (a==b) w:=by
 unfold sameAddr
 rw[if_pos (by simpa using h)]
 rfl
theorem ym {a b:Addr} (h:a.block≠b.block) (ha:∃e n,w.shape? a.block=some (e,n)) (hb:∃e n,w.shape? b.block=some (e,n))
  (fa:∀i,w.frozen? ⟨a.block,i,none⟩=false) (fb:∀i,w.frozen? ⟨b.block,i,none⟩=false) (sa:a.spot=none) (sb:b.spot=none):(sameAddr a b).run P w=.ok false w:=by
 obtain⟨e,n,ha⟩:=ha
 obtain⟨e',n',hb⟩:=hb
 obtain⟨ab,ao,adj⟩:=a
 obtain⟨bb,bo,bs⟩:=b
 simp only at h ha hb fa fb sa sb
 subst sa;subst sb
 have bQ:(ab==bb)=false:=by simpa using h
 simp [sameAddr,bQ,fa,fb,noView,viewAt,ha,hb,mayBeOne,stringish]
theorem I4 [Env] (hr:R ρ σ w) {e b o b' o':Nat} {r:Bool} (h:ptrEq P σ e b o b' o'=some r) {l l':Loc} (hl:ρ b=some l) (cD:ρ b'=some l') (n:Nat) {t:TypeId} (hu:P.underlying t=some (.pointer e)):
  (Op.equalIn (n+1) t (.pointer (some ⟨l.c,l.o+o,none⟩)) (.pointer (some ⟨l'.c,l'.o+o',none⟩))).run P w=.ok r w:=by
 unfold ptrEq at h
 split at h
 ·rename_i k hs
  split at h
  ·rename_i hb
   have hb:b=b':=Nat.eq_of_beq_eq_true hb
   subst hb
   rw[hl] at cD;cases cD
   split at h
   ·cases h
    simp [Op.equalIn,run_underlying hu,br hs,Ap]
    rw[Bool.eq_iff_iff]
    simp
   ·cases h
  ·rename_i hb
   have hb:b≠b':=fun e=>by subst e;rw[Nat.beq_refl] at hb;cases hb
   split at h
   ·rename_i h1 h2
    cases h
    obtain⟨⟨t1,s1⟩,_,_,_,f1⟩:=hr.cells h1 hl
    obtain⟨⟨t2,s2⟩,_,_,_,f2⟩:=hr.cells h2 cD
    have hc:l.c≠l'.c:=fun ec=>hb (hr.inj _ _ _ _ _ _ h1 h2 hl cD ec)
    have:=ym (P:=P) (w:=w) (a:=⟨l.c,l.o+o,none⟩) (b:=⟨l'.c,l'.o+o',none⟩) hc ⟨_,_,s1⟩ ⟨_,_,s2⟩ (f1 rfl) (f2 rfl) rfl rfl
    simp [Op.equalIn,run_underlying hu,br hs,this]
   ·cases h
 ·cases h
theorem Dd [Env] {tx ty:TypeId} {vx vy:V} {b:Bool} (h:yk P tx vx ty vy=some b) {Xa Xb:Value} (hx:aq ρ vx Xa) (hy:aq ρ vy Xb) {n:Nat} (hn:eM≤n) {t:TypeId} {ms:Array (String×TypeId)}
  (hu:P.underlying t=some (.interface ms)) (w:World):(Op.equalIn (n+1) t (.iface tx Xa) (.iface ty Xb)).run P w=.ok b w:=by
 unfold yk at h
 split at h
 ·rename_i hb
  cases h
  have:tx≠ty:=fun e=>by subst e;rw[Nat.beq_refl] at hb;cases hb
  simp [Op.equalIn,run_underlying hu,this]
 ·rename_i hb
  have hb:tx=ty:=Nat.eq_of_beq_eq_true hb
  subst hb
  split at h
  ·rename_i hc
   rw[Option.map_eq_some_iff] at hc
   obtain⟨i,hi,hci⟩:=hc
   have:=ry (P:=P) (ρ:=ρ) eM _ _ _ _ h _ _ hx hy n hn w
   simp [Op.equalIn,run_underlying hu,run_typeInfo hi,hci,this]
  ·cases h
theorem Gz [Env] (hr:R ρ σ w) {t:TypeId} {lit:Bool} {x y:V} {b:Bool} (h:evalEq P σ t lit x y=some b) {x' y':Value} (hx:aq ρ x x') (hy:aq ρ y y'):
  (Op.equal t x' y').run P w=.ok b w:=by
 unfold evalEq uL at h
 unfold Op.equal
 obtain⟨n,hn,pe⟩:∃n,eM≤n∧Op.maxDepth=n+1:=⟨9999,by decide,rfl⟩
 rw[pe]
 split at h
 ·rename_i hu
  split at h
  ·split at h
   ·cases h;cases hx;cases hy;simp [Op.equalIn,run_underlying hu]
   ·cases h
  ·cases h
 ·rename_i e hu
  split at h
  ·split at h
   ·cases h;cases hx;cases hy;simp [Op.equalIn,run_underlying hu]
   ·cases h;cases hx;cases hy;simp [Op.equalIn,run_underlying hu]
   ·cases h
  ·split at h
   ·cases h;cases hx;cases hy;simp [Op.equalIn,run_underlying hu]
   ·cases hx with | ptr hl=>cases hy with | ptr cD=>exact I4 hr h hl cD n hu
   ·cases h
  ·cases h
 ·rename_i ms hu
  split at h
  ·split at h
   ·split at h
    ·cases h;cases hx;cases hy;simp [Op.equalIn,run_underlying hu]
    ·cases h
   ·cases h;cases hx;cases hy;simp [Op.equalIn,run_underlying hu]
   ·cases h
  ·split at h
   ·cases h;cases hx;cases hy;simp [Op.equalIn,run_underlying hu]
   ·cases hx with | iface hx=>cases hy with | iface hy=>exact Dd h hx hy hn hu w
   ·cases h
  ·cases h
 ·rename_i fs hu
  split at h
  ·exact vu (ry eM) hn hu h hx hy w
  ·cases h
 ·rename_i k e hu
  exact Dc hu h hx hy hn w
 ·rename_i hu
  split at h
  ·split at h
   ·cases h;cases hx;cases hy;simp [Op.equalIn,run_underlying hu]
   ·cases h;cases hx;cases hy;simp [Op.equalIn,run_underlying hu]
   ·cases h;cases hx;cases hy;simp [Op.equalIn,run_underlying hu]
   ·cases h
  ·split at h
   ·cases h;cases hx;cases hy;simp [Op.equalIn,run_underlying hu]
   ·cases h
  ·split at h
   ·cases h;cases hx;cases hy;simp [Op.equalIn,run_underlying hu]
   ·cases h
  ·split at h
   ·cases h;cases hy
    cases hx with
    | arr hn hx=>
     obtain⟨a,k,c,rfl⟩:=hn rfl
     simp [Op.equalIn,run_underlying hu]
   ·cases h
  ·cases h
 ·rename_i hu
  split at h
  ·split at h
   ·cases h;cases hx;cases hy;simp [Op.equalIn,run_underlying hu]
   ·cases h;cases hx;cases hy;simp [Op.equalIn,run_underlying hu]
   ·cases h
  ·split at h
   ·cases h;cases hx;cases hy;simp [Op.equalIn,run_underlying hu]
   ·cases h
  ·cases h
 ·rename_i hu
  split at h
  ·split at h
   ·cases h;cases hx;cases hy;simp [Op.equalIn,run_underlying hu]
   ·cases h;cases hx;cases hy;simp [Op.equalIn,run_underlying hu]
   ·cases h
  ·split at h
   ·cases h;cases hx;cases hy;simp [Op.equalIn,run_underlying hu]
   ·cases h
  ·cases h
 ·cases h
end
end Go.Ev
end
