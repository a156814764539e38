/- Proved: parts of the way: Mem, Ops, OpsA. -/
import Derived.Test.YtbajncpfmemdgaaGreatDoorEvQ01
import Derived.Laws.StructEq
import Derived.Laws.Concat
import Derived.MapKept
import Derived.ChangeKeysEq
section
namespace Go.Ev
open Go
theorem qA {w w':World} {c:Nat} (h:w'.heap[c]? =w.heap[c]?):w'.shape? c=w.shape? c:=by
 unfold World.shape?;rw[h]
theorem cell?_of_block {w w':World} {c i:Nat} (h:w'.heap[c]? =w.heap[c]?):w'.cell? ⟨c,i,none⟩=w.cell? ⟨c,i,none⟩:=by
 unfold World.cell?;simp only[h]
theorem frozen?_of_block {w w':World} {c i:Nat} (h:w'.heap[c]? =w.heap[c]?):w'.frozen? ⟨c,i,none⟩=w.frozen? ⟨c,i,none⟩:=by
 unfold World.frozen?;simp only[h]
theorem n9.mono {ρ ρ':aA} (eu:ρ.le ρ') {m m':Option Nat} (h:n9 ρ m m'):n9 ρ' m m':=by
 cases h with
 | none=>exact .none
 | some h=>exact .some (eu _ _ h)
theorem fN.same [Env] {ρ ρ':aA} {w w':World} {l:Loc} {k:bU} (h:fN ρ w l k) (eu:ρ.le ρ') (hc:w'.heap[l.c]? =w.heap[l.c]?):fN ρ' w' l k:=by
 cases h with
 | cells hs hn hv hf hp=>
  exact .cells (by rw[qA hc];exact hs) hn
   (fun i v hi=>let ⟨x,hx,hr⟩:=hv i v hi;⟨x,by rw[cell?_of_block hc];exact hx,hr.mono eu⟩)
   (fun iy i hi=>by rw[frozen?_of_block hc];exact hf iy i hi) (fun rM i=>by rw[frozen?_of_block hc];exact hp rM i)
 | row hs hn hu hv hf hp=>
  exact .row (by rw[qA hc];exact hs) hn hu
   (fun i hi k v hk=>let ⟨x,hx,hr⟩:=hv i hi k v hk;⟨x,by rw[cell?_of_block hc];exact hx,hr.mono eu⟩)
   (fun i hi=>by rw[frozen?_of_block hc];exact hf i hi) (fun rM i=>by rw[frozen?_of_block hc];exact hp rM i)
 | map h he=>exact .map (by rw[hc];exact h) (he.mono eu)
 | iter h ho hm=>exact .iter (by rw[hc];exact h) ho (hm.mono eu)
 | loop h ht hs hd=>exact .loop (by rw[hc];exact h) (ht.mono eu) hs (eu _ _ hd)
 | deferred h=>exact .deferred (by rw[hc];exact h)
section
variable {ρ:aA} {σ:St} {w:World}
theorem gG {w:World} {c o:Nat} {x:Value} (h:w.cell? ⟨c,o,none⟩=some x):c<w.heap.size:=by
 by_cases hc:c<w.heap.size
 ·exact hc
 ·unfold World.cell? at h
  have e:w.heap[c]? =none:=by rw[Array.getElem?_eq_none_iff];omega
  simp [e] at h
theorem R.rN [Env] {ρ':aA} {σ':St} {w':World} (h:R ρ σ w) (he:ρ'.aV=ρ.aV) (aQ:∀c,c<w.heap.size→¬Wr ρ σ c→w'.heap[c]? =w.heap[c]?) (wr:∀c,c<w.heap.size→Wr ρ' σ' c→Wr ρ σ c):
  ∀c o x,ρ'.aV c o=some x→w'.cell? ⟨c,o,none⟩=some x∧¬Wr ρ' σ' c:=by
 intro c o x hx
 rw[he] at hx
 obtain⟨h1,h2⟩:=h.aV c o x hx
 have bE:=gG h1
 exact⟨by rw[cell?_of_block (aQ c bE h2)];exact h1,fun hw=>h2 (wr c bE hw)⟩
theorem R.congr [Env] (h:R ρ σ w) {w':World} (hw:w'.heap=w.heap):R ρ σ w':=
 ⟨fun b k hb=>let ⟨l,hl,hk⟩:=h.di b k hb;⟨l,hl,hk.same (aA.le.refl ρ) (by rw[hw])⟩,h.inj,h.fresh,fun b l hb=>by rw[hw];exact h.valid b l hb,h.rN rfl (fun _ _ _=>by rw[hw]) fun _ _ h=>h,h.laid⟩
theorem aW.drawn [Env] {ids:Nat→Prop} (h:R ρ σ w) {w':World} (hw:w'.heap=w.heap) (ho:w'.os=w.os) (ht:w'.tape=w.tape) (hp:w'.output=w.output):aW ids ρ σ w ρ σ w':=
 ⟨h.congr hw,aA.le.refl ρ,Nat.le_refl _,fun _ _ h=>.inl h,by rw[hw];exact Nat.le_refl _,ho,ht,hp,fun _ _ _=>by rw[hw],fun _ _ h=>h,fun _ k h=>.inl ⟨k,h⟩,fun _ _ _ h=>.inl h⟩
@[simp] theorem nk (σ:St) (b:Nat) (k:bU):(σ.set b k).heap=σ.heap.put b (some k):=by cases σ;rfl
@[simp] theorem sX (σ:St) (b:Nat) (k:bU):(σ.set b k).next=σ.next:=by cases σ;rfl
@[simp] theorem l9 (σ:St) (b:Nat):(σ.kill b).heap=σ.heap.put b none:=by cases σ;rfl
@[simp] theorem vj (σ:St) (b:Nat):(σ.kill b).next=σ.next:=by cases σ;rfl
@[simp] theorem fU (σ:St) (b:Nat) (k:bU):(σ.new b k).heap=σ.heap.put b (some k):=by cases σ;rfl
theorem Ho (n id:Nat):Pp n id=max n (id+1):=by
 unfold Pp
 cases h:Nat.ble n id with
 | true=>have:=Nat.le_of_ble_eq_true h;show id+1=_;omega
 | false=>
  have:¬n≤id:=fun h'=>by rw[Nat.ble_eq_true_of_le h'] at h;cases h
  show n=_;omega
@[simp] theorem lK (σ:St) (b:Nat) (k:bU):(σ.new b k).next=max σ.next (b+1):=by cases σ;exact Ho _ _
theorem R.oA [Env] (h:R ρ σ w) {b:Nat} (hb:ρ b=none):σ.heap.get b=none:=by
 cases hk:σ.heap.get b with
 | none=>rfl
 | some k=>obtain⟨l,hl,_⟩:=h.di b k hk;rw[hb] at hl;cases hl
theorem aW.set [Env] {ids:Nat→Prop} (h:R ρ σ w) {b:Nat} {k k':bU} {l:Loc} (hk:σ.heap.get b=some k) (hl:ρ b=some l) (pD:k.j9=true)
  {w':World} (bk:w'.heap.size=w.heap.size) (pE:∀c,c≠l.c→w'.heap[c]? =w.heap[c]?) (ho:w'.os=w.os) (ht:w'.tape=w.tape) (hp:w'.output=w.output)
  (cE:fN ρ w' l k'):aW ids ρ σ w ρ (σ.set b k') w':=by
 have Nl:∀b' k₁,(σ.set b k').heap.get b'=some k₁→(∃k',σ.heap.get b'=some k')∨σ.next≤b'∨ids b':=by
  intro b' k₁ bA
  rw[nk,Trie.b9] at bA
  by_cases e:b'=b
  ·subst e;exact .inl ⟨_,hk⟩
  ·rw[if_neg e] at bA;exact .inl ⟨_,bA⟩
 have mC:∀c,c<w.heap.size→¬Wr ρ σ c→w'.heap[c]? =w.heap[c]? :=fun c _ hn=>pE c fun e=>hn ⟨b,k,l,hk,pD,hl,e.symm⟩
 have ma:∀c,c<w.heap.size→Wr ρ (σ.set b k') c→Wr ρ σ c:=by
  rintro c hc ⟨b',k₁,l',h1,h2,h3,h4⟩
  rw[nk,Trie.b9] at h1
  by_cases e:b'=b
  ·subst e
   rw[hl] at h3;cases h3
   exact⟨_,k,l,hk,pD,hl,h4⟩
  ·rw[if_neg e] at h1
   exact⟨b',k₁,l',h1,h2,h3,h4⟩
 refine⟨⟨?_,?_,?_,?_,h.rN rfl mC ma,h.laid⟩,aA.le.refl ρ,by simp,fun _ _ h=>.inl h,by omega,ho,ht,hp,mC,ma,Nl,fun _ _ _ h=>.inl h⟩
 ·intro b' k₁ bA
  rw[nk,Trie.b9] at bA
  by_cases e:b'=b
  ·subst e
   rw[if_pos rfl] at bA
   cases bA
   exact⟨l,hl,cE⟩
  ·rw[if_neg e] at bA
   obtain⟨l',cm,eV⟩:=h.di b' k₁ bA
   exact⟨l',cm,eV.same (aA.le.refl ρ) (pE _ fun ec=>e (h.inj b' b _ _ _ _ bA hk cm hl ec))⟩
 ·intro dd dg k₁ k₂ cw mD h1 h2 g1 g2 e
  rw[nk,Trie.b9] at h1 h2
  have t1:∃k,σ.heap.get dd=some k:=by
   by_cases e1:dd=b
   ·subst e1;exact⟨_,hk⟩
   ·rw[if_neg e1] at h1;exact⟨_,h1⟩
  have t2:∃k,σ.heap.get dg=some k:=by
   by_cases e1:dg=b
   ·subst e1;exact⟨_,hk⟩
   ·rw[if_neg e1] at h2;exact⟨_,h2⟩
  obtain⟨_,t1⟩:=t1
  obtain⟨_,t2⟩:=t2
  exact h.inj dd dg _ _ _ _ t1 t2 g1 g2 e
 ·intro b' bA;rw[sX] at bA;exact h.fresh b' bA
 ·intro b' l' bA;rw[bk];exact h.valid b' l' bA
theorem aW.kill [Env] {ids:Nat→Prop} (h:R ρ σ w) (b:Nat):aW ids ρ σ w ρ (σ.kill b) w:=by
 have key:∀b' k,(σ.kill b).heap.get b'=some k→σ.heap.get b'=some k:=by
  intro b' k bA
  rw[l9,Trie.b9] at bA
  by_cases e:b'=b
  ·rw[if_pos e] at bA;cases bA
  ·rw[if_neg e] at bA;exact bA
 have ma:∀c,c<w.heap.size→Wr ρ (σ.kill b) c→Wr ρ σ c:=by
  rintro c hc ⟨b',k₁,l',h1,h2,h3,h4⟩
  exact⟨b',k₁,l',key _ _ h1,h2,h3,h4⟩
 exact⟨⟨fun b' k bA=>h.di b' k (key _ _ bA),fun dd dg k₁ k₂ cw mD h1 h2=>h.inj dd dg k₁ k₂ cw mD (key _ _ h1) (key _ _ h2),fun b' bA=>h.fresh b' (by simpa using bA),h.valid,h.rN rfl (fun _ _ _=>rfl) ma,h.laid⟩,
  aA.le.refl ρ,by simp,fun _ _ h=>.inl h,Nat.le_refl _,rfl,rfl,rfl,fun _ _ _=>rfl,ma,fun b' k h=>.inl ⟨k,key b' k h⟩,fun _ _ _ h=>.inl h⟩
def jb (ρ:aA) (id:Nat) (l:Loc):aA:=⟨fun b=>if b=id then some l else ρ b,ρ.aV⟩
theorem ka (ρ:aA) (id:Nat) (l:Loc) (b:Nat):jb ρ id l b=if b=id then some l else ρ b:=rfl
theorem fV (ρ:aA) (id:Nat) (l:Loc):jb ρ id l id=some l:=by simp [jb]
theorem hJ (ρ:aA) {id:Nat} (l:Loc) (h:ρ id=none):ρ.le (jb ρ id l):=by
 refine⟨fun b l' hb=>?_,fun _ _ _ h=>h⟩
 rw[ka]
 by_cases e:b=id
 ·subst e;rw[h] at hb;cases hb
 ·rw[if_neg e];exact hb
theorem aW.new [Env] (h:R ρ σ w) {id:Nat} (cg:ρ id=none) {k:bU} {l:Loc} {w':World} (hc:l.c<w'.heap.size) (bk:w.heap.size≤w'.heap.size)
  (pE:∀c,c<w.heap.size→c≠l.c→w'.heap[c]? =w.heap[c]?) (ho:w'.os=w.os) (ht:w'.tape=w.tape) (hp:w'.output=w.output)
  (oZ:∀b k l',σ.heap.get b=some k→ρ b=some l'→l'.c≠l.c) (cE:fN (jb ρ id l) w' l k):
  aW (fun b=>b=id) ρ σ w (jb ρ id l) (σ.new id k) w'∨l.c<w.heap.size:=by
 by_cases hold:l.c<w.heap.size
 ·exact .inr hold
 have Nl:∀b' k₁,(σ.new id k).heap.get b'=some k₁→(∃k',σ.heap.get b'=some k')∨σ.next≤b'∨b'=id:=by
  intro b' k₁ bA
  rw[fU,Trie.b9] at bA
  by_cases e:b'=id
  ·exact .inr (.inr e)
  ·rw[if_neg e] at bA;exact .inl ⟨_,bA⟩
 have mC:∀c,c<w.heap.size→¬Wr ρ σ c→w'.heap[c]? =w.heap[c]? :=fun c fu _=>pE c fu (by omega)
 have ma:∀c,c<w.heap.size→Wr (jb ρ id l) (σ.new id k) c→Wr ρ σ c:=by
  rintro c fu ⟨b',k₁,l',h1,h2,h3,h4⟩
  rw[fU,Trie.b9] at h1
  rw[ka] at h3
  by_cases e:b'=id
  ·rw[if_pos e] at h3;cases h3;omega
  ·rw[if_neg e] at h1 h3
   exact⟨b',k₁,l',h1,h2,h3,h4⟩
 refine .inl ⟨⟨?_,?_,?_,?_,h.rN rfl mC ma,h.laid⟩,hJ ρ l cg,by simp;omega,?_,bk,ho,ht,hp,mC,ma,Nl,fun _ _ _ h=>.inl h⟩
 ·intro b' k₁ bA
  rw[fU,Trie.b9] at bA
  by_cases e:b'=id
  ·subst e
   rw[if_pos rfl] at bA
   cases bA
   exact⟨l,fV _ _ _,cE⟩
  ·rw[if_neg e] at bA
   obtain⟨l',cm,eV⟩:=h.di b' k₁ bA
   exact⟨l',hJ ρ l cg _ _ cm,eV.same (hJ ρ l cg) (pE _ (h.valid _ _ cm) (oZ _ _ _ bA cm))⟩
 ·intro dd dg k₁ k₂ cw mD h1 h2 g1 g2 e
  rw[fU,Trie.b9] at h1 h2
  rw[ka] at g1 g2
  by_cases e1:dd=id
  ·by_cases e2:dg=id
   ·rw[e1,e2]
   ·rw[if_pos e1] at g1;rw[if_neg e2] at g2 h2
    cases g1
    exact absurd e.symm (oZ _ _ _ h2 g2)
  ·rw[if_neg e1] at g1 h1
   by_cases e2:dg=id
   ·rw[if_pos e2] at g2
    cases g2
    exact absurd e (oZ _ _ _ h1 g1)
   ·rw[if_neg e2] at g2 h2
    exact h.inj dd dg _ _ _ _ h1 h2 g1 g2 e
 ·intro b' bA
  rw[lK] at bA
  rw[ka]
  rw[if_neg (by omega)]
  exact h.fresh b' (by omega)
 ·intro b' l' bA
  rw[ka] at bA
  by_cases e:b'=id
  ·rw[if_pos e] at bA;cases bA;exact hc
  ·rw[if_neg e] at bA;exact Nat.lt_of_lt_of_le (h.valid b' l' bA) bk
 ·intro b' l' bA
  rw[ka] at bA
  by_cases e:b'=id
  ·exact .inr (.inr e)
  ·rw[if_neg e] at bA;exact .inl bA
theorem aW.alloc [Env] (h:R ρ σ w) {id:Nat} (cg:ρ id=none) {k:bU} {o:Obj} {w':World} {N:Nat} (hw:w'.heap=w.heap.push o) (ho:w'.os=w.os) (ht:w'.tape=w.tape) (hp:w'.output=w.output)
  (cE:fN (jb ρ id ⟨w.heap.size,0,N⟩) w' ⟨w.heap.size,0,N⟩ k):
  aW (fun b=>b=id) ρ σ w (jb ρ id ⟨w.heap.size,0,N⟩) (σ.new id k) w':=by
 rcases aW.new (l:=⟨w.heap.size,0,N⟩) h cg (w':=w') (by rw[hw];simp) (by rw[hw];simp) (fun c hc _=>by rw[hw,Array.getElem?_push,if_neg (by omega)]) ho ht hp
  (fun b k l' hb hl=>by have:=h.valid b l' hl;simp only[ne_eq];omega) cE with h' | h'
 ·exact h'
 ·simp at h'
theorem aW.abW [Env] (h:R ρ σ w) {id b:Nat} (cg:ρ id=none) {k kb:bU} {cx l:Loc} (sY:σ.heap.get b=some kb) (pD:kb.j9=true) (jX:ρ b=some cx) (Hp:l.c=cx.c) {w':World}
  (bk:w'.heap.size=w.heap.size) (pE:∀c,c≠l.c→w'.heap[c]? =w.heap[c]?) (ho:w'.os=w.os) (ht:w'.tape=w.tape) (hp:w'.output=w.output) (cE:fN (jb ρ id l) w' l k):
  aW (fun b=>b=id) ρ σ w (jb ρ id l) ((σ.kill b).new id k) w':=by
 have bS:b≠id:=fun e=>by rw[e,cg] at jX;cases jX
 have key:∀b' k₁,((σ.kill b).new id k).heap.get b'=some k₁→b'≠id→σ.heap.get b'=some k₁∧b'≠b:=by
  intro b' k₁ bA e
  rw[fU,Trie.b9,if_neg e,l9,Trie.b9] at bA
  by_cases e':b'=b
  ·rw[if_pos e'] at bA;cases bA
  ·rw[if_neg e'] at bA;exact⟨bA,e'⟩
 have lb:((σ.kill b).new id k).heap.get id=some k:=by rw[fU,Trie.b9,if_pos rfl]
 have Nl:∀b' k₁,((σ.kill b).new id k).heap.get b'=some k₁→(∃k',σ.heap.get b'=some k')∨σ.next≤b'∨b'=id:=by
  intro b' k₁ bA
  by_cases e:b'=id
  ·exact .inr (.inr e)
  ·exact .inl ⟨_,(key b' k₁ bA e).1⟩
 have mC:∀c,c<w.heap.size→¬Wr ρ σ c→w'.heap[c]? =w.heap[c]? :=fun c _ hn=>pE c fun e=>hn ⟨b,kb,cx,sY,pD,jX,(e.trans Hp).symm⟩
 have ma:∀c,c<w.heap.size→Wr (jb ρ id l) ((σ.kill b).new id k) c→Wr ρ σ c:=by
  rintro c fu ⟨b',k₁,l',h1,h2,h3,h4⟩
  rw[ka] at h3
  by_cases e:b'=id
  ·rw[if_pos e] at h3;cases h3
   exact⟨b,kb,cx,sY,pD,jX,Hp.symm.trans h4⟩
  ·rw[if_neg e] at h3
   exact⟨b',k₁,l',(key b' k₁ h1 e).1,h2,h3,h4⟩
 refine⟨⟨?_,?_,?_,?_,h.rN rfl mC ma,h.laid⟩,hJ ρ l cg,by simp;omega,?_,by omega,ho,ht,hp,mC,ma,Nl,fun _ _ _ h=>.inl h⟩
 ·intro b' k₁ bA
  by_cases e:b'=id
  ·subst e
   rw[lb] at bA;cases bA
   exact⟨l,fV _ _ _,cE⟩
  ·obtain⟨hg,hb⟩:=key b' k₁ bA e
   obtain⟨l',cm,eV⟩:=h.di b' k₁ hg
   exact⟨l',hJ ρ l cg _ _ cm,eV.same (hJ ρ l cg) (pE _ fun ec=>hb (h.inj b' b _ _ _ _ hg sY cm jX (ec.trans Hp)))⟩
 ·intro dd dg k₁ k₂ cw mD h1 h2 g1 g2 e
  rw[ka] at g1 g2
  by_cases e1:dd=id
  ·by_cases e2:dg=id
   ·rw[e1,e2]
   ·rw[if_pos e1] at g1;rw[if_neg e2] at g2
    cases g1
    obtain⟨hg,hb⟩:=key dg k₂ h2 e2
    exact absurd (h.inj dg b _ _ _ _ hg sY g2 jX (e.symm.trans Hp)) hb
  ·rw[if_neg e1] at g1
   obtain⟨pF,Xk⟩:=key dd k₁ h1 e1
   by_cases e2:dg=id
   ·rw[if_pos e2] at g2
    cases g2
    exact absurd (h.inj dd b _ _ _ _ pF sY g1 jX (e.trans Hp)) Xk
   ·rw[if_neg e2] at g2
    obtain⟨hg2,_⟩:=key dg k₂ h2 e2
    exact h.inj dd dg _ _ _ _ pF hg2 g1 g2 e
 ·intro b' bA
  rw[lK,vj] at bA
  rw[ka]
  rw[if_neg (by omega)]
  exact h.fresh b' (by omega)
 ·intro b' l' bA
  rw[ka] at bA
  by_cases e:b'=id
  ·rw[if_pos e] at bA;cases bA;rw[bk,Hp];exact h.valid _ _ jX
  ·rw[if_neg e] at bA;rw[bk];exact h.valid b' l' bA
 ·intro b' l' bA
  rw[ka] at bA
  by_cases e:b'=id
  ·exact .inr (.inr e)
  ·rw[if_neg e] at bA;exact .inl bA
theorem R.cells [Env] (h:R ρ σ w) {b n:Nat} {z:List V} {t:Trie V} {p ro:Bool} (hb:σ.heap.get b=some (.cells n z t p ro)) {l:Loc} (hl:ρ b=some l):
  (∃ty,w.shape? l.c=some (ty,l.N))∧l.o+n≤l.N∧(∀i v,cellOf n z t i=some v→∃x,w.cell? ⟨l.c,l.o+i,none⟩=some x∧au ρ v x)∧
  (ro=false→∀i,i<l.N→w.frozen? ⟨l.c,i,none⟩=false)∧(p=true→∀i,w.frozen? ⟨l.c,i,none⟩=false):=by
 obtain⟨l',cm,hk⟩:=h.di b _ hb
 rw[hl] at cm;cases cm
 cases hk with
 | cells hs hn hv hf hp=>exact⟨hs,hn,hv,hf,hp⟩
theorem R.cell [Env] (h:R ρ σ w) {b off:Nat} {v:V} (hv:σ.cell b off=some v) {l:Loc} (hl:ρ b=some l):∃x,w.cell? ⟨l.c,l.o+off,none⟩=some x∧au ρ v x:=by
 unfold St.cell at hv
 split at hv
 ·rename_i n z t p ro hb
  exact(h.cells hb hl).2.2.1 off v hv
 ·cases hv
theorem lL {w:World} {c i N:Nat} {ty:TypeId} (h:w.shape? c=some (ty,N)) (hi:i<N):(w.cell? ⟨c,i,none⟩).isSome=true:=by
 unfold World.shape? at h
 unfold World.cell?
 split at h
 ·rename_i cs e fz heq
  simp only[Option.some.injEq,Prod.mk.injEq] at h
  obtain⟨_,rfl⟩:=h
  simp [heq,hi]
 ·cases h
theorem gR [Env] {n:Nat} {z:List V} {t:Trie V}:∀(k off:Nat) {vs:List V},cellsOf n z t k off=some vs→vs.length=k∧∀i v,vs[i]? =some v→cellOf n z t (off+i)=some v:=by
 intro k
 induction k with
 | zero=>
  intro off vs h
  have h':some []=some vs:=h
  cases h'
  exact⟨rfl,fun i v hv=>by simp at hv⟩
 | succ k ih=>
  intro off vs h
  obtain⟨v,r,h1,h2,rfl⟩:=oY (x:=cellOf n z t off) (l:=cellsOf n z t k ((off+1))) h
  obtain⟨hlen,cH⟩:=ih _ h2
  refine⟨by simp [hlen],fun i u hu=>?_⟩
  cases i with
  | zero=>simp at hu;subst hu;exact h1
  | succ i=>have:=cH i u (by simpa using hu);rwa [show(off+1)+i=off+(i+1) by omega] at this
theorem eJ (c o i:Nat):(⟨c,o,none⟩:Addr).add i=⟨c,o+i,none⟩:=by
 unfold Addr.add
 split
 ·rename_i h;subst h;rfl
 ·rfl
theorem R.loadCells [Env] {P:Program} (h:R ρ σ w) {b off k:Nat} {vs:List V} (hv:σ.cells b off k=some vs) {l:Loc} (hl:ρ b=some l):
  ∃xs:List Value,(∀aL:World,aL.heap=w.heap→(loadCells ⟨l.c,l.o+off,none⟩ k).run P aL=.ok ⟨xs⟩ aL)∧ay ρ vs xs∧xs.length=k:=by
 unfold St.cells at hv
 split at hv
 ·rename_i n z t p ro hb
  obtain⟨hlen,cH⟩:=gR _ _ hv
  have hc:=(h.cells hb hl).2.2.1
  have key:∀(vs:List V) (o:Nat),(∀i v,vs[i]? =some v→∃x,w.cell? ⟨l.c,o+i,none⟩=some x∧au ρ v x)→
    ∃xs:List Value,ay ρ vs xs∧∀i x,xs[i]? =some x→w.cell? ⟨l.c,o+i,none⟩=some x:=by
   intro vs
   induction vs with
   | nil=>intro o _;exact⟨[],.nil,fun i x hx=>by simp at hx⟩
   | cons v vs ih=>
    intro o hh
    obtain⟨x,hx,hr⟩:=hh 0 v rfl
    obtain⟨xs,mF,cH⟩:=ih (o+1) (fun i v hv=>by
     obtain⟨x,hx,hr⟩:=hh (i+1) v (by simpa using hv)
     exact⟨x,by rwa [show o+(i+1)=o+1+i by omega] at hx,hr⟩)
    refine⟨x::xs,.cons hr mF,fun i y hy=>?_⟩
    cases i with
    | zero=>simp at hy;subst hy;exact hx
    | succ i=>have:=cH i y (by simpa using hy);rwa [show o+1+i=o+(i+1) by omega] at this
  obtain⟨xs,mF,fu⟩:=key vs (l.o+off) (fun i v hi=>by
   obtain⟨x,hx,hr⟩:=hc _ _ (cH i v hi)
   exact⟨x,by rwa [show l.o+(off+i)=l.o+off+i by omega] at hx,hr⟩)
  have xh:xs.length=k:=by rw[←mF.length,hlen]
  refine⟨xs,fun aL hw=>?_,mF,xh⟩
  have:=run_loadCells_list (P:=P) aL ⟨l.c,l.o+off,none⟩ xs (fun j x hj=>by rw[eJ,cell?_of_block (w:=w) (by rw[hw])];exact fu j x hj)
  rw[xh] at this
  exact this
 ·cases hv
theorem R.rO [Env] {P:Program} (h:R ρ σ w) {c o:Nat} {xs:List Value} (hi:∀k x,xs[k]? =some x→ρ.aV c (o+k)=some x) (aL:World) (hw:aL.heap=w.heap):
  (Go.loadCells ⟨c,o,none⟩ xs.length).run P aL=.ok ⟨xs⟩ aL:=
 run_loadCells_list (P:=P) aL ⟨c,o,none⟩ xs fun j x hj=>by rw[eJ,cell?_of_block (w:=w) (by rw[hw])];exact(h.aV _ _ _ (hi j x hj)).1
theorem mG:∀(vs:List V) (t:Trie V) (off i:Nat),(ai vs t off).get i=if off≤i∧i<off+vs.length then vs[i-off]? else t.get i:=by
 intro vs
 induction vs with
 | nil=>
  intro t off i
  rw[if_neg (by simp only[List.length_nil];omega)];rfl
 | cons v vs ih=>
  intro t off i
  show(ai vs (t.put off (some v)) ((off+1))).get i=_
  rw[ih,Trie.b9]
  by_cases h:i=off
  ·subst h
   rw[if_neg (by omega),if_pos rfl,if_pos (by simp)]
   simp
  ·by_cases h':off≤i∧i<off+(v::vs).length
   ·rw[if_pos h',if_pos (by simp at h';omega)]
    rw[show i-off=(i-(off+1))+1 by omega,List.getElem?_cons_succ]
   ·rw[if_neg h',if_neg (by simp at h'⊢;omega),if_neg h]
theorem B1 {n:Nat} {z:List V} {t:Trie V} {i:Nat} {v:V} (h:cellOf n z t i=some v):i<n:=by
 unfold cellOf at h
 cases hb:Nat.blt i n with
 | true=>rw[Nat.blt_eq] at hb;exact hb
 | false=>simp [hb] at h
theorem gx [Env] {n:Nat} {z:List V} {t:Trie V} {vs:List V} {off i:Nat} {v:V} (h:cellOf n z (ai vs t off) i=some v):
  (off≤i∧i<off+vs.length∧vs[i-off]? =some v)∨((i<off∨off+vs.length≤i)∧cellOf n z t i=some v):=by
 have bE:=B1 h
 unfold cellOf at h⊢
 have hb:Nat.blt i n=true:=by rw[Nat.blt_eq];exact bE
 simp only[hb] at h⊢
 rw[mG] at h
 by_cases hi:off≤i∧i<off+vs.length
 ·rw[if_pos hi] at h
  have:∃u,vs[i-off]? =some u:=⟨vs[i-off]'(by omega),List.getElem?_eq_getElem _⟩
  obtain⟨u,hu⟩:=this
  rw[hu] at h
  simp only[Option.some.injEq] at h
  subst h
  exact .inl ⟨hi.1,hi.2,hu⟩
 ·rw[if_neg hi] at h
  exact .inr ⟨by omega,h⟩
theorem hZ (c:Nat):∀(vs:List Value) (o:Nat) (w:World) (c':Nat),c'≠c→(w.setCells c o vs).heap[c']? =w.heap[c']?
 | [],_,_,_,_=>rfl
 | v::r,o,w,c',h=>by
  rw[World.setCells,hZ c r (o+1) _ c' h]
  simp only[World.setCell,Array.getElem?_modify]
  rw[if_neg (by omega)]
theorem lF (c:Nat):∀(vs:List Value) (o:Nat) (w:World),(w.setCells c o vs).heap.size=w.heap.size
 | [],_,_=>rfl
 | v::r,o,w=>by rw[World.setCells,lF c r];simp [World.setCell]
theorem lG (c:Nat):∀(vs:List Value) (o:Nat) (w:World),(w.setCells c o vs).os=w.os∧(w.setCells c o vs).tape=w.tape∧(w.setCells c o vs).output=w.output
 | [],_,_=>⟨rfl,rfl,rfl⟩
 | v::r,o,w=>by rw[World.setCells];exact lG c r (o+1) _
theorem kJ (c:Nat):∀(vs:List Value) (o:Nat) (w:World) (c':Nat),(w.setCells c o vs).shape? c'=w.shape? c'
 | [],_,_,_=>rfl
 | v::r,o,w,c'=>by
  rw[World.setCells,kJ c r]
  unfold World.shape? World.setCell
  simp only[Array.getElem?_modify]
  by_cases h:c=c'
  ·subst h
   rw[if_pos rfl]
   cases w.heap[c]? with
   | none=>rfl
   | some k=>cases k<;>simp
  ·rw[if_neg h]
theorem R.store [Env] {P:Program} {ids:Nat→Prop} (h:R ρ σ w) {b off:Nat} {vs:List V} {σ':St} (aF:σ.store b off vs=some σ') {l:Loc} (hl:ρ b=some l) {xs:List Value} (hx:ay ρ vs xs):
  ∃w',(storeCells ⟨l.c,l.o+off,none⟩ xs).run P w=.ok () w'∧aW ids ρ σ w ρ σ' w':=by
 unfold St.store at aF
 split at aF
 ·rename_i n z t p hb
  unfold Hl at aF
  cases hc:(Nat.ble (Nat.add off (len vs)) n&&hY V.scalar vs) with
  | false=>rw[hc] at aF;cases aF
  | true=>
   rw[hc] at aF
   simp only[Option.some.injEq] at aF
   subst aF
   rw[Bool.and_eq_true,pr,aP] at hc
   obtain⟨hle,oI⟩:=hc
   have hle:off+vs.length≤n:=Nat.le_of_ble_eq_true hle
   obtain⟨⟨ty,hs⟩,hn,hv,hf,hp⟩:=h.cells hb hl
   have hlen:=hx.length
   have lH:∀j,j<xs.length→(w.cell? ⟨l.c,l.o+off+j,none⟩).isSome=true:=fun j hj=>lL hs (by omega)
   refine⟨w.setCells l.c (l.o+off) xs,?_,?_⟩
   ·have:=run_storeCells_cells (P:=P) l.c (l.o+off) xs 0 w (by simpa using lH)
     (fun j hj=>by simpa using hf rfl (l.o+off+j) (by omega)) (hx.rJ oI)
    simpa using this
   ·obtain⟨r1,r2,r3⟩:=lG l.c xs (l.o+off) w
    refine aW.set h hb hl rfl (lF _ _ _ _) (fun c hc=>hZ _ _ _ _ _ hc) r1 r2 r3 ?_
    refine .cells ⟨ty,by rw[kJ];exact hs⟩ hn (fun i v hi=>?_) (fun iy i hi=>by rw[World.frozen?_setCells];exact hf iy i hi) (fun rM i=>by rw[World.frozen?_setCells];exact hp rM i)
    rcases gx hi with ⟨h1,h2,h3⟩ | ⟨h1,h2⟩
    ·obtain⟨x,cS,hr⟩:=hx.get _ h3
     refine⟨x,?_,hr⟩
     have hj:i-off<xs.length:=by omega
     have:=World.cell?_setCells_in l.c xs (l.o+off) w lH (i-off) hj
     rw[show l.o+off+(i-off)=l.o+i by omega] at this
     rw[this]
     rw[List.getElem?_eq_getElem hj] at cS
     exact cS
    ·obtain⟨x,cS,hr⟩:=hv i v h2
     refine⟨x,?_,hr⟩
     rw[World.cell?_setCells_out l.c xs (l.o+off) w _ (fun _ _=>by simp;omega)]
     exact cS
 ·cases aF
theorem sZ [Env] {cs:List V} {p:Nat→Value→Prop} (h:∀k v,cs[k]? =some v→∃x,p k x∧au ρ v x):∃xs:List Value,ay ρ cs xs∧∀(k:Nat) x,xs[k]? =some x→p k x:=by
 induction cs generalizing p with
 | nil=>exact⟨[],.nil,fun k x hx=>by simp at hx⟩
 | cons v cs ih=>
  obtain⟨x,hx,hr⟩:=h 0 v rfl
  obtain⟨xs,mF,cH⟩:=ih (p:=fun k=>p (k+1)) fun k v hv=>h (k+1) v (by simpa using hv)
  refine⟨x::xs,.cons hr mF,fun k y hy=>?_⟩
  cases k with
  | zero=>simp at hy;subst hy;exact hx
  | succ k=>exact cH k y (by simpa using hy)
theorem R.fH [Env] (h:R ρ σ w) {b i esz:Nat} {cs:List V} (hc:σ.jy b i esz=some cs) {l:Loc} (hl:ρ b=some l):
  cs.length=esz∧∃xs:List Value,ay ρ cs xs∧∀(k:Nat) x,xs[k]? =some x→w.cell? ⟨l.c,l.o+(i*esz+k),none⟩=some x:=by
 unfold St.jy at hc
 split at hc
 ·rename_i n f z p hb
  split at hc
  ·rename_i hi
   obtain⟨hi,rfl⟩:=hi
   cases hc
   obtain⟨l',cm,hk⟩:=h.di b _ hb
   rw[hl] at cm;cases cm
   cases hk with
   | row hs hn hu hv hf hp=>exact⟨hu i hi,sZ fun k v hk=>hv i hi k v hk⟩
  ·cases hc
 ·cases hc
theorem CI {u v:V} {esz off:Nat} (hu:u.cells.length=esz) (h:off+v.cells.length≤esz):(rF u esz off v).cells=u.cells.take off++(v.cells++u.cells.drop (off+v.cells.length)):=by
 unfold rF
 rw[aP]
 split
 ·rename_i hb
  have hb:=Nat.eq_of_beq_eq_true hb
  have:off=0:=by omega
  subst this
  rw[List.take_zero,List.nil_append,Nat.zero_add,List.drop_eq_nil_of_le (by omega),List.append_nil]
 ·show app _ _=_
  rw[fi,fi,dW,er];rfl
theorem Hq (f:Nat→V) (i:Nat) (v:V) (j:Nat):e9 f i v j=if j=i then v else f j:=by
 unfold e9
 cases h:Nat.beq j i with
 | true=>rw[if_pos (Nat.eq_of_beq_eq_true h)]
 | false=>rw[if_neg fun e=>by subst e;rw[Nat.beq_refl] at h;cases h]
theorem lM {i n e k:Nat} (h:i<n) (hk:k≤e):i*e+k≤n*e:=by
 have:(i+1)*e≤n*e:=Nat.mul_le_mul_right e h
 rw[Nat.add_mul,Nat.one_mul] at this
 omega
theorem R.j5 [Env] {P:Program} {ids:Nat→Prop} (h:R ρ σ w) {b i esz off:Nat} {v:V} {σ':St} (aF:σ.j5 b i esz off v=some σ') {l:Loc} (hl:ρ b=some l) {x:Value} (hvx:au ρ v x):
  ∃w',(storeCells ⟨l.c,l.o+(i*esz+off),none⟩ x.cells.toList).run P w=.ok () w'∧aW ids ρ σ w ρ σ' w':=by
 unfold St.j5 at aF
 split at aF
 ·rename_i n f z p hb
  split at aF
  ·rename_i hi
   obtain⟨hi,rfl⟩:=hi
   cases hc:(Nat.ble (Nat.add off (len v.cells)) z&&hY V.scalar v.cells) with
   | false=>rw[hc] at aF;cases aF
   | true=>
    rw[hc] at aF
    simp only[Option.some.injEq] at aF
    subst aF
    rw[Bool.and_eq_true,pr,aP] at hc
    obtain⟨hle,oI⟩:=hc
    have hle:off+v.cells.length≤z:=Nat.le_of_ble_eq_true hle
    obtain⟨l',cm,hk⟩:=h.di b _ hb
    rw[hl] at cm;cases cm
    cases hk with
    | row hs hn hu hv hf hp=>
     obtain⟨ty,hs⟩:=hs
     have hx:=hvx.cells
     have hlen:=hx.length
     have ek:=lM hi hle
     have lH:∀j,j<x.cells.toList.length→(w.cell? ⟨l.c,l.o+(i*z+off)+j,none⟩).isSome=true:=fun j hj=>lL hs (by omega)
     refine⟨w.setCells l.c (l.o+(i*z+off)) x.cells.toList,?_,?_⟩
     ·have:=run_storeCells_cells (P:=P) l.c (l.o+(i*z+off)) x.cells.toList 0 w (by simpa using lH)
       (fun j hj=>by simpa using hf (l.o+(i*z+off)+j) (by omega)) (hx.rJ oI)
      simpa using this
     ·obtain⟨r1,r2,r3⟩:=lG l.c x.cells.toList (l.o+(i*z+off)) w
      have hE:=CI (u:=f i) (v:=v) (off:=off) (hu i hi) hle
      refine aW.set h hb hl rfl (lF _ _ _ _) (fun c hc=>hZ _ _ _ _ _ hc) r1 r2 r3 ?_
      refine .row ⟨ty,by rw[kJ];exact hs⟩ hn (fun j hj=>?_) (fun j hj k u hk=>?_) (fun i hi=>by rw[World.frozen?_setCells];exact hf i hi) (fun rM i=>by rw[World.frozen?_setCells];exact hp rM i)
      ·rw[Hq]
       split
       ·rw[hE]
        have:=hu i hi
        simp only[List.length_append,List.length_take,List.length_drop]
        omega
       ·exact hu j hj
      ·rw[Hq] at hk
       have out:∀u k,(f j).cells[k]? =some u→(j≠i∨k<off∨off+v.cells.length≤k)→∃y,(w.setCells l.c (l.o+(i*z+off)) x.cells.toList).cell? ⟨l.c,l.o+(j*z+k),none⟩=some y∧au ρ u y:=by
        intro u k hk afn
        obtain⟨y,hy,hr⟩:=hv j hj k u hk
        have hkz:k<z:=by rw[←hu j hj];exact(List.getElem?_eq_some_iff.1 hk).1
        refine⟨y,?_,hr⟩
        rw[World.cell?_setCells_out l.c x.cells.toList (l.o+(i*z+off)) w _ (fun _ _=>?_)]
        ·exact hy
        ·dsimp only
         by_cases Hr:j=i
         ·subst Hr
          rcases afn with h | h | h
          ·exact absurd rfl h
          ·omega
          ·omega
         ·rcases Nat.lt_or_gt_of_ne Hr with h | h
          ·have:=lM (e:=z) h (Nat.le_refl z);omega
          ·have:=lM (e:=z) h (Nat.le_refl z);omega
       by_cases Hr:j=i
       ·subst Hr
        rw[if_pos rfl,hE] at hk
        have huj:=hu j hj
        by_cases k1:k<off
        ·rw[List.getElem?_append_left (by rw[List.length_take];omega),List.getElem?_take,if_pos k1] at hk
         exact out u k hk (.inr (.inl k1))
        ·rw[List.getElem?_append_right (by rw[List.length_take];omega),List.length_take,Nat.min_eq_left (by omega)] at hk
         by_cases k2:k-off<v.cells.length
         ·rw[List.getElem?_append_left k2] at hk
          obtain⟨y,hy,hr⟩:=hx.get _ hk
          refine⟨y,?_,hr⟩
          have gS:k-off<x.cells.toList.length:=by omega
          have:=World.cell?_setCells_in l.c x.cells.toList (l.o+(j*z+off)) w lH (k-off) gS
          rw[show l.o+(j*z+off)+(k-off)=l.o+(j*z+k) by omega] at this
          rw[this]
          rw[List.getElem?_eq_getElem gS] at hy
          exact hy
         ·rw[List.getElem?_append_right (by omega),List.getElem?_drop,show off+v.cells.length+(k-off-v.cells.length)=k by omega] at hk
          exact out u k hk (.inr (.inr (by omega)))
       ·rw[if_neg Hr] at hk
        exact out u k hk (.inl Hr)
  ·cases aF
 ·cases aF
theorem aW.wJ [Env] {ids:Nat→Prop} {bT:aA} {σ₀:St} {fx:World} (h:aW ids bT σ₀ fx ρ σ w) {b n esz:Nat} {f:Nat→V} {z:List V} {t:Trie V} {p:Bool} (hb:σ.heap.get b=some (.cells (n*esz) z t p false))
  (hu:∀i,i<n→(f i).cells.length=esz) (hc:∀i,i<n→∀k v,(f i).cells[k]? =some v→cellOf (n*esz) z t (i*esz+k)=some v)
  {σ':St} (Nm:∀b',σ'.heap.get b'=if b'=b then some (.row n f esz p) else σ.heap.get b') (hn:σ'.next=σ.next):aW ids bT σ₀ fx ρ σ' w:=by
 have hd:∀b' k,σ'.heap.get b'=some k→∃k',σ.heap.get b'=some k':=by
  intro b' k hk
  rw[Nm] at hk
  by_cases e:b'=b
  ·subst e;exact⟨_,hb⟩
  ·rw[if_neg e] at hk;exact⟨_,hk⟩
 have ma:∀c,Wr ρ σ' c→Wr ρ σ c:=by
  rintro c ⟨b',k,l,h1,_,h3,h4⟩
  obtain⟨k',ew⟩:=hd b' k h1
  exact⟨b',k',l,ew,rfl,h3,h4⟩
 refine⟨⟨fun b' k hk=>?_,fun dd dg k₁ k₂ cw mD h1 h2=>?_,fun b' bA=>h.r.fresh b' (by rw[←hn];exact bA),h.r.valid,fun c o x hx=>⟨(h.r.aV c o x hx).1,fun hw=>(h.r.aV c o x hx).2 (ma c hw)⟩,h.r.laid⟩,
  h.le,by rw[hn];exact h.next,h.jn,h.size,h.os,h.tape,h.output,h.aQ,fun c hc hw=>h.wr c hc (ma c hw),fun b' k hk=>?_,h.hH⟩
 ·rw[Nm] at hk
  by_cases e:b'=b
  ·subst e
   rw[if_pos rfl] at hk
   cases hk
   obtain⟨l,hl,cE⟩:=h.r.di _ _ hb
   refine⟨l,hl,?_⟩
   cases cE with
   | cells hs hn hv hf hp=>exact .row hs hn hu (fun i hi k v hk=>hv _ _ (hc i hi k v hk)) (hf rfl) hp
  ·rw[if_neg e] at hk;exact h.r.di b' k hk
 ·obtain⟨CY,ew⟩:=hd _ _ h1
  obtain⟨abX,pG⟩:=hd _ _ h2
  exact h.r.inj _ _ _ _ _ _ ew pG
 ·obtain⟨k',eV⟩:=hd _ _ hk
  exact h.jC b' k' eV
end
end Go.Ev
end
section
namespace Go.Ev
open Go
theorem bw.ar.bind {α β:Type} {p:β→Prop} {r:bw α} {f:α→bw β} (h:(r.bind f).ar p):r.ar fun a=>(f a).ar p:=by
 induction r with
 | ok a=>exact h
 | fail w=>exact h
 | pick n k ih=>exact⟨h.1,fun i hi=>ih i (h.2 i hi)⟩
 | tr C hm he=>exact h
theorem bw.ar.dk {α β:Type} {p:β→Prop} {r:bw α} {f:α→bw β} (h:r.ar fun a=>(f a).ar p):(r.bind f).ar p:=by
 induction r with
 | ok a=>exact h
 | fail w=>exact h
 | pick n k ih=>exact⟨h.1,fun i hi=>ih i (h.2 i hi)⟩
 | tr C hm he=>exact h
theorem bw.GK {n:Nat} {p:Nat→Bool} (h:bw.rE n p=true) {i:Nat} (hi:i<n):p i=true:=by
 induction n with
 | zero=>omega
 | succ n ih=>
  simp only[bw.rE,Bool.and_eq_true] at h
  by_cases e:i=n
  ·subst e;exact h.2
  ·exact ih h.1 (by omega)
theorem bw.nm {α:Type} {p:α→Bool} {r:bw α} (h:r.check p=true):r.ar fun a=>p a=true:=by
 induction r with
 | ok a=>exact h
 | fail w=>cases h
 | pick n k ih=>
  have h':(Nat.blt 0 n&&bw.rE n fun i=>(k i).check p)=true:=h
  rw[Bool.and_eq_true,Nat.blt_eq] at h'
  exact⟨h'.1,fun i hi=>ih i (bw.GK h'.2 hi)⟩
 | tr C hm he=>cases h
def DK [Env] (P:Program) (s:Sem Next) (id:Nat) (ρ:aA) (σ:St) (w:World) (p:V×St→Prop):Prop:=
 ∃v σ' ρ' v' w',p (v,σ')∧au ρ' v v'∧aW (fun b=>b=id) ρ σ w ρ' σ' w'∧
  (s.run P w=.ok (.value v') w'∨(v'=undef∧s.run P w=.ok .skip w'))
section
variable {P:Program} {ρ:aA} {σ:St} {w:World} {id:Nat} {p:V×St→Prop}
theorem DK.value [Env] {s:Sem Next} (hr:R ρ σ w) {v:V} {v':Value} (hp:p (v,σ)) (hv:au ρ v v') (h:s.run P w=.ok (.value v') w):DK P s id ρ σ w p:=
 ⟨v,σ,ρ,v',w,hp,hv,aW.refl hr,.inl h⟩
theorem dp {gz:String} {x:Option V} (h:(aQ σ gz x).ar p):∃v,x=some v∧p (v,σ):=by
 cases x with
 | none=>exact h.elim
 | some v=>exact⟨v,rfl,h⟩
theorem cX {gz:String} {x:Option V} {k:V→VS} (h:(eH gz x k).ar p):∃v,x=some v∧(k v).ar p:=by
 cases x with
 | none=>exact h.elim
 | some v=>exact⟨v,rfl,h⟩
theorem gT {gz:String} {x y:Option V} {k:V→V→VS} (h:(m6 gz x y k).ar p):∃v u,x=some v∧y=some u∧(k v u).ar p:=by
 cases x with
 | none=>exact h.elim
 | some v=>cases y with
  | none=>exact h.elim
  | some u=>exact⟨v,u,rfl,rfl,h⟩
theorem run_typeInfo {t:TypeId} {i:TypeInfo} (h:P.info? t=some i):(typeInfo t).run P w=.ok i w:=by simp [typeInfo,h]
theorem run_underlying {t:TypeId} {d:TypeDesc} (h:P.underlying t=some d):(underlying t).run P w=.ok d w:=by simp [underlying,h]
theorem bB [Env] {t:TypeId} {n:Nat} (h:bV P t=some n):(sizeOf t).run P w=.ok n w:=by
 unfold bV at h
 rw[Option.map_eq_some_iff] at h
 obtain⟨i,hi,rfl⟩:=h
 simp [sizeOf,run_typeInfo hi]
theorem s6 {t:TypeId} {n:Nat} (h:jL P t=some n):∃i,P.info? t=some i∧i.bytes=n:=by
 unfold jL at h
 rw[Option.map_eq_some_iff] at h
 exact h
theorem fy [Env] {t:TypeId} {b:Bool} (h:sH P t=some b):(isAgg t).run P w=.ok b w:=by
 unfold sH at h
 unfold isAgg
 cases hu:P.underlying t with
 | none=>simp [hu] at h
 | some d=>
  simp only[Sem.run_bind,run_underlying hu,Result.andThen_ok]
  rw[hu] at h
  cases d<;>simp at h<;>subst h<;>rfl
theorem gU [Env] {t:TypeId} {z:V} (h:gF P t=some z) (ρ:aA):∃zv,(∀w,(zeroValue t).run P w=.ok zv w)∧au ρ z zv:=by
 unfold gF at h
 rw[Option.bind_eq_some_iff] at h
 obtain⟨zv,h1,h2⟩:=h
 rw[Option.bind_eq_some_iff] at h1
 obtain⟨i,hi,hz⟩:=h1
 exact⟨zv,fun w=>by simp [zeroValue,run_typeInfo hi,hz],nO ρ zv h2⟩
theorem B2 [Env] (hr:R ρ σ w) {t:TypeId} {x v:V} {x':Value} (hx:au ρ x x') (h:eC P σ t x=some v):∃v',(Instr.loadAt t x').run P w=.ok v' w∧au ρ v v'∧∃a,x'=.pointer (some a)∧(loadVar t a).run P w=.ok v' w:=by
 unfold eC at h
 split at h
 ·rename_i b off n gy bk
  cases hx with
  | ptr hl=>
   rw[Option.map_eq_some_iff] at h
   obtain⟨vs,gA,rfl⟩:=h
   obtain⟨xs,yH,aO,_⟩:=hr.loadCells (P:=P) gA hl
   have aE:=yH w rfl
   refine⟨.agg ⟨xs⟩,?_,.agg aO,_,rfl,?_⟩
   ·simp [Instr.loadAt,Instr.sureAddr,loadVar,fy gy,bB bk,aE]
   ·simp [loadVar,fy gy,bB bk,aE]
 ·rename_i b off gy
  cases hx with
  | ptr hl=>
   obtain⟨x,hc,aO⟩:=hr.cell h hl
   refine⟨x,?_,aO,_,rfl,?_⟩
   ·simp [Instr.loadAt,Instr.sureAddr,loadVar,fy gy,hc]
   ·simp [loadVar,fy gy,hc]
 ·rename_i cs off n gy bk
  cases hx with
  | aU hx hi=>
   rename_i c o xs
   split at h
   ·rename_i hle
    cases h
    rw[aP] at hle
    have hle:off+n≤cs.length:=Nat.le_of_ble_eq_true hle
    have hlen:=hx.length
    rw[dW,er]
    have hl:((xs.drop off).take n).length=n:=by simp;omega
    have aE:∀aL:World,aL.heap=w.heap→(loadCells ⟨c,o+off,none⟩ n).run P aL=.ok ⟨(xs.drop off).take n⟩ aL:=fun aL hw=>by
     have:=hr.rO (P:=P) (c:=c) (o:=o+off) (xs:=(xs.drop off).take n) (fun k x hk=>by
      rw[Nat.add_assoc]
      refine hi (off+k) x ?_
      rw[List.getElem?_take] at hk
      split at hk
      ·rw[List.getElem?_drop] at hk;exact hk
      ·cases hk) aL hw
     rwa [hl] at this
    refine⟨.agg ⟨(xs.drop off).take n⟩,?_,.agg ((hx.drop off).take n),_,rfl,?_⟩
    ·simp [Instr.loadAt,Instr.sureAddr,loadVar,fy gy,bB bk,aE w rfl]
    ·simp [loadVar,fy gy,bB bk,aE w rfl]
   ·cases h
 ·rename_i cs off gy
  cases hx with
  | aU hx hi=>
   rename_i c o xs
   rw[ea] at h
   obtain⟨x,cS,aO⟩:=hx.get _ h
   have hc:w.cell? ⟨c,o+off,none⟩=some x:=(hr.aV _ _ _ (hi off x cS)).1
   refine⟨x,?_,aO,_,rfl,?_⟩
   ·simp [Instr.loadAt,Instr.sureAddr,loadVar,fy gy,hc]
   ·simp [loadVar,fy gy,hc]
 ·rename_i b i esz off n gy bk
  cases hx with
  | fH hl=>
   rename_i l
   rw[Option.bind_eq_some_iff] at h
   obtain⟨cs,dH,h⟩:=h
   obtain⟨hlen,xs,hx,lH⟩:=hr.fH dH hl
   unfold KD at h
   split at h
   ·rename_i hle
    cases h
    rw[aP] at hle
    have hle:off+n≤cs.length:=Nat.le_of_ble_eq_true hle
    have hlen:=hx.length
    rw[dW,er]
    have Hs:((xs.drop off).take n).length=n:=by simp;omega
    have aE:(loadCells ⟨l.c,l.o+(i*esz+off),none⟩ n).run P w=.ok ⟨(xs.drop off).take n⟩ w:=by
     have:=run_loadCells_list (P:=P) w ⟨l.c,l.o+(i*esz+off),none⟩ ((xs.drop off).take n) (fun j x hj=>by
      rw[eJ,show l.o+(i*esz+off)+j=l.o+(i*esz+(off+j)) by omega]
      refine lH (off+j) x ?_
      rw[List.getElem?_take] at hj
      split at hj
      ·rw[List.getElem?_drop] at hj;exact hj
      ·cases hj)
     rwa [Hs] at this
    refine⟨.agg ⟨(xs.drop off).take n⟩,?_,.agg ((hx.drop off).take n),_,rfl,?_⟩
    ·simp [Instr.loadAt,Instr.sureAddr,loadVar,fy gy,bB bk,aE]
    ·simp [loadVar,fy gy,bB bk,aE]
   ·cases h
 ·rename_i b i esz off gy
  cases hx with
  | fH hl=>
   rename_i l
   rw[Option.bind_eq_some_iff] at h
   obtain⟨cs,dH,h⟩:=h
   obtain⟨hlen,xs,hx,lH⟩:=hr.fH dH hl
   rw[ea] at h
   obtain⟨x,cS,aO⟩:=hx.get _ h
   have hc:w.cell? ⟨l.c,l.o+(i*esz+off),none⟩=some x:=lH off x cS
   refine⟨x,?_,aO,_,rfl,?_⟩
   ·simp [Instr.loadAt,Instr.sureAddr,loadVar,fy gy,hc]
   ·simp [loadVar,fy gy,hc]
 ·cases h
theorem B3 [Env] (hr:R ρ σ w) (cg:ρ id=none) {vs:List V} {xs:List Value} (hx:ay ρ vs xs) {ty:TypeId} {w':World} (hw:w'.heap=w.heap.push (.cells ⟨xs⟩ ty (0,0)))
  (ho:w'.os=w.os) (ht:w'.tape=w.tape) (hp:w'.output=w.output):
  aW (fun b=>b=id) ρ σ w (jb ρ id ⟨w.heap.size,0,xs.length⟩) (newRow σ id vs.length [] (ai vs .leaf 0) true) w':=by
 have lb:w'.heap[w.heap.size]? =some (.cells ⟨xs⟩ ty (0,0)):=by rw[hw];simp
 refine aW.alloc hr cg hw ho ht hp (.cells ⟨ty,?_⟩ (by simp [hx.length]) (fun i v hi=>?_) (fun _ i _=>?_) (fun _ i=>?_))
 ·simp [World.shape?,lb]
 ·rcases gx hi with ⟨_,h2,h3⟩ | ⟨_,h2⟩
  ·obtain⟨x,cS,aO⟩:=hx.get _ h3
   refine⟨x,?_,aO.mono (hJ ρ _ cg)⟩
   simpa [World.cell?,lb] using cS
  ·unfold cellOf at h2
   split at h2
   ·rw[Trie.fw] at h2;simp [ea] at h2
   ·cases h2
 ·simp [World.frozen?,lb]
 ·simp [World.frozen?,lb]
theorem Ht [Env] (hr:R ρ σ w) (cg:ρ id=none) {v:V} {x:Value} (hx:au ρ v x) (e:TypeId) (hp:p (.ptr id 0,newRow σ id (len v.cells) [] (ai v.cells .leaf 0) true)) {s:Sem Next}
  (hs:s.run P w=.ok (.value (.pointer (some ⟨w.heap.size,0,none⟩))) {w with heap:=w.heap.push (.cells x.cells e)}):DK P s id ρ σ w p:=by
 have hc:=hx.cells
 have aF:=B3 hr cg hc (ty:=e) (w':={w with heap:=w.heap.push (.cells x.cells e)}) rfl rfl rfl rfl
 rw[aP] at hp
 exact⟨_,_,_,_,_,hp,.ptr (l:=⟨w.heap.size,0,x.cells.toList.length⟩) (fV _ _ _),aF,.inl (by simpa using hs)⟩
inductive kc [Env] (ρ:aA):List (Nat×V)→List (Nat×Value)→Prop
 | nil:kc ρ [] []
 | cons {i:Nat} {v:V} {x:Value} {l:List (Nat×V)} {l':List (Nat×Value)} (h:au ρ v x) (hl:kc ρ l l'):kc ρ ((i,v)::l) ((i,x)::l')
theorem bD.parts [Env] {a:Act} {a':Go.Act} (h:bD ρ a a') (l:List (Nat×Operand)) {vs:List (Nat×V)} (hv:a.parts l=some vs):kc ρ vs (l.map fun q=>(q.1,a'.eval q.2)):=by
 induction l generalizing vs with
 | nil=>have m8:some []=some vs:=hv;cases m8;exact .nil
 | cons q l ih=>
  obtain⟨v,t,h1,h2,rfl⟩:=oY (x:=wD a q) (l:=a.parts l) hv
  unfold wD at h1
  split at h1
  ·rename_i u hu
   cases h1
   exact .cons (h.eval q.2 hu) (ih h2)
  ·cases h1
theorem Ps (off:Nat):∀(vs:List Value) (k:Nat) (A:List Value),off+k+vs.length≤A.length→
  (vs.zipIdx k).foldl (fun(cs:Array Value) (q:Value×Nat)=>cs.setIfInBounds (off+q.2) q.1) ⟨A⟩=⟨A.take (off+k)++(vs++A.drop (off+k+vs.length))⟩:=by
 intro vs
 induction vs with
 | nil=>intro k A _;simp
 | cons u vs ih=>
  intro k A hA
  simp only[List.length_cons] at hA
  have h1:((⟨A⟩:Array Value).setIfInBounds (off+k) u)=⟨A.set (off+k) u⟩:=by simp
  rw[List.zipIdx_cons,List.foldl_cons,h1,ih (k+1) _ (by simp;omega)]
  congr 1
  apply List.ext_getElem?
  intro i
  simp only[List.getElem?_append,List.length_take,List.length_set,List.getElem?_take,List.getElem?_set,List.getElem?_drop,List.length_cons,List.getElem?_cons]
  grind
theorem xU [Env] {place:Nat→Option (Nat×Nat)}:∀(ps:List (Nat×V)) (yI:List (Nat×Value)) (cs:List V) (l3:List Value) {r:List V},kc ρ ps yI→ay ρ cs l3→
  sI place ps cs=some r→∃r':List Value,Instr.fill place ⟨l3⟩ yI=some ⟨r'⟩∧ay ρ r r':=by
 intro ps
 induction ps with
 | nil=>
  intro yI cs l3 r qB dH h
  cases qB
  have h':some cs=some r:=h
  cases h'
  exact⟨l3,rfl,dH⟩
 | cons q ps ih=>
  intro yI cs l3 r qB dH h
  cases qB with
  | cons hv hl=>
   rename_i i v x l'
   have h':(match nh cs v.cells (place i) with | some yJ=>sI place ps yJ | none=>none)=some r:=h
   cases hf:nh cs v.cells (place i) with
   | none=>rw[hf] at h';cases h'
   | some yJ=>
    rw[hf] at h'
    cases uE:place i with
    | none=>rw[uE] at hf;cases hf
    | some os=>
     obtain⟨off,size⟩:=os
     rw[uE] at hf
     unfold nh at hf
     dsimp only at hf
     cases hb:(Nat.beq (len v.cells) size&&Nat.ble (Nat.add off size) (len cs)) with
     | false=>rw[hb] at hf;cases hf
     | true=>
      rw[hb] at hf
      simp only[Option.some.injEq] at hf
      rw[Bool.and_eq_true,aP,aP] at hb
      have h1:v.cells.length=size:=Nat.eq_of_beq_eq_true hb.1
      have h2:off+size≤cs.length:=Nat.le_of_ble_eq_true hb.2
      have hvc:=hv.cells
      have hvl:x.cells.size=size:=by rw[←h1,hvc.length];simp
      have jo:=dH.length
      subst hf
      rw[fi,fi,dW,er] at h'
      have aO:ay ρ (cs.take off++(v.cells++cs.drop (off+size))) (l3.take off++(x.cells.toList++l3.drop (off+size))):=
       (dH.take off).append (hvc.append (dH.drop _))
      obtain⟨r',gB,ei⟩:=ih l' _ _ hl aO h'
      refine⟨r',?_,ei⟩
      simp only[Instr.fill,uE]
      have pH:(decide (x.cells.size≠size)||decide (off+x.cells.size>(⟨l3⟩:Array Value).size))=false:=by
       simp only[List.size_toArray,Bool.or_eq_false_iff,decide_eq_false_iff_not]
       omega
      rw[pH]
      simp only[Bool.false_eq_true,if_false]
      rw[←gB,←Array.foldl_toList,Array.toList_zipIdx,Ps off x.cells.toList 0 l3 (by simp [hvl];omega)]
      simp [hvl]
end
end Go.Ev
end
section
namespace Go.Ev
open Go
section
variable {P:Program} {ρ:aA} {σ:St} {w:World} {id:Nat} {p:V×St→Prop}
theorem ke [Env] {t:TypeId} {cs:List V} {l3:List Value} {off:Nat} {v:V} (hc:ay ρ cs l3) (h:dT P t cs off=some v):
  ∃v',(∀w,(part t ⟨l3⟩ off).run P w=.ok v' w)∧au ρ v v':=by
 unfold dT at h
 split at h
 ·rename_i n gy bk
  split at h
  ·rename_i hb
   cases h
   refine⟨.agg ⟨(l3.drop off).take n⟩,fun w=>?_,?_⟩
   ·simp only[part,Sem.run_bind,fy gy,Result.andThen_ok,if_true,bB bk,Sem.run_pure]
    congr 2
    simp [List.extract_eq_take_drop]
   ·rw[dW,er]
    exact .agg ((hc.drop off).take n)
  ·cases h
 ·rename_i gy
  rw[ea] at h
  obtain⟨x,hx,hr⟩:=hc.get off h
  refine⟨x,fun w=>?_,hr⟩
  simp [part,fy gy,hx]
 ·cases h
theorem KJ [Env] {fs:List Field} {l:List (Nat×Nat)} (h:places P fs=some l):∀w,(fs.mapM fun f=>(Prod.mk f.offset <$> sizeOf f.type:Sem (Nat×Nat))).run P w=.ok l w:=by
 induction fs generalizing l with
 | nil=>intro w;simp only[places,Option.some.injEq] at h;subst h;rfl
 | cons f fs ih=>
  intro w
  simp only[places] at h
  cases hs:bV P f.type with
  | none=>simp [hs] at h
  | some n=>
   cases hl:places P fs with
   | none=>simp [hs,hl] at h
   | some r=>
    simp only[hs,hl,Option.some.injEq] at h
    subst h
    simp [List.mapM_cons,bB hs,ih hl]
theorem Nn [Env] {t:TypeId} {ps:List (Nat×V)} {yI:List (Nat×Value)} {v:V} (qB:kc ρ ps yI) (h:va P t ps=some v):
  ∃v',(∀w,(Instr.build t ⟨yI⟩).run P w=.ok v' w)∧au ρ v v':=by
 unfold va at h
 split at h
 ·rename_i z fs hz hu
  split at h
  ·rename_i pl uE
   rw[Option.map_eq_some_iff] at h
   obtain⟨cs,dH,rfl⟩:=h
   obtain⟨zv,gC,oa⟩:=gU hz ρ
   obtain⟨r',gB,ei⟩:=xU ps yI z.cells zv.cells.toList qB oa.cells dH
   refine⟨.agg ⟨r'⟩,fun w=>?_,.agg ei⟩
   have hm:(fs.mapM fun f=>(do pure (f.offset,←sizeOf f.type):Sem (Nat×Nat))).run P w=.ok pl.toArray w:=by
    rw[Array.mapM_eq_mapM_toList]
    simp [KJ uE w]
   have afo:(fun i=>(pl.toArray)[i]?)=nth pl:=by funext i;simp [ea]
   simp only[Instr.build,Sem.run_bind,gC,Result.andThen_ok,run_underlying hu,hm]
   rw[afo,gB]
   rfl
  ·cases h
 ·rename_i z n e hz hu
  split at h
  ·rename_i k hk
   rw[Option.map_eq_some_iff] at h
   obtain⟨cs,dH,rfl⟩:=h
   obtain⟨zv,gC,oa⟩:=gU hz ρ
   obtain⟨r',gB,ei⟩:=xU ps yI z.cells zv.cells.toList qB oa.cells dH
   refine⟨.agg ⟨r'⟩,fun w=>?_,.agg ei⟩
   simp only[Instr.build,Sem.run_bind,gC,Result.andThen_ok,run_underlying hu,bB hk]
   rw[gB]
   rfl
  ·cases h
 ·cases h
theorem iz {t e:TypeId} (h:hG P t=some e):P.underlying t=some (.slice e):=by
 unfold hG at h
 split at h
 ·cases h;assumption
 ·cases h
theorem s7 {t e:TypeId} {n:Nat} (h:j6 P t=some (n,e)):P.underlying t=some (.array n e):=by
 unfold j6 at h
 split at h
 ·cases h;assumption
 ·cases h
theorem pI {t k e:TypeId} (h:u5 P t=some (k,e)):P.underlying t=some (.map k e):=by
 unfold u5 at h
 split at h
 ·cases h;assumption
 ·cases h
theorem vk (a b:List UInt8):((⟨⟨a⟩⟩:ByteArray)==⟨⟨b⟩⟩)=(a==b):=by
 show((⟨a⟩:Array UInt8)==⟨b⟩)=_
 simp
def wK [Env] (P:Program) (ρ:aA) (eq:TypeId→V→V→Option Bool) (d:Nat):Prop:=
 ∀t x y b,eq t x y=some b→∀x' y',au ρ x x'→au ρ y y'→∀n,d≤n→∀w,(Op.equalIn n t x' y').run P w=.ok b w
theorem DL [Env] {eq:TypeId→V→V→Option Bool} {d n:Nat} (he:wK P ρ eq d) (hn:d≤n) {xs ys:List V} {No Np:List Value} (hx:ay ρ xs No) (hy:ay ρ ys Np):
  ∀(fs:List Field) {b:Bool},pt P eq xs ys fs=some b→∀w,(Op.eqFields n ⟨No⟩ ⟨Np⟩ fs).run P w=.ok b w:=by
 intro fs
 induction fs with
 | nil=>intro b h w;have h':some true=some b:=h;cases h';simp [Op.eqFields]
 | cons f fs ih=>
  intro b h w
  have h':(match f.name== "_",dT P f.type xs f.offset,dT P f.type ys f.offset with
   | false,some a,some b=>match eq f.type a b with
    | some true=>pt P eq xs ys fs
    | some false=>some false
    | none=>none
   | _,_,_=>none)=some b:=h
  split at h'
  ·rename_i a c ed ha hc
   obtain⟨a',Nq,DM⟩:=ke hx ha
   obtain⟨c',Xl,rQ⟩:=ke hy hc
   have DN:f.name≠ "_":=by simpa using ed
   simp only[Op.eqFields,if_pos DN,Sem.run_bind,Nq,Xl,Result.andThen_ok]
   split at h'
   ·rename_i heq
    simp only[he _ _ _ _ heq _ _ DM rQ n hn w,Result.andThen_ok]
    simpa using ih h' w
   ·rename_i heq
    cases h'
    simp only[he _ _ _ _ heq _ _ DM rQ n hn w,Result.andThen_ok]
    simp
   ·cases h'
  ·cases h'
theorem xi [Env] {eq:TypeId→V→V→Option Bool} {d n:Nat} (he:wK P ρ eq d) (hn:d≤n) {t:TypeId} {fs:Array Field} (hu:P.underlying t=some (.struct fs)) {x y:V} {b:Bool}
  (h:gZ P eq t fs.toList x y=some b) {x' y':Value} (hx:au ρ x x') (hy:au ρ y y') (w:World):(Op.equalIn (n+1) t x' y').run P w=.ok b w:=by
 unfold gZ at h
 split at h
 ·cases h
 ·rename_i aF
  split at h
  ·split at h
   ·cases hx with | agg hx=>cases hy with | agg hy=>
    have hf:P.fieldsOf t=fs:=by simp [Program.fieldsOf,hu]
    rw[run_equalIn_struct (P:=P) w n t _ _ (by rw[hf];exact hu) aF,hf]
    exact DL he hn hx hy _ h w
   ·cases h
  ·cases h
theorem mH [Env]:∀(d:Nat),wK P ρ (ir P d) d:=by
 intro d
 induction d with
 | zero=>intro t x y b h;cases h
 | succ d ih=>
  intro t x y b h x' y' hx hy n hn w
  obtain⟨n,rfl⟩:∃m,n=m+1:=⟨n-1,by omega⟩
  have h':fR P (ir P d) t x y (P.underlying t)=some b:=h
  unfold fR at h'
  split at h'
  ·rename_i hu
   split at h'
   ·split at h'
    ·cases h';cases hx;cases hy;simp [Op.equalIn,run_underlying hu]
    ·cases h'
   ·cases h'
  ·rename_i hu
   split at h'
   ·split at h'
    ·split at h'
     ·rename_i hk;cases h';cases hx;cases hy;simp [Op.equalIn,run_underlying hu,hk]
     ·cases h'
    ·cases h'
   ·split at h'
    ·rename_i i j
     obtain⟨rfl,rfl,hi⟩:=yz h'
     cases hx;cases hy
     obtain⟨q,hq⟩:=Env.int j hi
     rw[hq];simp [Op.equalIn,run_underlying hu]
    ·cases h'
   ·cases h'
  ·rename_i hu
   split at h'
   ·split at h'
    ·cases h';cases hx;cases hy;simp [Op.equalIn,run_underlying hu,vk]
    ·cases h'
   ·cases h'
  ·rename_i fs hu
   exact xi ih (by omega) hu h' hx hy w
  ·cases h'
theorem GL [Env] {eq:TypeId→V→V→Option Bool} {d n:Nat} (he:wK P ρ eq d) (hn:d≤n) {e:TypeId} {sz:Nat} {xs ys:List V} {No Np:List Value} (hx:ay ρ xs No) (hy:ay ρ ys Np):
  ∀(k i:Nat) {b:Bool},rC P eq e sz xs ys k i=some b→∀w,(Op.eqItems n e sz ⟨No⟩ ⟨Np⟩ (List.range' i k)).run P w=.ok b w:=by
 intro k
 induction k with
 | zero=>intro i b h w;have h':some true=some b:=h;cases h';simp [Op.eqItems]
 | succ k ih=>
  intro i b h w
  have h':(match dT P e xs (i*sz),dT P e ys (i*sz) with
   | some a,some b=>match eq e a b with
    | some true=>rC P eq e sz xs ys k (i+1)
    | some false=>some false
    | none=>none
   | _,_=>none)=some b:=h
  rw[List.range'_succ]
  split at h'
  ·rename_i a c ha hc
   obtain⟨a',Nq,DM⟩:=ke hx ha
   obtain⟨c',Xl,rQ⟩:=ke hy hc
   simp only[Op.eqItems,Sem.run_bind,Nq,Xl,Result.andThen_ok]
   split at h'
   ·rename_i heq
    simp only[he _ _ _ _ heq _ _ DM rQ n hn w,Result.andThen_ok]
    simpa using ih (i+1) h' w
   ·rename_i heq
    cases h'
    simp only[he _ _ _ _ heq _ _ DM rQ n hn w,Result.andThen_ok]
    simp
   ·cases h'
  ·cases h'
theorem GM [Env] {t e:TypeId} {k:Nat} (hu:P.underlying t=some (.array k e)) {x y:V} {b:Bool} (h:kH P t e k x y=some b) {x' y':Value} (hx:au ρ x x') (hy:au ρ y y') {n:Nat} (hn:cD≤n) (w:World):
  (Op.equalIn (n+1) t x' y').run P w=.ok b w:=by
 unfold kH at h
 split at h
 ·cases h
 ·split at h
  ·rename_i sz bk
   split at h
   ·split at h
    ·cases hx with | agg hx=>cases hy with | agg hy=>
     unfold bV at bk
     rw[Option.map_eq_some_iff] at bk
     obtain⟨i,hi,bk⟩:=bk
     have hc:P.cellsOf e=sz:=by unfold Program.cellsOf;rw[hi];exact bk
     rw[run_equalIn_array w n _ _ hu hi,hc,List.range_eq_range']
     exact GL (mH cD) hn hx hy k 0 h w
    ·cases h
   ·cases h
  ·cases h
theorem CJ (a b:Addr) (h:a.block=b.block) (w:World):(sameAddr a b).run P w=.ok (a==b) w:=by
 unfold sameAddr
 rw[if_pos (by simpa using h)]
 rfl
theorem Af {a b:Addr} (h:a.block≠b.block) (ha:∃e n,w.shape? a.block=some (e,n)) (hb:∃e n,w.shape? b.block=some (e,n))
  (fa:∀i,w.frozen? ⟨a.block,i,none⟩=false) (fb:∀i,w.frozen? ⟨b.block,i,none⟩=false) (sa:a.spot=none) (sb:b.spot=none):(sameAddr a b).run P w=.ok false w:=by
 obtain⟨e,n,ha⟩:=ha
 obtain⟨e',n',hb⟩:=hb
 obtain⟨ab,ao,ak9⟩:=a
 obtain⟨bb,bo,bs⟩:=b
 simp only at h ha hb fa fb sa sb
 subst sa;subst sb
 have bS:(ab==bb)=false:=by simpa using h
 simp [sameAddr,bS,fa,fb,noView,viewAt,ha,hb,mayBeOne,stringish]
theorem Nr [Env] (hr:R ρ σ w) {e b o b' o':Nat} {r:Bool} (h:ptrEq P σ e b o b' o'=some r) {l l':Loc} (hl:ρ b=some l) (cm:ρ b'=some l') (n:Nat) {t:TypeId} (hu:P.underlying t=some (.pointer e)):
  (Op.equalIn (n+1) t (.pointer (some ⟨l.c,l.o+o,none⟩)) (.pointer (some ⟨l'.c,l'.o+o',none⟩))).run P w=.ok r w:=by
 unfold ptrEq at h
 split at h
 ·rename_i k hs
  split at h
  ·rename_i hb
   have hb:b=b':=Nat.eq_of_beq_eq_true hb
   subst hb
   rw[hl] at cm;cases cm
   split at h
   ·cases h
    simp [Op.equalIn,run_underlying hu,bB hs,CJ]
    rw[Bool.eq_iff_iff]
    simp
   ·cases h
  ·rename_i hb
   have hb:b≠b':=fun e=>by subst e;rw[Nat.beq_refl] at hb;cases hb
   split at h
   ·rename_i h1 h2
    cases h
    obtain⟨⟨t1,s1⟩,_,_,_,f1⟩:=hr.cells h1 hl
    obtain⟨⟨t2,s2⟩,_,_,_,f2⟩:=hr.cells h2 cm
    have hc:l.c≠l'.c:=fun ec=>hb (hr.inj _ _ _ _ _ _ h1 h2 hl cm ec)
    have:=Af (P:=P) (w:=w) (a:=⟨l.c,l.o+o,none⟩) (b:=⟨l'.c,l'.o+o',none⟩) hc ⟨_,_,s1⟩ ⟨_,_,s2⟩ (f1 rfl) (f2 rfl) rfl rfl
    simp [Op.equalIn,run_underlying hu,bB hs,this]
   ·cases h
 ·cases h
theorem GN [Env] {tx ty:TypeId} {vx vy:V} {b:Bool} (h:Aa P tx vx ty vy=some b) {vx' vy':Value} (hx:au ρ vx vx') (hy:au ρ vy vy') {n:Nat} (hn:cD≤n) {t:TypeId} {ms:Array (String×TypeId)}
  (hu:P.underlying t=some (.interface ms)) (w:World):(Op.equalIn (n+1) t (.iface tx vx') (.iface ty vy')).run P w=.ok b w:=by
 unfold Aa at h
 split at h
 ·rename_i hb
  cases h
  have:tx≠ty:=fun e=>by subst e;rw[Nat.beq_refl] at hb;cases hb
  simp [Op.equalIn,run_underlying hu,this]
 ·rename_i hb
  have hb:tx=ty:=Nat.eq_of_beq_eq_true hb
  subst hb
  split at h
  ·rename_i hc
   rw[Option.map_eq_some_iff] at hc
   obtain⟨i,hi,hci⟩:=hc
   have:=mH (P:=P) (ρ:=ρ) cD _ _ _ _ h _ _ hx hy n hn w
   simp [Op.equalIn,run_underlying hu,run_typeInfo hi,hci,this]
  ·cases h
theorem KK [Env] (hr:R ρ σ w) {t:TypeId} {lit:Bool} {x y:V} {b:Bool} (h:evalEq P σ t lit x y=some b) {x' y':Value} (hx:au ρ x x') (hy:au ρ y y'):
  (Op.equal t x' y').run P w=.ok b w:=by
 unfold evalEq wC at h
 unfold Op.equal
 obtain⟨n,hn,mb⟩:∃n,cD≤n∧Op.maxDepth=n+1:=⟨9999,by decide,rfl⟩
 rw[mb]
 split at h
 ·rename_i hu
  split at h
  ·split at h
   ·cases h;cases hx;cases hy;simp [Op.equalIn,run_underlying hu]
   ·cases h
  ·cases h
 ·rename_i e hu
  split at h
  ·split at h
   ·cases h;cases hx;cases hy;simp [Op.equalIn,run_underlying hu]
   ·cases h;cases hx;cases hy;simp [Op.equalIn,run_underlying hu]
   ·cases h
  ·split at h
   ·cases h;cases hx;cases hy;simp [Op.equalIn,run_underlying hu]
   ·cases hx with | ptr hl=>cases hy with | ptr cm=>exact Nr hr h hl cm n hu
   ·cases h
  ·cases h
 ·rename_i ms hu
  split at h
  ·split at h
   ·split at h
    ·cases h;cases hx;cases hy;simp [Op.equalIn,run_underlying hu]
    ·cases h
   ·cases h;cases hx;cases hy;simp [Op.equalIn,run_underlying hu]
   ·cases h
  ·split at h
   ·cases h;cases hx;cases hy;simp [Op.equalIn,run_underlying hu]
   ·cases hx with | iface hx=>cases hy with | iface hy=>exact GN h hx hy hn hu w
   ·cases h
  ·cases h
 ·rename_i fs hu
  split at h
  ·exact xi (mH cD) hn hu h hx hy w
  ·cases h
 ·rename_i k e hu
  exact GM hu h hx hy hn w
 ·rename_i hu
  split at h
  ·split at h
   ·cases h;cases hx;cases hy;simp [Op.equalIn,run_underlying hu]
   ·cases h;cases hx;cases hy;simp [Op.equalIn,run_underlying hu]
   ·cases h;cases hx;cases hy;simp [Op.equalIn,run_underlying hu]
   ·cases h
  ·split at h
   ·cases h;cases hx;cases hy;simp [Op.equalIn,run_underlying hu]
   ·cases h
  ·split at h
   ·cases h;cases hx;cases hy;simp [Op.equalIn,run_underlying hu]
   ·cases h
  ·split at h
   ·cases h;cases hy
    cases hx with
    | arr hn hx=>
     obtain⟨a,k,c,rfl⟩:=hn rfl
     simp [Op.equalIn,run_underlying hu]
   ·cases h
  ·cases h
 ·rename_i hu
  split at h
  ·split at h
   ·cases h;cases hx;cases hy;simp [Op.equalIn,run_underlying hu]
   ·cases h;cases hx;cases hy;simp [Op.equalIn,run_underlying hu]
   ·cases h
  ·split at h
   ·cases h;cases hx;cases hy;simp [Op.equalIn,run_underlying hu]
   ·cases h
  ·cases h
 ·rename_i hu
  split at h
  ·split at h
   ·cases h;cases hx;cases hy;simp [Op.equalIn,run_underlying hu]
   ·cases h;cases hx;cases hy;simp [Op.equalIn,run_underlying hu]
   ·cases h
  ·split at h
   ·cases h;cases hx;cases hy;simp [Op.equalIn,run_underlying hu]
   ·cases h
  ·cases h
 ·cases h
end
end Go.Ev
end
