/- Proved: parts of the way: Mem, Ops, OpsA. -/
import Derived.Test.YtbajncpfmemdgaaGreatDoorEvQ01
import Derived.Laws.StructEq
import Derived.Laws.Concat
import Derived.MapKept
import Derived.ChangeKeysEq
set_option linter.unusedVariables false
set_option linter.unusedSimpArgs false
section
namespace Go.Ev
open Go
theorem pn {w w':World} {c:Nat} (h:w'.heap[c]? =w.heap[c]?):w'.shape? c=w.shape? c:=by
 unfold World.shape?;rw[h]
theorem cell?_of_block {w w':World} {c i:Nat} (h:w'.heap[c]? =w.heap[c]?):w'.cell? ⟨c,i,none⟩=w.cell? ⟨c,i,none⟩:=by
 unfold World.cell?;simp only[h]
theorem frozen?_of_block {w w':World} {c i:Nat} (h:w'.heap[c]? =w.heap[c]?):w'.frozen? ⟨c,i,none⟩=w.frozen? ⟨c,i,none⟩:=by
 unfold World.frozen?;simp only[h]
theorem qF.mono {ρ ρ':Ren} (ea:ρ.le ρ') {m m':Option Nat} (h:qF ρ m m'):qF ρ' m m':=by
 cases h with
 | none=>exact .none
 | some h=>exact .some (ea _ _ h)
theorem cC.same [Env] {ρ ρ':Ren} {w w':World} {l:Loc} {k:bV} (h:cC ρ w l k) (ea:ρ.le ρ') (hc:w'.heap[l.c]? =w.heap[l.c]?):cC ρ' w' l k:=by
 cases h with
 | cells hs hn hv hf hp=>
  exact .cells (by rw[pn hc];exact hs) hn
   (fun i v hi=>let ⟨x,hx,hr⟩:=hv i v hi;⟨x,by rw[cell?_of_block hc];exact hx,hr.mono ea⟩)
   (fun gM i hi=>by rw[frozen?_of_block hc];exact hf gM i hi) (fun qH i=>by rw[frozen?_of_block hc];exact hp qH i)
 | row hs hn hu hv hf hp=>
  exact .row (by rw[pn hc];exact hs) hn hu
   (fun i hi k v hk=>let ⟨x,hx,hr⟩:=hv i hi k v hk;⟨x,by rw[cell?_of_block hc];exact hx,hr.mono ea⟩)
   (fun i hi=>by rw[frozen?_of_block hc];exact hf i hi) (fun qH i=>by rw[frozen?_of_block hc];exact hp qH i)
 | map h he=>exact .map (by rw[hc];exact h) (he.mono ea)
 | iter h ho hm=>exact .iter (by rw[hc];exact h) ho (hm.mono ea)
 | loop h ht hs hd=>exact .loop (by rw[hc];exact h) (ht.mono ea) hs (ea _ _ hd)
 | deferred h=>exact .deferred (by rw[hc];exact h)
section
variable {ρ:Ren} {σ:St} {w:World}
theorem eX {w:World} {c o:Nat} {x:Value} (h:w.cell? ⟨c,o,none⟩=some x):c<w.heap.size:=by
 by_cases hc:c<w.heap.size
 ·exact hc
 ·unfold World.cell? at h
  have e:w.heap[c]? =none:=by rw[Array.getElem?_eq_none_iff];omega
  simp [e] at h
theorem R.qI [Env] {ρ':Ren} {σ':St} {w':World} (h:R ρ σ w) (he:ρ'.aL=ρ.aL) (aJ:∀c,c<w.heap.size→¬Wr ρ σ c→w'.heap[c]? =w.heap[c]?) (wr:∀c,c<w.heap.size→Wr ρ' σ' c→Wr ρ σ c):
  ∀c o x,ρ'.aL c o=some x→w'.cell? ⟨c,o,none⟩=some x∧¬Wr ρ' σ' c:=by
 intro c o x hx
 rw[he] at hx
 obtain⟨h1,h2⟩:=h.aL c o x hx
 have bB:=eX h1
 exact⟨by rw[cell?_of_block (aJ c bB h2)];exact h1,fun hw=>h2 (wr c bB hw)⟩
theorem R.congr [Env] (h:R ρ σ w) {w':World} (hw:w'.heap=w.heap):R ρ σ w':=
 ⟨fun b k hb=>let ⟨l,hl,hk⟩:=h.cP b k hb;⟨l,hl,hk.same (Ren.le.refl ρ) (by rw[hw])⟩,h.inj,h.fresh,fun b l hb=>by rw[hw];exact h.valid b l hb,h.qI rfl (fun _ _ _=>by rw[hw]) fun _ _ h=>h,h.laid⟩
theorem bf.drawn [Env] {ids:Nat→Prop} (h:R ρ σ w) {w':World} (hw:w'.heap=w.heap) (ho:w'.os=w.os) (ht:w'.tape=w.tape) (hp:w'.output=w.output):bf ids ρ σ w ρ σ w':=
 ⟨h.congr hw,Ren.le.refl ρ,Nat.le_refl _,fun _ _ h=>.inl h,by rw[hw];exact Nat.le_refl _,ho,ht,hp,fun _ _ _=>by rw[hw],fun _ _ h=>h,fun _ k h=>.inl ⟨k,h⟩,fun _ _ _ h=>.inl h⟩
@[simp] theorem mo (σ:St) (b:Nat) (k:bV):(σ.set b k).heap=σ.heap.put b (some k):=by cases σ;rfl
@[simp] theorem rH (σ:St) (b:Nat) (k:bV):(σ.set b k).next=σ.next:=by cases σ;rfl
@[simp] theorem k6 (σ:St) (b:Nat):(σ.kill b).heap=σ.heap.put b none:=by cases σ;rfl
@[simp] theorem te (σ:St) (b:Nat):(σ.kill b).next=σ.next:=by cases σ;rfl
@[simp] theorem fC (σ:St) (b:Nat) (k:bV):(σ.new b k).heap=σ.heap.put b (some k):=by cases σ;rfl
theorem El (n id:Nat):Lz n id=max n (id+1):=by
 unfold Lz
 cases h:Nat.ble n id with
 | true=>have:=Nat.le_of_ble_eq_true h;show id+1=_;omega
 | false=>
  have:¬n≤id:=fun h'=>by rw[Nat.ble_eq_true_of_le h'] at h;cases h
  show n=_;omega
@[simp] theorem kF (σ:St) (b:Nat) (k:bV):(σ.new b k).next=max σ.next (b+1):=by cases σ;exact El _ _
theorem R.nG [Env] (h:R ρ σ w) {b:Nat} (hb:ρ b=none):σ.heap.get b=none:=by
 cases hk:σ.heap.get b with
 | none=>rfl
 | some k=>obtain⟨l,hl,_⟩:=h.cP b k hk;rw[hb] at hl;cases hl
theorem bf.set [Env] {ids:Nat→Prop} (h:R ρ σ w) {b:Nat} {k k':bV} {l:Loc} (hk:σ.heap.get b=some k) (hl:ρ b=some l) (BF:k.rG=true)
  {w':World} (bd:w'.heap.size=w.heap.size) (oH:∀c,c≠l.c→w'.heap[c]? =w.heap[c]?) (ho:w'.os=w.os) (ht:w'.tape=w.tape) (hp:w'.output=w.output)
  (dD:cC ρ w' l k'):bf ids ρ σ w ρ (σ.set b k') w':=by
 have JB:∀b' k₁,(σ.set b k').heap.get b'=some k₁→(∃k',σ.heap.get b'=some k')∨σ.next≤b'∨ids b':=by
  intro b' k₁ bq
  rw[mo,Trie.bP] at bq
  by_cases e:b'=b
  ·subst e;exact .inl ⟨_,hk⟩
  ·rw[if_neg e] at bq;exact .inl ⟨_,bq⟩
 have lF:∀c,c<w.heap.size→¬Wr ρ σ c→w'.heap[c]? =w.heap[c]? :=fun c _ hn=>oH c fun e=>hn ⟨b,k,l,hk,BF,hl,e.symm⟩
 have k7:∀c,c<w.heap.size→Wr ρ (σ.set b k') c→Wr ρ σ c:=by
  rintro c hc ⟨b',k₁,l',h1,h2,h3,h4⟩
  rw[mo,Trie.bP] at h1
  by_cases e:b'=b
  ·subst e
   rw[hl] at h3;cases h3
   exact⟨_,k,l,hk,BF,hl,h4⟩
  ·rw[if_neg e] at h1
   exact⟨b',k₁,l',h1,h2,h3,h4⟩
 refine⟨⟨?_,?_,?_,?_,h.qI rfl lF k7,h.laid⟩,Ren.le.refl ρ,by simp,fun _ _ h=>.inl h,by omega,ho,ht,hp,lF,k7,JB,fun _ _ _ h=>.inl h⟩
 ·intro b' k₁ bq
  rw[mo,Trie.bP] at bq
  by_cases e:b'=b
  ·subst e
   rw[if_pos rfl] at bq
   cases bq
   exact⟨l,hl,dD⟩
  ·rw[if_neg e] at bq
   obtain⟨l',cF,ed⟩:=h.cP b' k₁ bq
   exact⟨l',cF,ed.same (Ren.le.refl ρ) (oH _ fun ec=>e (h.inj b' b _ _ _ _ bq hk cF hl ec))⟩
 ·intro cQ cR k₁ k₂ cg lG h1 h2 g1 g2 e
  rw[mo,Trie.bP] at h1 h2
  have t1:∃k,σ.heap.get cQ=some k:=by
   by_cases e1:cQ=b
   ·subst e1;exact⟨_,hk⟩
   ·rw[if_neg e1] at h1;exact⟨_,h1⟩
  have t2:∃k,σ.heap.get cR=some k:=by
   by_cases e1:cR=b
   ·subst e1;exact⟨_,hk⟩
   ·rw[if_neg e1] at h2;exact⟨_,h2⟩
  obtain⟨_,t1⟩:=t1
  obtain⟨_,t2⟩:=t2
  exact h.inj cQ cR _ _ _ _ t1 t2 g1 g2 e
 ·intro b' bq;rw[rH] at bq;exact h.fresh b' bq
 ·intro b' l' bq;rw[bd];exact h.valid b' l' bq
theorem bf.kill [Env] {ids:Nat→Prop} (h:R ρ σ w) (b:Nat):bf ids ρ σ w ρ (σ.kill b) w:=by
 have key:∀b' k,(σ.kill b).heap.get b'=some k→σ.heap.get b'=some k:=by
  intro b' k bq
  rw[k6,Trie.bP] at bq
  by_cases e:b'=b
  ·rw[if_pos e] at bq;cases bq
  ·rw[if_neg e] at bq;exact bq
 have k7:∀c,c<w.heap.size→Wr ρ (σ.kill b) c→Wr ρ σ c:=by
  rintro c hc ⟨b',k₁,l',h1,h2,h3,h4⟩
  exact⟨b',k₁,l',key _ _ h1,h2,h3,h4⟩
 exact⟨⟨fun b' k bq=>h.cP b' k (key _ _ bq),fun cQ cR k₁ k₂ cg lG h1 h2=>h.inj cQ cR k₁ k₂ cg lG (key _ _ h1) (key _ _ h2),fun b' bq=>h.fresh b' (by simpa using bq),h.valid,h.qI rfl (fun _ _ _=>rfl) k7,h.laid⟩,
  Ren.le.refl ρ,by simp,fun _ _ h=>.inl h,Nat.le_refl _,rfl,rfl,rfl,fun _ _ _=>rfl,k7,fun b' k h=>.inl ⟨k,key b' k h⟩,fun _ _ _ h=>.inl h⟩
def k8 (ρ:Ren) (id:Nat) (l:Loc):Ren:=⟨fun b=>if b=id then some l else ρ b,ρ.aL⟩
theorem jx (ρ:Ren) (id:Nat) (l:Loc) (b:Nat):k8 ρ id l b=if b=id then some l else ρ b:=rfl
theorem jy (ρ:Ren) (id:Nat) (l:Loc):k8 ρ id l id=some l:=by simp [k8]
theorem jz (ρ:Ren) {id:Nat} (l:Loc) (h:ρ id=none):ρ.le (k8 ρ id l):=by
 refine⟨fun b l' hb=>?_,fun _ _ _ h=>h⟩
 rw[jx]
 by_cases e:b=id
 ·subst e;rw[h] at hb;cases hb
 ·rw[if_neg e];exact hb
theorem bf.new [Env] (h:R ρ σ w) {id:Nat} (cq:ρ id=none) {k:bV} {l:Loc} {w':World} (hc:l.c<w'.heap.size) (bd:w.heap.size≤w'.heap.size)
  (oH:∀c,c<w.heap.size→c≠l.c→w'.heap[c]? =w.heap[c]?) (ho:w'.os=w.os) (ht:w'.tape=w.tape) (hp:w'.output=w.output)
  (n0:∀b k l',σ.heap.get b=some k→ρ b=some l'→l'.c≠l.c) (dD:cC (k8 ρ id l) w' l k):
  bf (fun b=>b=id) ρ σ w (k8 ρ id l) (σ.new id k) w'∨l.c<w.heap.size:=by
 by_cases hold:l.c<w.heap.size
 ·exact .inr hold
 have JB:∀b' k₁,(σ.new id k).heap.get b'=some k₁→(∃k',σ.heap.get b'=some k')∨σ.next≤b'∨b'=id:=by
  intro b' k₁ bq
  rw[fC,Trie.bP] at bq
  by_cases e:b'=id
  ·exact .inr (.inr e)
  ·rw[if_neg e] at bq;exact .inl ⟨_,bq⟩
 have lF:∀c,c<w.heap.size→¬Wr ρ σ c→w'.heap[c]? =w.heap[c]? :=fun c gB _=>oH c gB (by omega)
 have k7:∀c,c<w.heap.size→Wr (k8 ρ id l) (σ.new id k) c→Wr ρ σ c:=by
  rintro c gB ⟨b',k₁,l',h1,h2,h3,h4⟩
  rw[fC,Trie.bP] at h1
  rw[jx] at h3
  by_cases e:b'=id
  ·rw[if_pos e] at h3;cases h3;omega
  ·rw[if_neg e] at h1 h3
   exact⟨b',k₁,l',h1,h2,h3,h4⟩
 refine .inl ⟨⟨?_,?_,?_,?_,h.qI rfl lF k7,h.laid⟩,jz ρ l cq,by simp;omega,?_,bd,ho,ht,hp,lF,k7,JB,fun _ _ _ h=>.inl h⟩
 ·intro b' k₁ bq
  rw[fC,Trie.bP] at bq
  by_cases e:b'=id
  ·subst e
   rw[if_pos rfl] at bq
   cases bq
   exact⟨l,jy _ _ _,dD⟩
  ·rw[if_neg e] at bq
   obtain⟨l',cF,ed⟩:=h.cP b' k₁ bq
   exact⟨l',jz ρ l cq _ _ cF,ed.same (jz ρ l cq) (oH _ (h.valid _ _ cF) (n0 _ _ _ bq cF))⟩
 ·intro cQ cR k₁ k₂ cg lG h1 h2 g1 g2 e
  rw[fC,Trie.bP] at h1 h2
  rw[jx] at g1 g2
  by_cases e1:cQ=id
  ·by_cases e2:cR=id
   ·rw[e1,e2]
   ·rw[if_pos e1] at g1;rw[if_neg e2] at g2 h2
    cases g1
    exact absurd e.symm (n0 _ _ _ h2 g2)
  ·rw[if_neg e1] at g1 h1
   by_cases e2:cR=id
   ·rw[if_pos e2] at g2
    cases g2
    exact absurd e (n0 _ _ _ h1 g1)
   ·rw[if_neg e2] at g2 h2
    exact h.inj cQ cR _ _ _ _ h1 h2 g1 g2 e
 ·intro b' bq
  rw[kF] at bq
  rw[jx]
  rw[if_neg (by omega)]
  exact h.fresh b' (by omega)
 ·intro b' l' bq
  rw[jx] at bq
  by_cases e:b'=id
  ·rw[if_pos e] at bq;cases bq;exact hc
  ·rw[if_neg e] at bq;exact Nat.lt_of_lt_of_le (h.valid b' l' bq) bd
 ·intro b' l' bq
  rw[jx] at bq
  by_cases e:b'=id
  ·exact .inr (.inr e)
  ·rw[if_neg e] at bq;exact .inl bq
theorem bf.alloc [Env] (h:R ρ σ w) {id:Nat} (cq:ρ id=none) {k:bV} {o:Obj} {w':World} {N:Nat} (hw:w'.heap=w.heap.push o) (ho:w'.os=w.os) (ht:w'.tape=w.tape) (hp:w'.output=w.output)
  (dD:cC (k8 ρ id ⟨w.heap.size,0,N⟩) w' ⟨w.heap.size,0,N⟩ k):
  bf (fun b=>b=id) ρ σ w (k8 ρ id ⟨w.heap.size,0,N⟩) (σ.new id k) w':=by
 rcases bf.new (l:=⟨w.heap.size,0,N⟩) h cq (w':=w') (by rw[hw];simp) (by rw[hw];simp) (fun c hc _=>by rw[hw,Array.getElem?_push,if_neg (by omega)]) ho ht hp
  (fun b k l' hb hl=>by have:=h.valid b l' hl;simp only[ne_eq];omega) dD with h' | h'
 ·exact h'
 ·simp at h'
theorem bf.Wv [Env] (h:R ρ σ w) {id b:Nat} (cq:ρ id=none) {k G9:bV} {cr l:Loc} (xH:σ.heap.get b=some G9) (BF:G9.rG=true) (ku:ρ b=some cr) (Em:l.c=cr.c) {w':World}
  (bd:w'.heap.size=w.heap.size) (oH:∀c,c≠l.c→w'.heap[c]? =w.heap[c]?) (ho:w'.os=w.os) (ht:w'.tape=w.tape) (hp:w'.output=w.output) (dD:cC (k8 ρ id l) w' l k):
  bf (fun b=>b=id) ρ σ w (k8 ρ id l) ((σ.kill b).new id k) w':=by
 have bQ:b≠id:=fun e=>by rw[e,cq] at ku;cases ku
 have key:∀b' k₁,((σ.kill b).new id k).heap.get b'=some k₁→b'≠id→σ.heap.get b'=some k₁∧b'≠b:=by
  intro b' k₁ bq e
  rw[fC,Trie.bP,if_neg e,k6,Trie.bP] at bq
  by_cases e':b'=b
  ·rw[if_pos e'] at bq;cases bq
  ·rw[if_neg e'] at bq;exact⟨bq,e'⟩
 have kf:((σ.kill b).new id k).heap.get id=some k:=by rw[fC,Trie.bP,if_pos rfl]
 have JB:∀b' k₁,((σ.kill b).new id k).heap.get b'=some k₁→(∃k',σ.heap.get b'=some k')∨σ.next≤b'∨b'=id:=by
  intro b' k₁ bq
  by_cases e:b'=id
  ·exact .inr (.inr e)
  ·exact .inl ⟨_,(key b' k₁ bq e).1⟩
 have lF:∀c,c<w.heap.size→¬Wr ρ σ c→w'.heap[c]? =w.heap[c]? :=fun c _ hn=>oH c fun e=>hn ⟨b,G9,cr,xH,BF,ku,(e.trans Em).symm⟩
 have k7:∀c,c<w.heap.size→Wr (k8 ρ id l) ((σ.kill b).new id k) c→Wr ρ σ c:=by
  rintro c gB ⟨b',k₁,l',h1,h2,h3,h4⟩
  rw[jx] at h3
  by_cases e:b'=id
  ·rw[if_pos e] at h3;cases h3
   exact⟨b,G9,cr,xH,BF,ku,Em.symm.trans h4⟩
  ·rw[if_neg e] at h3
   exact⟨b',k₁,l',(key b' k₁ h1 e).1,h2,h3,h4⟩
 refine⟨⟨?_,?_,?_,?_,h.qI rfl lF k7,h.laid⟩,jz ρ l cq,by simp;omega,?_,by omega,ho,ht,hp,lF,k7,JB,fun _ _ _ h=>.inl h⟩
 ·intro b' k₁ bq
  by_cases e:b'=id
  ·subst e
   rw[kf] at bq;cases bq
   exact⟨l,jy _ _ _,dD⟩
  ·obtain⟨hg,hb⟩:=key b' k₁ bq e
   obtain⟨l',cF,ed⟩:=h.cP b' k₁ hg
   exact⟨l',jz ρ l cq _ _ cF,ed.same (jz ρ l cq) (oH _ fun ec=>hb (h.inj b' b _ _ _ _ hg xH cF ku (ec.trans Em)))⟩
 ·intro cQ cR k₁ k₂ cg lG h1 h2 g1 g2 e
  rw[jx] at g1 g2
  by_cases e1:cQ=id
  ·by_cases e2:cR=id
   ·rw[e1,e2]
   ·rw[if_pos e1] at g1;rw[if_neg e2] at g2
    cases g1
    obtain⟨hg,hb⟩:=key cR k₂ h2 e2
    exact absurd (h.inj cR b _ _ _ _ hg xH g2 ku (e.symm.trans Em)) hb
  ·rw[if_neg e1] at g1
   obtain⟨Af,RJ⟩:=key cQ k₁ h1 e1
   by_cases e2:cR=id
   ·rw[if_pos e2] at g2
    cases g2
    exact absurd (h.inj cQ b _ _ _ _ Af xH g1 ku (e.trans Em)) RJ
   ·rw[if_neg e2] at g2
    obtain⟨X7,_⟩:=key cR k₂ h2 e2
    exact h.inj cQ cR _ _ _ _ Af X7 g1 g2 e
 ·intro b' bq
  rw[kF,te] at bq
  rw[jx]
  rw[if_neg (by omega)]
  exact h.fresh b' (by omega)
 ·intro b' l' bq
  rw[jx] at bq
  by_cases e:b'=id
  ·rw[if_pos e] at bq;cases bq;rw[bd,Em];exact h.valid _ _ ku
  ·rw[if_neg e] at bq;rw[bd];exact h.valid b' l' bq
 ·intro b' l' bq
  rw[jx] at bq
  by_cases e:b'=id
  ·exact .inr (.inr e)
  ·rw[if_neg e] at bq;exact .inl bq
theorem R.cells [Env] (h:R ρ σ w) {b n:Nat} {z:List V} {t:Trie V} {p ro:Bool} (hb:σ.heap.get b=some (.cells n z t p ro)) {l:Loc} (hl:ρ b=some l):
  (∃ty,w.shape? l.c=some (ty,l.N))∧l.o+n≤l.N∧(∀i v,cellOf n z t i=some v→∃x,w.cell? ⟨l.c,l.o+i,none⟩=some x∧aq ρ v x)∧
  (ro=false→∀i,i<l.N→w.frozen? ⟨l.c,i,none⟩=false)∧(p=true→∀i,w.frozen? ⟨l.c,i,none⟩=false):=by
 obtain⟨l',cF,hk⟩:=h.cP b _ hb
 rw[hl] at cF;cases cF
 cases hk with
 | cells hs hn hv hf hp=>exact⟨hs,hn,hv,hf,hp⟩
theorem R.cell [Env] (h:R ρ σ w) {b off:Nat} {v:V} (hv:σ.cell b off=some v) {l:Loc} (hl:ρ b=some l):∃x,w.cell? ⟨l.c,l.o+off,none⟩=some x∧aq ρ v x:=by
 unfold St.cell at hv
 split at hv
 ·rename_i n z t p ro hb
  exact(h.cells hb hl).2.2.1 off v hv
 ·cases hv
theorem kG {w:World} {c i N:Nat} {ty:TypeId} (h:w.shape? c=some (ty,N)) (hi:i<N):(w.cell? ⟨c,i,none⟩).isSome=true:=by
 unfold World.shape? at h
 unfold World.cell?
 split at h
 ·rename_i cs e fz heq
  simp only[Option.some.injEq,Prod.mk.injEq] at h
  obtain⟨_,rfl⟩:=h
  simp [heq,hi]
 ·cases h
theorem gm [Env] {n:Nat} {z:List V} {t:Trie V}:∀(k off:Nat) {vs:List V},cellsOf n z t k off=some vs→vs.length=k∧∀i v,vs[i]? =some v→cellOf n z t (off+i)=some v:=by
 intro k
 induction k with
 | zero=>
  intro off vs h
  have h':some []=some vs:=h
  cases h'
  exact⟨rfl,fun i v hv=>by simp at hv⟩
 | succ k ih=>
  intro off vs h
  obtain⟨v,r,h1,h2,rfl⟩:=nZ (x:=cellOf n z t off) (l:=cellsOf n z t k ((off+1))) h
  obtain⟨hlen,cS⟩:=ih _ h2
  refine⟨by simp [hlen],fun i u hu=>?_⟩
  cases i with
  | zero=>simp at hu;subst hu;exact h1
  | succ i=>have:=cS i u (by simpa using hu);rwa [show(off+1)+i=off+(i+1) by omega] at this
theorem ek (c o i:Nat):(⟨c,o,none⟩:Addr).add i=⟨c,o+i,none⟩:=by
 unfold Addr.add
 split
 ·rename_i h;subst h;rfl
 ·rfl
theorem R.loadCells [Env] {P:Program} (h:R ρ σ w) {b off k:Nat} {vs:List V} (hv:σ.cells b off k=some vs) {l:Loc} (hl:ρ b=some l):
  ∃xs:List Value,(∀bg:World,bg.heap=w.heap→(loadCells ⟨l.c,l.o+off,none⟩ k).run P bg=.ok ⟨xs⟩ bg)∧au ρ vs xs∧xs.length=k:=by
 unfold St.cells at hv
 split at hv
 ·rename_i n z t p ro hb
  obtain⟨hlen,cS⟩:=gm _ _ hv
  have hc:=(h.cells hb hl).2.2.1
  have key:∀(vs:List V) (o:Nat),(∀i v,vs[i]? =some v→∃x,w.cell? ⟨l.c,o+i,none⟩=some x∧aq ρ v x)→
    ∃xs:List Value,au ρ vs xs∧∀i x,xs[i]? =some x→w.cell? ⟨l.c,o+i,none⟩=some x:=by
   intro vs
   induction vs with
   | nil=>intro o _;exact⟨[],.nil,fun i x hx=>by simp at hx⟩
   | cons v vs ih=>
    intro o hh
    obtain⟨x,hx,hr⟩:=hh 0 v rfl
    obtain⟨xs,lH,cS⟩:=ih (o+1) (fun i v hv=>by
     obtain⟨x,hx,hr⟩:=hh (i+1) v (by simpa using hv)
     exact⟨x,by rwa [show o+(i+1)=o+1+i by omega] at hx,hr⟩)
    refine⟨x::xs,.cons hr lH,fun i y hy=>?_⟩
    cases i with
    | zero=>simp at hy;subst hy;exact hx
    | succ i=>have:=cS i y (by simpa using hy);rwa [show o+1+i=o+(i+1) by omega] at this
  obtain⟨xs,lH,gB⟩:=key vs (l.o+off) (fun i v hi=>by
   obtain⟨x,hx,hr⟩:=hc _ _ (cS i v hi)
   exact⟨x,by rwa [show l.o+(off+i)=l.o+off+i by omega] at hx,hr⟩)
  have Ag:xs.length=k:=by rw[←lH.length,hlen]
  refine⟨xs,fun bg hw=>?_,lH,Ag⟩
  have:=run_loadCells_list (P:=P) bg ⟨l.c,l.o+off,none⟩ xs (fun j x hj=>by rw[ek,cell?_of_block (w:=w) (by rw[hw])];exact gB j x hj)
  rw[Ag] at this
  exact this
 ·cases hv
theorem R.va [Env] {P:Program} (h:R ρ σ w) {c o:Nat} {xs:List Value} (hi:∀k x,xs[k]? =some x→ρ.aL c (o+k)=some x) (bg:World) (hw:bg.heap=w.heap):
  (Go.loadCells ⟨c,o,none⟩ xs.length).run P bg=.ok ⟨xs⟩ bg:=
 run_loadCells_list (P:=P) bg ⟨c,o,none⟩ xs fun j x hj=>by rw[ek,cell?_of_block (w:=w) (by rw[hw])];exact(h.aL _ _ _ (hi j x hj)).1
theorem jQ:∀(vs:List V) (t:Trie V) (off i:Nat),(an vs t off).get i=if off≤i∧i<off+vs.length then vs[i-off]? else t.get i:=by
 intro vs
 induction vs with
 | nil=>
  intro t off i
  rw[if_neg (by simp only[List.length_nil];omega)];rfl
 | cons v vs ih=>
  intro t off i
  show(an vs (t.put off (some v)) ((off+1))).get i=_
  rw[ih,Trie.bP]
  by_cases h:i=off
  ·subst h
   rw[if_neg (by omega),if_pos rfl,if_pos (by simp)]
   simp
  ·by_cases h':off≤i∧i<off+(v::vs).length
   ·rw[if_pos h',if_pos (by simp at h';omega)]
    rw[show i-off=(i-(off+1))+1 by omega,List.getElem?_cons_succ]
   ·rw[if_neg h',if_neg (by simp at h'⊢;omega),if_neg h]
theorem tf {n:Nat} {z:List V} {t:Trie V} {i:Nat} {v:V} (h:cellOf n z t i=some v):i<n:=by
 unfold cellOf at h
 cases hb:Nat.blt i n with
 | true=>rw[Nat.blt_eq] at hb;exact hb
 | false=>simp [hb] at h
theorem fR [Env] {n:Nat} {z:List V} {t:Trie V} {vs:List V} {off i:Nat} {v:V} (h:cellOf n z (an vs t off) i=some v):
  (off≤i∧i<off+vs.length∧vs[i-off]? =some v)∨((i<off∨off+vs.length≤i)∧cellOf n z t i=some v):=by
 have bB:=tf h
 unfold cellOf at h⊢
 have hb:Nat.blt i n=true:=by rw[Nat.blt_eq];exact bB
 simp only[hb] at h⊢
 rw[jQ] at h
 by_cases hi:off≤i∧i<off+vs.length
 ·rw[if_pos hi] at h
  have:∃u,vs[i-off]? =some u:=⟨vs[i-off]'(by omega),List.getElem?_eq_getElem _⟩
  obtain⟨u,hu⟩:=this
  rw[hu] at h
  simp only[Option.some.injEq] at h
  subst h
  exact .inl ⟨hi.1,hi.2,hu⟩
 ·rw[if_neg hi] at h
  exact .inr ⟨by omega,h⟩
theorem gz (c:Nat):∀(vs:List Value) (o:Nat) (w:World) (c':Nat),c'≠c→(w.setCells c o vs).heap[c']? =w.heap[c']?
 | [],_,_,_,_=>rfl
 | v::r,o,w,c',h=>by
  rw[World.setCells,gz c r (o+1) _ c' h]
  simp only[World.setCell,Array.getElem?_modify]
  rw[if_neg (by omega)]
theorem kv (c:Nat):∀(vs:List Value) (o:Nat) (w:World),(w.setCells c o vs).heap.size=w.heap.size
 | [],_,_=>rfl
 | v::r,o,w=>by rw[World.setCells,kv c r];simp [World.setCell]
theorem kx (c:Nat):∀(vs:List Value) (o:Nat) (w:World),(w.setCells c o vs).os=w.os∧(w.setCells c o vs).tape=w.tape∧(w.setCells c o vs).output=w.output
 | [],_,_=>⟨rfl,rfl,rfl⟩
 | v::r,o,w=>by rw[World.setCells];exact kx c r (o+1) _
theorem jR (c:Nat):∀(vs:List Value) (o:Nat) (w:World) (c':Nat),(w.setCells c o vs).shape? c'=w.shape? c'
 | [],_,_,_=>rfl
 | v::r,o,w,c'=>by
  rw[World.setCells,jR c r]
  unfold World.shape? World.setCell
  simp only[Array.getElem?_modify]
  by_cases h:c=c'
  ·subst h
   rw[if_pos rfl]
   cases w.heap[c]? with
   | none=>rfl
   | some k=>cases k<;>simp
  ·rw[if_neg h]
theorem R.store [Env] {P:Program} {ids:Nat→Prop} (h:R ρ σ w) {b off:Nat} {vs:List V} {σ':St} (az:σ.store b off vs=some σ') {l:Loc} (hl:ρ b=some l) {xs:List Value} (hx:au ρ vs xs):
  ∃w',(storeCells ⟨l.c,l.o+off,none⟩ xs).run P w=.ok () w'∧bf ids ρ σ w ρ σ' w':=by
 unfold St.store at az
 split at az
 ·rename_i n z t p hb
  unfold Ej at az
  cases hc:(Nat.ble (Nat.add off (len vs)) n&&gJ V.scalar vs) with
  | false=>rw[hc] at az;cases az
  | true=>
   rw[hc] at az
   simp only[Option.some.injEq] at az
   subst az
   rw[Bool.and_eq_true,rp,bc] at hc
   obtain⟨hle,nM⟩:=hc
   have hle:off+vs.length≤n:=Nat.le_of_ble_eq_true hle
   obtain⟨⟨ty,hs⟩,hn,hv,hf,hp⟩:=h.cells hb hl
   have hlen:=hx.length
   have jl:∀j,j<xs.length→(w.cell? ⟨l.c,l.o+off+j,none⟩).isSome=true:=fun j hj=>kG hs (by omega)
   refine⟨w.setCells l.c (l.o+off) xs,?_,?_⟩
   ·have:=run_storeCells_cells (P:=P) l.c (l.o+off) xs 0 w (by simpa using jl)
     (fun j hj=>by simpa using hf rfl (l.o+off+j) (by omega)) (hx.ml nM)
    simpa using this
   ·obtain⟨r1,r2,r3⟩:=kx l.c xs (l.o+off) w
    refine bf.set h hb hl rfl (kv _ _ _ _) (fun c hc=>gz _ _ _ _ _ hc) r1 r2 r3 ?_
    refine .cells ⟨ty,by rw[jR];exact hs⟩ hn (fun i v hi=>?_) (fun gM i hi=>by rw[World.frozen?_setCells];exact hf gM i hi) (fun qH i=>by rw[World.frozen?_setCells];exact hp qH i)
    rcases fR hi with ⟨h1,h2,h3⟩ | ⟨h1,h2⟩
    ·obtain⟨x,cG,hr⟩:=hx.get _ h3
     refine⟨x,?_,hr⟩
     have hj:i-off<xs.length:=by omega
     have:=World.cell?_setCells_in l.c xs (l.o+off) w jl (i-off) hj
     rw[show l.o+off+(i-off)=l.o+i by omega] at this
     rw[this]
     rw[List.getElem?_eq_getElem hj] at cG
     exact cG
    ·obtain⟨x,cG,hr⟩:=hv i v h2
     refine⟨x,?_,hr⟩
     rw[World.cell?_setCells_out l.c xs (l.o+off) w _ (fun _ _=>by simp;omega)]
     exact cG
 ·cases az
theorem oI [Env] {cs:List V} {p:Nat→Value→Prop} (h:∀k v,cs[k]? =some v→∃x,p k x∧aq ρ v x):∃xs:List Value,au ρ cs xs∧∀(k:Nat) x,xs[k]? =some x→p k x:=by
 induction cs generalizing p with
 | nil=>exact⟨[],.nil,fun k x hx=>by simp at hx⟩
 | cons v cs ih=>
  obtain⟨x,hx,hr⟩:=h 0 v rfl
  obtain⟨xs,lH,cS⟩:=ih (p:=fun k=>p (k+1)) fun k v hv=>h (k+1) v (by simpa using hv)
  refine⟨x::xs,.cons hr lH,fun k y hy=>?_⟩
  cases k with
  | zero=>simp at hy;subst hy;exact hx
  | succ k=>exact cS k y (by simpa using hy)
theorem R.fy [Env] (h:R ρ σ w) {b i esz:Nat} {cs:List V} (hc:σ.iG b i esz=some cs) {l:Loc} (hl:ρ b=some l):
  cs.length=esz∧∃xs:List Value,au ρ cs xs∧∀(k:Nat) x,xs[k]? =some x→w.cell? ⟨l.c,l.o+(i*esz+k),none⟩=some x:=by
 unfold St.iG at hc
 split at hc
 ·rename_i n f z p hb
  split at hc
  ·rename_i hi
   obtain⟨hi,rfl⟩:=hi
   cases hc
   obtain⟨l',cF,hk⟩:=h.cP b _ hb
   rw[hl] at cF;cases cF
   cases hk with
   | row hs hn hu hv hf hp=>exact⟨hu i hi,oI fun k v hk=>hv i hi k v hk⟩
  ·cases hc
 ·cases hc
theorem A0 {u v:V} {esz off:Nat} (hu:u.cells.length=esz) (h:off+v.cells.length≤esz):(qz u esz off v).cells=u.cells.take off++(v.cells++u.cells.drop (off+v.cells.length)):=by
 unfold qz
 rw[bc]
 split
 ·rename_i hb
  have hb:=Nat.eq_of_beq_eq_true hb
  have:off=0:=by omega
  subst this
  rw[List.take_zero,List.nil_append,Nat.zero_add,List.drop_eq_nil_of_le (by omega),List.append_nil]
 ·show app _ _=_
  rw[gI,gI,eP,ew];rfl
theorem En (f:Nat→V) (i:Nat) (v:V) (j:Nat):fq f i v j=if j=i then v else f j:=by
 unfold fq
 cases h:Nat.beq j i with
 | true=>rw[if_pos (Nat.eq_of_beq_eq_true h)]
 | false=>rw[if_neg fun e=>by subst e;rw[Nat.beq_refl] at h;cases h]
theorem kH {i n e k:Nat} (h:i<n) (hk:k≤e):i*e+k≤n*e:=by
 have:(i+1)*e≤n*e:=Nat.mul_le_mul_right e h
 rw[Nat.add_mul,Nat.one_mul] at this
 omega
theorem R.js [Env] {P:Program} {ids:Nat→Prop} (h:R ρ σ w) {b i esz off:Nat} {v:V} {σ':St} (az:σ.js b i esz off v=some σ') {l:Loc} (hl:ρ b=some l) {x:Value} (hvx:aq ρ v x):
  ∃w',(storeCells ⟨l.c,l.o+(i*esz+off),none⟩ x.cells.toList).run P w=.ok () w'∧bf ids ρ σ w ρ σ' w':=by
 unfold St.js at az
 split at az
 ·rename_i n f z p hb
  split at az
  ·rename_i hi
   obtain⟨hi,rfl⟩:=hi
   cases hc:(Nat.ble (Nat.add off (len v.cells)) z&&gJ V.scalar v.cells) with
   | false=>rw[hc] at az;cases az
   | true=>
    rw[hc] at az
    simp only[Option.some.injEq] at az
    subst az
    rw[Bool.and_eq_true,rp,bc] at hc
    obtain⟨hle,nM⟩:=hc
    have hle:off+v.cells.length≤z:=Nat.le_of_ble_eq_true hle
    obtain⟨l',cF,hk⟩:=h.cP b _ hb
    rw[hl] at cF;cases cF
    cases hk with
    | row hs hn hu hv hf hp=>
     obtain⟨ty,hs⟩:=hs
     have hx:=hvx.cells
     have hlen:=hx.length
     have dW:=kH hi hle
     have jl:∀j,j<x.cells.toList.length→(w.cell? ⟨l.c,l.o+(i*z+off)+j,none⟩).isSome=true:=fun j hj=>kG hs (by omega)
     refine⟨w.setCells l.c (l.o+(i*z+off)) x.cells.toList,?_,?_⟩
     ·have:=run_storeCells_cells (P:=P) l.c (l.o+(i*z+off)) x.cells.toList 0 w (by simpa using jl)
       (fun j hj=>by simpa using hf (l.o+(i*z+off)+j) (by omega)) (hx.ml nM)
      simpa using this
     ·obtain⟨r1,r2,r3⟩:=kx l.c x.cells.toList (l.o+(i*z+off)) w
      have hE:=A0 (u:=f i) (v:=v) (off:=off) (hu i hi) hle
      refine bf.set h hb hl rfl (kv _ _ _ _) (fun c hc=>gz _ _ _ _ _ hc) r1 r2 r3 ?_
      refine .row ⟨ty,by rw[jR];exact hs⟩ hn (fun j hj=>?_) (fun j hj k u hk=>?_) (fun i hi=>by rw[World.frozen?_setCells];exact hf i hi) (fun qH i=>by rw[World.frozen?_setCells];exact hp qH i)
      ·rw[En]
       split
       ·rw[hE]
        have:=hu i hi
        simp only[List.length_append,List.length_take,List.length_drop]
        omega
       ·exact hu j hj
      ·rw[En] at hk
       have out:∀u k,(f j).cells[k]? =some u→(j≠i∨k<off∨off+v.cells.length≤k)→∃y,(w.setCells l.c (l.o+(i*z+off)) x.cells.toList).cell? ⟨l.c,l.o+(j*z+k),none⟩=some y∧aq ρ u y:=by
        intro u k hk ZA
        obtain⟨y,hy,hr⟩:=hv j hj k u hk
        have hkz:k<z:=by rw[←hu j hj];exact(List.getElem?_eq_some_iff.1 hk).1
        refine⟨y,?_,hr⟩
        rw[World.cell?_setCells_out l.c x.cells.toList (l.o+(i*z+off)) w _ (fun _ _=>?_)]
        ·exact hy
        ·dsimp only
         by_cases Eo:j=i
         ·subst Eo
          rcases ZA with h | h | h
          ·exact absurd rfl h
          ·omega
          ·omega
         ·rcases Nat.lt_or_gt_of_ne Eo with h | h
          ·have:=kH (e:=z) h (Nat.le_refl z);omega
          ·have:=kH (e:=z) h (Nat.le_refl z);omega
       by_cases Eo:j=i
       ·subst Eo
        rw[if_pos rfl,hE] at hk
        have huj:=hu j hj
        by_cases k1:k<off
        ·rw[List.getElem?_append_left (by rw[List.length_take];omega),List.getElem?_take,if_pos k1] at hk
         exact out u k hk (.inr (.inl k1))
        ·rw[List.getElem?_append_right (by rw[List.length_take];omega),List.length_take,Nat.min_eq_left (by omega)] at hk
         by_cases k2:k-off<v.cells.length
         ·rw[List.getElem?_append_left k2] at hk
          obtain⟨y,hy,hr⟩:=hx.get _ hk
          refine⟨y,?_,hr⟩
          have iY:k-off<x.cells.toList.length:=by omega
          have:=World.cell?_setCells_in l.c x.cells.toList (l.o+(j*z+off)) w jl (k-off) iY
          rw[show l.o+(j*z+off)+(k-off)=l.o+(j*z+k) by omega] at this
          rw[this]
          rw[List.getElem?_eq_getElem iY] at hy
          exact hy
         ·rw[List.getElem?_append_right (by omega),List.getElem?_drop,show off+v.cells.length+(k-off-v.cells.length)=k by omega] at hk
          exact out u k hk (.inr (.inr (by omega)))
       ·rw[if_neg Eo] at hk
        exact out u k hk (.inl Eo)
  ·cases az
 ·cases az
theorem bf.vb [Env] {ids:Nat→Prop} {bz:Ren} {σ₀:St} {eY:World} (h:bf ids bz σ₀ eY ρ σ w) {b n esz:Nat} {f:Nat→V} {z:List V} {t:Trie V} {p:Bool} (hb:σ.heap.get b=some (.cells (n*esz) z t p false))
  (hu:∀i,i<n→(f i).cells.length=esz) (hc:∀i,i<n→∀k v,(f i).cells[k]? =some v→cellOf (n*esz) z t (i*esz+k)=some v)
  {σ':St} (JC:∀b',σ'.heap.get b'=if b'=b then some (.row n f esz p) else σ.heap.get b') (hn:σ'.next=σ.next):bf ids bz σ₀ eY ρ σ' w:=by
 have hd:∀b' k,σ'.heap.get b'=some k→∃k',σ.heap.get b'=some k':=by
  intro b' k hk
  rw[JC] at hk
  by_cases e:b'=b
  ·subst e;exact⟨_,hb⟩
  ·rw[if_neg e] at hk;exact⟨_,hk⟩
 have k7:∀c,Wr ρ σ' c→Wr ρ σ c:=by
  rintro c ⟨b',k,l,h1,_,h3,h4⟩
  obtain⟨k',fM⟩:=hd b' k h1
  exact⟨b',k',l,fM,rfl,h3,h4⟩
 refine⟨⟨fun b' k hk=>?_,fun cQ cR k₁ k₂ cg lG h1 h2=>?_,fun b' bq=>h.r.fresh b' (by rw[←hn];exact bq),h.r.valid,fun c o x hx=>⟨(h.r.aL c o x hx).1,fun hw=>(h.r.aL c o x hx).2 (k7 c hw)⟩,h.r.laid⟩,
  h.le,by rw[hn];exact h.next,h.iy,h.size,h.os,h.tape,h.output,h.aJ,fun c hc hw=>h.wr c hc (k7 c hw),fun b' k hk=>?_,h.gv⟩
 ·rw[JC] at hk
  by_cases e:b'=b
  ·subst e
   rw[if_pos rfl] at hk
   cases hk
   obtain⟨l,hl,dD⟩:=h.r.cP _ _ hb
   refine⟨l,hl,?_⟩
   cases dD with
   | cells hs hn hv hf hp=>exact .row hs hn hu (fun i hi k v hk=>hv _ _ (hc i hi k v hk)) (hf rfl) hp
  ·rw[if_neg e] at hk;exact h.r.cP b' k hk
 ·obtain⟨Ww,fM⟩:=hd _ _ h1
  obtain⟨Wx,BG⟩:=hd _ _ h2
  exact h.r.inj _ _ _ _ _ _ fM BG
 ·obtain⟨k',ed⟩:=hd _ _ hk
  exact h.iM b' k' ed
end
end Go.Ev
end
section
namespace Go.Ev
open Go
theorem bA.Holds.bind {α β:Type} {p:β→Prop} {r:bA α} {f:α→bA β} (h:(r.bind f).Holds p):r.Holds fun a=>(f a).Holds p:=by
 induction r with
 | ok a=>exact h
 | fail w=>exact h
 | pick n k ih=>exact⟨h.1,fun i hi=>ih i (h.2 i hi)⟩
 | tr C hm he=>exact h
theorem bA.Holds.dP {α β:Type} {p:β→Prop} {r:bA α} {f:α→bA β} (h:r.Holds fun a=>(f a).Holds p):(r.bind f).Holds p:=by
 induction r with
 | ok a=>exact h
 | fail w=>exact h
 | pick n k ih=>exact⟨h.1,fun i hi=>ih i (h.2 i hi)⟩
 | tr C hm he=>exact h
theorem bA.DK {n:Nat} {p:Nat→Bool} (h:bA.qy n p=true) {i:Nat} (hi:i<n):p i=true:=by
 induction n with
 | zero=>omega
 | succ n ih=>
  simp only[bA.qy,Bool.and_eq_true] at h
  by_cases e:i=n
  ·subst e;exact h.2
  ·exact ih h.1 (by omega)
theorem bA.mq {α:Type} {p:α→Bool} {r:bA α} (h:r.check p=true):r.Holds fun a=>p a=true:=by
 induction r with
 | ok a=>exact h
 | fail w=>cases h
 | pick n k ih=>
  have h':(Nat.blt 0 n&&bA.qy n fun i=>(k i).check p)=true:=h
  rw[Bool.and_eq_true,Nat.blt_eq] at h'
  exact⟨h'.1,fun i hi=>ih i (bA.DK h'.2 hi)⟩
 | tr C hm he=>cases h
def Ha [Env] (P:Program) (s:Sem Next) (id:Nat) (ρ:Ren) (σ:St) (w:World) (p:V×St→Prop):Prop:=
 ∃v σ' ρ' v' w',p (v,σ')∧aq ρ' v v'∧bf (fun b=>b=id) ρ σ w ρ' σ' w'∧
  (s.run P w=.ok (.value v') w'∨(v'=undef∧s.run P w=.ok .skip w'))
section
variable {P:Program} {ρ:Ren} {σ:St} {w:World} {id:Nat} {p:V×St→Prop}
theorem Ha.value [Env] {s:Sem Next} (hr:R ρ σ w) {v:V} {v':Value} (hp:p (v,σ)) (hv:aq ρ v v') (h:s.run P w=.ok (.value v') w):Ha P s id ρ σ w p:=
 ⟨v,σ,ρ,v',w,hp,hv,bf.refl hr,.inl h⟩
theorem dd {fW:String} {x:Option V} (h:(aJ σ fW x).Holds p):∃v,x=some v∧p (v,σ):=by
 cases x with
 | none=>exact h.elim
 | some v=>exact⟨v,rfl,h⟩
theorem eb {fW:String} {x:Option V} {k:V→VS} (h:(eV fW x k).Holds p):∃v,x=some v∧(k v).Holds p:=by
 cases x with
 | none=>exact h.elim
 | some v=>exact⟨v,rfl,h⟩
theorem k9 {fW:String} {x y:Option V} {k:V→V→VS} (h:(pj fW x y k).Holds p):∃v u,x=some v∧y=some u∧(k v u).Holds p:=by
 cases x with
 | none=>exact h.elim
 | some v=>cases y with
  | none=>exact h.elim
  | some u=>exact⟨v,u,rfl,rfl,h⟩
theorem run_typeInfo {t:TypeId} {i:TypeInfo} (h:P.info? t=some i):(typeInfo t).run P w=.ok i w:=by simp [typeInfo,h]
theorem run_underlying {t:TypeId} {d:TypeDesc} (h:P.underlying t=some d):(underlying t).run P w=.ok d w:=by simp [underlying,h]
theorem br [Env] {t:TypeId} {n:Nat} (h:bN P t=some n):(sizeOf t).run P w=.ok n w:=by
 unfold bN at h
 rw[Option.map_eq_some_iff] at h
 obtain⟨i,hi,rfl⟩:=h
 simp [sizeOf,run_typeInfo hi]
theorem rI {t:TypeId} {n:Nat} (h:iX P t=some n):∃i,P.info? t=some i∧i.bytes=n:=by
 unfold iX at h
 rw[Option.map_eq_some_iff] at h
 exact h
theorem eZ [Env] {t:TypeId} {b:Bool} (h:rq P t=some b):(isAgg t).run P w=.ok b w:=by
 unfold rq at h
 unfold isAgg
 cases hu:P.underlying t with
 | none=>simp [hu] at h
 | some d=>
  simp only[Sem.run_bind,run_underlying hu,Result.andThen_ok]
  rw[hu] at h
  cases d<;>simp at h<;>subst h<;>rfl
theorem gN [Env] {t:TypeId} {z:V} (h:gy P t=some z) (ρ:Ren):∃zv,(∀w,(zeroValue t).run P w=.ok zv w)∧aq ρ z zv:=by
 unfold gy at h
 rw[Option.bind_eq_some_iff] at h
 obtain⟨zv,h1,h2⟩:=h
 rw[Option.bind_eq_some_iff] at h1
 obtain⟨i,hi,hz⟩:=h1
 exact⟨zv,fun w=>by simp [zeroValue,run_typeInfo hi,hz],mQ ρ zv h2⟩
theorem Ah [Env] (hr:R ρ σ w) {t:TypeId} {x v:V} {x':Value} (hx:aq ρ x x') (h:eg P σ t x=some v):∃v',(Instr.loadAt t x').run P w=.ok v' w∧aq ρ v v'∧∃a,x'=.pointer (some a)∧(loadVar t a).run P w=.ok v' w:=by
 unfold eg at h
 split at h
 ·rename_i b off n fS bd
  cases hx with
  | ptr hl=>
   rw[Option.map_eq_some_iff] at h
   obtain⟨vs,gO,rfl⟩:=h
   obtain⟨xs,xI,aO,_⟩:=hr.loadCells (P:=P) gO hl
   have aI:=xI w rfl
   refine⟨.agg ⟨xs⟩,?_,.agg aO,_,rfl,?_⟩
   ·simp [Instr.loadAt,Instr.sureAddr,loadVar,eZ fS,br bd,aI]
   ·simp [loadVar,eZ fS,br bd,aI]
 ·rename_i b off fS
  cases hx with
  | ptr hl=>
   obtain⟨x,hc,aO⟩:=hr.cell h hl
   refine⟨x,?_,aO,_,rfl,?_⟩
   ·simp [Instr.loadAt,Instr.sureAddr,loadVar,eZ fS,hc]
   ·simp [loadVar,eZ fS,hc]
 ·rename_i cs off n fS bd
  cases hx with
  | aM hx hi=>
   rename_i c o xs
   split at h
   ·rename_i hle
    cases h
    rw[bc] at hle
    have hle:off+n≤cs.length:=Nat.le_of_ble_eq_true hle
    have hlen:=hx.length
    rw[eP,ew]
    have hl:((xs.drop off).take n).length=n:=by simp;omega
    have aI:∀bg:World,bg.heap=w.heap→(loadCells ⟨c,o+off,none⟩ n).run P bg=.ok ⟨(xs.drop off).take n⟩ bg:=fun bg hw=>by
     have:=hr.va (P:=P) (c:=c) (o:=o+off) (xs:=(xs.drop off).take n) (fun k x hk=>by
      rw[Nat.add_assoc]
      refine hi (off+k) x ?_
      rw[List.getElem?_take] at hk
      split at hk
      ·rw[List.getElem?_drop] at hk;exact hk
      ·cases hk) bg hw
     rwa [hl] at this
    refine⟨.agg ⟨(xs.drop off).take n⟩,?_,.agg ((hx.drop off).take n),_,rfl,?_⟩
    ·simp [Instr.loadAt,Instr.sureAddr,loadVar,eZ fS,br bd,aI w rfl]
    ·simp [loadVar,eZ fS,br bd,aI w rfl]
   ·cases h
 ·rename_i cs off fS
  cases hx with
  | aM hx hi=>
   rename_i c o xs
   rw[dA] at h
   obtain⟨x,cG,aO⟩:=hx.get _ h
   have hc:w.cell? ⟨c,o+off,none⟩=some x:=(hr.aL _ _ _ (hi off x cG)).1
   refine⟨x,?_,aO,_,rfl,?_⟩
   ·simp [Instr.loadAt,Instr.sureAddr,loadVar,eZ fS,hc]
   ·simp [loadVar,eZ fS,hc]
 ·rename_i b i esz off n fS bd
  cases hx with
  | fy hl=>
   rename_i l
   rw[Option.bind_eq_some_iff] at h
   obtain⟨cs,dE,h⟩:=h
   obtain⟨hlen,xs,hx,jl⟩:=hr.fy dE hl
   unfold G4 at h
   split at h
   ·rename_i hle
    cases h
    rw[bc] at hle
    have hle:off+n≤cs.length:=Nat.le_of_ble_eq_true hle
    have hlen:=hx.length
    rw[eP,ew]
    have hlx:((xs.drop off).take n).length=n:=by simp;omega
    have aI:(loadCells ⟨l.c,l.o+(i*esz+off),none⟩ n).run P w=.ok ⟨(xs.drop off).take n⟩ w:=by
     have:=run_loadCells_list (P:=P) w ⟨l.c,l.o+(i*esz+off),none⟩ ((xs.drop off).take n) (fun j x hj=>by
      rw[ek,show l.o+(i*esz+off)+j=l.o+(i*esz+(off+j)) by omega]
      refine jl (off+j) x ?_
      rw[List.getElem?_take] at hj
      split at hj
      ·rw[List.getElem?_drop] at hj;exact hj
      ·cases hj)
     rwa [hlx] at this
    refine⟨.agg ⟨(xs.drop off).take n⟩,?_,.agg ((hx.drop off).take n),_,rfl,?_⟩
    ·simp [Instr.loadAt,Instr.sureAddr,loadVar,eZ fS,br bd,aI]
    ·simp [loadVar,eZ fS,br bd,aI]
   ·cases h
 ·rename_i b i esz off fS
  cases hx with
  | fy hl=>
   rename_i l
   rw[Option.bind_eq_some_iff] at h
   obtain⟨cs,dE,h⟩:=h
   obtain⟨hlen,xs,hx,jl⟩:=hr.fy dE hl
   rw[dA] at h
   obtain⟨x,cG,aO⟩:=hx.get _ h
   have hc:w.cell? ⟨l.c,l.o+(i*esz+off),none⟩=some x:=jl off x cG
   refine⟨x,?_,aO,_,rfl,?_⟩
   ·simp [Instr.loadAt,Instr.sureAddr,loadVar,eZ fS,hc]
   ·simp [loadVar,eZ fS,hc]
 ·cases h
theorem Ai [Env] (hr:R ρ σ w) (cq:ρ id=none) {vs:List V} {xs:List Value} (hx:au ρ vs xs) {ty:TypeId} {w':World} (hw:w'.heap=w.heap.push (.cells ⟨xs⟩ ty (0,0)))
  (ho:w'.os=w.os) (ht:w'.tape=w.tape) (hp:w'.output=w.output):
  bf (fun b=>b=id) ρ σ w (k8 ρ id ⟨w.heap.size,0,xs.length⟩) (newRow σ id vs.length [] (an vs .leaf 0) true) w':=by
 have kf:w'.heap[w.heap.size]? =some (.cells ⟨xs⟩ ty (0,0)):=by rw[hw];simp
 refine bf.alloc hr cq hw ho ht hp (.cells ⟨ty,?_⟩ (by simp [hx.length]) (fun i v hi=>?_) (fun _ i _=>?_) (fun _ i=>?_))
 ·simp [World.shape?,kf]
 ·rcases fR hi with ⟨_,h2,h3⟩ | ⟨_,h2⟩
  ·obtain⟨x,cG,aO⟩:=hx.get _ h3
   refine⟨x,?_,aO.mono (jz ρ _ cq)⟩
   simpa [World.cell?,kf] using cG
  ·unfold cellOf at h2
   split at h2
   ·rw[Trie.eK] at h2;simp [dA] at h2
   ·cases h2
 ·simp [World.frozen?,kf]
 ·simp [World.frozen?,kf]
theorem Ep [Env] (hr:R ρ σ w) (cq:ρ id=none) {v:V} {x:Value} (hx:aq ρ v x) (e:TypeId) (hp:p (.ptr id 0,newRow σ id (len v.cells) [] (an v.cells .leaf 0) true)) {s:Sem Next}
  (hs:s.run P w=.ok (.value (.pointer (some ⟨w.heap.size,0,none⟩))) {w with heap:=w.heap.push (.cells x.cells e)}):Ha P s id ρ σ w p:=by
 have hc:=hx.cells
 have az:=Ai hr cq hc (ty:=e) (w':={w with heap:=w.heap.push (.cells x.cells e)}) rfl rfl rfl rfl
 rw[bc] at hp
 exact⟨_,_,_,_,_,hp,.ptr (l:=⟨w.heap.size,0,x.cells.toList.length⟩) (jy _ _ _),az,.inl (by simpa using hs)⟩
inductive jA [Env] (ρ:Ren):List (Nat×V)→List (Nat×Value)→Prop
 | nil:jA ρ [] []
 | cons {i:Nat} {v:V} {x:Value} {l:List (Nat×V)} {l':List (Nat×Value)} (h:aq ρ v x) (hl:jA ρ l l'):jA ρ ((i,v)::l) ((i,x)::l')
theorem bC.parts [Env] {a:Act} {a':Go.Act} (h:bC ρ a a') (l:List (Nat×Operand)) {vs:List (Nat×V)} (hv:a.parts l=some vs):jA ρ vs (l.map fun q=>(q.1,a'.eval q.2)):=by
 induction l generalizing vs with
 | nil=>have mf:some []=some vs:=hv;cases mf;exact .nil
 | cons q l ih=>
  obtain⟨v,t,h1,h2,rfl⟩:=nZ (x:=u3 a q) (l:=a.parts l) hv
  unfold u3 at h1
  split at h1
  ·rename_i u hu
   cases h1
   exact .cons (h.eval q.2 hu) (ih h2)
  ·cases h1
theorem LB (off:Nat):∀(vs:List Value) (k:Nat) (A:List Value),off+k+vs.length≤A.length→
  (vs.zipIdx k).foldl (fun(cs:Array Value) (q:Value×Nat)=>cs.setIfInBounds (off+q.2) q.1) ⟨A⟩=⟨A.take (off+k)++(vs++A.drop (off+k+vs.length))⟩:=by
 intro vs
 induction vs with
 | nil=>intro k A _;simp
 | cons u vs ih=>
  intro k A hA
  simp only[List.length_cons] at hA
  have h1:((⟨A⟩:Array Value).setIfInBounds (off+k) u)=⟨A.set (off+k) u⟩:=by simp
  rw[List.zipIdx_cons,List.foldl_cons,h1,ih (k+1) _ (by simp;omega)]
  congr 1
  apply List.ext_getElem?
  intro i
  simp only[List.getElem?_append,List.length_take,List.length_set,List.getElem?_take,List.getElem?_set,List.getElem?_drop,List.length_cons,List.getElem?_cons]
  grind
theorem wU [Env] {place:Nat→Option (Nat×Nat)}:∀(ps:List (Nat×V)) (xJ:List (Nat×Value)) (cs:List V) (lz:List Value) {r:List V},jA ρ ps xJ→au ρ cs lz→
  rr place ps cs=some r→∃r':List Value,Instr.fill place ⟨lz⟩ xJ=some ⟨r'⟩∧au ρ r r':=by
 intro ps
 induction ps with
 | nil=>
  intro xJ cs lz r po dE h
  cases po
  have h':some cs=some r:=h
  cases h'
  exact⟨lz,rfl,dE⟩
 | cons q ps ih=>
  intro xJ cs lz r po dE h
  cases po with
  | cons hv hl=>
   rename_i i v x l'
   have h':(match mi cs v.cells (place i) with | some xK=>rr place ps xK | none=>none)=some r:=h
   cases hf:mi cs v.cells (place i) with
   | none=>rw[hf] at h';cases h'
   | some xK=>
    rw[hf] at h'
    cases sO:place i with
    | none=>rw[sO] at hf;cases hf
    | some os=>
     obtain⟨off,size⟩:=os
     rw[sO] at hf
     unfold mi at hf
     dsimp only at hf
     cases hb:(Nat.beq (len v.cells) size&&Nat.ble (Nat.add off size) (len cs)) with
     | false=>rw[hb] at hf;cases hf
     | true=>
      rw[hb] at hf
      simp only[Option.some.injEq] at hf
      rw[Bool.and_eq_true,bc,bc] at hb
      have h1:v.cells.length=size:=Nat.eq_of_beq_eq_true hb.1
      have h2:off+size≤cs.length:=Nat.le_of_ble_eq_true hb.2
      have X8:=hv.cells
      have Ya:x.cells.size=size:=by rw[←h1,X8.length];simp
      have iZ:=dE.length
      subst hf
      rw[gI,gI,eP,ew] at h'
      have aO:au ρ (cs.take off++(v.cells++cs.drop (off+size))) (lz.take off++(x.cells.toList++lz.drop (off+size))):=
       (dE.take off).append (X8.append (dE.drop _))
      obtain⟨r',gw,dT⟩:=ih l' _ _ hl aO h'
      refine⟨r',?_,dT⟩
      simp only[Instr.fill,sO]
      have nr:(decide (x.cells.size≠size)||decide (off+x.cells.size>(⟨lz⟩:Array Value).size))=false:=by
       simp only[List.size_toArray,Bool.or_eq_false_iff,decide_eq_false_iff_not]
       omega
      rw[nr]
      simp only[Bool.false_eq_true,if_false]
      rw[←gw,←Array.foldl_toList,Array.toList_zipIdx,LB off x.cells.toList 0 lz (by simp [Ya];omega)]
      simp [Ya]
end
end Go.Ev
end
section
namespace Go.Ev
open Go
section
variable {P:Program} {ρ:Ren} {σ:St} {w:World} {id:Nat} {p:V×St→Prop}
theorem la [Env] {t:TypeId} {cs:List V} {lz:List Value} {off:Nat} {v:V} (hc:au ρ cs lz) (h:dV P t cs off=some v):
  ∃v',(∀w,(part t ⟨lz⟩ off).run P w=.ok v' w)∧aq ρ v v':=by
 unfold dV at h
 split at h
 ·rename_i n fS bd
  split at h
  ·rename_i hb
   cases h
   refine⟨.agg ⟨(lz.drop off).take n⟩,fun w=>?_,?_⟩
   ·simp only[part,Sem.run_bind,eZ fS,Result.andThen_ok,if_true,br bd,Sem.run_pure]
    congr 2
    simp [List.extract_eq_take_drop]
   ·rw[eP,ew]
    exact .agg ((hc.drop off).take n)
  ·cases h
 ·rename_i fS
  rw[dA] at h
  obtain⟨x,hx,hr⟩:=hc.get off h
  refine⟨x,fun w=>?_,hr⟩
  simp [part,eZ fS,hx]
 ·cases h
theorem Hb [Env] {fs:List Field} {l:List (Nat×Nat)} (h:places P fs=some l):∀w,(fs.mapM fun f=>(Prod.mk f.offset <$> sizeOf f.type:Sem (Nat×Nat))).run P w=.ok l w:=by
 induction fs generalizing l with
 | nil=>intro w;simp only[places,Option.some.injEq] at h;subst h;rfl
 | cons f fs ih=>
  intro w
  simp only[places] at h
  cases hs:bN P f.type with
  | none=>simp [hs] at h
  | some n=>
   cases hl:places P fs with
   | none=>simp [hs,hl] at h
   | some r=>
    simp only[hs,hl,Option.some.injEq] at h
    subst h
    simp [List.mapM_cons,br hs,ih hl]
theorem JD [Env] {t:TypeId} {ps:List (Nat×V)} {xJ:List (Nat×Value)} {v:V} (po:jA ρ ps xJ) (h:s5 P t ps=some v):
  ∃v',(∀w,(Instr.build t ⟨xJ⟩).run P w=.ok v' w)∧aq ρ v v':=by
 unfold s5 at h
 split at h
 ·rename_i z fs hz hu
  split at h
  ·rename_i pl sO
   rw[Option.map_eq_some_iff] at h
   obtain⟨cs,dE,rfl⟩:=h
   obtain⟨zv,gC,pq⟩:=gN hz ρ
   obtain⟨r',gw,dT⟩:=wU ps xJ z.cells zv.cells.toList po pq.cells dE
   refine⟨.agg ⟨r'⟩,fun w=>?_,.agg dT⟩
   have hm:(fs.mapM fun f=>(do pure (f.offset,←sizeOf f.type):Sem (Nat×Nat))).run P w=.ok pl.toArray w:=by
    rw[Array.mapM_eq_mapM_toList]
    simp [Hb sO w]
   have ZC:(fun i=>(pl.toArray)[i]?)=nth pl:=by funext i;simp [dA]
   simp only[Instr.build,Sem.run_bind,gC,Result.andThen_ok,run_underlying hu,hm]
   rw[ZC,gw]
   rfl
  ·cases h
 ·rename_i z n e hz hu
  split at h
  ·rename_i k hk
   rw[Option.map_eq_some_iff] at h
   obtain⟨cs,dE,rfl⟩:=h
   obtain⟨zv,gC,pq⟩:=gN hz ρ
   obtain⟨r',gw,dT⟩:=wU ps xJ z.cells zv.cells.toList po pq.cells dE
   refine⟨.agg ⟨r'⟩,fun w=>?_,.agg dT⟩
   simp only[Instr.build,Sem.run_bind,gC,Result.andThen_ok,run_underlying hu,br hk]
   rw[gw]
   rfl
  ·cases h
 ·cases h
theorem gP {t e:TypeId} (h:gu P t=some e):P.underlying t=some (.slice e):=by
 unfold gu at h
 split at h
 ·cases h;assumption
 ·cases h
theorem rJ {t e:TypeId} {n:Nat} (h:jt P t=some (n,e)):P.underlying t=some (.array n e):=by
 unfold jt at h
 split at h
 ·cases h;assumption
 ·cases h
theorem JE (a b:List UInt8):((⟨⟨a⟩⟩:ByteArray)==⟨⟨b⟩⟩)=(a==b):=by
 show((⟨a⟩:Array UInt8)==⟨b⟩)=_
 simp
def vc [Env] (P:Program) (ρ:Ren) (eq:TypeId→V→V→Option Bool) (d:Nat):Prop:=
 ∀t x y b,eq t x y=some b→∀x' y',aq ρ x x'→aq ρ y y'→∀n,d≤n→∀w,(Op.equalIn n t x' y').run P w=.ok b w
theorem BH [Env] {eq:TypeId→V→V→Option Bool} {d n:Nat} (he:vc P ρ eq d) (hn:d≤n) {xs ys:List V} {JF JG:List Value} (hx:au ρ xs JF) (hy:au ρ ys JG):
  ∀(fs:List Field) {b:Bool},oA P eq xs ys fs=some b→∀w,(Op.eqFields n ⟨JF⟩ ⟨JG⟩ fs).run P w=.ok b w:=by
 intro fs
 induction fs with
 | nil=>intro b h w;have h':some true=some b:=h;cases h';simp [Op.eqFields]
 | cons f fs ih=>
  intro b h w
  have h':(match f.name== "_",dV P f.type xs f.offset,dV P f.type ys f.offset with
   | false,some a,some b=>match eq f.type a b with
    | some true=>oA P eq xs ys fs
    | some false=>some false
    | none=>none
   | _,_,_=>none)=some b:=h
  split at h'
  ·rename_i a c eh ha hc
   obtain⟨a',RK,JH⟩:=la hx ha
   obtain⟨c',RL,tg⟩:=la hy hc
   have RM:f.name≠ "_":=by simpa using eh
   simp only[Op.eqFields,if_pos RM,Sem.run_bind,RK,RL,Result.andThen_ok]
   split at h'
   ·rename_i heq
    simp only[he _ _ _ _ heq _ _ JH tg n hn w,Result.andThen_ok]
    simpa using ih h' w
   ·rename_i heq
    cases h'
    simp only[he _ _ _ _ heq _ _ JH tg n hn w,Result.andThen_ok]
    simp
   ·cases h'
  ·cases h'
theorem v8 [Env] {eq:TypeId→V→V→Option Bool} {d n:Nat} (he:vc P ρ eq d) (hn:d≤n) {t:TypeId} {fs:Array Field} (hu:P.underlying t=some (.struct fs)) {x y:V} {b:Bool}
  (h:hY P eq t fs.toList x y=some b) {x' y':Value} (hx:aq ρ x x') (hy:aq ρ y y') (w:World):(Op.equalIn (n+1) t x' y').run P w=.ok b w:=by
 unfold hY at h
 split at h
 ·cases h
 ·rename_i az
  split at h
  ·split at h
   ·cases hx with | agg hx=>cases hy with | agg hy=>
    have hf:P.fieldsOf t=fs:=by simp [Program.fieldsOf,hu]
    rw[run_equalIn_struct (P:=P) w n t _ _ (by rw[hf];exact hu) az,hf]
    exact BH he hn hx hy _ h w
   ·cases h
  ·cases h
theorem rK [Env]:∀(d:Nat),vc P ρ (j9 P d) d:=by
 intro d
 induction d with
 | zero=>intro t x y b h;cases h
 | succ d ih=>
  intro t x y b h x' y' hx hy n hn w
  obtain⟨n,rfl⟩:∃m,n=m+1:=⟨n-1,by omega⟩
  have h':uZ P (j9 P d) t x y (P.underlying t)=some b:=h
  unfold uZ at h'
  split at h'
  ·rename_i hu
   split at h'
   ·split at h'
    ·cases h';cases hx;cases hy;simp [Op.equalIn,run_underlying hu]
    ·cases h'
   ·cases h'
  ·rename_i hu
   split at h'
   ·split at h'
    ·split at h'
     ·rename_i hk;cases h';cases hx;cases hy;simp [Op.equalIn,run_underlying hu,hk]
     ·cases h'
    ·cases h'
   ·split at h'
    ·rename_i i j
     obtain⟨rfl,rfl,hi⟩:=G3 h'
     cases hx;cases hy
     obtain⟨q,hq⟩:=Env.int j hi
     rw[hq];simp [Op.equalIn,run_underlying hu]
    ·cases h'
   ·cases h'
  ·rename_i hu
   split at h'
   ·split at h'
    ·cases h';cases hx;cases hy;simp [Op.equalIn,run_underlying hu,JE]
    ·cases h'
   ·cases h'
  ·rename_i fs hu
   exact v8 ih (by omega) hu h' hx hy w
  ·cases h'
theorem DL [Env] {eq:TypeId→V→V→Option Bool} {d n:Nat} (he:vc P ρ eq d) (hn:d≤n) {e:TypeId} {sz:Nat} {xs ys:List V} {JF JG:List Value} (hx:au ρ xs JF) (hy:au ρ ys JG):
  ∀(k i:Nat) {b:Bool},qw P eq e sz xs ys k i=some b→∀w,(Op.eqItems n e sz ⟨JF⟩ ⟨JG⟩ (List.range' i k)).run P w=.ok b w:=by
 intro k
 induction k with
 | zero=>intro i b h w;have h':some true=some b:=h;cases h';simp [Op.eqItems]
 | succ k ih=>
  intro i b h w
  have h':(match dV P e xs (i*sz),dV P e ys (i*sz) with
   | some a,some b=>match eq e a b with
    | some true=>qw P eq e sz xs ys k (i+1)
    | some false=>some false
    | none=>none
   | _,_=>none)=some b:=h
  rw[List.range'_succ]
  split at h'
  ·rename_i a c ha hc
   obtain⟨a',RK,JH⟩:=la hx ha
   obtain⟨c',RL,tg⟩:=la hy hc
   simp only[Op.eqItems,Sem.run_bind,RK,RL,Result.andThen_ok]
   split at h'
   ·rename_i heq
    simp only[he _ _ _ _ heq _ _ JH tg n hn w,Result.andThen_ok]
    simpa using ih (i+1) h' w
   ·rename_i heq
    cases h'
    simp only[he _ _ _ _ heq _ _ JH tg n hn w,Result.andThen_ok]
    simp
   ·cases h'
  ·cases h'
theorem DM [Env] {t e:TypeId} {k:Nat} (hu:P.underlying t=some (.array k e)) {x y:V} {b:Bool} (h:jO P t e k x y=some b) {x' y':Value} (hx:aq ρ x x') (hy:aq ρ y y') {n:Nat} (hn:eQ≤n) (w:World):
  (Op.equalIn (n+1) t x' y').run P w=.ok b w:=by
 unfold jO at h
 split at h
 ·cases h
 ·split at h
  ·rename_i sz bd
   split at h
   ·split at h
    ·cases hx with | agg hx=>cases hy with | agg hy=>
     unfold bN at bd
     rw[Option.map_eq_some_iff] at bd
     obtain⟨i,hi,bd⟩:=bd
     have hc:P.cellsOf e=sz:=by unfold Program.cellsOf;rw[hi];exact bd
     rw[run_equalIn_array w n _ _ hu hi,hc,List.range_eq_range']
     exact DL (rK eQ) hn hx hy k 0 h w
    ·cases h
   ·cases h
  ·cases h
theorem A1 (a b:Addr) (h:a.block=b.block) (w:World):(sameAddr a b).run P w=.ok (a==b) w:=by
 unfold sameAddr
 rw[if_pos (by simpa using h)]
 rfl
theorem yU {a b:Addr} (h:a.block≠b.block) (ha:∃e n,w.shape? a.block=some (e,n)) (hb:∃e n,w.shape? b.block=some (e,n))
  (fa:∀i,w.frozen? ⟨a.block,i,none⟩=false) (fb:∀i,w.frozen? ⟨b.block,i,none⟩=false) (sa:a.spot=none) (sb:b.spot=none):(sameAddr a b).run P w=.ok false w:=by
 obtain⟨e,n,ha⟩:=ha
 obtain⟨e',n',hb⟩:=hb
 obtain⟨ab,ao,aef⟩:=a
 obtain⟨bb,bo,bs⟩:=b
 simp only at h ha hb fa fb sa sb
 subst sa;subst sb
 have bQ:(ab==bb)=false:=by simpa using h
 simp [sameAddr,bQ,fa,fb,noView,viewAt,ha,hb,mayBeOne,stringish]
theorem JI [Env] (hr:R ρ σ w) {e b o b' o':Nat} {r:Bool} (h:ptrEq P σ e b o b' o'=some r) {l l':Loc} (hl:ρ b=some l) (cF:ρ b'=some l') (n:Nat) {t:TypeId} (hu:P.underlying t=some (.pointer e)):
  (Op.equalIn (n+1) t (.pointer (some ⟨l.c,l.o+o,none⟩)) (.pointer (some ⟨l'.c,l'.o+o',none⟩))).run P w=.ok r w:=by
 unfold ptrEq at h
 split at h
 ·rename_i k hs
  split at h
  ·rename_i hb
   have hb:b=b':=Nat.eq_of_beq_eq_true hb
   subst hb
   rw[hl] at cF;cases cF
   split at h
   ·cases h
    simp [Op.equalIn,run_underlying hu,br hs,A1]
    rw[Bool.eq_iff_iff]
    simp
   ·cases h
  ·rename_i hb
   have hb:b≠b':=fun e=>by subst e;rw[Nat.beq_refl] at hb;cases hb
   split at h
   ·rename_i h1 h2
    cases h
    obtain⟨⟨t1,s1⟩,_,_,_,f1⟩:=hr.cells h1 hl
    obtain⟨⟨t2,s2⟩,_,_,_,f2⟩:=hr.cells h2 cF
    have hc:l.c≠l'.c:=fun ec=>hb (hr.inj _ _ _ _ _ _ h1 h2 hl cF ec)
    have:=yU (P:=P) (w:=w) (a:=⟨l.c,l.o+o,none⟩) (b:=⟨l'.c,l'.o+o',none⟩) hc ⟨_,_,s1⟩ ⟨_,_,s2⟩ (f1 rfl) (f2 rfl) rfl rfl
    simp [Op.equalIn,run_underlying hu,br hs,this]
   ·cases h
 ·cases h
theorem DN [Env] {tx ty:TypeId} {vx vy:V} {b:Bool} (h:yS P tx vx ty vy=some b) {Yb Yc:Value} (hx:aq ρ vx Yb) (hy:aq ρ vy Yc) {n:Nat} (hn:eQ≤n) {t:TypeId} {ms:Array (String×TypeId)}
  (hu:P.underlying t=some (.interface ms)) (w:World):(Op.equalIn (n+1) t (.iface tx Yb) (.iface ty Yc)).run P w=.ok b w:=by
 unfold yS at h
 split at h
 ·rename_i hb
  cases h
  have:tx≠ty:=fun e=>by subst e;rw[Nat.beq_refl] at hb;cases hb
  simp [Op.equalIn,run_underlying hu,this]
 ·rename_i hb
  have hb:tx=ty:=Nat.eq_of_beq_eq_true hb
  subst hb
  split at h
  ·rename_i hc
   rw[Option.map_eq_some_iff] at hc
   obtain⟨i,hi,hci⟩:=hc
   have:=rK (P:=P) (ρ:=ρ) eQ _ _ _ _ h _ _ hx hy n hn w
   simp [Op.equalIn,run_underlying hu,run_typeInfo hi,hci,this]
  ·cases h
theorem Hc [Env] (hr:R ρ σ w) {t:TypeId} {lit:Bool} {x y:V} {b:Bool} (h:evalEq P σ t lit x y=some b) {x' y':Value} (hx:aq ρ x x') (hy:aq ρ y y'):
  (Op.equal t x' y').run P w=.ok b w:=by
 unfold evalEq u1 at h
 unfold Op.equal
 obtain⟨n,hn,kg⟩:∃n,eQ≤n∧Op.maxDepth=n+1:=⟨9999,by decide,rfl⟩
 rw[kg]
 split at h
 ·rename_i hu
  split at h
  ·split at h
   ·cases h;cases hx;cases hy;simp [Op.equalIn,run_underlying hu]
   ·cases h
  ·cases h
 ·rename_i e hu
  split at h
  ·split at h
   ·cases h;cases hx;cases hy;simp [Op.equalIn,run_underlying hu]
   ·cases h;cases hx;cases hy;simp [Op.equalIn,run_underlying hu]
   ·cases h
  ·split at h
   ·cases h;cases hx;cases hy;simp [Op.equalIn,run_underlying hu]
   ·cases hx with | ptr hl=>cases hy with | ptr cF=>exact JI hr h hl cF n hu
   ·cases h
  ·cases h
 ·rename_i ms hu
  split at h
  ·split at h
   ·split at h
    ·cases h;cases hx;cases hy;simp [Op.equalIn,run_underlying hu]
    ·cases h
   ·cases h;cases hx;cases hy;simp [Op.equalIn,run_underlying hu]
   ·cases h
  ·split at h
   ·cases h;cases hx;cases hy;simp [Op.equalIn,run_underlying hu]
   ·cases hx with | iface hx=>cases hy with | iface hy=>exact DN h hx hy hn hu w
   ·cases h
  ·cases h
 ·rename_i fs hu
  split at h
  ·exact v8 (rK eQ) hn hu h hx hy w
  ·cases h
 ·rename_i k e hu
  exact DM hu h hx hy hn w
 ·rename_i hu
  split at h
  ·split at h
   ·cases h;cases hx;cases hy;simp [Op.equalIn,run_underlying hu]
   ·cases h;cases hx;cases hy;simp [Op.equalIn,run_underlying hu]
   ·cases h;cases hx;cases hy;simp [Op.equalIn,run_underlying hu]
   ·cases h
  ·split at h
   ·cases h;cases hx;cases hy;simp [Op.equalIn,run_underlying hu]
   ·cases h
  ·split at h
   ·cases h;cases hx;cases hy;simp [Op.equalIn,run_underlying hu]
   ·cases h
  ·split at h
   ·cases h;cases hy
    cases hx with
    | arr hn hx=>
     obtain⟨a,k,c,rfl⟩:=hn rfl
     simp [Op.equalIn,run_underlying hu]
   ·cases h
  ·cases h
 ·rename_i hu
  split at h
  ·split at h
   ·cases h;cases hx;cases hy;simp [Op.equalIn,run_underlying hu]
   ·cases h;cases hx;cases hy;simp [Op.equalIn,run_underlying hu]
   ·cases h
  ·split at h
   ·cases h;cases hx;cases hy;simp [Op.equalIn,run_underlying hu]
   ·cases h
  ·cases h
 ·rename_i hu
  split at h
  ·split at h
   ·cases h;cases hx;cases hy;simp [Op.equalIn,run_underlying hu]
   ·cases h;cases hx;cases hy;simp [Op.equalIn,run_underlying hu]
   ·cases h
  ·split at h
   ·cases h;cases hx;cases hy;simp [Op.equalIn,run_underlying hu]
   ·cases h
  ·cases h
 ·cases h
end
end Go.Ev
end
