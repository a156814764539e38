/- Proved: parts of the way: Mem, Ops, OpsA. -/
import Derived.Test.YtbajncpfmemdgaaGreatDoorEvQ01
import Derived.Laws.StructEq
import Derived.Laws.Concat
import Derived.MapKept
import Derived.ChangeKeysEq
set_option linter.unusedVariables false
set_option linter.unusedSimpArgs false
section
namespace Go.Ev
open Go
theorem qc {w w':World} {c:Nat} (h:w'.heap[c]? =w.heap[c]?):w'.shape? c=w.shape? c:=by
 unfold World.shape?;rw[h]
theorem cell?_of_block {w w':World} {c i:Nat} (h:w'.heap[c]? =w.heap[c]?):w'.cell? ⟨c,i,none⟩=w.cell? ⟨c,i,none⟩:=by
 unfold World.cell?;simp only[h]
theorem frozen?_of_block {w w':World} {c i:Nat} (h:w'.heap[c]? =w.heap[c]?):w'.frozen? ⟨c,i,none⟩=w.frozen? ⟨c,i,none⟩:=by
 unfold World.frozen?;simp only[h]
theorem rk.mono {ρ ρ':Ren} (eg:ρ.le ρ') {m m':Option Nat} (h:rk ρ m m'):rk ρ' m m':=by
 cases h with
 | none=>exact .none
 | some h=>exact .some (eg _ _ h)
theorem cI.same [Env] {ρ ρ':Ren} {w w':World} {l:Loc} {k:b9} (h:cI ρ w l k) (eg:ρ.le ρ') (hc:w'.heap[l.c]? =w.heap[l.c]?):cI ρ' w' l k:=by
 cases h with
 | cells hs hn hv hf hp=>
  exact .cells (by rw[qc hc];exact hs) hn
   (fun i v hi=>let ⟨x,hx,hr⟩:=hv i v hi;⟨x,by rw[cell?_of_block hc];exact hx,hr.mono eg⟩)
   (fun ie i hi=>by rw[frozen?_of_block hc];exact hf ie i hi) (fun rl i=>by rw[frozen?_of_block hc];exact hp rl i)
 | row hs hn hu hv hf hp=>
  exact .row (by rw[qc hc];exact hs) hn hu
   (fun i hi k v hk=>let ⟨x,hx,hr⟩:=hv i hi k v hk;⟨x,by rw[cell?_of_block hc];exact hx,hr.mono eg⟩)
   (fun i hi=>by rw[frozen?_of_block hc];exact hf i hi) (fun rl i=>by rw[frozen?_of_block hc];exact hp rl i)
 | map h he=>exact .map (by rw[hc];exact h) (he.mono eg)
 | iter h ho hm=>exact .iter (by rw[hc];exact h) ho (hm.mono eg)
 | loop h ht hs hd=>exact .loop (by rw[hc];exact h) (ht.mono eg) hs (eg _ _ hd)
 | deferred h=>exact .deferred (by rw[hc];exact h)
section
variable {ρ:Ren} {σ:St} {w:World}
theorem gy {w:World} {c o:Nat} {x:Value} (h:w.cell? ⟨c,o,none⟩=some x):c<w.heap.size:=by
 by_cases hc:c<w.heap.size
 ·exact hc
 ·unfold World.cell? at h
  have e:w.heap[c]? =none:=by rw[Array.getElem?_eq_none_iff];omega
  simp [e] at h
theorem R.uJ [Env] {ρ':Ren} {σ':St} {w':World} (h:R ρ σ w) (he:ρ'.aW=ρ.aW) (aV:∀c,c<w.heap.size→¬Wr ρ σ c→w'.heap[c]? =w.heap[c]?) (wr:∀c,c<w.heap.size→Wr ρ' σ' c→Wr ρ σ c):
  ∀c o x,ρ'.aW c o=some x→w'.cell? ⟨c,o,none⟩=some x∧¬Wr ρ' σ' c:=by
 intro c o x hx
 rw[he] at hx
 obtain⟨h1,h2⟩:=h.aW c o x hx
 have bI:=gy h1
 exact⟨by rw[cell?_of_block (aV c bI h2)];exact h1,fun hw=>h2 (wr c bI hw)⟩
theorem R.congr [Env] (h:R ρ σ w) {w':World} (hw:w'.heap=w.heap):R ρ σ w':=
 ⟨fun b k hb=>let ⟨l,hl,hk⟩:=h.di b k hb;⟨l,hl,hk.same (Ren.le.refl ρ) (by rw[hw])⟩,h.inj,h.fresh,fun b l hb=>by rw[hw];exact h.valid b l hb,h.uJ rfl (fun _ _ _=>by rw[hw]) fun _ _ h=>h,h.laid⟩
@[simp] theorem mR (σ:St) (b:Nat) (k:b9):(σ.set b k).heap=σ.heap.put b (some k):=by cases σ;rfl
@[simp] theorem sv (σ:St) (b:Nat) (k:b9):(σ.set b k).next=σ.next:=by cases σ;rfl
@[simp] theorem nS (σ:St) (b:Nat):(σ.kill b).heap=σ.heap.put b none:=by cases σ;rfl
@[simp] theorem uK (σ:St) (b:Nat):(σ.kill b).next=σ.next:=by cases σ;rfl
@[simp] theorem fJ (σ:St) (b:Nat) (k:b9):(σ.new b k).heap=σ.heap.put b (some k):=by cases σ;rfl
theorem GJ (n id:Nat):OQ n id=max n (id+1):=by
 unfold OQ
 cases h:Nat.ble n id with
 | true=>have:=Nat.le_of_ble_eq_true h;show id+1=_;omega
 | false=>
  have:¬n≤id:=fun h'=>by rw[Nat.ble_eq_true_of_le h'] at h;cases h
  show n=_;omega
@[simp] theorem lk (σ:St) (b:Nat) (k:b9):(σ.new b k).next=max σ.next (b+1):=by cases σ;exact GJ _ _
theorem R.od [Env] (h:R ρ σ w) {b:Nat} (hb:ρ b=none):σ.heap.get b=none:=by
 cases hk:σ.heap.get b with
 | none=>rfl
 | some k=>obtain⟨l,hl,_⟩:=h.di b k hk;rw[hb] at hl;cases hl
theorem bn.set [Env] {ids:Nat→Prop} (h:R ρ σ w) {b:Nat} {k k':b9} {l:Loc} (hk:σ.heap.get b=some k) (hl:ρ b=some l) (MK:k.xz=true)
  {w':World} (bl:w'.heap.size=w.heap.size) (uL:∀c,c≠l.c→w'.heap[c]? =w.heap[c]?) (ho:w'.os=w.os) (ht:w'.tape=w.tape) (hp:w'.output=w.output)
  (cT:cI ρ w' l k'):bn ids ρ σ w ρ (σ.set b k') w':=by
 have ML:∀b' k₁,(σ.set b k').heap.get b'=some k₁→(∃k',σ.heap.get b'=some k')∨σ.next≤b'∨ids b':=by
  intro b' k₁ bG
  rw[mR,Trie.bY] at bG
  by_cases e:b'=b
  ·subst e;exact .inl ⟨_,hk⟩
  ·rw[if_neg e] at bG;exact .inl ⟨_,bG⟩
 have qd:∀c,c<w.heap.size→¬Wr ρ σ c→w'.heap[c]? =w.heap[c]? :=fun c _ hn=>uL c fun e=>hn ⟨b,k,l,hk,MK,hl,e.symm⟩
 have nT:∀c,c<w.heap.size→Wr ρ (σ.set b k') c→Wr ρ σ c:=by
  rintro c hc ⟨b',k₁,l',h1,h2,h3,h4⟩
  rw[mR,Trie.bY] at h1
  by_cases e:b'=b
  ·subst e
   rw[hl] at h3;cases h3
   exact⟨_,k,l,hk,MK,hl,h4⟩
  ·rw[if_neg e] at h1
   exact⟨b',k₁,l',h1,h2,h3,h4⟩
 refine⟨⟨?_,?_,?_,?_,h.uJ rfl qd nT,h.laid⟩,Ren.le.refl ρ,by simp,fun _ _ h=>.inl h,by omega,ho,ht,hp,qd,nT,ML,fun _ _ _ h=>.inl h⟩
 ·intro b' k₁ bG
  rw[mR,Trie.bY] at bG
  by_cases e:b'=b
  ·subst e
   rw[if_pos rfl] at bG
   cases bG
   exact⟨l,hl,cT⟩
  ·rw[if_neg e] at bG
   obtain⟨l',cS,fB⟩:=h.di b' k₁ bG
   exact⟨l',cS,fB.same (Ren.le.refl ρ) (uL _ fun ec=>e (h.inj b' b _ _ _ _ bG hk cS hl ec))⟩
 ·intro c9 dc k₁ k₂ cr oe h1 h2 g1 g2 e
  rw[mR,Trie.bY] at h1 h2
  have t1:∃k,σ.heap.get c9=some k:=by
   by_cases e1:c9=b
   ·subst e1;exact⟨_,hk⟩
   ·rw[if_neg e1] at h1;exact⟨_,h1⟩
  have t2:∃k,σ.heap.get dc=some k:=by
   by_cases e1:dc=b
   ·subst e1;exact⟨_,hk⟩
   ·rw[if_neg e1] at h2;exact⟨_,h2⟩
  obtain⟨_,t1⟩:=t1
  obtain⟨_,t2⟩:=t2
  exact h.inj c9 dc _ _ _ _ t1 t2 g1 g2 e
 ·intro b' bG;rw[sv] at bG;exact h.fresh b' bG
 ·intro b' l' bG;rw[bl];exact h.valid b' l' bG
theorem bn.kill [Env] {ids:Nat→Prop} (h:R ρ σ w) (b:Nat):bn ids ρ σ w ρ (σ.kill b) w:=by
 have key:∀b' k,(σ.kill b).heap.get b'=some k→σ.heap.get b'=some k:=by
  intro b' k bG
  rw[nS,Trie.bY] at bG
  by_cases e:b'=b
  ·rw[if_pos e] at bG;cases bG
  ·rw[if_neg e] at bG;exact bG
 have nT:∀c,c<w.heap.size→Wr ρ (σ.kill b) c→Wr ρ σ c:=by
  rintro c hc ⟨b',k₁,l',h1,h2,h3,h4⟩
  exact⟨b',k₁,l',key _ _ h1,h2,h3,h4⟩
 exact⟨⟨fun b' k bG=>h.di b' k (key _ _ bG),fun c9 dc k₁ k₂ cr oe h1 h2=>h.inj c9 dc k₁ k₂ cr oe (key _ _ h1) (key _ _ h2),fun b' bG=>h.fresh b' (by simpa using bG),h.valid,h.uJ rfl (fun _ _ _=>rfl) nT,h.laid⟩,
  Ren.le.refl ρ,by simp,fun _ _ h=>.inl h,Nat.le_refl _,rfl,rfl,rfl,fun _ _ _=>rfl,nT,fun b' k h=>.inl ⟨k,key b' k h⟩,fun _ _ _ h=>.inl h⟩
def kR (ρ:Ren) (id:Nat) (l:Loc):Ren:=⟨fun b=>if b=id then some l else ρ b,ρ.aW⟩
theorem j1 (ρ:Ren) (id:Nat) (l:Loc) (b:Nat):kR ρ id l b=if b=id then some l else ρ b:=rfl
theorem j2 (ρ:Ren) (id:Nat) (l:Loc):kR ρ id l id=some l:=by simp [kR]
theorem j3 (ρ:Ren) {id:Nat} (l:Loc) (h:ρ id=none):ρ.le (kR ρ id l):=by
 refine⟨fun b l' hb=>?_,fun _ _ _ h=>h⟩
 rw[j1]
 by_cases e:b=id
 ·subst e;rw[h] at hb;cases hb
 ·rw[if_neg e];exact hb
theorem bn.new [Env] (h:R ρ σ w) {id:Nat} (cx:ρ id=none) {k:b9} {l:Loc} {w':World} (hc:l.c<w'.heap.size) (bl:w.heap.size≤w'.heap.size)
  (uL:∀c,c<w.heap.size→c≠l.c→w'.heap[c]? =w.heap[c]?) (ho:w'.os=w.os) (ht:w'.tape=w.tape) (hp:w'.output=w.output)
  (oN:∀b k l',σ.heap.get b=some k→ρ b=some l'→l'.c≠l.c) (cT:cI (kR ρ id l) w' l k):
  bn (fun b=>b=id) ρ σ w (kR ρ id l) (σ.new id k) w'∨l.c<w.heap.size:=by
 by_cases hold:l.c<w.heap.size
 ·exact .inr hold
 have ML:∀b' k₁,(σ.new id k).heap.get b'=some k₁→(∃k',σ.heap.get b'=some k')∨σ.next≤b'∨b'=id:=by
  intro b' k₁ bG
  rw[fJ,Trie.bY] at bG
  by_cases e:b'=id
  ·exact .inr (.inr e)
  ·rw[if_neg e] at bG;exact .inl ⟨_,bG⟩
 have qd:∀c,c<w.heap.size→¬Wr ρ σ c→w'.heap[c]? =w.heap[c]? :=fun c gh _=>uL c gh (by omega)
 have nT:∀c,c<w.heap.size→Wr (kR ρ id l) (σ.new id k) c→Wr ρ σ c:=by
  rintro c gh ⟨b',k₁,l',h1,h2,h3,h4⟩
  rw[fJ,Trie.bY] at h1
  rw[j1] at h3
  by_cases e:b'=id
  ·rw[if_pos e] at h3;cases h3;omega
  ·rw[if_neg e] at h1 h3
   exact⟨b',k₁,l',h1,h2,h3,h4⟩
 refine .inl ⟨⟨?_,?_,?_,?_,h.uJ rfl qd nT,h.laid⟩,j3 ρ l cx,by simp;omega,?_,bl,ho,ht,hp,qd,nT,ML,fun _ _ _ h=>.inl h⟩
 ·intro b' k₁ bG
  rw[fJ,Trie.bY] at bG
  by_cases e:b'=id
  ·subst e
   rw[if_pos rfl] at bG
   cases bG
   exact⟨l,j2 _ _ _,cT⟩
  ·rw[if_neg e] at bG
   obtain⟨l',cS,fB⟩:=h.di b' k₁ bG
   exact⟨l',j3 ρ l cx _ _ cS,fB.same (j3 ρ l cx) (uL _ (h.valid _ _ cS) (oN _ _ _ bG cS))⟩
 ·intro c9 dc k₁ k₂ cr oe h1 h2 g1 g2 e
  rw[fJ,Trie.bY] at h1 h2
  rw[j1] at g1 g2
  by_cases e1:c9=id
  ·by_cases e2:dc=id
   ·rw[e1,e2]
   ·rw[if_pos e1] at g1;rw[if_neg e2] at g2 h2
    cases g1
    exact absurd e.symm (oN _ _ _ h2 g2)
  ·rw[if_neg e1] at g1 h1
   by_cases e2:dc=id
   ·rw[if_pos e2] at g2
    cases g2
    exact absurd e (oN _ _ _ h1 g1)
   ·rw[if_neg e2] at g2 h2
    exact h.inj c9 dc _ _ _ _ h1 h2 g1 g2 e
 ·intro b' bG
  rw[lk] at bG
  rw[j1]
  rw[if_neg (by omega)]
  exact h.fresh b' (by omega)
 ·intro b' l' bG
  rw[j1] at bG
  by_cases e:b'=id
  ·rw[if_pos e] at bG;cases bG;exact hc
  ·rw[if_neg e] at bG;exact Nat.lt_of_lt_of_le (h.valid b' l' bG) bl
 ·intro b' l' bG
  rw[j1] at bG
  by_cases e:b'=id
  ·exact .inr (.inr e)
  ·rw[if_neg e] at bG;exact .inl bG
theorem bn.alloc [Env] (h:R ρ σ w) {id:Nat} (cx:ρ id=none) {k:b9} {o:Obj} {w':World} {N:Nat} (hw:w'.heap=w.heap.push o) (ho:w'.os=w.os) (ht:w'.tape=w.tape) (hp:w'.output=w.output)
  (cT:cI (kR ρ id ⟨w.heap.size,0,N⟩) w' ⟨w.heap.size,0,N⟩ k):
  bn (fun b=>b=id) ρ σ w (kR ρ id ⟨w.heap.size,0,N⟩) (σ.new id k) w':=by
 rcases bn.new (l:=⟨w.heap.size,0,N⟩) h cx (w':=w') (by rw[hw];simp) (by rw[hw];simp) (fun c hc _=>by rw[hw,Array.getElem?_push,if_neg (by omega)]) ho ht hp
  (fun b k l' hb hl=>by have:=h.valid b l' hl;simp only[ne_eq];omega) cT with h' | h'
 ·exact h'
 ·simp at h'
theorem bn.abG [Env] (h:R ρ σ w) {id b:Nat} (cx:ρ id=none) {k Ka:b9} {cy l:Loc} (yi:σ.heap.get b=some Ka) (MK:Ka.xz=true) (la:ρ b=some cy) (GK:l.c=cy.c) {w':World}
  (bl:w'.heap.size=w.heap.size) (uL:∀c,c≠l.c→w'.heap[c]? =w.heap[c]?) (ho:w'.os=w.os) (ht:w'.tape=w.tape) (hp:w'.output=w.output) (cT:cI (kR ρ id l) w' l k):
  bn (fun b=>b=id) ρ σ w (kR ρ id l) ((σ.kill b).new id k) w':=by
 have bN:b≠id:=fun e=>by rw[e,cx] at la;cases la
 have key:∀b' k₁,((σ.kill b).new id k).heap.get b'=some k₁→b'≠id→σ.heap.get b'=some k₁∧b'≠b:=by
  intro b' k₁ bG e
  rw[fJ,Trie.bY,if_neg e,nS,Trie.bY] at bG
  by_cases e':b'=b
  ·rw[if_pos e'] at bG;cases bG
  ·rw[if_neg e'] at bG;exact⟨bG,e'⟩
 have kU:((σ.kill b).new id k).heap.get id=some k:=by rw[fJ,Trie.bY,if_pos rfl]
 have ML:∀b' k₁,((σ.kill b).new id k).heap.get b'=some k₁→(∃k',σ.heap.get b'=some k')∨σ.next≤b'∨b'=id:=by
  intro b' k₁ bG
  by_cases e:b'=id
  ·exact .inr (.inr e)
  ·exact .inl ⟨_,(key b' k₁ bG e).1⟩
 have qd:∀c,c<w.heap.size→¬Wr ρ σ c→w'.heap[c]? =w.heap[c]? :=fun c _ hn=>uL c fun e=>hn ⟨b,Ka,cy,yi,MK,la,(e.trans GK).symm⟩
 have nT:∀c,c<w.heap.size→Wr (kR ρ id l) ((σ.kill b).new id k) c→Wr ρ σ c:=by
  rintro c gh ⟨b',k₁,l',h1,h2,h3,h4⟩
  rw[j1] at h3
  by_cases e:b'=id
  ·rw[if_pos e] at h3;cases h3
   exact⟨b,Ka,cy,yi,MK,la,GK.symm.trans h4⟩
  ·rw[if_neg e] at h3
   exact⟨b',k₁,l',(key b' k₁ h1 e).1,h2,h3,h4⟩
 refine⟨⟨?_,?_,?_,?_,h.uJ rfl qd nT,h.laid⟩,j3 ρ l cx,by simp;omega,?_,by omega,ho,ht,hp,qd,nT,ML,fun _ _ _ h=>.inl h⟩
 ·intro b' k₁ bG
  by_cases e:b'=id
  ·subst e
   rw[kU] at bG;cases bG
   exact⟨l,j2 _ _ _,cT⟩
  ·obtain⟨hg,hb⟩:=key b' k₁ bG e
   obtain⟨l',cS,fB⟩:=h.di b' k₁ hg
   exact⟨l',j3 ρ l cx _ _ cS,fB.same (j3 ρ l cx) (uL _ fun ec=>hb (h.inj b' b _ _ _ _ hg yi cS la (ec.trans GK)))⟩
 ·intro c9 dc k₁ k₂ cr oe h1 h2 g1 g2 e
  rw[j1] at g1 g2
  by_cases e1:c9=id
  ·by_cases e2:dc=id
   ·rw[e1,e2]
   ·rw[if_pos e1] at g1;rw[if_neg e2] at g2
    cases g1
    obtain⟨hg,hb⟩:=key dc k₂ h2 e2
    exact absurd (h.inj dc b _ _ _ _ hg yi g2 la (e.symm.trans GK)) hb
  ·rw[if_neg e1] at g1
   obtain⟨Bu,WA⟩:=key c9 k₁ h1 e1
   by_cases e2:dc=id
   ·rw[if_pos e2] at g2
    cases g2
    exact absurd (h.inj c9 b _ _ _ _ Bu yi g1 la (e.trans GK)) WA
   ·rw[if_neg e2] at g2
    obtain⟨hg2,_⟩:=key dc k₂ h2 e2
    exact h.inj c9 dc _ _ _ _ Bu hg2 g1 g2 e
 ·intro b' bG
  rw[lk,uK] at bG
  rw[j1]
  rw[if_neg (by omega)]
  exact h.fresh b' (by omega)
 ·intro b' l' bG
  rw[j1] at bG
  by_cases e:b'=id
  ·rw[if_pos e] at bG;cases bG;rw[bl,GK];exact h.valid _ _ la
  ·rw[if_neg e] at bG;rw[bl];exact h.valid b' l' bG
 ·intro b' l' bG
  rw[j1] at bG
  by_cases e:b'=id
  ·exact .inr (.inr e)
  ·rw[if_neg e] at bG;exact .inl bG
theorem R.cells [Env] (h:R ρ σ w) {b n:Nat} {z:List V} {t:Trie V} {p ro:Bool} (hb:σ.heap.get b=some (.cells n z t p ro)) {l:Loc} (hl:ρ b=some l):
  (∃ty,w.shape? l.c=some (ty,l.N))∧l.o+n≤l.N∧(∀i v,cellOf n z t i=some v→∃x,w.cell? ⟨l.c,l.o+i,none⟩=some x∧au ρ v x)∧
  (ro=false→∀i,i<l.N→w.frozen? ⟨l.c,i,none⟩=false)∧(p=true→∀i,w.frozen? ⟨l.c,i,none⟩=false):=by
 obtain⟨l',cS,hk⟩:=h.di b _ hb
 rw[hl] at cS;cases cS
 cases hk with
 | cells hs hn hv hf hp=>exact⟨hs,hn,hv,hf,hp⟩
theorem R.cell [Env] (h:R ρ σ w) {b off:Nat} {v:V} (hv:σ.cell b off=some v) {l:Loc} (hl:ρ b=some l):∃x,w.cell? ⟨l.c,l.o+off,none⟩=some x∧au ρ v x:=by
 unfold St.cell at hv
 split at hv
 ·rename_i n z t p ro hb
  exact(h.cells hb hl).2.2.1 off v hv
 ·cases hv
theorem ll {w:World} {c i N:Nat} {ty:TypeId} (h:w.shape? c=some (ty,N)) (hi:i<N):(w.cell? ⟨c,i,none⟩).isSome=true:=by
 unfold World.shape? at h
 unfold World.cell?
 split at h
 ·rename_i cs e fz heq
  simp only[Option.some.injEq,Prod.mk.injEq] at h
  obtain⟨_,rfl⟩:=h
  simp [heq,hi]
 ·cases h
theorem gJ [Env] {n:Nat} {z:List V} {t:Trie V}:∀(k off:Nat) {vs:List V},cellsOf n z t k off=some vs→vs.length=k∧∀i v,vs[i]? =some v→cellOf n z t (off+i)=some v:=by
 intro k
 induction k with
 | zero=>
  intro off vs h
  have h':some []=some vs:=h
  cases h'
  exact⟨rfl,fun i v hv=>by simp at hv⟩
 | succ k ih=>
  intro off vs h
  obtain⟨v,r,h1,h2,rfl⟩:=oM (x:=cellOf n z t off) (l:=cellsOf n z t k ((off+1))) h
  obtain⟨hlen,cN⟩:=ih _ h2
  refine⟨by simp [hlen],fun i u hu=>?_⟩
  cases i with
  | zero=>simp at hu;subst hu;exact h1
  | succ i=>have:=cN i u (by simpa using hu);rwa [show(off+1)+i=off+(i+1) by omega] at this
theorem eA (c o i:Nat):(⟨c,o,none⟩:Addr).add i=⟨c,o+i,none⟩:=by
 unfold Addr.add
 split
 ·rename_i h;subst h;rfl
 ·rfl
theorem R.loadCells [Env] {P:Program} (h:R ρ σ w) {b off k:Nat} {vs:List V} (hv:σ.cells b off k=some vs) {l:Loc} (hl:ρ b=some l):
  ∃xs:List Value,(∀bq:World,bq.heap=w.heap→(loadCells ⟨l.c,l.o+off,none⟩ k).run P bq=.ok ⟨xs⟩ bq)∧aB ρ vs xs∧xs.length=k:=by
 unfold St.cells at hv
 split at hv
 ·rename_i n z t p ro hb
  obtain⟨hlen,cN⟩:=gJ _ _ hv
  have hc:=(h.cells hb hl).2.2.1
  have key:∀(vs:List V) (o:Nat),(∀i v,vs[i]? =some v→∃x,w.cell? ⟨l.c,o+i,none⟩=some x∧au ρ v x)→
    ∃xs:List Value,aB ρ vs xs∧∀i x,xs[i]? =some x→w.cell? ⟨l.c,o+i,none⟩=some x:=by
   intro vs
   induction vs with
   | nil=>intro o _;exact⟨[],.nil,fun i x hx=>by simp at hx⟩
   | cons v vs ih=>
    intro o hh
    obtain⟨x,hx,hr⟩:=hh 0 v rfl
    obtain⟨xs,l9,cN⟩:=ih (o+1) (fun i v hv=>by
     obtain⟨x,hx,hr⟩:=hh (i+1) v (by simpa using hv)
     exact⟨x,by rwa [show o+(i+1)=o+1+i by omega] at hx,hr⟩)
    refine⟨x::xs,.cons hr l9,fun i y hy=>?_⟩
    cases i with
    | zero=>simp at hy;subst hy;exact hx
    | succ i=>have:=cN i y (by simpa using hy);rwa [show o+1+i=o+(i+1) by omega] at this
  obtain⟨xs,l9,gh⟩:=key vs (l.o+off) (fun i v hi=>by
   obtain⟨x,hx,hr⟩:=hc _ _ (cN i v hi)
   exact⟨x,by rwa [show l.o+(off+i)=l.o+off+i by omega] at hx,hr⟩)
  have Bv:xs.length=k:=by rw[←l9.length,hlen]
  refine⟨xs,fun bq hw=>?_,l9,Bv⟩
  have:=run_loadCells_list (P:=P) bq ⟨l.c,l.o+off,none⟩ xs (fun j x hj=>by rw[eA,cell?_of_block (w:=w) (by rw[hw])];exact gh j x hj)
  rw[Bv] at this
  exact this
 ·cases hv
theorem R.v7 [Env] {P:Program} (h:R ρ σ w) {c o:Nat} {xs:List Value} (hi:∀k x,xs[k]? =some x→ρ.aW c (o+k)=some x) (bq:World) (hw:bq.heap=w.heap):
  (Go.loadCells ⟨c,o,none⟩ xs.length).run P bq=.ok ⟨xs⟩ bq:=
 run_loadCells_list (P:=P) bq ⟨c,o,none⟩ xs fun j x hj=>by rw[eA,cell?_of_block (w:=w) (by rw[hw])];exact(h.aW _ _ _ (hi j x hj)).1
theorem ky:∀(vs:List V) (t:Trie V) (off i:Nat),(ah vs t off).get i=if off≤i∧i<off+vs.length then vs[i-off]? else t.get i:=by
 intro vs
 induction vs with
 | nil=>
  intro t off i
  rw[if_neg (by simp only[List.length_nil];omega)];rfl
 | cons v vs ih=>
  intro t off i
  show(ah vs (t.put off (some v)) ((off+1))).get i=_
  rw[ih,Trie.bY]
  by_cases h:i=off
  ·subst h
   rw[if_neg (by omega),if_pos rfl,if_pos (by simp)]
   simp
  ·by_cases h':off≤i∧i<off+(v::vs).length
   ·rw[if_pos h',if_pos (by simp at h';omega)]
    rw[show i-off=(i-(off+1))+1 by omega,List.getElem?_cons_succ]
   ·rw[if_neg h',if_neg (by simp at h'⊢;omega),if_neg h]
theorem uM {n:Nat} {z:List V} {t:Trie V} {i:Nat} {v:V} (h:cellOf n z t i=some v):i<n:=by
 unfold cellOf at h
 cases hb:Nat.blt i n with
 | true=>rw[Nat.blt_eq] at hb;exact hb
 | false=>simp [hb] at h
theorem gl [Env] {n:Nat} {z:List V} {t:Trie V} {vs:List V} {off i:Nat} {v:V} (h:cellOf n z (ah vs t off) i=some v):
  (off≤i∧i<off+vs.length∧vs[i-off]? =some v)∨((i<off∨off+vs.length≤i)∧cellOf n z t i=some v):=by
 have bI:=uM h
 unfold cellOf at h⊢
 have hb:Nat.blt i n=true:=by rw[Nat.blt_eq];exact bI
 simp only[hb] at h⊢
 rw[ky] at h
 by_cases hi:off≤i∧i<off+vs.length
 ·rw[if_pos hi] at h
  have:∃u,vs[i-off]? =some u:=⟨vs[i-off]'(by omega),List.getElem?_eq_getElem _⟩
  obtain⟨u,hu⟩:=this
  rw[hu] at h
  simp only[Option.some.injEq] at h
  subst h
  exact .inl ⟨hi.1,hi.2,hu⟩
 ·rw[if_neg hi] at h
  exact .inr ⟨by omega,h⟩
theorem gZ (c:Nat):∀(vs:List Value) (o:Nat) (w:World) (c':Nat),c'≠c→(w.setCells c o vs).heap[c']? =w.heap[c']?
 | [],_,_,_,_=>rfl
 | v::r,o,w,c',h=>by
  rw[World.setCells,gZ c r (o+1) _ c' h]
  simp only[World.setCell,Array.getElem?_modify]
  rw[if_neg (by omega)]
theorem lb (c:Nat):∀(vs:List Value) (o:Nat) (w:World),(w.setCells c o vs).heap.size=w.heap.size
 | [],_,_=>rfl
 | v::r,o,w=>by rw[World.setCells,lb c r];simp [World.setCell]
theorem lg (c:Nat):∀(vs:List Value) (o:Nat) (w:World),(w.setCells c o vs).os=w.os∧(w.setCells c o vs).tape=w.tape∧(w.setCells c o vs).output=w.output
 | [],_,_=>⟨rfl,rfl,rfl⟩
 | v::r,o,w=>by rw[World.setCells];exact lg c r (o+1) _
theorem kz (c:Nat):∀(vs:List Value) (o:Nat) (w:World) (c':Nat),(w.setCells c o vs).shape? c'=w.shape? c'
 | [],_,_,_=>rfl
 | v::r,o,w,c'=>by
  rw[World.setCells,kz c r]
  unfold World.shape? World.setCell
  simp only[Array.getElem?_modify]
  by_cases h:c=c'
  ·subst h
   rw[if_pos rfl]
   cases w.heap[c]? with
   | none=>rfl
   | some k=>cases k<;>simp
  ·rw[if_neg h]
theorem R.store [Env] {P:Program} {ids:Nat→Prop} (h:R ρ σ w) {b off:Nat} {vs:List V} {σ':St} (aH:σ.store b off vs=some σ') {l:Loc} (hl:ρ b=some l) {xs:List Value} (hx:aB ρ vs xs):
  ∃w',(storeCells ⟨l.c,l.o+off,none⟩ xs).run P w=.ok () w'∧bn ids ρ σ w ρ σ' w':=by
 unfold St.store at aH
 split at aH
 ·rename_i n z t p hb
  unfold GH at aH
  cases hc:(Nat.ble (Nat.add off (len vs)) n&&iM V.scalar vs) with
  | false=>rw[hc] at aH;cases aH
  | true=>
   rw[hc] at aH
   simp only[Option.some.injEq] at aH
   subst aH
   rw[Bool.and_eq_true,sd,aO] at hc
   obtain⟨hle,ou⟩:=hc
   have hle:off+vs.length≤n:=Nat.le_of_ble_eq_true hle
   obtain⟨⟨ty,hs⟩,hn,hv,hf,hp⟩:=h.cells hb hl
   have hlen:=hx.length
   have jP:∀j,j<xs.length→(w.cell? ⟨l.c,l.o+off+j,none⟩).isSome=true:=fun j hj=>ll hs (by omega)
   refine⟨w.setCells l.c (l.o+off) xs,?_,?_⟩
   ·have:=run_storeCells_cells (P:=P) l.c (l.o+off) xs 0 w (by simpa using jP)
     (fun j hj=>by simpa using hf rfl (l.o+off+j) (by omega)) (hx.mP ou)
    simpa using this
   ·obtain⟨r1,r2,r3⟩:=lg l.c xs (l.o+off) w
    refine bn.set h hb hl rfl (lb _ _ _ _) (fun c hc=>gZ _ _ _ _ _ hc) r1 r2 r3 ?_
    refine .cells ⟨ty,by rw[kz];exact hs⟩ hn (fun i v hi=>?_) (fun ie i hi=>by rw[World.frozen?_setCells];exact hf ie i hi) (fun rl i=>by rw[World.frozen?_setCells];exact hp rl i)
    rcases gl hi with ⟨h1,h2,h3⟩ | ⟨h1,h2⟩
    ·obtain⟨x,cX,hr⟩:=hx.get _ h3
     refine⟨x,?_,hr⟩
     have hj:i-off<xs.length:=by omega
     have:=World.cell?_setCells_in l.c xs (l.o+off) w jP (i-off) hj
     rw[show l.o+off+(i-off)=l.o+i by omega] at this
     rw[this]
     rw[List.getElem?_eq_getElem hj] at cX
     exact cX
    ·obtain⟨x,cX,hr⟩:=hv i v h2
     refine⟨x,?_,hr⟩
     rw[World.cell?_setCells_out l.c xs (l.o+off) w _ (fun _ _=>by simp;omega)]
     exact cX
 ·cases aH
theorem pn [Env] {cs:List V} {p:Nat→Value→Prop} (h:∀k v,cs[k]? =some v→∃x,p k x∧au ρ v x):∃xs:List Value,aB ρ cs xs∧∀(k:Nat) x,xs[k]? =some x→p k x:=by
 induction cs generalizing p with
 | nil=>exact⟨[],.nil,fun k x hx=>by simp at hx⟩
 | cons v cs ih=>
  obtain⟨x,hx,hr⟩:=h 0 v rfl
  obtain⟨xs,l9,cN⟩:=ih (p:=fun k=>p (k+1)) fun k v hv=>h (k+1) v (by simpa using hv)
  refine⟨x::xs,.cons hr l9,fun k y hy=>?_⟩
  cases k with
  | zero=>simp at hy;subst hy;exact hx
  | succ k=>exact cN k y (by simpa using hy)
theorem R.fF [Env] (h:R ρ σ w) {b i esz:Nat} {cs:List V} (hc:σ.jl b i esz=some cs) {l:Loc} (hl:ρ b=some l):
  cs.length=esz∧∃xs:List Value,aB ρ cs xs∧∀(k:Nat) x,xs[k]? =some x→w.cell? ⟨l.c,l.o+(i*esz+k),none⟩=some x:=by
 unfold St.jl at hc
 split at hc
 ·rename_i n f z p hb
  split at hc
  ·rename_i hi
   obtain⟨hi,rfl⟩:=hi
   cases hc
   obtain⟨l',cS,hk⟩:=h.di b _ hb
   rw[hl] at cS;cases cS
   cases hk with
   | row hs hn hu hv hf hp=>exact⟨hu i hi,pn fun k v hk=>hv i hi k v hk⟩
  ·cases hc
 ·cases hc
theorem Ch {u v:V} {esz off:Nat} (hu:u.cells.length=esz) (h:off+v.cells.length≤esz):(rb u esz off v).cells=u.cells.take off++(v.cells++u.cells.drop (off+v.cells.length)):=by
 unfold rb
 rw[aO]
 split
 ·rename_i hb
  have hb:=Nat.eq_of_beq_eq_true hb
  have:off=0:=by omega
  subst this
  rw[List.take_zero,List.nil_append,Nat.zero_add,List.drop_eq_nil_of_le (by omega),List.append_nil]
 ·show app _ _=_
  rw[iS,iS,eG,ea];rfl
theorem GL (f:Nat→V) (i:Nat) (v:V) (j:Nat):eV f i v j=if j=i then v else f j:=by
 unfold eV
 cases h:Nat.beq j i with
 | true=>rw[if_pos (Nat.eq_of_beq_eq_true h)]
 | false=>rw[if_neg fun e=>by subst e;rw[Nat.beq_refl] at h;cases h]
theorem ln {i n e k:Nat} (h:i<n) (hk:k≤e):i*e+k≤n*e:=by
 have:(i+1)*e≤n*e:=Nat.mul_le_mul_right e h
 rw[Nat.add_mul,Nat.one_mul] at this
 omega
theorem R.jW [Env] {P:Program} {ids:Nat→Prop} (h:R ρ σ w) {b i esz off:Nat} {v:V} {σ':St} (aH:σ.jW b i esz off v=some σ') {l:Loc} (hl:ρ b=some l) {x:Value} (hvx:au ρ v x):
  ∃w',(storeCells ⟨l.c,l.o+(i*esz+off),none⟩ x.cells.toList).run P w=.ok () w'∧bn ids ρ σ w ρ σ' w':=by
 unfold St.jW at aH
 split at aH
 ·rename_i n f z p hb
  split at aH
  ·rename_i hi
   obtain⟨hi,rfl⟩:=hi
   cases hc:(Nat.ble (Nat.add off (len v.cells)) z&&iM V.scalar v.cells) with
   | false=>rw[hc] at aH;cases aH
   | true=>
    rw[hc] at aH
    simp only[Option.some.injEq] at aH
    subst aH
    rw[Bool.and_eq_true,sd,aO] at hc
    obtain⟨hle,ou⟩:=hc
    have hle:off+v.cells.length≤z:=Nat.le_of_ble_eq_true hle
    obtain⟨l',cS,hk⟩:=h.di b _ hb
    rw[hl] at cS;cases cS
    cases hk with
    | row hs hn hu hv hf hp=>
     obtain⟨ty,hs⟩:=hs
     have hx:=hvx.cells
     have hlen:=hx.length
     have dY:=ln hi hle
     have jP:∀j,j<x.cells.toList.length→(w.cell? ⟨l.c,l.o+(i*z+off)+j,none⟩).isSome=true:=fun j hj=>ll hs (by omega)
     refine⟨w.setCells l.c (l.o+(i*z+off)) x.cells.toList,?_,?_⟩
     ·have:=run_storeCells_cells (P:=P) l.c (l.o+(i*z+off)) x.cells.toList 0 w (by simpa using jP)
       (fun j hj=>by simpa using hf (l.o+(i*z+off)+j) (by omega)) (hx.mP ou)
      simpa using this
     ·obtain⟨r1,r2,r3⟩:=lg l.c x.cells.toList (l.o+(i*z+off)) w
      have hE:=Ch (u:=f i) (v:=v) (off:=off) (hu i hi) hle
      refine bn.set h hb hl rfl (lb _ _ _ _) (fun c hc=>gZ _ _ _ _ _ hc) r1 r2 r3 ?_
      refine .row ⟨ty,by rw[kz];exact hs⟩ hn (fun j hj=>?_) (fun j hj k u hk=>?_) (fun i hi=>by rw[World.frozen?_setCells];exact hf i hi) (fun rl i=>by rw[World.frozen?_setCells];exact hp rl i)
      ·rw[GL]
       split
       ·rw[hE]
        have:=hu i hi
        simp only[List.length_append,List.length_take,List.length_drop]
        omega
       ·exact hu j hj
      ·rw[GL] at hk
       have out:∀u k,(f j).cells[k]? =some u→(j≠i∨k<off∨off+v.cells.length≤k)→∃y,(w.setCells l.c (l.o+(i*z+off)) x.cells.toList).cell? ⟨l.c,l.o+(j*z+k),none⟩=some y∧au ρ u y:=by
        intro u k hk ae1
        obtain⟨y,hy,hr⟩:=hv j hj k u hk
        have hkz:k<z:=by rw[←hu j hj];exact(List.getElem?_eq_some_iff.1 hk).1
        refine⟨y,?_,hr⟩
        rw[World.cell?_setCells_out l.c x.cells.toList (l.o+(i*z+off)) w _ (fun _ _=>?_)]
        ·exact hy
        ·dsimp only
         by_cases GM:j=i
         ·subst GM
          rcases ae1 with h | h | h
          ·exact absurd rfl h
          ·omega
          ·omega
         ·rcases Nat.lt_or_gt_of_ne GM with h | h
          ·have:=ln (e:=z) h (Nat.le_refl z);omega
          ·have:=ln (e:=z) h (Nat.le_refl z);omega
       by_cases GM:j=i
       ·subst GM
        rw[if_pos rfl,hE] at hk
        have huj:=hu j hj
        by_cases k1:k<off
        ·rw[List.getElem?_append_left (by rw[List.length_take];omega),List.getElem?_take,if_pos k1] at hk
         exact out u k hk (.inr (.inl k1))
        ·rw[List.getElem?_append_right (by rw[List.length_take];omega),List.length_take,Nat.min_eq_left (by omega)] at hk
         by_cases k2:k-off<v.cells.length
         ·rw[List.getElem?_append_left k2] at hk
          obtain⟨y,hy,hr⟩:=hx.get _ hk
          refine⟨y,?_,hr⟩
          have gK:k-off<x.cells.toList.length:=by omega
          have:=World.cell?_setCells_in l.c x.cells.toList (l.o+(j*z+off)) w jP (k-off) gK
          rw[show l.o+(j*z+off)+(k-off)=l.o+(j*z+k) by omega] at this
          rw[this]
          rw[List.getElem?_eq_getElem gK] at hy
          exact hy
         ·rw[List.getElem?_append_right (by omega),List.getElem?_drop,show off+v.cells.length+(k-off-v.cells.length)=k by omega] at hk
          exact out u k hk (.inr (.inr (by omega)))
       ·rw[if_neg GM] at hk
        exact out u k hk (.inl GM)
  ·cases aH
 ·cases aH
theorem bn.yj [Env] {ids:Nat→Prop} {bS:Ren} {σ₀:St} {fY:World} (h:bn ids bS σ₀ fY ρ σ w) {b n esz:Nat} {f:Nat→V} {z:List V} {t:Trie V} {p:Bool} (hb:σ.heap.get b=some (.cells (n*esz) z t p false))
  (hu:∀i,i<n→(f i).cells.length=esz) (hc:∀i,i<n→∀k v,(f i).cells[k]? =some v→cellOf (n*esz) z t (i*esz+k)=some v)
  {σ':St} (MM:∀b',σ'.heap.get b'=if b'=b then some (.row n f esz p) else σ.heap.get b') (hn:σ'.next=σ.next):bn ids bS σ₀ fY ρ σ' w:=by
 have hd:∀b' k,σ'.heap.get b'=some k→∃k',σ.heap.get b'=some k':=by
  intro b' k hk
  rw[MM] at hk
  by_cases e:b'=b
  ·subst e;exact⟨_,hb⟩
  ·rw[if_neg e] at hk;exact⟨_,hk⟩
 have nT:∀c,Wr ρ σ' c→Wr ρ σ c:=by
  rintro c ⟨b',k,l,h1,_,h3,h4⟩
  obtain⟨k',fi⟩:=hd b' k h1
  exact⟨b',k',l,fi,rfl,h3,h4⟩
 refine⟨⟨fun b' k hk=>?_,fun c9 dc k₁ k₂ cr oe h1 h2=>?_,fun b' bG=>h.r.fresh b' (by rw[←hn];exact bG),h.r.valid,fun c o x hx=>⟨(h.r.aW c o x hx).1,fun hw=>(h.r.aW c o x hx).2 (nT c hw)⟩,h.r.laid⟩,
  h.le,by rw[hn];exact h.next,h.jz,h.size,h.os,h.tape,h.output,h.aV,fun c hc hw=>h.wr c hc (nT c hw),fun b' k hk=>?_,h.iG⟩
 ·rw[MM] at hk
  by_cases e:b'=b
  ·subst e
   rw[if_pos rfl] at hk
   cases hk
   obtain⟨l,hl,cT⟩:=h.r.di _ _ hb
   refine⟨l,hl,?_⟩
   cases cT with
   | cells hs hn hv hf hp=>exact .row hs hn hu (fun i hi k v hk=>hv _ _ (hc i hi k v hk)) (hf rfl) hp
  ·rw[if_neg e] at hk;exact h.r.di b' k hk
 ·obtain⟨abH,fi⟩:=hd _ _ h1
  obtain⟨abI,C6⟩:=hd _ _ h2
  exact h.r.inj _ _ _ _ _ _ fi C6
 ·obtain⟨k',fB⟩:=hd _ _ hk
  exact h.jL b' k' fB
end
end Go.Ev
end
section
namespace Go.Ev
open Go
theorem bL.Holds.bind {α β:Type} {p:β→Prop} {r:bL α} {f:α→bL β} (h:(r.bind f).Holds p):r.Holds fun a=>(f a).Holds p:=by
 induction r with
 | ok a=>exact h
 | fail w=>exact h
 | pick n k ih=>exact⟨h.1,fun i hi=>ih i (h.2 i hi)⟩
 | tr C hm he=>exact h
theorem bL.Holds.fQ {α β:Type} {p:β→Prop} {r:bL α} {f:α→bL β} (h:r.Holds fun a=>(f a).Holds p):(r.bind f).Holds p:=by
 induction r with
 | ok a=>exact h
 | fail w=>exact h
 | pick n k ih=>exact⟨h.1,fun i hi=>ih i (h.2 i hi)⟩
 | tr C hm he=>exact h
theorem bL.Gb {n:Nat} {p:Nat→Bool} (h:bL.ra n p=true) {i:Nat} (hi:i<n):p i=true:=by
 induction n with
 | zero=>omega
 | succ n ih=>
  simp only[bL.ra,Bool.and_eq_true] at h
  by_cases e:i=n
  ·subst e;exact h.2
  ·exact ih h.1 (by omega)
theorem bL.rm {α:Type} {p:α→Bool} {r:bL α} (h:r.check p=true):r.Holds fun a=>p a=true:=by
 induction r with
 | ok a=>exact h
 | fail w=>cases h
 | pick n k ih=>
  have h':(Nat.blt 0 n&&bL.ra n fun i=>(k i).check p)=true:=h
  rw[Bool.and_eq_true,Nat.blt_eq] at h'
  exact⟨h'.1,fun i hi=>ih i (bL.Gb h'.2 hi)⟩
 | tr C hm he=>cases h
def Kb [Env] (P:Program) (s:Sem Next) (id:Nat) (ρ:Ren) (σ:St) (w:World) (p:V×St→Prop):Prop:=
 ∃v σ' ρ' v' w',p (v,σ')∧au ρ' v v'∧bn (fun b=>b=id) ρ σ w ρ' σ' w'∧
  (s.run P w=.ok (.value v') w'∨(v'=undef∧s.run P w=.ok .skip w'))
section
variable {P:Program} {ρ:Ren} {σ:St} {w:World} {id:Nat} {p:V×St→Prop}
theorem Kb.value [Env] {s:Sem Next} (hr:R ρ σ w) {v:V} {v':Value} (hp:p (v,σ)) (hv:au ρ v v') (h:s.run P w=.ok (.value v') w):Kb P s id ρ σ w p:=
 ⟨v,σ,ρ,v',w,hp,hv,bn.refl hr,.inl h⟩
theorem dq {gr:String} {x:Option V} (h:(aV σ gr x).Holds p):∃v,x=some v∧p (v,σ):=by
 cases x with
 | none=>exact h.elim
 | some v=>exact⟨v,rfl,h⟩
theorem eh {gr:String} {x:Option V} {k:V→VS} (h:(fh gr x k).Holds p):∃v,x=some v∧(k v).Holds p:=by
 cases x with
 | none=>exact h.elim
 | some v=>exact⟨v,rfl,h⟩
theorem lM {gr:String} {x y:Option V} {k:V→V→VS} (h:(qa gr x y k).Holds p):∃v u,x=some v∧y=some u∧(k v u).Holds p:=by
 cases x with
 | none=>exact h.elim
 | some v=>cases y with
  | none=>exact h.elim
  | some u=>exact⟨v,u,rfl,rfl,h⟩
theorem run_typeInfo {t:TypeId} {i:TypeInfo} (h:P.info? t=some i):(typeInfo t).run P w=.ok i w:=by simp [typeInfo,h]
theorem run_underlying {t:TypeId} {d:TypeDesc} (h:P.underlying t=some d):(underlying t).run P w=.ok d w:=by simp [underlying,h]
theorem bw [Env] {t:TypeId} {n:Nat} (h:bQ P t=some n):(sizeOf t).run P w=.ok n w:=by
 unfold bQ at h
 rw[Option.map_eq_some_iff] at h
 obtain⟨i,hi,rfl⟩:=h
 simp [sizeOf,run_typeInfo hi]
theorem sw {t:TypeId} {n:Nat} (h:jy P t=some n):∃i,P.info? t=some i∧i.bytes=n:=by
 unfold jy at h
 rw[Option.map_eq_some_iff] at h
 exact h
theorem fk [Env] {t:TypeId} {b:Bool} (h:se P t=some b):(isAgg t).run P w=.ok b w:=by
 unfold se at h
 unfold isAgg
 cases hu:P.underlying t with
 | none=>simp [hu] at h
 | some d=>
  simp only[Sem.run_bind,run_underlying hu,Result.andThen_ok]
  rw[hu] at h
  cases d<;>simp at h<;>subst h<;>rfl
theorem ig [Env] {t:TypeId} {z:V} (h:gY P t=some z) (ρ:Ren):∃zv,(∀w,(zeroValue t).run P w=.ok zv w)∧au ρ z zv:=by
 unfold gY at h
 rw[Option.bind_eq_some_iff] at h
 obtain⟨zv,h1,h2⟩:=h
 rw[Option.bind_eq_some_iff] at h1
 obtain⟨i,hi,hz⟩:=h1
 exact⟨zv,fun w=>by simp [zeroValue,run_typeInfo hi,hz],nz ρ zv h2⟩
theorem Bw [Env] (hr:R ρ σ w) {t:TypeId} {x v:V} {x':Value} (hx:au ρ x x') (h:et P σ t x=some v):∃v',(Instr.loadAt t x').run P w=.ok v' w∧au ρ v v'∧∃a,x'=.pointer (some a)∧(loadVar t a).run P w=.ok v' w:=by
 unfold et at h
 split at h
 ·rename_i b off n gm bl
  cases hx with
  | ptr hl=>
   rw[Option.map_eq_some_iff] at h
   obtain⟨vs,ij,rfl⟩:=h
   obtain⟨xs,yk,aT,_⟩:=hr.loadCells (P:=P) ij hl
   have aP:=yk w rfl
   refine⟨.agg ⟨xs⟩,?_,.agg aT,_,rfl,?_⟩
   ·simp [Instr.loadAt,Instr.sureAddr,loadVar,fk gm,bw bl,aP]
   ·simp [loadVar,fk gm,bw bl,aP]
 ·rename_i b off gm
  cases hx with
  | ptr hl=>
   obtain⟨x,hc,aT⟩:=hr.cell h hl
   refine⟨x,?_,aT,_,rfl,?_⟩
   ·simp [Instr.loadAt,Instr.sureAddr,loadVar,fk gm,hc]
   ·simp [loadVar,fk gm,hc]
 ·rename_i cs off n gm bl
  cases hx with
  | aQ hx hi=>
   rename_i c o xs
   split at h
   ·rename_i hle
    cases h
    rw[aO] at hle
    have hle:off+n≤cs.length:=Nat.le_of_ble_eq_true hle
    have hlen:=hx.length
    rw[eG,ea]
    have hl:((xs.drop off).take n).length=n:=by simp;omega
    have aP:∀bq:World,bq.heap=w.heap→(loadCells ⟨c,o+off,none⟩ n).run P bq=.ok ⟨(xs.drop off).take n⟩ bq:=fun bq hw=>by
     have:=hr.v7 (P:=P) (c:=c) (o:=o+off) (xs:=(xs.drop off).take n) (fun k x hk=>by
      rw[Nat.add_assoc]
      refine hi (off+k) x ?_
      rw[List.getElem?_take] at hk
      split at hk
      ·rw[List.getElem?_drop] at hk;exact hk
      ·cases hk) bq hw
     rwa [hl] at this
    refine⟨.agg ⟨(xs.drop off).take n⟩,?_,.agg ((hx.drop off).take n),_,rfl,?_⟩
    ·simp [Instr.loadAt,Instr.sureAddr,loadVar,fk gm,bw bl,aP w rfl]
    ·simp [loadVar,fk gm,bw bl,aP w rfl]
   ·cases h
 ·rename_i cs off gm
  cases hx with
  | aQ hx hi=>
   rename_i c o xs
   rw[dG] at h
   obtain⟨x,cX,aT⟩:=hx.get _ h
   have hc:w.cell? ⟨c,o+off,none⟩=some x:=(hr.aW _ _ _ (hi off x cX)).1
   refine⟨x,?_,aT,_,rfl,?_⟩
   ·simp [Instr.loadAt,Instr.sureAddr,loadVar,fk gm,hc]
   ·simp [loadVar,fk gm,hc]
 ·rename_i b i esz off n gm bl
  cases hx with
  | fF hl=>
   rename_i l
   rw[Option.bind_eq_some_iff] at h
   obtain⟨cs,dI,h⟩:=h
   obtain⟨hlen,xs,hx,jP⟩:=hr.fF dI hl
   unfold J4 at h
   split at h
   ·rename_i hle
    cases h
    rw[aO] at hle
    have hle:off+n≤cs.length:=Nat.le_of_ble_eq_true hle
    have hlen:=hx.length
    rw[eG,ea]
    have hlx:((xs.drop off).take n).length=n:=by simp;omega
    have aP:(loadCells ⟨l.c,l.o+(i*esz+off),none⟩ n).run P w=.ok ⟨(xs.drop off).take n⟩ w:=by
     have:=run_loadCells_list (P:=P) w ⟨l.c,l.o+(i*esz+off),none⟩ ((xs.drop off).take n) (fun j x hj=>by
      rw[eA,show l.o+(i*esz+off)+j=l.o+(i*esz+(off+j)) by omega]
      refine jP (off+j) x ?_
      rw[List.getElem?_take] at hj
      split at hj
      ·rw[List.getElem?_drop] at hj;exact hj
      ·cases hj)
     rwa [hlx] at this
    refine⟨.agg ⟨(xs.drop off).take n⟩,?_,.agg ((hx.drop off).take n),_,rfl,?_⟩
    ·simp [Instr.loadAt,Instr.sureAddr,loadVar,fk gm,bw bl,aP]
    ·simp [loadVar,fk gm,bw bl,aP]
   ·cases h
 ·rename_i b i esz off gm
  cases hx with
  | fF hl=>
   rename_i l
   rw[Option.bind_eq_some_iff] at h
   obtain⟨cs,dI,h⟩:=h
   obtain⟨hlen,xs,hx,jP⟩:=hr.fF dI hl
   rw[dG] at h
   obtain⟨x,cX,aT⟩:=hx.get _ h
   have hc:w.cell? ⟨l.c,l.o+(i*esz+off),none⟩=some x:=jP off x cX
   refine⟨x,?_,aT,_,rfl,?_⟩
   ·simp [Instr.loadAt,Instr.sureAddr,loadVar,fk gm,hc]
   ·simp [loadVar,fk gm,hc]
 ·cases h
theorem Bx [Env] (hr:R ρ σ w) (cx:ρ id=none) {vs:List V} {xs:List Value} (hx:aB ρ vs xs) {ty:TypeId} {w':World} (hw:w'.heap=w.heap.push (.cells ⟨xs⟩ ty (0,0)))
  (ho:w'.os=w.os) (ht:w'.tape=w.tape) (hp:w'.output=w.output):
  bn (fun b=>b=id) ρ σ w (kR ρ id ⟨w.heap.size,0,xs.length⟩) (newRow σ id vs.length [] (ah vs .leaf 0) true) w':=by
 have kU:w'.heap[w.heap.size]? =some (.cells ⟨xs⟩ ty (0,0)):=by rw[hw];simp
 refine bn.alloc hr cx hw ho ht hp (.cells ⟨ty,?_⟩ (by simp [hx.length]) (fun i v hi=>?_) (fun _ i _=>?_) (fun _ i=>?_))
 ·simp [World.shape?,kU]
 ·rcases gl hi with ⟨_,h2,h3⟩ | ⟨_,h2⟩
  ·obtain⟨x,cX,aT⟩:=hx.get _ h3
   refine⟨x,?_,aT.mono (j3 ρ _ cx)⟩
   simpa [World.cell?,kU] using cX
  ·unfold cellOf at h2
   split at h2
   ·rw[Trie.eU] at h2;simp [dG] at h2
   ·cases h2
 ·simp [World.frozen?,kU]
 ·simp [World.frozen?,kU]
theorem GN [Env] (hr:R ρ σ w) (cx:ρ id=none) {v:V} {x:Value} (hx:au ρ v x) (e:TypeId) (hp:p (.ptr id 0,newRow σ id (len v.cells) [] (ah v.cells .leaf 0) true)) {s:Sem Next}
  (hs:s.run P w=.ok (.value (.pointer (some ⟨w.heap.size,0,none⟩))) {w with heap:=w.heap.push (.cells x.cells e)}):Kb P s id ρ σ w p:=by
 have hc:=hx.cells
 have aH:=Bx hr cx hc (ty:=e) (w':={w with heap:=w.heap.push (.cells x.cells e)}) rfl rfl rfl rfl
 rw[aO] at hp
 exact⟨_,_,_,_,_,hp,.ptr (l:=⟨w.heap.size,0,x.cells.toList.length⟩) (j2 _ _ _),aH,.inl (by simpa using hs)⟩
inductive j4 [Env] (ρ:Ren):List (Nat×V)→List (Nat×Value)→Prop
 | nil:j4 ρ [] []
 | cons {i:Nat} {v:V} {x:Value} {l:List (Nat×V)} {l':List (Nat×Value)} (h:au ρ v x) (hl:j4 ρ l l'):j4 ρ ((i,v)::l) ((i,x)::l')
theorem bO.parts [Env] {a:Act} {a':Go.Act} (h:bO ρ a a') (l:List (Nat×Operand)) {vs:List (Nat×V)} (hv:a.parts l=some vs):j4 ρ vs (l.map fun q=>(q.1,a'.eval q.2)):=by
 induction l generalizing vs with
 | nil=>have ov:some []=some vs:=hv;cases ov;exact .nil
 | cons q l ih=>
  obtain⟨v,t,h1,h2,rfl⟩:=oM (x:=vU a q) (l:=a.parts l) hv
  unfold vU at h1
  split at h1
  ·rename_i u hu
   cases h1
   exact .cons (h.eval q.2 hu) (ih h2)
  ·cases h1
theorem OS (off:Nat):∀(vs:List Value) (k:Nat) (A:List Value),off+k+vs.length≤A.length→
  (vs.zipIdx k).foldl (fun(cs:Array Value) (q:Value×Nat)=>cs.setIfInBounds (off+q.2) q.1) ⟨A⟩=⟨A.take (off+k)++(vs++A.drop (off+k+vs.length))⟩:=by
 intro vs
 induction vs with
 | nil=>intro k A _;simp
 | cons u vs ih=>
  intro k A hA
  simp only[List.length_cons] at hA
  have h1:((⟨A⟩:Array Value).setIfInBounds (off+k) u)=⟨A.set (off+k) u⟩:=by simp
  rw[List.zipIdx_cons,List.foldl_cons,h1,ih (k+1) _ (by simp;omega)]
  congr 1
  apply List.ext_getElem?
  intro i
  simp only[List.getElem?_append,List.length_take,List.length_set,List.getElem?_take,List.getElem?_set,List.getElem?_drop,List.length_cons,List.getElem?_cons]
  grind
theorem xA [Env] {place:Nat→Option (Nat×Nat)}:∀(ps:List (Nat×V)) (yl:List (Nat×Value)) (cs:List V) (l3:List Value) {r:List V},j4 ρ ps yl→aB ρ cs l3→
  sf place ps cs=some r→∃r':List Value,Instr.fill place ⟨l3⟩ yl=some ⟨r'⟩∧aB ρ r r':=by
 intro ps
 induction ps with
 | nil=>
  intro yl cs l3 r qe dI h
  cases qe
  have h':some cs=some r:=h
  cases h'
  exact⟨l3,rfl,dI⟩
 | cons q ps ih=>
  intro yl cs l3 r qe dI h
  cases qe with
  | cons hv hl=>
   rename_i i v x l'
   have h':(match mN cs v.cells (place i) with | some ym=>sf place ps ym | none=>none)=some r:=h
   cases hf:mN cs v.cells (place i) with
   | none=>rw[hf] at h';cases h'
   | some ym=>
    rw[hf] at h'
    cases ow:place i with
    | none=>rw[ow] at hf;cases hf
    | some os=>
     obtain⟨off,size⟩:=os
     rw[ow] at hf
     unfold mN at hf
     dsimp only at hf
     cases hb:(Nat.beq (len v.cells) size&&Nat.ble (Nat.add off size) (len cs)) with
     | false=>rw[hb] at hf;cases hf
     | true=>
      rw[hb] at hf
      simp only[Option.some.injEq] at hf
      rw[Bool.and_eq_true,aO,aO] at hb
      have h1:v.cells.length=size:=Nat.eq_of_beq_eq_true hb.1
      have h2:off+size≤cs.length:=Nat.le_of_ble_eq_true hb.2
      have hvc:=hv.cells
      have hvl:x.cells.size=size:=by rw[←h1,hvc.length];simp
      have jd:=dI.length
      subst hf
      rw[iS,iS,eG,ea] at h'
      have aT:aB ρ (cs.take off++(v.cells++cs.drop (off+size))) (l3.take off++(x.cells.toList++l3.drop (off+size))):=
       (dI.take off).append (hvc.append (dI.drop _))
      obtain⟨r',gu,dU⟩:=ih l' _ _ hl aT h'
      refine⟨r',?_,dU⟩
      simp only[Instr.fill,ow]
      have nU:(decide (x.cells.size≠size)||decide (off+x.cells.size>(⟨l3⟩:Array Value).size))=false:=by
       simp only[List.size_toArray,Bool.or_eq_false_iff,decide_eq_false_iff_not]
       omega
      rw[nU]
      simp only[Bool.false_eq_true,if_false]
      rw[←gu,←Array.foldl_toList,Array.toList_zipIdx,OS off x.cells.toList 0 l3 (by simp [hvl];omega)]
      simp [hvl]
end
end Go.Ev
end
section
namespace Go.Ev
open Go
section
variable {P:Program} {ρ:Ren} {σ:St} {w:World} {id:Nat} {p:V×St→Prop}
theorem lN [Env] {t:TypeId} {cs:List V} {l3:List Value} {off:Nat} {v:V} (hc:aB ρ cs l3) (h:dX P t cs off=some v):
  ∃v',(∀w,(part t ⟨l3⟩ off).run P w=.ok v' w)∧au ρ v v':=by
 unfold dX at h
 split at h
 ·rename_i n gm bl
  split at h
  ·rename_i hb
   cases h
   refine⟨.agg ⟨(l3.drop off).take n⟩,fun w=>?_,?_⟩
   ·simp only[part,Sem.run_bind,fk gm,Result.andThen_ok,if_true,bw bl,Sem.run_pure]
    congr 2
    simp [List.extract_eq_take_drop]
   ·rw[eG,ea]
    exact .agg ((hc.drop off).take n)
  ·cases h
 ·rename_i gm
  rw[dG] at h
  obtain⟨x,hx,hr⟩:=hc.get off h
  refine⟨x,fun w=>?_,hr⟩
  simp [part,fk gm,hx]
 ·cases h
theorem Kc [Env] {fs:List Field} {l:List (Nat×Nat)} (h:places P fs=some l):∀w,(fs.mapM fun f=>(Prod.mk f.offset <$> sizeOf f.type:Sem (Nat×Nat))).run P w=.ok l w:=by
 induction fs generalizing l with
 | nil=>intro w;simp only[places,Option.some.injEq] at h;subst h;rfl
 | cons f fs ih=>
  intro w
  simp only[places] at h
  cases hs:bQ P f.type with
  | none=>simp [hs] at h
  | some n=>
   cases hl:places P fs with
   | none=>simp [hs,hl] at h
   | some r=>
    simp only[hs,hl,Option.some.injEq] at h
    subst h
    simp [List.mapM_cons,bw hs,ih hl]
theorem MN [Env] {t:TypeId} {ps:List (Nat×V)} {yl:List (Nat×Value)} {v:V} (qe:j4 ρ ps yl) (h:uC P t ps=some v):
  ∃v',(∀w,(Instr.build t ⟨yl⟩).run P w=.ok v' w)∧au ρ v v':=by
 unfold uC at h
 split at h
 ·rename_i z fs hz hu
  split at h
  ·rename_i pl ow
   rw[Option.map_eq_some_iff] at h
   obtain⟨cs,dI,rfl⟩:=h
   obtain⟨zv,hJ,qf⟩:=ig hz ρ
   obtain⟨r',gu,dU⟩:=xA ps yl z.cells zv.cells.toList qe qf.cells dI
   refine⟨.agg ⟨r'⟩,fun w=>?_,.agg dU⟩
   have hm:(fs.mapM fun f=>(do pure (f.offset,←sizeOf f.type):Sem (Nat×Nat))).run P w=.ok pl.toArray w:=by
    rw[Array.mapM_eq_mapM_toList]
    simp [Kc ow w]
   have ae2:(fun i=>(pl.toArray)[i]?)=nth pl:=by funext i;simp [dG]
   simp only[Instr.build,Sem.run_bind,hJ,Result.andThen_ok,run_underlying hu,hm]
   rw[ae2,gu]
   rfl
  ·cases h
 ·rename_i z n e hz hu
  split at h
  ·rename_i k hk
   rw[Option.map_eq_some_iff] at h
   obtain⟨cs,dI,rfl⟩:=h
   obtain⟨zv,hJ,qf⟩:=ig hz ρ
   obtain⟨r',gu,dU⟩:=xA ps yl z.cells zv.cells.toList qe qf.cells dI
   refine⟨.agg ⟨r'⟩,fun w=>?_,.agg dU⟩
   simp only[Instr.build,Sem.run_bind,hJ,Result.andThen_ok,run_underlying hu,bw hk]
   rw[gu]
   rfl
  ·cases h
 ·cases h
theorem ik {t e:TypeId} (h:gU P t=some e):P.underlying t=some (.slice e):=by
 unfold gU at h
 split at h
 ·cases h;assumption
 ·cases h
theorem sx {t e:TypeId} {n:Nat} (h:jX P t=some (n,e)):P.underlying t=some (.array n e):=by
 unfold jX at h
 split at h
 ·cases h;assumption
 ·cases h
theorem MO (a b:List UInt8):((⟨⟨a⟩⟩:ByteArray)==⟨⟨b⟩⟩)=(a==b):=by
 show((⟨a⟩:Array UInt8)==⟨b⟩)=_
 simp
def v8 [Env] (P:Program) (ρ:Ren) (eq:TypeId→V→V→Option Bool) (d:Nat):Prop:=
 ∀t x y b,eq t x y=some b→∀x' y',au ρ x x'→au ρ y y'→∀n,d≤n→∀w,(Op.equalIn n t x' y').run P w=.ok b w
theorem C7 [Env] {eq:TypeId→V→V→Option Bool} {d n:Nat} (he:v8 P ρ eq d) (hn:d≤n) {xs ys:List V} {MP MQ:List Value} (hx:aB ρ xs MP) (hy:aB ρ ys MQ):
  ∀(fs:List Field) {b:Bool},pc P eq xs ys fs=some b→∀w,(Op.eqFields n ⟨MP⟩ ⟨MQ⟩ fs).run P w=.ok b w:=by
 intro fs
 induction fs with
 | nil=>intro b h w;have h':some true=some b:=h;cases h';simp [Op.eqFields]
 | cons f fs ih=>
  intro b h w
  have h':(match f.name== "_",dX P f.type xs f.offset,dX P f.type ys f.offset with
   | false,some a,some b=>match eq f.type a b with
    | some true=>pc P eq xs ys fs
    | some false=>some false
    | none=>none
   | _,_,_=>none)=some b:=h
  split at h'
  ·rename_i a c eu ha hc
   obtain⟨a',WB,MR⟩:=lN hx ha
   obtain⟨c',WC,rn⟩:=lN hy hc
   have WD:f.name≠ "_":=by simpa using eu
   simp only[Op.eqFields,if_pos WD,Sem.run_bind,WB,WC,Result.andThen_ok]
   split at h'
   ·rename_i heq
    simp only[he _ _ _ _ heq _ _ MR rn n hn w,Result.andThen_ok]
    simpa using ih h' w
   ·rename_i heq
    cases h'
    simp only[he _ _ _ _ heq _ _ MR rn n hn w,Result.andThen_ok]
    simp
   ·cases h'
  ·cases h'
theorem wU [Env] {eq:TypeId→V→V→Option Bool} {d n:Nat} (he:v8 P ρ eq d) (hn:d≤n) {t:TypeId} {fs:Array Field} (hu:P.underlying t=some (.struct fs)) {x y:V} {b:Bool}
  (h:iT P eq t fs.toList x y=some b) {x' y':Value} (hx:au ρ x x') (hy:au ρ y y') (w:World):(Op.equalIn (n+1) t x' y').run P w=.ok b w:=by
 unfold iT at h
 split at h
 ·cases h
 ·rename_i aH
  split at h
  ·split at h
   ·cases hx with | agg hx=>cases hy with | agg hy=>
    have hf:P.fieldsOf t=fs:=by simp [Program.fieldsOf,hu]
    rw[run_equalIn_struct (P:=P) w n t _ _ (by rw[hf];exact hu) aH,hf]
    exact C7 he hn hx hy _ h w
   ·cases h
  ·cases h
theorem sy [Env]:∀(d:Nat),v8 P ρ (kO P d) d:=by
 intro d
 induction d with
 | zero=>intro t x y b h;cases h
 | succ d ih=>
  intro t x y b h x' y' hx hy n hn w
  obtain⟨n,rfl⟩:∃m,n=m+1:=⟨n-1,by omega⟩
  have h':vS P (kO P d) t x y (P.underlying t)=some b:=h
  unfold vS at h'
  split at h'
  ·rename_i hu
   split at h'
   ·split at h'
    ·cases h';cases hx;cases hy;simp [Op.equalIn,run_underlying hu]
    ·cases h'
   ·cases h'
  ·rename_i hu
   split at h'
   ·split at h'
    ·split at h'
     ·rename_i hk;cases h';cases hx;cases hy;simp [Op.equalIn,run_underlying hu,hk]
     ·cases h'
    ·cases h'
   ·split at h'
    ·rename_i i j
     obtain⟨rfl,rfl,hi⟩:=J3 h'
     cases hx;cases hy
     obtain⟨q,hq⟩:=Env.int j hi
     rw[hq];simp [Op.equalIn,run_underlying hu]
    ·cases h'
   ·cases h'
  ·rename_i hu
   split at h'
   ·split at h'
    ·cases h';cases hx;cases hy;simp [Op.equalIn,run_underlying hu,MO]
    ·cases h'
   ·cases h'
  ·rename_i fs hu
   exact wU ih (by omega) hu h' hx hy w
  ·cases h'
theorem Gc [Env] {eq:TypeId→V→V→Option Bool} {d n:Nat} (he:v8 P ρ eq d) (hn:d≤n) {e:TypeId} {sz:Nat} {xs ys:List V} {MP MQ:List Value} (hx:aB ρ xs MP) (hy:aB ρ ys MQ):
  ∀(k i:Nat) {b:Bool},q3 P eq e sz xs ys k i=some b→∀w,(Op.eqItems n e sz ⟨MP⟩ ⟨MQ⟩ (List.range' i k)).run P w=.ok b w:=by
 intro k
 induction k with
 | zero=>intro i b h w;have h':some true=some b:=h;cases h';simp [Op.eqItems]
 | succ k ih=>
  intro i b h w
  have h':(match dX P e xs (i*sz),dX P e ys (i*sz) with
   | some a,some b=>match eq e a b with
    | some true=>q3 P eq e sz xs ys k (i+1)
    | some false=>some false
    | none=>none
   | _,_=>none)=some b:=h
  rw[List.range'_succ]
  split at h'
  ·rename_i a c ha hc
   obtain⟨a',WB,MR⟩:=lN hx ha
   obtain⟨c',WC,rn⟩:=lN hy hc
   simp only[Op.eqItems,Sem.run_bind,WB,WC,Result.andThen_ok]
   split at h'
   ·rename_i heq
    simp only[he _ _ _ _ heq _ _ MR rn n hn w,Result.andThen_ok]
    simpa using ih (i+1) h' w
   ·rename_i heq
    cases h'
    simp only[he _ _ _ _ heq _ _ MR rn n hn w,Result.andThen_ok]
    simp
   ·cases h'
  ·cases h'
theorem Gd [Env] {t e:TypeId} {k:Nat} (hu:P.underlying t=some (.array k e)) {x y:V} {b:Bool} (h:ku P t e k x y=some b) {x' y':Value} (hx:au ρ x x') (hy:au ρ y y') {n:Nat} (hn:eY≤n) (w:World):
  (Op.equalIn (n+1) t x' y').run P w=.ok b w:=by
 unfold ku at h
 split at h
 ·cases h
 ·split at h
  ·rename_i sz bl
   split at h
   ·split at h
    ·cases hx with | agg hx=>cases hy with | agg hy=>
     unfold bQ at bl
     rw[Option.map_eq_some_iff] at bl
     obtain⟨i,hi,bl⟩:=bl
     have hc:P.cellsOf e=sz:=by unfold Program.cellsOf;rw[hi];exact bl
     rw[run_equalIn_array w n _ _ hu hi,hc,List.range_eq_range']
     exact Gc (sy eY) hn hx hy k 0 h w
    ·cases h
   ·cases h
  ·cases h
theorem Ci (a b:Addr) (h:a.block=b.block) (w:World):(sameAddr a b).run P w=.ok (a==b) w:=by
 unfold sameAddr
 rw[if_pos (by simpa using h)]
 rfl
theorem zH {a b:Addr} (h:a.block≠b.block) (ha:∃e n,w.shape? a.block=some (e,n)) (hb:∃e n,w.shape? b.block=some (e,n))
  (fa:∀i,w.frozen? ⟨a.block,i,none⟩=false) (fb:∀i,w.frozen? ⟨b.block,i,none⟩=false) (sa:a.spot=none) (sb:b.spot=none):(sameAddr a b).run P w=.ok false w:=by
 obtain⟨e,n,ha⟩:=ha
 obtain⟨e',n',hb⟩:=hb
 obtain⟨ab,ao,akK⟩:=a
 obtain⟨bb,bo,bs⟩:=b
 simp only at h ha hb fa fb sa sb
 subst sa;subst sb
 have bN:(ab==bb)=false:=by simpa using h
 simp [sameAddr,bN,fa,fb,noView,viewAt,ha,hb,mayBeOne,stringish]
theorem MS [Env] (hr:R ρ σ w) {e b o b' o':Nat} {r:Bool} (h:ptrEq P σ e b o b' o'=some r) {l l':Loc} (hl:ρ b=some l) (cS:ρ b'=some l') (n:Nat) {t:TypeId} (hu:P.underlying t=some (.pointer e)):
  (Op.equalIn (n+1) t (.pointer (some ⟨l.c,l.o+o,none⟩)) (.pointer (some ⟨l'.c,l'.o+o',none⟩))).run P w=.ok r w:=by
 unfold ptrEq at h
 split at h
 ·rename_i k hs
  split at h
  ·rename_i hb
   have hb:b=b':=Nat.eq_of_beq_eq_true hb
   subst hb
   rw[hl] at cS;cases cS
   split at h
   ·cases h
    simp [Op.equalIn,run_underlying hu,bw hs,Ci]
    rw[Bool.eq_iff_iff]
    simp
   ·cases h
  ·rename_i hb
   have hb:b≠b':=fun e=>by subst e;rw[Nat.beq_refl] at hb;cases hb
   split at h
   ·rename_i h1 h2
    cases h
    obtain⟨⟨t1,s1⟩,_,_,_,f1⟩:=hr.cells h1 hl
    obtain⟨⟨t2,s2⟩,_,_,_,f2⟩:=hr.cells h2 cS
    have hc:l.c≠l'.c:=fun ec=>hb (hr.inj _ _ _ _ _ _ h1 h2 hl cS ec)
    have:=zH (P:=P) (w:=w) (a:=⟨l.c,l.o+o,none⟩) (b:=⟨l'.c,l'.o+o',none⟩) hc ⟨_,_,s1⟩ ⟨_,_,s2⟩ (f1 rfl) (f2 rfl) rfl rfl
    simp [Op.equalIn,run_underlying hu,bw hs,this]
   ·cases h
 ·cases h
theorem Ge [Env] {tx ty:TypeId} {vx vy:V} {b:Bool} (h:zF P tx vx ty vy=some b) {vx' vy':Value} (hx:au ρ vx vx') (hy:au ρ vy vy') {n:Nat} (hn:eY≤n) {t:TypeId} {ms:Array (String×TypeId)}
  (hu:P.underlying t=some (.interface ms)) (w:World):(Op.equalIn (n+1) t (.iface tx vx') (.iface ty vy')).run P w=.ok b w:=by
 unfold zF at h
 split at h
 ·rename_i hb
  cases h
  have:tx≠ty:=fun e=>by subst e;rw[Nat.beq_refl] at hb;cases hb
  simp [Op.equalIn,run_underlying hu,this]
 ·rename_i hb
  have hb:tx=ty:=Nat.eq_of_beq_eq_true hb
  subst hb
  split at h
  ·rename_i hc
   rw[Option.map_eq_some_iff] at hc
   obtain⟨i,hi,hci⟩:=hc
   have:=sy (P:=P) (ρ:=ρ) eY _ _ _ _ h _ _ hx hy n hn w
   simp [Op.equalIn,run_underlying hu,run_typeInfo hi,hci,this]
  ·cases h
theorem Kd [Env] (hr:R ρ σ w) {t:TypeId} {lit:Bool} {x y:V} {b:Bool} (h:evalEq P σ t lit x y=some b) {x' y':Value} (hx:au ρ x x') (hy:au ρ y y'):
  (Op.equal t x' y').run P w=.ok b w:=by
 unfold evalEq vT at h
 unfold Op.equal
 obtain⟨n,hn,lO⟩:∃n,eY≤n∧Op.maxDepth=n+1:=⟨9999,by decide,rfl⟩
 rw[lO]
 split at h
 ·rename_i hu
  split at h
  ·split at h
   ·cases h;cases hx;cases hy;simp [Op.equalIn,run_underlying hu]
   ·cases h
  ·cases h
 ·rename_i e hu
  split at h
  ·split at h
   ·cases h;cases hx;cases hy;simp [Op.equalIn,run_underlying hu]
   ·cases h;cases hx;cases hy;simp [Op.equalIn,run_underlying hu]
   ·cases h
  ·split at h
   ·cases h;cases hx;cases hy;simp [Op.equalIn,run_underlying hu]
   ·cases hx with | ptr hl=>cases hy with | ptr cS=>exact MS hr h hl cS n hu
   ·cases h
  ·cases h
 ·rename_i ms hu
  split at h
  ·split at h
   ·split at h
    ·cases h;cases hx;cases hy;simp [Op.equalIn,run_underlying hu]
    ·cases h
   ·cases h;cases hx;cases hy;simp [Op.equalIn,run_underlying hu]
   ·cases h
  ·split at h
   ·cases h;cases hx;cases hy;simp [Op.equalIn,run_underlying hu]
   ·cases hx with | iface hx=>cases hy with | iface hy=>exact Ge h hx hy hn hu w
   ·cases h
  ·cases h
 ·rename_i fs hu
  split at h
  ·exact wU (sy eY) hn hu h hx hy w
  ·cases h
 ·rename_i k e hu
  exact Gd hu h hx hy hn w
 ·rename_i hu
  split at h
  ·split at h
   ·cases h;cases hx;cases hy;simp [Op.equalIn,run_underlying hu]
   ·cases h;cases hx;cases hy;simp [Op.equalIn,run_underlying hu]
   ·cases h;cases hx;cases hy;simp [Op.equalIn,run_underlying hu]
   ·cases h
  ·split at h
   ·cases h;cases hx;cases hy;simp [Op.equalIn,run_underlying hu]
   ·cases h
  ·split at h
   ·cases h;cases hx;cases hy;simp [Op.equalIn,run_underlying hu]
   ·cases h
  ·split at h
   ·cases h;cases hy
    cases hx with
    | arr hn hx=>
     obtain⟨a,k,c,rfl⟩:=hn rfl
     simp [Op.equalIn,run_underlying hu]
   ·cases h
  ·cases h
 ·rename_i hu
  split at h
  ·split at h
   ·cases h;cases hx;cases hy;simp [Op.equalIn,run_underlying hu]
   ·cases h;cases hx;cases hy;simp [Op.equalIn,run_underlying hu]
   ·cases h
  ·split at h
   ·cases h;cases hx;cases hy;simp [Op.equalIn,run_underlying hu]
   ·cases h
  ·cases h
 ·rename_i hu
  split at h
  ·split at h
   ·cases h;cases hx;cases hy;simp [Op.equalIn,run_underlying hu]
   ·cases h;cases hx;cases hy;simp [Op.equalIn,run_underlying hu]
   ·cases h
  ·split at h
   ·cases h;cases hx;cases hy;simp [Op.equalIn,run_underlying hu]
   ·cases h
  ·cases h
 ·cases h
end
end Go.Ev
end
