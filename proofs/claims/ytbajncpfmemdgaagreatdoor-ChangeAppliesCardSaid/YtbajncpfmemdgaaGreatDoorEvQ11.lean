/- Proved: parts of the way: Loop. -/
import Derived.Test.YtbajncpfmemdgaaGreatDoorEvQ10
set_option linter.unusedVariables false
set_option linter.unusedSimpArgs false
namespace Go.Ev
open Go
def Ren.pull (ρ:Ren) (m:Nat→Option Nat):Ren:=⟨fun b=>(m b).bind ρ.at',ρ.aW⟩
theorem Ren.dP {ρ:Ren} {m:Nat→Option Nat} {b c:Nat} (h:m b=some c):ρ.pull m b=ρ c:=by
 show(m b).bind ρ.at'=_
 rw[h];rfl
theorem Ren.qp {ρ:Ren} {m:Nat→Option Nat} {b:Nat} {l:Loc} (h:ρ.pull m b=some l):∃c,m b=some c∧ρ c=some l:=by
 have h':(m b).bind ρ.at'=some l:=h
 rw[Option.bind_eq_some_iff] at h'
 exact h'
section
variable [Env]
mutual
inductive eW (m:Nat→Option Nat):V→V→Prop
 | clean {v:V} (h:Clean v):eW m v v
 | ptr {b c off:Nat} (h:m b=some c):eW m (.ptr b off) (.ptr c off)
 | fF {b c i esz off:Nat} (h:m b=some c):eW m (.fF b i esz off) (.fF c i esz off)
 | slice {b c off n cap esz:Nat} {ex:Bool} (h:m b=some c):eW m (.slice b off n cap ex esz) (.slice c off n cap ex esz)
 | own {b c n esz:Nat} (h:m b=some c):eW m (.own b n esz) (.own c n esz)
 | S4 {b c n esz:Nat} (h:m b=some c) (hn:n≠0):eW m (.own b n esz) (.slice c 0 n n false esz)
 | S5 {b c n k esz:Nat} (h:m b=some c) (hn:n≤k):eW m (.own b n esz) (.slice c 0 n k true esz)
 | S7 {b c n k esz:Nat} (h:m b=some c) (hn:n≠0) (hk:n≤k):eW m (.own b n esz) (.slice c 0 n k false esz)
 | S8 {b c n esz:Nat} (h:m b=some c):eW m (.slice b 0 n n false esz) (.own c n esz)
 | map {b c:Nat} (h:m b=some c):eW m (.map b) (.map c)
 | agg {x y:List V} (h:e8 m x y):eW m (.agg x) (.agg y)
 | tuple {x y:List V} (h:e8 m x y):eW m (.tuple x) (.tuple y)
 | iface {t:TypeId} {x y:V} (h:eW m x y):eW m (.iface t x) (.iface t y)
inductive e8 (m:Nat→Option Nat):List V→List V→Prop
 | nil:e8 m [] []
 | cons {v u:V} {x y:List V} (h:eW m v u) (hl:e8 m x y):e8 m (v::x) (u::y)
end
mutual
theorem eW.rel {ρ:Ren} {m:Nat→Option Nat}:∀ {v u:V} {x:Value},eW m v u→au ρ u x→au (ρ.pull m) v x
 | _,_,_,.clean h,hx=>h ρ _ _ (fun _ _ _ h=>h) hx
 | _,_,_,.ptr h,.ptr hl=>.ptr ((Ren.dP h).trans hl)
 | _,_,_,.fF h,.fF hl=>.fF ((Ren.dP h).trans hl)
 | _,_,_,.slice h,.slice hl a b c d=>.slice ((Ren.dP h).trans hl) a b c d
 | _,_,_,.own h,.own hl a b=>.own ((Ren.dP h).trans hl) a b
 | _,_,_,.S4 h hn,hx=>by
  cases hx with
  | slice hl hex cW hN oD=>
   obtain⟨h1,h2⟩:=cW rfl
   rcases h2 with h2 | h2
   ·subst h2;exact .own ((Ren.dP h).trans hl) h1 (by simpa using hN)
   ·exact absurd h2.1 hn
 | _,_,_,.S5 h hn,hx=>by
  cases hx with
  | slice hl hex cW hN oD=>
   obtain⟨rfl,rfl⟩:=hex rfl
   exact .own ((Ren.dP h).trans hl) hn (by simpa using hN)
 | _,_,_,.S7 h hn hk,hx=>by
  cases hx with
  | slice hl hex cW hN oD=>
   obtain⟨h1,h2⟩:=cW rfl
   rcases h2 with h2 | h2
   ·subst h2;exact .own ((Ren.dP h).trans hl) (Nat.le_trans hk h1) (by simpa using hN)
   ·exact absurd h2.1 hn
 | _,_,_,.S8 h,.own hl hc hN=>.slice ((Ren.dP h).trans hl) (fun h=>by cases h) (fun _=>⟨hc,.inl (Nat.add_zero _).symm⟩) hN (Nat.le_refl _)
 | _,_,_,.map h,.map hl=>.map ((Ren.dP h).trans hl)
 | _,_,_,.agg h,.agg hx=>.agg (e8.rel h hx)
 | _,_,_,.tuple h,.tuple hx=>.tuple (e8.rel h hx)
 | _,_,_,.iface h,.iface hx=>.iface (eW.rel h hx)
theorem e8.rel {ρ:Ren} {m:Nat→Option Nat}:∀ {vs us:List V} {xs:List Value},e8 m vs us→aB ρ us xs→aB (ρ.pull m) vs xs
 | _,_,_,.nil,.nil=>.nil
 | _,_,_,.cons h hl,.cons hx l9=>.cons (eW.rel h hx) (e8.rel hl l9)
end
theorem e8.length {m:Nat→Option Nat}:∀ {vs us:List V},e8 m vs us→vs.length=us.length
 | _,_,.nil=>rfl
 | _,_,.cons _ hl=>congrArg (·+1) hl.length
theorem e8.get {m:Nat→Option Nat}:∀ {vs us:List V},e8 m vs us→∀ {k:Nat} {v:V},vs[k]? =some v→∃u,us[k]? =some u∧eW m v u
 | _,_,.nil,k,v,h=>by simp at h
 | _,_,.cons h hl,0,v,hk=>by simp at hk;subst hk;exact⟨_,rfl,h⟩
 | _,_,.cons h hl,k+1,v,hk=>hl.get (k:=k) (by simpa using hk)
theorem e8.clean {m:Nat→Option Nat}:∀ {cs:List V},(∀v∈cs,Clean v)→e8 m cs cs
 | [],_=>.nil
 | v::_,h=>.cons (.clean (h v List.mem_cons_self)) (e8.clean fun u hu=>h u (List.mem_cons_of_mem _ hu))
inductive fu (m:Nat→Option Nat):b9→b9→Prop
 | cells {n:Nat} {z z':List V} {t t':Trie V} {p p' ro:Bool} (hp:p=true→p'=true) (h:∀i v,cellOf n z t i=some v→∃u,cellOf n z' t' i=some u∧eW m v u):fu m (.cells n z t p ro) (.cells n z' t' p' ro)
 | row {n:Nat} {f g:Nat→V} {esz:Nat} {p p':Bool} (hp:p=true→p'=true) (h:∀i,i<n→e8 m (f i).cells (g i).cells):fu m (.row n f esz p) (.row n g esz p')
 | yj {n:Nat} {f:Nat→V} {esz:Nat} {z:List V} {t:Trie V} {p p':Bool} (hp:p=true→p'=true) (hu:∀i,i<n→(f i).cells.length=esz)
   (h:∀i,i<n→∀k v,(f i).cells[k]? =some v→∃u,cellOf (n*esz) z t (i*esz+k)=some u∧eW m v u):fu m (.row n f esz p) (.cells (n*esz) z t p' false)
 | G6 {n N:Nat} {f:Nat→V} {esz:Nat} {z:List V} {t:Trie V} {p p':Bool} (hN:n*esz≤N) (hp:p=true→p'=true) (hu:∀i,i<n→(f i).cells.length=esz)
   (h:∀i,i<n→∀k v,(f i).cells[k]? =some v→∃u,cellOf N z t (i*esz+k)=some u∧eW m v u):fu m (.row n f esz p) (.cells N z t p' false)
 | ofRow {n:Nat} {f:Nat→V} {esz:Nat} {z:List V} {t:Trie V} {p:Bool}
   (h:∀i v,cellOf (n*esz) z t i=some v→∃j k u,j<n∧i=j*esz+k∧(f j).cells[k]? =some u∧eW m v u):fu m (.cells (n*esz) z t false false) (.row n f esz p)
 | deferred:fu m .deferred .deferred
theorem fu.ok {m:Nat→Option Nat} {ρ:Ren} {w:World} {l:Loc} {k k':b9} (h:fu m k k') (hk:cI ρ w l k'):cI (ρ.pull m) w l k:=by
 cases h with
 | cells yw h=>
  cases hk with
  | cells hs hn hv hf hp=>
   refine .cells hs hn (fun i v hi=>?_) hf fun h=>hp (yw h)
   obtain⟨u,hu,hr⟩:=h i v hi
   obtain⟨x,hx,vf⟩:=hv i u hu
   exact⟨x,hx,hr.rel vf⟩
 | row yw h=>
  cases hk with
  | row hs hn hu hv hf hp=>
   refine .row hs hn (fun i hi=>by rw[(h i hi).length];exact hu i hi) (fun i hi k v hk=>?_) hf fun h=>hp (yw h)
   obtain⟨u,hu,hr⟩:=(h i hi).get hk
   obtain⟨x,hx,vf⟩:=hv i hi k u hu
   exact⟨x,hx,hr.rel vf⟩
 | G6 hN yw hu h=>
  cases hk with
  | cells hs hn hv hf hp=>
   refine .row hs (by omega) hu (fun i hi k v hk=>?_) (hf rfl) fun h=>hp (yw h)
   obtain⟨u,hu,hr⟩:=h i hi k v hk
   obtain⟨x,hx,vf⟩:=hv _ u hu
   exact⟨x,hx,hr.rel vf⟩
 | ofRow h=>
  cases hk with
  | row hs hn hu hv hf hp=>
   refine .cells hs hn (fun i v hi=>?_) (fun _=>hf) fun h=>by cases h
   obtain⟨j,k,u,hj,rfl,hk,hr⟩:=h i v hi
   obtain⟨x,hx,vf⟩:=hv j hj k u hk
   exact⟨x,hx,hr.rel vf⟩
 | deferred=>
  cases hk with
  | deferred h=>exact .deferred h
 | yj yw hu h=>
  cases hk with
  | cells hs hn hv hf hp=>
   refine .row hs hn hu (fun i hi k v hk=>?_) (hf rfl) fun h=>hp (yw h)
   obtain⟨u,hu,hr⟩:=h i hi k v hk
   obtain⟨x,hx,vf⟩:=hv _ u hu
   exact⟨x,hx,hr.rel vf⟩
structure xe (n₀:Nat) (m:Nat→Option Nat) (a:Act) (σ:St) (b:Act) (τ:St):Prop where
 size:a.size=b.size
 da:a.defers=[]
 db:b.defers=[]
 KG:∀i v,a.tmps.get i=some v→∃u,b.tmps.get i=some u∧eW m v u
 heap:∀i k,σ.heap.get i=some k→∃c k',m i=some c∧τ.heap.get c=some k'∧fu m k k'
 inj:∀i j c,m i=some c→m j=some c→i=j
 range:∀i,σ.next≤i→m i=none
 base:∀i,i<n₀→m i=some i
 le:n₀≤σ.next
section
variable {n₀:Nat} {m:Nat→Option Nat} {a b:Act} {σ τ:St} {ρ:Ren} {w:World}
theorem xe.wr (h:xe n₀ m a σ b τ) {c:Nat} (hw:Wr (ρ.pull m) σ c):Wr ρ τ c:=by
 obtain⟨i,k,l,h1,_,h3,h4⟩:=hw
 obtain⟨j,k',e1,e2,_⟩:=h.heap i k h1
 exact⟨j,k',l,e2,rfl,(Ren.dP e1).symm.trans h3,h4⟩
theorem xe.r (h:xe n₀ m a σ b τ) (hr:R ρ τ w):R (ρ.pull m) σ w:=by
 refine⟨fun i k hk=>?_,fun i j k k' l l' h1 h2 g1 g2 e=>?_,fun i hi=>?_,fun i l hl=>?_,fun c o x hx=>⟨(hr.aW c o x hx).1,fun hw=>(hr.aW c o x hx).2 (h.wr hw)⟩,hr.laid⟩
 ·obtain⟨c,k',e1,e2,e3⟩:=h.heap i k hk
  obtain⟨l,hl,cT⟩:=hr.di c k' e2
  exact⟨l,(Ren.dP e1).trans hl,e3.ok cT⟩
 ·obtain⟨c,q,e1,e2,_⟩:=h.heap i k h1
  obtain⟨d,q',Nt,Xm,_⟩:=h.heap j k' h2
  have:=hr.inj c d q q' l l' e2 Xm ((Ren.dP e1).symm.trans g1) ((Ren.dP Nt).symm.trans g2) e
  subst this
  exact h.inj i j c e1 Nt
 ·show(m i).bind ρ.at'=none
  rw[h.range i hi];rfl
 ·obtain⟨c,_,hc⟩:=Ren.qp hl
  exact hr.valid c l hc
theorem xe.act (h:xe n₀ m a σ b τ) {a':Go.Act} (ha:bO ρ b a'):bO (ρ.pull m) a a':=by
 refine⟨fun i v hv=>?_,h.size.trans ha.size,?_⟩
 ·obtain⟨u,hu,hr⟩:=h.KG i v hv
  obtain⟨x,hx,vf⟩:=ha.tmps i u hu
  exact⟨x,hx,hr.rel vf⟩
 ·have hd:=ha.defers
  rw[h.db] at hd
  rw[h.da]
  generalize a'.defers=d at hd⊢
  cases hd
  exact .nil
structure kL (n₀:Nat) (ρ:Ren) (σ:St) (w:World) (ρ':Ren) (σ':St) (w':World):Prop where
 r:R ρ' σ' w'
 le:∀b l,b<n₀→ρ b=some l→ρ' b=some l
 aW:∀c o x,ρ.aW c o=some x→ρ'.aW c o=some x
 next:n₀≤σ'.next
 jz:∀b l,b<n₀→ρ' b=some l→ρ b=some l
 size:w.heap.size≤w'.heap.size
 os:w'.os=w.os
 tape:w'.tape=w.tape
 output:w'.output=w.output
 aV:∀c,c<w.heap.size→¬Wr ρ σ c→w'.heap[c]? =w.heap[c]?
 wr:∀c,c<w.heap.size→Wr ρ' σ' c→Wr ρ σ c
 jL:∀b k,b<n₀→σ'.heap.get b=some k→∃k',σ.heap.get b=some k'
 iG:∀c o x,ρ'.aW c o=some x→ρ.aW c o=some x∨w.heap.size≤c∨Wr ρ σ c
theorem kL.of {ρ':Ren} {σ':St} {w':World} (hn:n₀≤σ.next) (h:bn qh ρ σ w ρ' σ' w'):kL n₀ ρ σ w ρ' σ' w':=
 ⟨h.r,fun b l _ hb=>h.le b l hb,h.le.aW,Nat.le_trans hn h.next,fun b l hb hl=>by
  rcases h.jz b l hl with h1 | h1 | h1
  ·exact h1
  ·omega
  ·exact h1.elim,h.size,h.os,h.tape,h.output,h.aV,h.wr,fun b k hb hk=>by
  rcases h.jL b k hk with h1 | h1 | h1
  ·exact h1
  ·omega
  ·exact h1.elim,h.iG⟩
theorem kL.to {ρ':Ren} {σ':St} {w':World} (hr:R ρ σ w) (h:kL σ.next ρ σ w ρ' σ' w'):bn qh ρ σ w ρ' σ' w':=
 ⟨h.r,⟨fun b l hb=>h.le b l (Nat.lt_of_not_le fun hle=>by rw[hr.fresh b hle] at hb;cases hb) hb,h.aW⟩,h.next,fun b l hb=>by
  by_cases bI:b<σ.next
  ·exact .inl (h.jz b l bI hb)
  ·exact .inr (.inl (Nat.le_of_not_lt bI)),h.size,h.os,h.tape,h.output,h.aV,h.wr,fun b k hb=>by
  by_cases bI:b<σ.next
  ·exact .inl (h.jL b k bI hb)
  ·exact .inr (.inl (Nat.le_of_not_lt bI)),h.iG⟩
theorem kL.trans {ct bC:Ren} {aJ cc:St} {bq fD:World} (h:kL n₀ ρ σ w ct aJ bq) (k:kL n₀ ct aJ bq bC cc fD):kL n₀ ρ σ w bC cc fD:=
 ⟨k.r,fun b l hb hl=>k.le b l hb (h.le b l hb hl),fun c o x hx=>k.aW c o x (h.aW c o x hx),k.next,fun b l hb hl=>h.jz b l hb (k.jz b l hb hl),Nat.le_trans h.size k.size,k.os.trans h.os,k.tape.trans h.tape,k.output.trans h.output,
  fun c hc hn=>(k.aV c (Nat.lt_of_lt_of_le hc h.size) fun hw=>hn (h.wr c hc hw)).trans (h.aV c hc hn),
  fun c hc hw=>h.wr c hc (k.wr c (Nat.lt_of_lt_of_le hc h.size) hw),
  fun b q hb hq=>let ⟨q',h1⟩:=k.jL b q hb hq;h.jL b q' hb h1,
  fun c o x hx=>by
   rcases k.iG c o x hx with h1 | h1 | h1
   ·exact h.iG c o x h1
   ·exact .inr (.inl (Nat.le_trans h.size h1))
   ·by_cases hc:c<w.heap.size
    ·exact .inr (.inr (h.wr c hc h1))
    ·exact .inr (.inl (Nat.le_of_not_lt hc))⟩
theorem xe.stp {ct:Ren} {aJ:St} {bq:World} (hf:xe n₀ m a σ b τ) (h:kL n₀ (ρ.pull m) σ w ct aJ bq):kL n₀ ρ τ w ct aJ bq:=
 ⟨h.r,fun b l hb hl=>h.le b l hb ((Ren.dP (hf.base b hb)).trans hl),h.aW,h.next,fun b l hb hl=>(Ren.dP (hf.base b hb)).symm.trans (h.jz b l hb hl),h.size,h.os,h.tape,h.output,
  fun c hc hn=>h.aV c hc fun hw=>hn (hf.wr hw),fun c hc hw=>hf.wr (h.wr c hc hw),fun b k hb hk=>by
   obtain⟨k',fB⟩:=h.jL b k hb hk
   obtain⟨c,WS,e1,e2,_⟩:=hf.heap b k' fB
   rw[hf.base b hb] at e1
   cases e1
   exact⟨WS,e2⟩,fun c o x hx=>by
   rcases h.iG c o x hx with h1 | h1 | h1
   ·exact .inl h1
   ·exact .inr (.inl h1)
   ·exact .inr (.inr (hf.wr h1))⟩
end
def gO (n₀:Nat) (Q:dw) (ρ:Ren) (σ:St) (w:World):Exit→Go.Act→World→Prop:=
 fun e a' w'=>∃x a σ' ρ',Q x a σ'∧e=ry x∧bO ρ' a a'∧kL n₀ ρ σ w ρ' σ' w'
structure e9 (P:Program) (n₀:Nat) (x:Code) (Q:dw) (a:Act) (σ:St):Prop where
 ex:∃e a σ,Q e a σ
 h:n₀≤σ.next→∀(ρ:Ren) (w:World) (a':Go.Act),R ρ σ w→bO ρ a a'→(Code.loop x).wpIn Fence.wide 0 P (gO n₀ Q ρ σ w) a' w∧j7 Fence.wide P x (gO n₀ Q ρ σ w) a' w
section
variable {P:Program} [iX P] {fn:FuncId} {n₀:Nat} {x:Code} {Q Q':dw} {a b:Act} {σ τ:St}
omit [iX P] in
theorem e9.Xn {m:Nat→Option Nat} (hf:xe n₀ m a σ b τ) (h:e9 P n₀ x Q a σ):e9 P n₀ x Q b τ:=by
 refine⟨h.ex,fun _ ρ w a' hr ha=>?_⟩
 have hq:∀e a' w',gO n₀ Q (ρ.pull m) σ w e a' w'→gO n₀ Q ρ τ w e a' w':=by
  rintro e a' w' ⟨y,bf,aJ,ct,h1,h2,h3,h4⟩
  exact⟨y,bf,aJ,ct,h1,h2,h3,hf.stp h4⟩
 obtain⟨h1,h2⟩:=h.h hf.le _ w a' (hf.r hr) (hf.act ha)
 exact⟨wpIn_mono h1 fun _ _ _ hx=>hq _ _ _ hx,h2.mono fun _ _ _ hx=>hq _ _ _ hx⟩
end
end
end Go.Ev
