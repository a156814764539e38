/- Proved: parts of the way: Floyd. -/
import Derived.Test.YtbajncpfmemdgaaGreatDoorEvQ11
set_option linter.unusedVariables false
set_option linter.unusedSimpArgs false
namespace Go.Ev
open Go
section
variable [Env]
structure bG (P:Program) (n₀:Nat) (c:Code) (Q:cd) (a:Act) (σ:St):Prop where
 ex:∃e a σ,Q e a σ
 h:n₀≤σ.next→∀(ρ:Ren) (w:World) (a':Go.Act),R ρ σ w→bw ρ a a'→c.wpIn Fence.wide 0 P (er n₀ Q ρ σ w) a' w
variable {P:Program} {fn:FuncId} {n₀:Nat}
theorem bG.of [eF P] {c:Code} {Q:cd} {a:Act} {σ:St} (h:ck P fn none c Q a σ):bG P n₀ c Q a σ:=by
 have hs:=h.xG
 refine⟨?_,fun hn ρ w a' hr ha=>wpIn_mono (cj.at hs ρ w a' Fence.wide hr ha rfl).1 fun e aY bd eX=>?_⟩
 ·obtain⟨⟨o,τ⟩,hx⟩:=hs.1
  cases o with
  | val v=>exact hx.elim
  | exit e a=>exact⟨e,a,τ,hx⟩
 ·obtain⟨y,aS,bE,bg,h1,h2,h3,h4⟩:=eX
  exact⟨y,aS,bE,bg,h1,h2,h3,gC.of hn h4⟩
theorem bG.xG {c:Code} (hc:∀x,c≠.loop x) {Q:cd} {a:Act} {σ:St} (h:bG P σ.next c Q a σ):cj P (.code none fn c a) σ (j7 Q):=by
 refine⟨let ⟨e,a,τ,hx⟩:=h.ex;⟨(.exit e a,τ),hx⟩,?_⟩
 intro ρ w a' F hr ha bt
 have hF:F=Fence.wide:=bt
 subst hF
 refine⟨wpIn_mono (h.h (Nat.le_refl _) ρ w a' hr ha) fun e aY bd hx=>?_,fun x hx=>absurd hx (hc x)⟩
 obtain⟨y,aY,aB,bI,h1,h2,h3,h4⟩:=hx
 exact⟨y,aY,aB,bI,h1,h2,h3,h4.to hr⟩
theorem bG.mono {c:Code} {Q Q':cd} {a:Act} {σ:St} (h:bG P n₀ c Q a σ) (hq:∀e a σ,Q e a σ→Q' e a σ):bG P n₀ c Q' a σ:=by
 refine⟨let ⟨e,a,τ,hx⟩:=h.ex;⟨e,a,τ,hq _ _ _ hx⟩,fun hn ρ w a' hr ha=>wpIn_mono (h.h hn ρ w a' hr ha) fun e aY bd hx=>?_⟩
 obtain⟨y,aS,bE,bg,h1,h2,h3,h4⟩:=hx
 exact⟨y,aS,bE,bg,hq _ _ _ h1,h2,h3,h4⟩
theorem er.trans {Q:cd} {ρ bI:Ren} {σ aB:St} {w bd ff:World} {e:Exit} {a:Go.Act} (h:gC n₀ ρ σ w bI aB bd) (k:er n₀ Q bI aB bd e a ff):er n₀ Q ρ σ w e a ff:=by
 obtain⟨y,aS,bE,bg,h1,h2,h3,h4⟩:=k
 exact⟨y,aS,bE,bg,h1,h2,h3,h.trans h4⟩
theorem bG.seq {x y:Code} {Q:cd} {a:Act} {σ:St} (h:bG P n₀ x (ib (bG P n₀ y Q) Q) a σ):bG P n₀ (.seq x y) Q a σ:=by
 constructor
 ·obtain⟨e,a,τ,hx⟩:=h.ex
  cases e with
  | normal=>exact bG.ex hx
  | exit i=>exact⟨_,_,_,hx⟩
  | goto i=>exact⟨_,_,_,hx⟩
  | ret=>exact⟨_,_,_,hx⟩
 ·intro hn ρ w a' hr ha
  refine wpIn_seq (wpIn_mono (h.h hn ρ w a' hr ha) fun e aY bd eX=>?_)
  obtain⟨z,aS,bE,bg,h1,rfl,h3,h4⟩:=eX
  cases z with
  | normal=>
   have h1:bG P n₀ y Q aS bE:=h1
   exact wpIn_mono (h1.h h4.next bg bd aY h4.r h3) fun e a w hx=>er.trans h4 hx
  | exit i=>exact⟨.exit i,aS,bE,bg,h1,rfl,h3,h4⟩
  | goto i=>exact⟨.goto i,aS,bE,bg,h1,rfl,h3,h4⟩
  | ret=>exact⟨.ret,aS,bE,bg,h1,rfl,h3,h4⟩
theorem bG.cond {x:Operand} {y z:Code} {Q:cd} {a:Act} {σ:St} (h:xw (bG P n₀ y Q a σ) (bG P n₀ z Q a σ) (a.eval x)):bG P n₀ (.cond x y z) Q a σ:=by
 cases hx:a.eval x with
 | none=>rw[hx] at h;exact h.elim
 | some v=>
  rw[hx] at h
  cases v with
  | bool b=>
   cases b with
   | true=>
    have h:bG P n₀ y Q a σ:=h
    exact⟨h.ex,fun hn ρ w a' hr ha=>wpIn_cond_true ((ha.eval x hx).qC) (h.h hn ρ w a' hr ha)⟩
   | false=>
    have h:bG P n₀ z Q a σ:=h
    exact⟨h.ex,fun hn ρ w a' hr ha=>wpIn_cond_false ((ha.eval x hx).qC) (h.h hn ρ w a' hr ha)⟩
  | _=>exact h.elim
theorem bG.block {id:Nat} {x:Code} {Q:cd} {a:Act} {σ:St} (h:bG P n₀ x (oE id Q) a σ):bG P n₀ (.block id x) Q a σ:=by
 constructor
 ·obtain⟨e,a,τ,hx⟩:=h.ex
  cases e with
  | normal=>exact⟨_,_,_,hx⟩
  | exit i=>
   have cE:(if i=id then Q .normal else Q (.exit i)) a τ:=hx
   by_cases e:i=id
   ·rw[if_pos e] at cE;exact⟨_,_,_,cE⟩
   ·rw[if_neg e] at cE;exact⟨_,_,_,cE⟩
  | goto i=>exact⟨_,_,_,hx⟩
  | ret=>exact⟨_,_,_,hx⟩
 ·intro hn ρ w a' hr ha
  refine wpIn_block (wpIn_mono (h.h hn ρ w a' hr ha) fun e aY bd eX=>?_)
  obtain⟨z,b,σ',ρ',h1,rfl,h3,h4⟩:=eX
  cases z with
  | normal=>exact⟨.normal,_,_,_,h1,rfl,h3,h4⟩
  | exit i=>
   have fG:(if i=id then Q .normal else Q (.exit i)) b σ':=h1
   by_cases hi:i=id
   ·simp only[qD,Exit.inBlock,hi,if_true]
    rw[if_pos hi] at fG
    exact⟨.normal,_,_,_,fG,rfl,h3,h4⟩
   ·simp only[qD,Exit.inBlock,hi,if_false]
    rw[if_neg hi] at fG
    exact⟨.exit i,_,_,_,fG,rfl,h3,h4⟩
  | goto l=>exact⟨.goto l,_,_,_,h1,rfl,h3,h4⟩
  | ret=>exact⟨.ret,_,_,_,h1,rfl,h3,h4⟩
theorem bG.scope {x:Code} {Q:cd} {a:Act} {σ:St} (h:bG P n₀ x (qK Q) a σ):bG P n₀ (.scope x) Q a σ:=by
 constructor
 ·obtain⟨e,a,τ,hx⟩:=h.ex
  cases e with
  | normal=>exact⟨_,_,_,hx⟩
  | exit i=>exact⟨_,_,_,hx⟩
  | goto i=>exact hx.elim
  | ret=>exact⟨_,_,_,hx⟩
 ·intro hn ρ w a' hr ha
  refine sA (xu (wpIn_mono (h.h hn ρ w a' hr ha) fun e aY bd eX=>?_))
  obtain⟨z,b,σ',ρ',h1,rfl,h3,h4⟩:=eX
  cases z with
  | normal=>exact⟨.normal,_,_,_,h1,rfl,h3,h4⟩
  | exit i=>exact⟨.exit i,_,_,_,h1,rfl,h3,h4⟩
  | goto l=>exact h1.elim
  | ret=>exact⟨.ret,_,_,_,h1,rfl,h3,h4⟩
theorem cV.code {x:Code} {Q:cd} {a:Act} {σ:St} (h:cV P n₀ x Q a σ):bG P n₀ (.loop x) Q a σ:=⟨h.ex,fun hn ρ w a' hr ha=>(h.h hn ρ w a' hr ha).1⟩
theorem cV.round {x:Code} {Q:cd} {a:Act} {σ:St} (h:bG P n₀ x (ib (cV P n₀ x Q) Q) a σ):cV P n₀ x Q a σ:=by
 constructor
 ·obtain⟨e,a,τ,hx⟩:=h.ex
  cases e with
  | normal=>exact cV.ex hx
  | exit i=>exact⟨_,_,_,hx⟩
  | goto i=>exact⟨_,_,_,hx⟩
  | ret=>exact⟨_,_,_,hx⟩
 ·intro hn ρ w a' hr ha
  refine oC (wpIn_mono (h.h hn ρ w a' hr ha) fun e aY bd eX=>?_)
  obtain⟨y,aS,bE,bg,h1,rfl,h3,h4⟩:=eX
  cases y with
  | normal=>
   have h1:cV P n₀ x Q aS bE:=h1
   exact(h1.h h4.next bg bd aY h4.r h3).2.mono fun e a w hx=>er.trans h4 hx
  | exit i=>exact⟨.exit i,aS,bE,bg,h1,rfl,h3,h4⟩
  | goto i=>exact⟨.goto i,aS,bE,bg,h1,rfl,h3,h4⟩
  | ret=>exact⟨.ret,aS,bE,bg,h1,rfl,h3,h4⟩
noncomputable def behind (P:Program) (K:eI P) (fn:FuncId):Code→Nat→Nat→cd→cd
 | .seq x y,i,j,Q=>match Nat.blt j (aD x) with
  | true=>behind P K fn x i j (ib (ws P K fn none (Nat.add i (aD x)) y Q) Q)
  | false=>behind P K fn y (Nat.add i (aD x)) (Nat.sub j (aD x)) Q
 | .cond _ x y,i,j,Q=>match Nat.blt j (aD x) with
  | true=>behind P K fn x i j Q
  | false=>behind P K fn y (Nat.add i (aD x)) (Nat.sub j (aD x)) Q
 | .block id x,i,j,Q=>behind P K fn x i j (oE id Q)
 | .scope x,i,j,Q=>behind P K fn x i j (qK Q)
 | .loop x,i,j,Q=>match j with
  | 0=>Q
  | j+1=>behind P K fn x (Nat.add i 1) j (ib (K.loop fn none i x Q) Q)
 | _,_,_,_=>fun _ _ _=>False
def bT (P:Program) (n₀:Nat):Code→Nat→cd→cd
 | .seq x y,j,Q=>match Nat.blt j (aD x) with
  | true=>bT P n₀ x j (ib (bG P n₀ y Q) Q)
  | false=>bT P n₀ y (Nat.sub j (aD x)) Q
 | .cond _ x y,j,Q=>match Nat.blt j (aD x) with
  | true=>bT P n₀ x j Q
  | false=>bT P n₀ y (Nat.sub j (aD x)) Q
 | .block id x,j,Q=>bT P n₀ x j (oE id Q)
 | .scope x,j,Q=>bT P n₀ x j (qK Q)
 | .loop x,j,Q=>match j with
  | 0=>Q
  | j+1=>bT P n₀ x j (ib (cV P n₀ x Q) Q)
 | _,_,_=>fun _ _ _=>False
omit [Env] in
theorem nQ {x y:Code} {j:Nat} {z:Code} (h:(aO x)[j]? =some z):(aO x++aO y)[j]? =some z∧Nat.blt j (aD x)=true:=by
 have bz:=(List.getElem?_eq_some_iff.1 h).1
 refine⟨by rw[List.getElem?_append_left bz];exact h,?_⟩
 rw[Nat.blt_eq,←dK];exact bz
omit [Env] in
theorem mF {x y:Code} {j:Nat} {z:Code} (h:(aO y)[j]? =some z):(aO x++aO y)[aD x+j]? =some z∧Nat.blt (aD x+j) (aD x)=false:=by
 refine⟨by rw[List.getElem?_append_right (by rw[dK];omega),dK,show aD x+j-aD x=j by omega];exact h,?_⟩
 cases hb:Nat.blt (aD x+j) (aD x) with
 | false=>rfl
 | true=>rw[Nat.blt_eq] at hb;omega
section
variable [eF P] {K:eI P}
structure eI.JE (K:eI P) (n₀:Nat):Prop extends K.OkC where
 range:∀ {f:FuncId} {c:Code} {Q:cd} {a:Act} {σ:St},K.range f none c Q a σ→bG P n₀ c Q a σ
theorem bG.gw (hK:K.JE n₀):∀(c:Code) {i:Nat} {Q Q':cd} (_:∀e a σ,Q e a σ→Q' e a σ)
  (_:∀j x,(aO c)[j]? =some x→∀a σ Q,K.loop fn none (i+j) x Q a σ→cV P n₀ x (bT P n₀ c j Q') a σ) {a:Act} {σ:St},ws P K fn none i c Q a σ→bG P n₀ c Q' a σ
 | .skip,i,Q,Q',hq,H,a,σ,h=>bG.of (fn:=fn) ⟨hq _ _ _ h⟩
 | .label l,i,Q,Q',hq,H,a,σ,h=>bG.of (fn:=fn) ⟨hq _ _ _ h⟩
 | .exit id,i,Q,Q',hq,H,a,σ,h=>bG.of (fn:=fn) ⟨hq _ _ _ h⟩
 | .goto l,i,Q,Q',hq,H,a,σ,h=>bG.of (fn:=fn) ⟨hq _ _ _ h⟩
 | .ret,i,Q,Q',hq,H,a,σ,h=>bG.of (fn:=fn) ⟨hq _ _ _ h⟩
 | .seq x y,i,Q,Q',hq,H,a,σ,h=>by
  refine .seq (bG.gw hK x (i:=i) (Q:=ib (ws P K fn none (Nat.add i (aD x)) y Q) Q) (fun e a σ h=>?_) (fun j z hz a σ dD hA=>?_) h)
  ·cases e with
   | normal=>
    refine bG.gw hK y (i:=i+aD x) hq (fun j z hz a σ dD hA=>?_) h
    obtain⟨h1,h2⟩:=mF (x:=x) hz
    have:=H (aD x+j) z h1 a σ dD (by rw[←Nat.add_assoc];exact hA)
    unfold bT at this
    rw[h2] at this
    dsimp only at this
    rw[show Nat.sub (aD x+j) (aD x)=j from Nat.add_sub_cancel_left _ _] at this
    exact this
   | exit i=>exact hq _ _ _ h
   | goto l=>exact hq _ _ _ h
   | ret=>exact hq _ _ _ h
  ·obtain⟨h1,h2⟩:=nQ (y:=y) hz
   have:=H j z h1 a σ dD hA
   unfold bT at this
   rw[h2] at this
   exact this
 | .cond x y z,i,Q,Q',hq,H,a,σ,h=>by
  refine .cond ?_
  have h':xw (ws P K fn none i y Q a σ) (ws P K fn none (Nat.add i (aD y)) z Q a σ) (a.eval x):=h
  revert h'
  cases a.eval x with
  | none=>exact id
  | some v=>cases v with
   | bool b=>
    refine fun h=>.mk (fun e=>bG.gw hK y (i:=i) hq (fun j t hz a σ dD hA=>?_) (ae.y h e)) fun e=>bG.gw hK z (i:=i+aD y) hq (fun j t hz a σ dD hA=>?_) (ae.z h e)
    ·obtain⟨h1,h2⟩:=nQ (y:=z) hz
     have:=H j t h1 a σ dD hA
     unfold bT at this
     rw[h2] at this
     exact this
    ·obtain⟨h1,h2⟩:=mF (x:=y) hz
     have:=H (aD y+j) t h1 a σ dD (by rw[←Nat.add_assoc];exact hA)
     unfold bT at this
     rw[h2] at this
     dsimp only at this
     rw[show Nat.sub (aD y+j) (aD y)=j from Nat.add_sub_cancel_left _ _] at this
     exact this
   | _=>exact id
 | .block id x,i,Q,Q',hq,H,a,σ,h=>by
  refine .block (bG.gw hK x (i:=i) (Q:=oE id Q) (fun e a σ h=>?_) (fun j z hz a σ dD hA=>H j z hz a σ dD hA) h)
  cases e with
  | normal=>exact hq _ _ _ h
  | exit k=>
   have h':(if k=id then Q .normal else Q (.exit k)) a σ:=h
   show(if k=id then Q' .normal else Q' (.exit k)) a σ
   by_cases e:k=id
   ·rw[if_pos e] at h'⊢;exact hq _ _ _ h'
   ·rw[if_neg e] at h'⊢;exact hq _ _ _ h'
  | goto l=>exact hq _ _ _ h
  | ret=>exact hq _ _ _ h
 | .loop x,i,Q,Q',hq,H,a,σ,h=>(H 0 x rfl a σ Q h).code
 | .region id ops draw,i,Q,Q',hq,H,a,σ,h=>by
  have h':yN P K none ops.toList (Q .normal) a σ draw:=h
  have hc:ck P fn none (.region id ops draw) Q a σ:=by
   cases draw with
   | false=>exact⟨rR hK.toOkC h'⟩
   | true=>
    have h':G3 P K none ops.toList (Q .normal) a σ (j3 P ops.toList):=h'
    constructor
    show((match j3 P ops.toList with
     | some l=>(⟨fun R ro a σ=>(j4 P ops.toList l).f R ro σ.next [ahead (len ops.toList) σ] a (ahead (len ops.toList) σ)⟩:uQ)
     | none=>⟨fun _ _ _ _=>.fail "plan"⟩).f (eh P) none a σ).Holds (j7 Q)
    cases hp:j3 P ops.toList with
    | none=>rw[hp] at h';exact h'.elim
    | some l=>rw[hp] at h';exact oH hK.toOkC h'
  exact(bG.of hc).mono hq
 | .rangeFunc _ _ _ _,i,Q,Q',hq,H,a,σ,h=>(hK.range h).mono hq
 | .scope x,i,Q,Q',hq,H,a,σ,h=>by
  refine .scope (bG.gw hK x (i:=i) (Q:=qK Q) (fun e a σ h=>?_) (fun j z hz a σ dD hA=>H j z hz a σ dD hA) h)
  cases e with
  | normal=>exact hq _ _ _ h
  | exit k=>exact hq _ _ _ h
  | goto l=>exact h.elim
  | ret=>exact hq _ _ _ h
 | .refuse _,i,Q,Q',hq,H,a,σ,h=>(bG.of (show ck P fn none _ Q a σ from h)).mono hq
theorem eC (hK:K.JE n₀):∀(c:Code) {i j:Nat} {Q Q':cd} (_:∀e a σ,Q e a σ→Q' e a σ)
  (_:∀j x,(aO c)[j]? =some x→∀a σ Q,K.loop fn none (i+j) x Q a σ→cV P n₀ x (bT P n₀ c j Q') a σ) {e:Ex} {a:Act} {σ:St},behind P K fn c i j Q e a σ→bT P n₀ c j Q' e a σ
 | .seq x y,i,j,Q,Q',hq,H,e,a,σ,h=>by
  have Hx:∀j z,(aO x)[j]? =some z→∀a σ Q,K.loop fn none (i+j) z Q a σ→cV P n₀ z (bT P n₀ x j (ib (bG P n₀ y Q') Q')) a σ:=by
   intro j z hz a σ dD hA
   obtain⟨h1,h2⟩:=nQ (y:=y) hz
   have:=H j z h1 a σ dD hA
   unfold bT at this
   rw[h2] at this
   exact this
  have Hy:∀j z,(aO y)[j]? =some z→∀a σ Q,K.loop fn none (i+aD x+j) z Q a σ→cV P n₀ z (bT P n₀ y j Q') a σ:=by
   intro j z hz a σ dD hA
   obtain⟨h1,h2⟩:=mF (x:=x) hz
   have:=H (aD x+j) z h1 a σ dD (by rw[←Nat.add_assoc];exact hA)
   unfold bT at this
   rw[h2] at this
   dsimp only at this
   rw[show Nat.sub (aD x+j) (aD x)=j from Nat.add_sub_cancel_left _ _] at this
   exact this
  unfold behind at h
  unfold bT
  cases hb:Nat.blt j (aD x) with
  | true=>
   rw[hb] at h
   refine eC hK x (i:=i) (fun e a σ h=>?_) Hx h
   cases e with
   | normal=>exact bG.gw hK y (i:=i+aD x) hq Hy h
   | exit i=>exact hq _ _ _ h
   | goto l=>exact hq _ _ _ h
   | ret=>exact hq _ _ _ h
  | false=>
   rw[hb] at h
   exact eC hK y (i:=i+aD x) hq Hy h
 | .cond _ x y,i,j,Q,Q',hq,H,e,a,σ,h=>by
  unfold behind at h
  unfold bT
  cases hb:Nat.blt j (aD x) with
  | true=>
   rw[hb] at h
   refine eC hK x (i:=i) hq (fun j z hz a σ dD hA=>?_) h
   obtain⟨h1,h2⟩:=nQ (y:=y) hz
   have:=H j z h1 a σ dD hA
   unfold bT at this
   rw[h2] at this
   exact this
  | false=>
   rw[hb] at h
   refine eC hK y (i:=i+aD x) hq (fun j z hz a σ dD hA=>?_) h
   obtain⟨h1,h2⟩:=mF (x:=x) hz
   have:=H (aD x+j) z h1 a σ dD (by rw[←Nat.add_assoc];exact hA)
   unfold bT at this
   rw[h2] at this
   dsimp only at this
   rw[show Nat.sub (aD x+j) (aD x)=j from Nat.add_sub_cancel_left _ _] at this
   exact this
 | .block id x,i,j,Q,Q',hq,H,e,a,σ,h=>by
  refine eC hK x (i:=i) (Q:=oE id Q) (fun e a σ h=>?_) (fun j z hz a σ dD hA=>H j z hz a σ dD hA) h
  cases e with
  | normal=>exact hq _ _ _ h
  | exit k=>
   have h':(if k=id then Q .normal else Q (.exit k)) a σ:=h
   show(if k=id then Q' .normal else Q' (.exit k)) a σ
   by_cases e:k=id
   ·rw[if_pos e] at h'⊢;exact hq _ _ _ h'
   ·rw[if_neg e] at h'⊢;exact hq _ _ _ h'
  | goto l=>exact hq _ _ _ h
  | ret=>exact hq _ _ _ h
 | .scope x,i,j,Q,Q',hq,H,e,a,σ,h=>by
  refine eC hK x (i:=i) (Q:=qK Q) (fun e a σ h=>?_) (fun j z hz a σ dD hA=>H j z hz a σ dD hA) h
  cases e with
  | normal=>exact hq _ _ _ h
  | exit k=>exact hq _ _ _ h
  | goto l=>exact h.elim
  | ret=>exact hq _ _ _ h
 | .loop x,i,0,Q,Q',hq,H,e,a,σ,h=>hq _ _ _ h
 | .loop x,i,j+1,Q,Q',hq,H,e,a,σ,h=>by
  refine eC hK x (i:=i+1) (Q:=ib (K.loop fn none i x Q) Q) (Q':=ib (cV P n₀ x Q') Q') (fun e a σ h=>?_) (fun j z hz a σ dD hA=>?_) h
  ·cases e with
   | normal=>exact H 0 x rfl a σ Q h
   | exit i=>exact hq _ _ _ h
   | goto l=>exact hq _ _ _ h
   | ret=>exact hq _ _ _ h
  ·exact H (j+1) z (by rw[aO,List.getElem?_cons_succ];exact hz) a σ dD (by rw[show i+(j+1)=i+1+j by omega];exact hA)
def gY:Code→Bool
 | .seq x y=>gY x&&gY y
 | .cond _ x y=>gY x&&gY y
 | .block _ x=>gY x
 | .loop x=>gY x
 | .scope x=>gY x
 | .rangeFunc _ _ _ _=>false
 | _=>true
omit [eF P] in
theorem vO (x y:Code) (j:Nat) (Q:cd):bT P n₀ (.seq x y) j Q=match Nat.blt j (aD x) with
  | true=>bT P n₀ x j (ib (bG P n₀ y Q) Q)
  | false=>bT P n₀ y (Nat.sub j (aD x)) Q:=rfl
omit [eF P] in
theorem tV (o:Operand) (x y:Code) (j:Nat) (Q:cd):bT P n₀ (.cond o x y) j Q=match Nat.blt j (aD x) with
  | true=>bT P n₀ x j Q
  | false=>bT P n₀ y (Nat.sub j (aD x)) Q:=rfl
omit [eF P] in
theorem G6:∀(c:Code),gY c=true→∀ {k j:Nat} {x z:Code} {Q:cd},(aO c)[k]? =some x→(aO x)[j]? =some z→bT P n₀ c (k+1+j) Q=bT P n₀ x j (ib (cV P n₀ x (bT P n₀ c k Q)) (bT P n₀ c k Q)):=by
 intro c
 have two:∀ {u v:Code} {k j:Nat} {x z:Code},(aO u++aO v)[k]? =some x→(aO x)[j]? =some z→
   (Nat.blt k (aD u)=true∧Nat.blt (k+1+j) (aD u)=true∧(aO u)[k]? =some x)∨(Nat.blt k (aD u)=false∧Nat.blt (k+1+j) (aD u)=false∧(aO v)[Nat.sub k (aD u)]? =some x∧Nat.sub (k+1+j) (aD u)=Nat.sub k (aD u)+1+j):=by
  intro u v k j x z hk hj
  rcases Nat.lt_or_ge k (aO u).length with bz | oz
  ·rw[List.getElem?_append_left bz] at hk
   have h2:=(List.getElem?_eq_some_iff.1 (rO u hk hj)).1
   rw[dK] at bz h2
   exact .inl ⟨by rw[Nat.blt_eq];exact bz,by rw[Nat.blt_eq];exact h2,hk⟩
  ·rw[List.getElem?_append_right oz] at hk
   rw[dK] at oz hk
   have f:∀n,aD u≤n→Nat.blt n (aD u)=false:=fun n hn=>by
    cases hb:Nat.blt n (aD u) with
    | false=>rfl
    | true=>rw[Nat.blt_eq] at hb;omega
   exact .inr ⟨f _ oz,f _ (by omega),hk,by show k+1+j-aD u=k-aD u+1+j;omega⟩
 induction c with
 | seq u v RL RM=>
  intro hp k j x z Q hk hj
  have hp:=Bool.and_eq_true_iff.1 (show(gY u&&gY v)=true from hp)
  rw[vO,vO]
  rcases two hk hj with ⟨h1,h2,h3⟩ | ⟨h1,h2,h3,h4⟩
  ·rw[h1,h2];exact RL hp.1 h3 hj
  ·rw[h1,h2]
   dsimp only
   rw[h4];exact RM hp.2 h3 hj
 | cond o u v RL RM=>
  intro hp k j x z Q hk hj
  have hp:=Bool.and_eq_true_iff.1 (show(gY u&&gY v)=true from hp)
  rw[tV,tV]
  rcases two hk hj with ⟨h1,h2,h3⟩ | ⟨h1,h2,h3,h4⟩
  ·rw[h1,h2];exact RL hp.1 h3 hj
  ·rw[h1,h2]
   dsimp only
   rw[h4];exact RM hp.2 h3 hj
 | block i u ih=>exact fun hp {_ _ _ _ _} hk hj=>ih hp hk hj
 | loop u ih=>
  intro hp k j x z Q hk hj
  cases k with
  | zero=>
   have e:u=x:=by simpa [aO] using hk
   subst e
   rw[show 0+1+j=j+1 by omega]
   rfl
  | succ k=>
   have eA:(aO u)[k]? =some x:=by simpa [aO] using hk
   rw[show k+1+1+j=(k+1+j)+1 by omega]
   show bT P n₀ u (k+1+j) _=_
   exact ih hp eA hj
 | scope u ih=>exact fun hp {_ _ _ _ _} hk hj=>ih hp hk hj
 | _=>intro hp k j x z Q hk;simp [aO] at hk
end
end
inductive SP where
 | val (v:V)
 | row (n:Nat) (f:Nat→V) (esz:Nat)
inductive NK where
 | ptr
 | sl (n m esz:Nat) (ex:Bool)
inductive SV where
 | val (v:V)
 | row (n:Nat) (f:Nat→V) (esz:Nat)
 | box (cs:List V)
 | nest (k:NK) (ps:List SP)
 | al (c n esz:Nat)
def SP.clean [Env]:SP→Prop
 | .val v=>Clean v
 | .row n f _=>∀i,i<n→∀u∈(f i).cells,Clean u
def SV.clean [Env]:SV→Prop
 | .val v=>Clean v
 | .row n f _=>∀i,i<n→∀u∈(f i).cells,Clean u
 | .box cs=>∀u∈cs,Clean u
 | .nest _ ps=>∀p∈ps,p.clean
 | .al ..=>True
noncomputable def G7 (ps:List SP):Nat→List V:=
 List.rec (motive:=fun _=>Nat→List V) (fun _=>[]) (fun p _ ih b=>match p with | .val v=>v::ih b | .row n _ esz=>.own b n esz::ih (Nat.add b 1)) ps
noncomputable def nR (ps:List SP):List bR:=
 List.rec (motive:=fun _=>List bR) [] (fun p _ ih=>match p with | .val _=>ih | .row n f esz=>.row n f esz false::ih) ps
noncomputable def SV.v (s:SV) (b:Nat):V:=
 match s with
 | .val v=>v
 | .row n _ esz=>.own b n esz
 | .box _=>.ptr b 0
 | .nest .ptr _=>.ptr b 0
 | .nest (.sl n m esz ex) _=>.slice b 0 n m ex esz
 | .al c n esz=>.own c n esz
noncomputable def SV.mf (s:SV) (b:Nat):List bR:=
 match s with
 | .val _=>[]
 | .row n f esz=>[.row n f esz false]
 | .box cs=>[.cells (len cs) [] (an cs .leaf 0) false false]
 | .nest _ ps=>.cells (len ps) [] (an (G7 ps (Nat.add b 1)) .leaf 0) false false::nR ps
 | .al ..=>[]
noncomputable def SV.nb (s:SV):Nat:=
 match s with
 | .val _=>0
 | .row ..=>1
 | .box _=>1
 | .nest _ ps=>Nat.add (len (nR ps)) 1
 | .al ..=>0
noncomputable def JF (ss:List SV):Nat→List V:=
 List.rec (motive:=fun _=>Nat→List V) (fun _=>[]) (fun s _ ih b=>s.v b::ih (Nat.add b s.nb)) ss
noncomputable def G8 (x y:List bR):List bR:=List.rec (motive:=fun _=>List bR) y (fun k _ ih=>k::ih) x
noncomputable def lF (ss:List SV):Nat→List bR:=
 List.rec (motive:=fun _=>Nat→List bR) (fun _=>[]) (fun s _ ih b=>G8 (s.mf b) (ih (Nat.add b s.nb))) ss
noncomputable def wF (ls:List Nat):List V→bD V:=
 List.rec (motive:=fun _=>List V→bD V) (fun _=>[]) (fun t _ ih vs=>List.rec [] (fun v r _=>(ih r).put t v) vs) ls
noncomputable def G9 (ks:List bR):Nat→Trie bR:=
 List.rec (motive:=fun _=>Nat→Trie bR) (fun _=>.leaf) (fun k _ ih n=>(ih (Nat.add n 1)).put n (some k)) ks
noncomputable def D8 (size:Nat) (live:List Nat) (ss:List SV):Act:=⟨wF live (JF ss 0),size,[]⟩
noncomputable def D9 (ss:List SV):St:=⟨G9 (lF ss 0) 0,len (lF ss 0)⟩
theorem Ea (x y:List bR):G8 x y=x++y:=by
 induction x with
 | nil=>rfl
 | cons k x ih=>exact congrArg (k::·) ih
noncomputable def B0 (n:Nat) (l:List Nat):Bool:=List.rec (motive:=fun _=>Bool) false (fun a _ b=>Nat.beq n a||b) l
noncomputable def B1 (l:List Nat):Bool:=List.rec (motive:=fun _=>Bool) true (fun a t b=> !B0 a t&&b) l
noncomputable def u4 (N:Nat) (z:List V) (t:Trie V) (esz n:Nat):Nat→Option (List V):=
 Nat.rec (motive:=fun _=>Nat→Option (List V)) (fun _=>some []) (fun _ ih off=>match cellsOf N z t esz off with
  | some cs=>match ih (Nat.add off esz) with
   | some es=>some (.agg cs::es)
   | none=>none
  | none=>none) n
noncomputable def rowOf (n m:Nat) (ex:Bool) (esz N:Nat) (z:List V) (t:Trie V) (k:(Nat→V)→Prop):Trie V→Prop
 | .leaf=>match ex&&(Nat.beq (len z) esz&&Nat.blt 0 esz) with
  | true=>(n≤m∧N=n*esz)∧k fun _=>.agg z
  | false=>False
 | _=>match ex,cellsOf N z t esz 0 with
  | false,some cs=>match Nat.ble 2 n with
   | true=>match u4 N z t esz n 0 with
    | some es=>(m=n∧N=n*esz)∧k (kr es)
    | none=>False
   | false=>(n=1∧m=1∧N=1*esz)∧k fun _=>.agg cs
  | _,_=>False
theorem tW {n:Nat} {z:List V} {t:Trie V} (k off:Nat) {vs:List V} (h:cellsOf n z t k off=some vs):vs.length=k∧∀i v,vs[i]? =some v→cellOf n z t (off+i)=some v:=by
 letI:Env:=nO [] fun x hx=>by cases hx
 exact gh k off h
theorem vP {N:Nat} {z:List V} {t:Trie V} {esz:Nat}:∀ {n off:Nat} {es:List V},u4 N z t esz n off=some es→es.length=n∧∀i,i<n→∃cs,es[i]? =some (.agg cs)∧cs.length=esz∧∀j v,cs[j]? =some v→cellOf N z t (off+i*esz+j)=some v
 | 0,off,es,h=>by
  have h:some []=some es:=h
  cases h
  exact⟨rfl,fun i hi=>absurd hi (Nat.not_lt_zero i)⟩
 | n+1,off,es,h=>by
  have h:(match cellsOf N z t esz off with
   | some cs=>match u4 N z t esz n (Nat.add off esz) with
    | some es=>some (.agg cs::es)
    | none=>none
   | none=>none)=some es:=h
  split at h
  ·rename_i cs hc
   split at h
   ·rename_i us hu
    cases h
    obtain⟨g1,g2⟩:=vP hu
    obtain⟨c1,c2⟩:=tW _ _ hc
    refine⟨congrArg (·+1) g1,fun i hi=>?_⟩
    cases i with
    | zero=>exact⟨cs,rfl,c1,fun j v hv=>by rw[Nat.zero_mul,Nat.add_zero];exact c2 j v hv⟩
    | succ i=>
     obtain⟨ds,d1,d2,d3⟩:=g2 i (by omega)
     refine⟨ds,d1,d2,fun j v hv=>?_⟩
     have:=d3 j v hv
     rwa [show Nat.add off esz+i*esz+j=off+(i+1)*esz+j by
      show off+esz+i*esz+j=_
      rw[Nat.succ_mul];omega] at this
   ·cases h
  ·cases h
theorem vQ {n m:Nat} {ex:Bool} {esz N:Nat} {z:List V} {t:Trie V} {k:(Nat→V)→Prop} (h:rowOf n m ex esz N z t k t):
  ∃f,k f∧N=n*esz∧((ex=true∧n≤m)∨(ex=false∧m=n∧n≠0))∧(∀i,i<n→(f i).cells.length=esz)∧∀i,i<n→∀j v,(f i).cells[j]? =some v→cellOf N z t (i*esz+j)=some v:=by
 cases t with
 | nil=>
  have h':(match ex&&(Nat.beq (len z) esz&&Nat.blt 0 esz) with
   | true=>(n≤m∧N=n*esz)∧k fun _=>.agg z
   | false=>False):=h
  split at h'
  ·rename_i hb
   rw[Bool.and_eq_true,Bool.and_eq_true] at hb
   obtain⟨b1,b2,b3⟩:=hb
   have b2:=Nat.eq_of_beq_eq_true b2
   rw[aZ] at b2
   rw[Nat.blt_eq] at b3
   obtain⟨⟨c1,c2⟩,c3⟩:=h'
   refine⟨_,c3,c2,.inl ⟨b1,c1⟩,fun i _=>b2,fun i hi j v hj=>?_⟩
   have jg:z[j]? =some v:=hj
   have bz:j<esz:=by rw[←b2];exact(List.getElem?_eq_some_iff.1 jg).1
   have YT:i*esz+j<N:=by rw[c2];have:=kv hi (Nat.succ_le_of_lt bz);omega
   unfold cellOf
   rw[show Nat.blt (i*esz+j) N=true by rw[Nat.blt_eq];exact YT]
   dsimp only
   rw[show Trie.get ([]:Trie V) (i*esz+j)=none from Trie.eG _]
   dsimp only
   rw[dz,aZ,b2,show Nat.mod (i*esz+j) esz=j from by
    show(i*esz+j)%esz=j
    rw[Nat.add_comm,Nat.add_mul_mod_self_right,Nat.mod_eq_of_lt bz]]
   exact jg
  ·exact h'.elim
 | cons x t=>
  have h':(match (generalizing:=false) ex,cellsOf N z (x::t) esz 0 with
   | false,some cs=>match Nat.ble 2 n with
    | true=>match u4 N z (x::t) esz n 0 with
     | some es=>(m=n∧N=n*esz)∧k (kr es)
     | none=>False
    | false=>(n=1∧m=1∧N=1*esz)∧k fun _=>.agg cs
   | _,_=>False):=h
  split at h'
  ·rename_i cs hc
   split at h'
   ·rename_i h2
    have h2:=Nat.le_of_ble_eq_true h2
    split at h'
    ·rename_i es he
     obtain⟨⟨rfl,rfl⟩,h3⟩:=h'
     obtain⟨g1,g2⟩:=vP he
     have key:∀i,i<m→∃cs,kr es i=.agg cs∧cs.length=esz∧∀j v,cs[j]? =some v→cellOf (m*esz) z (x::t) (i*esz+j)=some v:=fun i hi=>by
      obtain⟨ds,d1,d2,d3⟩:=g2 i hi
      refine⟨ds,?_,d2,fun j v hv=>by have:=d3 j v hv;rwa [Nat.zero_add] at this⟩
      unfold kr
      rw[dz,d1]
     refine⟨_,h3,rfl,.inr ⟨rfl,rfl,by omega⟩,fun i hi=>?_,fun i hi j v hj=>?_⟩
     ·obtain⟨ds,d1,d2,_⟩:=key i hi
      rw[d1];exact d2
     ·obtain⟨ds,d1,_,d3⟩:=key i hi
      rw[d1] at hj;exact d3 j v hj
    ·exact h'.elim
   obtain⟨⟨rfl,rfl,rfl⟩,h3⟩:=h'
   obtain⟨g1,g2⟩:=tW _ _ hc
   refine⟨_,h3,rfl,.inr ⟨rfl,rfl,by omega⟩,fun i _=>g1,fun i hi j v hj=>?_⟩
   obtain rfl:i=0:=by omega
   have:=g2 j v hj
   rw[Nat.zero_mul];exact this
  ·exact h'.elim
def Ha (σ:St) (k:Nat→(Nat→V)→Nat→Nat→Prop):V→Prop
 | .own b n esz=>match σ.heap.get b with
  | some (.row n' f rB _)=>(n=n'∧esz=rB)∧k n' f rB b
  | _=>False
 | .slice b off n m ex esz=>match off,σ.heap.get b with
  | 0,some (.cells N z t _ false)=>rowOf n m ex esz N z t (fun f=>k n f esz b) t
  | _,_=>False
 | _=>False
def V.B2:V→Bool
 | .own ..=>true
 | .slice ..=>true
 | _=>false
noncomputable def JG (cs:List V):Bool:=List.rec (motive:=fun _=>Bool) false (fun v _ ih=>v.B2||ih) cs
noncomputable def xI (σ:St) (cs:List V):(List SP→List Nat→Prop)→Prop:=
 List.rec (motive:=fun _=>(List SP→List Nat→Prop)→Prop) (fun k=>k [] []) (fun v _ ih k=>match v.B2 with
  | true=>Ha σ (fun n f esz b=>ih fun ps bs=>k (.row n f esz::ps) (b::bs)) v
  | false=>ih fun ps bs=>k (.val v::ps) bs) cs
noncomputable def RN (σ:St) (n m:Nat) (ex:Bool) (esz N:Nat) (z:List V) (t:Trie V) (b:Nat) (k:SV→List Nat→Prop):Trie V→Prop
 | .leaf=>rowOf n m ex esz N z t (fun f=>k (.row n f esz) [b]) t
 | _=>match cellsOf N z t N 0 with
  | some cs=>match JG cs||ex with
   | true=>xI σ cs fun ps bs=>k (.nest (.sl n m esz ex) ps) (b::bs)
   | false=>rowOf n m ex esz N z t (fun f=>k (.row n f esz) [b]) t
  | none=>rowOf n m ex esz N z t (fun f=>k (.row n f esz) [b]) t
def xJ (σ:St) (k:SV→List Nat→Prop):V→Prop
 | .own b n esz=>match σ.heap.get b with
  | some (.row n' f rB _)=>(n=n'∧esz=rB)∧k (.row n' f rB) [b]
  | _=>False
 | .ptr b off=>match off,σ.heap.get b with
  | 0,some (.cells n z t _ false)=>match cellsOf n z t n 0 with
   | some cs=>match JG cs with
    | true=>xI σ cs fun ps bs=>k (.nest .ptr ps) (b::bs)
    | false=>k (.box cs) [b]
   | none=>False
  | _,_=>False
 | .slice b off n m ex esz=>match off,σ.heap.get b with
  | 0,some (.cells N z t _ false)=>RN σ n m ex esz N z t b k t
  | _,_=>False
 | v=>k (.val v) []
noncomputable def B3 (x y:List Nat):List Nat:=List.rec (motive:=fun _=>List Nat) y (fun k _ ih=>k::ih) x
theorem Eb (x y:List Nat):B3 x y=x++y:=by
 induction x with
 | nil=>rfl
 | cons k x ih=>exact congrArg (k::·) ih
noncomputable def Ln (b:Nat) (l:List Nat):Nat→Option Nat:=
 List.rec (motive:=fun _=>Nat→Option Nat) (fun _=>none) (fun x _ ih i=>match Nat.beq b x with | true=>some i | false=>ih (Nat.add i 1)) l
noncomputable def u5 (seen:List Nat):V→Option (Nat×Nat×Nat)
 | .own b n esz=>match Ln b seen 0 with
  | some c=>some (c,n,esz)
  | none=>none
 | _=>none
noncomputable def xK (a:Act) (σ:St) (ls:List Nat):List Nat→(List SV→List Nat→Prop)→Prop:=
 List.rec (motive:=fun _=>List Nat→(List SV→List Nat→Prop)→Prop) (fun _ k=>k [] []) (fun t _ ih seen k=>match a.tmps.get t with
  | some v=>match u5 seen v with
   | some (c,n,esz)=>ih seen fun ss bs=>k (.al c n esz::ss) bs
   | none=>xJ σ (fun s b=>ih (B3 seen b) fun ss bs=>k (s::ss) (B3 b bs)) v
  | none=>False) ls
noncomputable def Lo (n:Nat):Nat→List Nat→Bool:=
 Nat.rec (motive:=fun _=>Nat→List Nat→Bool) (fun _ _=>true) (fun _ ih k l=>List.rec false (fun b r _=>Nat.beq b k&&ih (Nat.add k 1) r) l) n
noncomputable def lG (n₀ size:Nat) (live:List Nat) (a:Act) (σ:St) (k:List SV→Prop):Prop:=
 match a.defers,Nat.beq a.size size with
 | [],true=>xK a σ live [] fun ss bs=>match Lo n₀ 0 bs&&B1 bs with
  | true=>k ss
  | false=>False
 | _,_=>False
section
variable [Env]
inductive rS (σ:St):V→Nat→(Nat→V)→Nat→Nat→Prop
 | own {b n esz:Nat} {f:Nat→V} {p:Bool} (hb:σ.heap.get b=some (.row n f esz p)):rS σ (.own b n esz) n f esz b
 | of {b n m esz N:Nat} {ex:Bool} {f:Nat→V} {z:List V} {tr:Trie V} {p:Bool} (hb:σ.heap.get b=some (.cells N z tr p false))
   (hN:N=n*esz) (hm:(ex=true∧n≤m)∨(ex=false∧m=n∧n≠0)) (hu:∀i,i<n→(f i).cells.length=esz) (hc:∀i,i<n→∀j v,(f i).cells[j]? =some v→cellOf N z tr (i*esz+j)=some v):rS σ (.slice b 0 n m ex esz) n f esz b
omit [Env] in
theorem Lp {σ:St} {k:Nat→(Nat→V)→Nat→Nat→Prop} {v:V} (h:Ha σ k v):∃n f esz b,rS σ v n f esz b∧k n f esz b:=by
 unfold Ha at h
 split at h
 ·split at h
  ·rename_i hb
   obtain⟨⟨rfl,rfl⟩,h⟩:=h
   exact⟨_,_,_,_,.own hb,h⟩
  ·exact h.elim
 ·split at h
  ·rename_i hb
   obtain⟨f,h,c1,c2,c3,c4⟩:=vQ h
   exact⟨_,_,_,_,.of hb c1 c2 c3 c4,h⟩
  ·exact h.elim
 ·exact h.elim
theorem rS.val {σ:St} {v:V} {n esz b:Nat} {f:Nat→V} (h:rS σ v n f esz b) {m:Nat→Option Nat} {i:Nat} (hm:m i=some b):eB m (.own i n esz) v:=by
 cases h with
 | own hb=>exact .own hm
 | of hb hN h hu hc=>
  rcases h with ⟨rfl,h⟩ | ⟨rfl,rfl,h⟩
  ·exact .N8 hm h
  ·exact .G4 hm h
theorem rS.cS {σ:St} {v:V} {n esz b:Nat} {f:Nat→V} (h:rS σ v n f esz b) (iT:∀i,i<n→∀u∈(f i).cells,Clean u) (m:Nat→Option Nat):∃q,σ.heap.get b=some q∧eZ m (.row n f esz false) q:=by
 cases h with
 | own hb=>exact⟨_,hb,.row (fun h=>by cases h) fun i hi=>eE.clean (iT i hi)⟩
 | of hb hN h hu hc=>
  subst hN
  exact⟨_,hb,.uT (fun h=>by cases h) hu fun i hi j v hj=>⟨v,hc i hi j v hj,.clean (iT i hi v (List.mem_of_getElem? hj))⟩⟩
inductive kC (σ:St):List V→List SP→List Nat→Prop
 | nil:kC σ [] [] []
 | val {v:V} {vs:List V} {ps:List SP} {bs:List Nat} (hl:kC σ vs ps bs):kC σ (v::vs) (.val v::ps) bs
 | row {v:V} {n esz b:Nat} {f:Nat→V} {vs:List V} {ps:List SP} {bs:List Nat} (h:rS σ v n f esz b) (hl:kC σ vs ps bs):kC σ (v::vs) (.row n f esz::ps) (b::bs)
omit [Env] in
theorem py {σ:St}:∀ {cs:List V} {k:List SP→List Nat→Prop},xI σ cs k→∃ps bs,kC σ cs ps bs∧k ps bs
 | [],k,h=>⟨[],[],.nil,h⟩
 | v::vs,k,h=>by
  have h':(match v.B2 with
   | true=>Ha σ (fun n f esz b=>xI σ vs fun ps bs=>k (.row n f esz::ps) (b::bs)) v
   | false=>xI σ vs fun ps bs=>k (.val v::ps) bs):=h
  split at h'
  ·obtain⟨n,f,esz,b,h1,h2⟩:=Lp h'
   obtain⟨ps,bs,h3,h4⟩:=py h2
   exact⟨_,_,.row h1 h3,h4⟩
  ·obtain⟨ps,bs,h3,h4⟩:=py h'
   exact⟨_,_,.val h3,h4⟩
omit [Env] in
theorem kC.len {σ:St} {vs:List V} {ps:List SP} {bs:List Nat} (h:kC σ vs ps bs):(nR ps).length=bs.length∧ps.length=vs.length:=by
 induction h with
 | nil=>exact⟨rfl,rfl⟩
 | val hl ih=>exact⟨ih.1,congrArg (·+1) ih.2⟩
 | row h hl ih=>exact⟨congrArg (·+1) ih.1,congrArg (·+1) ih.2⟩
def gZ (m:Nat→Option Nat) (b:Nat) (bs:List Nat):Prop:=∀i c,bs[i]? =some c→m (b+i)=some c
omit [Env] in
theorem gZ.head {m:Nat→Option Nat} {b c:Nat} {bs:List Nat} (h:gZ m b (c::bs)):m b=some c:=h 0 c rfl
omit [Env] in
theorem gZ.tail {m:Nat→Option Nat} {b c:Nat} {bs:List Nat} (h:gZ m b (c::bs)):gZ m (b+1) bs:=fun i d hd=>by
 rw[show b+1+i=b+(i+1) by omega];exact h (i+1) d (by simpa using hd)
omit [Env] in
theorem gZ.left {m:Nat→Option Nat} {b:Nat} {adj bs:List Nat} (h:gZ m b (adj++bs)):gZ m b adj:=fun i c hc=>h i c (by rw[List.getElem?_append_left (List.getElem?_eq_some_iff.1 hc).1];exact hc)
omit [Env] in
theorem gZ.right {m:Nat→Option Nat} {b:Nat} {adj bs:List Nat} (h:gZ m b (adj++bs)):gZ m (b+adj.length) bs:=fun i c hc=>by
 rw[Nat.add_assoc]
 exact h (adj.length+i) c (by rw[List.getElem?_append_right (by omega),show adj.length+i-adj.length=i by omega];exact hc)
theorem kC.yu {σ:St} {vs:List V} {ps:List SP} {bs:List Nat} (h:kC σ vs ps bs):(∀p∈ps,p.clean)→∀ {m:Nat→Option Nat} {b:Nat},gZ m b bs→eE m (G7 ps b) vs:=by
 induction h with
 | nil=>exact fun _ {_ _} _=>.nil
 | val hl ih=>exact fun hc {_ _} hm=>.cons (.clean (hc _ List.mem_cons_self)) (ih (fun p hp=>hc p (List.mem_cons_of_mem _ hp)) hm)
 | row h hl ih=>exact fun hc {_ _} hm=>.cons (h.val hm.head) (ih (fun p hp=>hc p (List.mem_cons_of_mem _ hp)) hm.tail)
theorem kC.mf {σ:St} {vs:List V} {ps:List SP} {bs:List Nat} (h:kC σ vs ps bs):(∀p∈ps,p.clean)→∀(m:Nat→Option Nat) {i:Nat} {q:bR},(nR ps)[i]? =some q→∃c q',bs[i]? =some c∧σ.heap.get c=some q'∧eZ m q q':=by
 induction h with
 | nil=>intro _ m i q hq;simp [nR] at hq
 | val hl ih=>exact fun hc m {i q} hq=>ih (fun p hp=>hc p (List.mem_cons_of_mem _ hp)) m hq
 | row h hl ih=>
  intro hc m i q hq
  cases i with
  | zero=>
   have jv:some _=some q:=hq
   cases jv
   obtain⟨q',h1,h2⟩:=h.cS (hc _ List.mem_cons_self) m
   exact⟨_,q',rfl,h1,h2⟩
  | succ i=>exact ih (fun p hp=>hc p (List.mem_cons_of_mem _ hp)) m (i:=i) (by simpa [nR] using hq)
inductive kD (σ:St):V→SV→List Nat→Prop
 | val {v:V}:kD σ v (.val v) []
 | row {v:V} {n esz b:Nat} {f:Nat→V} (h:rS σ v n f esz b):kD σ v (.row n f esz) [b]
 | box {b n:Nat} {z:List V} {tr:Trie V} {p:Bool} {cs:List V} (hb:σ.heap.get b=some (.cells n z tr p false)) (hc:cellsOf n z tr n 0=some cs):kD σ (.ptr b 0) (.box cs) [b]
 | ptr {b n:Nat} {z:List V} {tr:Trie V} {p:Bool} {cs:List V} {ps:List SP} {bs:List Nat} (hb:σ.heap.get b=some (.cells n z tr p false)) (hc:cellsOf n z tr n 0=some cs) (hp:kC σ cs ps bs):kD σ (.ptr b 0) (.nest .ptr ps) (b::bs)
 | sl {b N n m esz:Nat} {ex:Bool} {z:List V} {tr:Trie V} {p:Bool} {cs:List V} {ps:List SP} {bs:List Nat} (hb:σ.heap.get b=some (.cells N z tr p false)) (hc:cellsOf N z tr N 0=some cs) (hp:kC σ cs ps bs):kD σ (.slice b 0 n m ex esz) (.nest (.sl n m esz ex) ps) (b::bs)
omit [Env] in
theorem O7 {σ:St} {n m esz N b:Nat} {ex:Bool} {z:List V} {t:Trie V} {p:Bool} {k:SV→List Nat→Prop} (hb:σ.heap.get b=some (.cells N z t p false)) (h:RN σ n m ex esz N z t b k t):∃s bs,kD σ (.slice b 0 n m ex esz) s bs∧k s bs:=by
 have row:rowOf n m ex esz N z t (fun f=>k (.row n f esz) [b]) t→∃s bs,kD σ (.slice b 0 n m ex esz) s bs∧k s bs:=fun h=>by
  obtain⟨f,h,c1,c2,c3,c4⟩:=vQ h
  exact⟨_,_,.row (.of hb c1 c2 c3 c4),h⟩
 unfold RN at h
 split at h
 ·exact row h
 ·split at h
  ·rename_i hc
   split at h
   ·obtain⟨ps,bs,h1,h2⟩:=py h
    exact⟨_,_,.sl hb hc h1,h2⟩
   ·exact row h
  ·exact row h
omit [Env] in
theorem Hb {σ:St} {v:V} {k:SV→List Nat→Prop} (h:xJ σ k v):∃s bs,kD σ v s bs∧k s bs:=by
 unfold xJ at h
 split at h
 ·split at h
  ·rename_i hb
   obtain⟨⟨rfl,rfl⟩,h⟩:=h
   exact⟨_,_,.row (.own hb),h⟩
  ·exact h.elim
 ·split at h
  ·rename_i hb
   split at h
   ·rename_i hc
    split at h
    ·obtain⟨ps,bs,h1,h2⟩:=py h
     exact⟨_,_,.ptr hb hc h1,h2⟩
    ·exact⟨_,_,.box hb hc,h⟩
   ·exact h.elim
  ·exact h.elim
 ·split at h
  ·rename_i hb
   exact O7 hb h
  ·exact h.elim
 ·exact⟨_,_,.val,h⟩
theorem z8 {m:Nat→Option Nat} {n:Nat} {z:List V} {tr:Trie V} {p:Bool} {cs us:List V} (hc:cellsOf n z tr n 0=some cs) (hr:eE m us cs) {N:Nat} (hN:N=n):eZ m (.cells N [] (an us .leaf 0) false false) (.cells n z tr p false):=by
 subst hN
 obtain⟨_,g2⟩:=gh _ _ hc
 refine .cells (fun h=>by cases h) fun i v hi=>?_
 rcases fM hi with ⟨_,h2,h3⟩ | ⟨_,h2⟩
 ·rw[Nat.sub_zero] at h3
  obtain⟨u,hu,hv⟩:=hr.get h3
  have:=g2 i u hu
  rw[Nat.zero_add] at this
  exact⟨u,this,hv⟩
 ·unfold cellOf at h2
  split at h2
  ·rw[Trie.eG] at h2;simp [dz] at h2
  ·cases h2
omit [Env] in
theorem kD.len {σ:St} {v:V} {s:SV} {bs:List Nat} (h:kD σ v s bs):s.nb=bs.length∧∀b,(s.mf b).length=bs.length:=by
 cases h with
 | val=>exact⟨rfl,fun _=>rfl⟩
 | row h=>exact⟨rfl,fun _=>rfl⟩
 | box hb hc=>exact⟨rfl,fun _=>rfl⟩
 | ptr hb hc hp=>exact⟨by show Go.Ev.len (nR _)+1=_;rw[aZ,hp.len.1];rfl,fun _=>congrArg (·+1) hp.len.1⟩
 | sl hb hc hp=>exact⟨by show Go.Ev.len (nR _)+1=_;rw[aZ,hp.len.1];rfl,fun _=>congrArg (·+1) hp.len.1⟩
theorem kD.yu {σ:St} {v:V} {s:SV} {bs:List Nat} (h:kD σ v s bs) (hc:s.clean) {m:Nat→Option Nat} {b:Nat} (hm:gZ m b bs):eB m (s.v b) v:=by
 cases h with
 | val=>exact .clean hc
 | row h=>exact h.val hm.head
 | box hb dC=>exact .ptr hm.head
 | ptr hb dC hp=>exact .ptr hm.head
 | sl hb dC hp=>exact .slice hm.head
theorem kD.YU {σ:St} {v:V} {s:SV} {bs:List Nat} (h:kD σ v s bs) (hc:s.clean) {m:Nat→Option Nat} {b:Nat} (hm:gZ m b bs) {i:Nat} {q:bR} (hq:(s.mf b)[i]? =some q):∃c q',bs[i]? =some c∧σ.heap.get c=some q'∧eZ m q q':=by
 have nest:∀ {Lq N:Nat} {z:List V} {tr:Trie V} {p:Bool} {cs:List V} {ps:List SP} {k8:List Nat},bs=Lq::k8→σ.heap.get Lq=some (.cells N z tr p false)→cellsOf N z tr N 0=some cs→kC σ cs ps k8→(∀p∈ps,p.clean)→
   (bR.cells (Go.Ev.len ps) [] (an (G7 ps (Nat.add b 1)) .leaf 0) false false::nR ps)[i]? =some q→∃c q',bs[i]? =some c∧σ.heap.get c=some q'∧eZ m q q':=by
  intro Lq N z tr p cs ps k8 e hb dC hp iT hq
  subst e
  cases i with
  | zero=>
   have jv:some _=some q:=hq
   cases jv
   refine⟨_,_,rfl,hb,z8 dC (hp.yu iT hm.tail) ?_⟩
   rw[aZ,hp.len.2];exact(gh _ _ dC).1
  | succ i=>exact hp.mf iT m (i:=i) (by simpa using hq)
 cases h with
 | val=>simp [SV.mf] at hq
 | row h=>
  cases i with
  | zero=>
   have jv:some _=some q:=hq
   cases jv
   obtain⟨q',h1,h2⟩:=h.cS hc m
   exact⟨_,q',rfl,h1,h2⟩
  | succ i=>simp [SV.mf] at hq
 | box hb dC=>
  cases i with
  | zero=>
   have jv:some _=some q:=hq
   cases jv
   exact⟨_,_,rfl,hb,z8 dC (eE.clean hc) (by rw[aZ];exact(gh _ _ dC).1)⟩
  | succ i=>simp [SV.mf] at hq
 | ptr hb dC hp=>exact nest rfl hb dC hp hc hq
 | sl hb dC hp=>exact nest rfl hb dC hp hc hq
omit [Env] in
theorem B4 {b:Nat}:∀ {l:List Nat} {i c:Nat},Ln b l i=some c→i≤c∧l[c-i]? =some b
 | [],i,c,h=>by cases h
 | x::l,i,c,h=>by
  have h':(match Nat.beq b x with | true=>some i | false=>Ln b l (Nat.add i 1))=some c:=h
  split at h'
  ·rename_i hb
   cases h'
   exact⟨Nat.le_refl _,by rw[Nat.sub_self,Nat.eq_of_beq_eq_true hb];rfl⟩
  ·obtain⟨h1,h2⟩:=B4 h'
   have h1:i+1≤c:=h1
   have h2:l[c-(i+1)]? =some b:=h2
   exact⟨by omega,by rw[show c-i=(c-(i+1))+1 by omega,List.getElem?_cons_succ];exact h2⟩
inductive iY (a:Act) (σ:St):List Nat→List Nat→List SV→List Nat→Prop
 | nil {seen:List Nat}:iY a σ seen [] [] []
 | al {seen:List Nat} {t b n esz c:Nat} {l:List Nat} {ss:List SV} {cs:List Nat} (h:a.tmps.get t=some (.own b n esz)) (hc:seen[c]? =some b) (hl:iY a σ seen l ss cs):iY a σ seen (t::l) (.al c n esz::ss) cs
 | cons {seen:List Nat} {t:Nat} {v:V} {s:SV} {l:List Nat} {ss:List SV} {bs cs:List Nat} (h:a.tmps.get t=some v) (hs:kD σ v s bs) (hl:iY a σ (seen++bs) l ss cs):iY a σ seen (t::l) (s::ss) (bs++cs)
omit [Env] in
theorem rT {a:Act} {σ:St}:∀ {ls seen:List Nat} {k:List SV→List Nat→Prop},xK a σ ls seen k→∃ss bs,iY a σ seen ls ss bs∧k ss bs
 | [],seen,k,h=>⟨[],[],.nil,h⟩
 | t::l,seen,k,h=>by
  have h':(match a.tmps.get t with
   | some v=>match u5 seen v with
    | some (c,n,esz)=>xK a σ l seen fun ss bs=>k (.al c n esz::ss) bs
    | none=>xJ σ (fun s b=>xK a σ l (B3 seen b) fun ss bs=>k (s::ss) (B3 b bs)) v
   | none=>False):=h
  cases hv:a.tmps.get t with
  | none=>rw[hv] at h';exact h'.elim
  | some v=>
   rw[hv] at h'
   dsimp only at h'
   cases ha:u5 seen v with
   | some q=>
    obtain⟨c,n,esz⟩:=q
    rw[ha] at h'
    obtain⟨ss,bs,h3,h4⟩:=rT h'
    unfold u5 at ha
    split at ha
    ·rename_i b n' rB
     split at ha
     ·rename_i c' hp
      cases ha
      exact⟨_,_,.al hv (by have:=(B4 hp).2;rwa [Nat.sub_zero] at this) h3,h4⟩
     ·cases ha
    ·cases ha
   | none=>
    rw[ha] at h'
    obtain⟨s,b,h1,h2⟩:=Hb h'
    rw[Eb] at h2
    obtain⟨ss,bs,h3,h4⟩:=rT h2
    rw[Eb] at h4
    exact⟨_,_,.cons hv h1 h3,h4⟩
omit [Env] in
theorem B5:∀ {ls:List Nat} {vs:List V} {t:Nat} {v:V},(wF ls vs).get t=some v→∃i:Nat,ls[i]? =some t∧vs[i]? =some v
 | [],vs,t,v,h=>by cases h
 | u::ls,[],t,v,h=>by cases h
 | u::ls,w::vs,t,v,h=>by
  have h':((wF ls vs).put u w).get t=some v:=h
  rw[bD.bN] at h'
  by_cases e:t=u
  ·rw[if_pos e] at h'
   exact⟨0,by rw[e];rfl,h'⟩
  ·rw[if_neg e] at h'
   obtain⟨i,h1,h2⟩:=B5 h'
   exact⟨i+1,by simpa using h1,by simpa using h2⟩
omit [Env] in
theorem Aa:∀ {ks:List bR} {n i:Nat} {k:bR},(G9 ks n).get i=some k→n≤i∧ks[i-n]? =some k
 | [],n,i,k,h=>by
  have h':(Trie.leaf:Trie bR).get i=some k:=h
  rw[Trie.eG] at h';cases h'
 | q::ks,n,i,k,h=>by
  have h':((G9 ks (n+1)).put n (some q)).get i=some k:=h
  rw[Trie.bN] at h'
  by_cases e:i=n
  ·subst e
   rw[if_pos rfl] at h'
   exact⟨Nat.le_refl _,by rw[Nat.sub_self];exact h'⟩
  ·rw[if_neg e] at h'
   obtain⟨h1,h2⟩:=Aa h'
   exact⟨by omega,by rw[show i-n=(i-(n+1))+1 by omega,List.getElem?_cons_succ];exact h2⟩
omit [Env] in
theorem iY.len {a:Act} {σ:St} {seen ls:List Nat} {ss:List SV} {bs:List Nat} (h:iY a σ seen ls ss bs):∀b,(lF ss b).length=bs.length:=by
 induction h with
 | nil=>exact fun _=>rfl
 | al h hc hl ih=>exact fun b=>ih _
 | cons h hs hl ih=>
  intro b
  show(G8 _ _).length=_
  rw[Ea,List.length_append,List.length_append,hs.len.2]
  exact congrArg (_+·) (ih _)
theorem iY.G5 {a:Act} {σ:St} {seen ls:List Nat} {ss:List SV} {bs:List Nat} (h:iY a σ seen ls ss bs):(∀s∈ss,s.clean)→∀ {m:Nat→Option Nat},gZ m 0 (seen++bs)→∀ {i t:Nat} {v:V},ls[i]? =some t→(JF ss seen.length)[i]? =some v→
  ∃u,a.tmps.get t=some u∧eB m v u:=by
 induction h with
 | nil=>intro _ m _ i t v h1;simp at h1
 | @al seen YV b n esz c l ss cs h hc hl ih=>
  intro iT m hm i t v h1 h2
  cases i with
  | zero=>
   simp at h1;subst h1
   have A6:some _=some v:=h2
   cases A6
   refine⟨_,h,.own ?_⟩
   have:=hm c b (by rw[List.getElem?_append_left (List.getElem?_eq_some_iff.1 hc).1];exact hc)
   rwa [Nat.zero_add] at this
  | succ i=>exact ih (fun s hs=>iT s (List.mem_cons_of_mem _ hs)) hm (i:=i) (by simpa using h1) h2
 | @cons seen YV pY s l ss bs cs h hs hl ih=>
  intro hc m hm i t v h1 h2
  cases i with
  | zero=>
   simp at h1;subst h1
   have A6:some _=some v:=h2
   cases A6
   refine⟨_,h,hs.yu (hc _ List.mem_cons_self) (fun j d hd=>?_)⟩
   have:=hm (seen.length+j) d (by rw[List.getElem?_append_right (by omega),show seen.length+j-seen.length=j by omega,List.getElem?_append_left (List.getElem?_eq_some_iff.1 hd).1];exact hd)
   rwa [Nat.zero_add] at this
  | succ i=>
   refine ih (fun s hs=>hc s (List.mem_cons_of_mem _ hs)) (by rw[List.append_assoc];exact hm) (i:=i) (by simpa using h1) ?_
   rw[List.length_append,←hs.len.1];exact h2
theorem iY.mf {a:Act} {σ:St} {seen ls:List Nat} {ss:List SV} {bs:List Nat} (h:iY a σ seen ls ss bs):(∀s∈ss,s.clean)→∀ {m:Nat→Option Nat},gZ m 0 (seen++bs)→∀ {i:Nat} {k:bR},(lF ss seen.length)[i]? =some k→∃c k',bs[i]? =some c∧σ.heap.get c=some k'∧eZ m k k':=by
 induction h with
 | nil=>intro _ m _ i k h;simp [lF] at h
 | al h hc hl ih=>exact fun iT {m} hm {i k} hk=>ih (fun s hs=>iT s (List.mem_cons_of_mem _ hs)) hm hk
 | @cons seen t v s l ss bs cs h hs hl ih=>
  intro hc m hm i k hk
  replace hk:(G8 (s.mf seen.length) (lF ss (Nat.add seen.length s.nb)))[i]? =some k:=hk
  rw[Ea] at hk
  rcases Nat.lt_or_ge i (s.mf seen.length).length with bz | oz
  ·rw[List.getElem?_append_left bz] at hk
   obtain⟨c,q,h1,h2,h3⟩:=hs.YU (hc _ List.mem_cons_self) (m:=m) (fun j d hd=>by
    have:=hm (seen.length+j) d (by rw[List.getElem?_append_right (by omega),show seen.length+j-seen.length=j by omega,List.getElem?_append_left (List.getElem?_eq_some_iff.1 hd).1];exact hd)
    rwa [Nat.zero_add] at this) hk
   exact⟨c,q,by rw[List.getElem?_append_left (List.getElem?_eq_some_iff.1 h1).1];exact h1,h2,h3⟩
  ·rw[List.getElem?_append_right oz] at hk
   obtain⟨c,q,h1,h2,h3⟩:=ih (fun s hs=>hc s (List.mem_cons_of_mem _ hs)) (m:=m) (by rw[List.append_assoc];exact hm) (i:=i-(s.mf seen.length).length) (k:=k) (by rw[List.length_append,←hs.len.1];exact hk)
   rw[hs.len.2] at oz h1
   exact⟨c,q,by rw[List.getElem?_append_right oz];exact h1,h2,h3⟩
omit [Env] in
theorem xL:∀ {l:List Nat},B1 l=true→∀(i j c:Nat),l[i]? =some c→l[j]? =some c→i=j
 | [],_,i,j,c,h,_=>by simp at h
 | a::t,hn,i,j,c,hi,hj=>by
  have nz:(!B0 a t&&B1 t)=true:=hn
  rw[Bool.and_eq_true] at nz
  have cL:∀ {l:List Nat} {n k:Nat},l[k]? =some n→B0 n l=true:=by
   intro l
   induction l with
   | nil=>intro n k h;simp at h
   | cons x l ih=>
    intro n k h
    show(Nat.beq n x||B0 n l)=true
    cases k with
    | zero=>simp at h;subst h;rw[Nat.beq_refl,Bool.true_or]
    | succ k=>rw[ih (k:=k) (by simpa using h),Bool.or_true]
  have NO:B0 a t=false:=by simpa using nz.1
  cases i with
  | zero=>
   cases j with
   | zero=>rfl
   | succ j=>
    simp at hi;subst hi
    have:=cL (l:=t) (k:=j) (by simpa using hj)
    rw[NO] at this;cases this
  | succ i=>
   cases j with
   | zero=>
    simp at hj;subst hj
    have:=cL (l:=t) (k:=i) (by simpa using hi)
    rw[NO] at this;cases this
   | succ j=>rw[xL nz.2 i j c (by simpa using hi) (by simpa using hj)]
omit [Env] in
theorem B6:∀ {n k:Nat} {l:List Nat},Lo n k l=true→n≤l.length∧∀i,i<n→l[i]? =some (k+i)
 | 0,_,_,_=>⟨Nat.zero_le _,fun i hi=>absurd hi (Nat.not_lt_zero i)⟩
 | n+1,k,[],h=>by cases h
 | n+1,k,b::r,h=>by
  have h':(Nat.beq b k&&Lo n (k+1) r)=true:=h
  rw[Bool.and_eq_true] at h'
  obtain⟨h1,h2⟩:=B6 h'.2
  refine⟨by simp;omega,fun i hi=>?_⟩
  cases i with
  | zero=>rw[Nat.eq_of_beq_eq_true h'.1];rfl
  | succ i=>rw[List.getElem?_cons_succ,h2 i (by omega),show k+1+i=k+(i+1) by omega]
theorem rU {n₀ size:Nat} {live:List Nat} {a:Act} {σ:St} {k:List SV→Prop} (h:lG n₀ size live a σ k):∃ss,k ss∧((∀s∈ss,s.clean)→∃m,qL n₀ m (D8 size live ss) (D9 ss) a σ):=by
 unfold lG at h
 split at h
 ·rename_i hd hs
  obtain⟨ss,bs,h1,h2⟩:=rT h
  split at h2
  ·rename_i hn
   rw[Bool.and_eq_true] at hn
   obtain⟨hpf,hn⟩:=hn
   obtain⟨hp1,hp2⟩:=B6 hpf
   refine⟨ss,h2,fun hc=>⟨fun b=>bs[b]?,?_⟩⟩
   refine⟨(Nat.eq_of_beq_eq_true hs).symm,rfl,hd,fun i v hv=>?_,fun i k hk=>?_,fun i j c=>xL hn i j c,fun i hi=>?_,fun i hi=>by rw[hp2 i hi,Nat.zero_add],by show n₀≤len (lF ss 0);rw[aZ,h1.len];exact hp1⟩
   ·obtain⟨j,e1,e2⟩:=B5 hv
    exact h1.G5 hc (m:=fun b=>bs[b]?) (fun i c hc=>by rw[Nat.zero_add];exact hc) e1 e2
   ·obtain⟨_,e⟩:=Aa (n:=0) hk
    exact h1.mf hc (m:=fun b=>bs[b]?) (fun i c hc=>by rw[Nat.zero_add];exact hc) (by simpa using e)
   ·have eN:(lF ss 0).length≤i:=by
     have:len (lF ss 0)≤i:=hi
     rwa [aZ] at this
    rw[h1.len] at eN
    exact List.getElem?_eq_none eN
  ·exact h2.elim
 ·exact h.elim
noncomputable def KF (P:Program) (call:FuncId→List V→St→ah→Prop) (n₀ size:Nat) (live:Nat→List Nat) (A:Nat→List SV→Prop):eI P:=
 {call:=call,loop:=fun _ _ i _ _ a σ=>lG n₀ size (live i) a σ (A i)}
variable {P:Program} [eF P] {fn:FuncId}
theorem cV.cG {call:FuncId→List V→St→ah→Prop} (eV:∀ {f vs σ k},call f vs σ k→ag P f vs k σ) {n₀ size:Nat} {live:Nat→List Nat} {c:Code} (hp:gY c=true) {Q:cd}
  {α:Type} {r:α→α→Prop} (wf:WellFounded r) (μ:Nat→List SV→α) (I:Nat→List SV→Prop) (hc:∀k ss,I k ss→∀s∈ss,s.clean)
  (lA:∀k x,(aO c)[k]? =some x→∀ss,I k ss→ws P (KF P call n₀ size live fun k' ed=>I k' ed∧r (μ k' ed) (μ k ss)) fn none (Nat.add k 1) x
   (ib (fun a σ=>lG n₀ size (live k) a σ fun ed=>I k ed∧r (μ k ed) (μ k ss)) (behind P (KF P call n₀ size live fun k' ed=>I k' ed∧r (μ k' ed) (μ k ss)) fn c 0 k Q)) (D8 size (live k) ss) (D9 ss)):
  ∀k x,(aO c)[k]? =some x→∀ss,I k ss→cV P n₀ x (bT P n₀ c k Q) (D8 size (live k) ss) (D9 ss):=by
 have key:∀(q:α),∀k x,(aO c)[k]? =some x→∀ss,I k ss→μ k ss=q→cV P n₀ x (bT P n₀ c k Q) (D8 size (live k) ss) (D9 ss):=by
  intro q
  induction q using wf.induction with
  | _ q ih=>
   intro k x hx ss hI hq
   have hK:(KF P call n₀ size live fun k' ed=>I k' ed∧r (μ k' ed) (μ k ss)).JE n₀:=⟨⟨fun h=>eV h,fun h=>h⟩,fun h=>bG.of h⟩
   have H:∀j z,(aO c)[j]? =some z→∀a σ (dD:cd),(KF P call n₀ size live fun k' ed=>I k' ed∧r (μ k' ed) (μ k ss)).loop fn none j z dD a σ→cV P n₀ z (bT P n₀ c j Q) a σ:=by
    intro j z hz a σ dD hA
    obtain⟨ed,⟨g1,g2⟩,g3⟩:=rU (show lG n₀ size (live j) a σ _ from hA)
    obtain⟨m,hf⟩:=g3 (hc j ed g1)
    exact(ih (μ j ed) (by rw[←hq];exact g2) j z hz ed g1 rfl).D7 hf
   have:=lA k x hx ss hI
   refine cV.round (bG.gw hK x (i:=k+1) (fun e a σ h=>?_) (fun j z hz a σ dD hA=>?_) this)
   ·cases e with
    | normal=>exact H k x hx a σ (fun _ _ _=>True) h
    | exit i=>exact eC hK c (i:=0) (Q:=Q) (Q':=Q) (fun _ _ _ h=>h) (fun j z hz a σ dD hA=>H j z hz a σ dD (by rw[Nat.zero_add] at hA;exact hA)) h
    | goto i=>exact eC hK c (i:=0) (Q:=Q) (Q':=Q) (fun _ _ _ h=>h) (fun j z hz a σ dD hA=>H j z hz a σ dD (by rw[Nat.zero_add] at hA;exact hA)) h
    | ret=>exact eC hK c (i:=0) (Q:=Q) (Q':=Q) (fun _ _ _ h=>h) (fun j z hz a σ dD hA=>H j z hz a σ dD (by rw[Nat.zero_add] at hA;exact hA)) h
   ·rw[←G6 c hp hx hz]
    exact H (k+1+j) z (rO c hx hz) a σ dD hA
 exact fun k x hx ss hI=>key _ k x hx ss hI rfl
theorem ag.cG {call:FuncId→List V→St→ah→Prop} (eV:∀ {f vs σ k},call f vs σ k→ag P f vs k σ) {g:Func} {c:Code} {vs:List V} {Q:ah} (hf:P.funcs[fn]? =some g) (hb:g.body=some c) (hn:(g.name== "runtime.NumGoroutine")=false) (hp:gY c=true) {σ:St} {n₀:Nat} (xM:σ.next=n₀)
  {live:Nat→List Nat} {α:Type} {r:α→α→Prop} (wf:WellFounded r) (μ:Nat→List SV→α) (I:Nat→List SV→Prop) (hc:∀k ss,I k ss→∀s∈ss,s.clean)
  (tX:ws P (KF P call n₀ g.ntmps live I) fn none 0 c (oI P g Q) (lb g.ntmps vs) σ)
  (lA:∀k x,(aO c)[k]? =some x→∀ss,I k ss→ws P (KF P call n₀ g.ntmps live fun k' ed=>I k' ed∧r (μ k' ed) (μ k ss)) fn none (Nat.add k 1) x
   (ib (fun a σ=>lG n₀ g.ntmps (live k) a σ fun ed=>I k ed∧r (μ k ed) (μ k ss)) (behind P (KF P call n₀ g.ntmps live fun k' ed=>I k' ed∧r (μ k' ed) (μ k ss)) fn c 0 k (oI P g Q))) (D8 g.ntmps (live k) ss) (D9 ss))
  (hl:∀x,c≠.loop x):ag P fn vs Q σ:=by
 subst xM
 have hL:=cV.cG (fn:=fn) (call:=call) (n₀:=σ.next) (size:=g.ntmps) (live:=live) (Q:=oI P g Q) (fun h=>eV h) hp wf μ I hc lA
 have hK:(KF P call σ.next g.ntmps live I).JE σ.next:=⟨⟨fun h=>eV h,fun h=>h⟩,fun h=>bG.of h⟩
 have hN:bG P σ.next c (oI P g Q) (lb g.ntmps vs) σ:=bG.gw hK c (i:=0) (fun _ _ _ h=>h) (fun j z hz a τ dD hA=>by
  rw[Nat.zero_add] at hA
  obtain⟨ed,g1,g3⟩:=rU (show lG σ.next g.ntmps (live j) a τ _ from hA)
  obtain⟨m,hf⟩:=g3 (hc j ed g1)
  exact(hL j z hz ed g1).D7 hf) tX
 exact ag.N7 hf hb hn (bG.xG (fn:=fn) hl hN)
end
end Go.Ev
