/- Proved: parts of the way: Floyd. -/
import Derived.Test.YtbajncpfmemdgaaGreatDoorEvQ12
namespace Go.Ev
open Go
section
variable [Env]
structure bM (P:Program) (n₀:Nat) (c:Code) (Q:cp) (a:Act) (σ:St):Prop where
 ex:∃e a σ,Q e a σ
 h:n₀≤σ.next→∀(ρ:aA) (w:World) (a':Go.Act),R ρ σ w→bD ρ a a'→c.wpIn Fence.wide 0 P (dY n₀ Q ρ σ w) a' w
variable {P:Program} {fn:FuncId} {n₀:Nat}
theorem bM.of [eQ P] {c:Code} {Q:cp} {a:Act} {σ:St} (h:cr P fn none c Q a σ):bM P n₀ c Q a σ:=by
 have hs:=h.vU
 refine⟨?_,fun hn ρ w a' hr ha=>wpIn_mono (cC.at hs ρ w a' Fence.wide hr ha rfl).1 fun e aT aL ee=>?_⟩
 ·obtain⟨⟨o,τ⟩,hx⟩:=hs.1
  cases o with
  | val v=>exact hx.elim
  | exit e a=>exact⟨e,a,τ,hx⟩
 ·obtain⟨y,aY,bL,bm,h1,h2,h3,h4⟩:=ee
  exact⟨y,aY,bL,bm,h1,h2,h3,ij.of hn h4⟩
theorem bM.vU {c:Code} (hc:∀x,c≠.loop x) {Q:cp} {a:Act} {σ:St} (h:bM P σ.next c Q a σ):cC P (.code none fn c a) σ (kq Q):=by
 refine⟨let ⟨e,a,τ,hx⟩:=h.ex;⟨(.exit e a,τ),hx⟩,?_⟩
 intro ρ w a' F hr ha bq
 have hF:F=Fence.wide:=bq
 subst hF
 refine⟨wpIn_mono (h.h (Nat.le_refl _) ρ w a' hr ha) fun e aT aL hx=>?_,fun x hx=>absurd hx (hc x)⟩
 obtain⟨y,aT,aI,bz,h1,h2,h3,h4⟩:=hx
 exact⟨y,aT,aI,bz,h1,h2,h3,h4.to hr⟩
theorem bM.mono {c:Code} {Q Q':cp} {a:Act} {σ:St} (h:bM P n₀ c Q a σ) (hq:∀e a σ,Q e a σ→Q' e a σ):bM P n₀ c Q' a σ:=by
 refine⟨let ⟨e,a,τ,hx⟩:=h.ex;⟨e,a,τ,hq _ _ _ hx⟩,fun hn ρ w a' hr ha=>wpIn_mono (h.h hn ρ w a' hr ha) fun e aT aL hx=>?_⟩
 obtain⟨y,aY,bL,bm,h1,h2,h3,h4⟩:=hx
 exact⟨y,aY,bL,bm,hq _ _ _ h1,h2,h3,h4⟩
theorem dY.trans {Q:cp} {ρ bz:aA} {σ aI:St} {w aL fr:World} {e:Exit} {a:Go.Act} (h:ij n₀ ρ σ w bz aI aL) (k:dY n₀ Q bz aI aL e a fr):dY n₀ Q ρ σ w e a fr:=by
 obtain⟨y,aY,bL,bm,h1,h2,h3,h4⟩:=k
 exact⟨y,aY,bL,bm,h1,h2,h3,h.trans h4⟩
theorem bM.seq {x y:Code} {Q:cp} {a:Act} {σ:St} (h:bM P n₀ x (jg (bM P n₀ y Q) Q) a σ):bM P n₀ (.seq x y) Q a σ:=by
 constructor
 ·obtain⟨e,a,τ,hx⟩:=h.ex
  cases e with
  | normal=>exact bM.ex hx
  | exit i=>exact⟨_,_,_,hx⟩
  | goto i=>exact⟨_,_,_,hx⟩
  | ret=>exact⟨_,_,_,hx⟩
 ·intro hn ρ w a' hr ha
  refine wpIn_seq (wpIn_mono (h.h hn ρ w a' hr ha) fun e aT aL ee=>?_)
  obtain⟨z,aY,bL,bm,h1,rfl,h3,h4⟩:=ee
  cases z with
  | normal=>
   have h1:bM P n₀ y Q aY bL:=h1
   exact wpIn_mono (h1.h h4.next bm aL aT h4.r h3) fun e a w hx=>dY.trans h4 hx
  | exit i=>exact⟨.exit i,aY,bL,bm,h1,rfl,h3,h4⟩
  | goto i=>exact⟨.goto i,aY,bL,bm,h1,rfl,h3,h4⟩
  | ret=>exact⟨.ret,aY,bL,bm,h1,rfl,h3,h4⟩
theorem bM.cond {x:Operand} {y z:Code} {Q:cp} {a:Act} {σ:St} (h:zh (bM P n₀ y Q a σ) (bM P n₀ z Q a σ) (a.eval x)):bM P n₀ (.cond x y z) Q a σ:=by
 cases hx:a.eval x with
 | none=>rw[hx] at h;exact h.elim
 | some v=>
  rw[hx] at h
  cases v with
  | bool b=>
   cases b with
   | true=>
    have h:bM P n₀ y Q a σ:=h
    exact⟨h.ex,fun hn ρ w a' hr ha=>wpIn_cond_true ((ha.eval x hx).rW) (h.h hn ρ w a' hr ha)⟩
   | false=>
    have h:bM P n₀ z Q a σ:=h
    exact⟨h.ex,fun hn ρ w a' hr ha=>wpIn_cond_false ((ha.eval x hx).rW) (h.h hn ρ w a' hr ha)⟩
  | _=>exact h.elim
theorem bM.block {id:Nat} {x:Code} {Q:cp} {a:Act} {σ:St} (h:bM P n₀ x (pT id Q) a σ):bM P n₀ (.block id x) Q a σ:=by
 constructor
 ·obtain⟨e,a,τ,hx⟩:=h.ex
  cases e with
  | normal=>exact⟨_,_,_,hx⟩
  | exit i=>
   have cS:(if i=id then Q .normal else Q (.exit i)) a τ:=hx
   by_cases e:i=id
   ·rw[if_pos e] at cS;exact⟨_,_,_,cS⟩
   ·rw[if_neg e] at cS;exact⟨_,_,_,cS⟩
  | goto i=>exact⟨_,_,_,hx⟩
  | ret=>exact⟨_,_,_,hx⟩
 ·intro hn ρ w a' hr ha
  refine wpIn_block (wpIn_mono (h.h hn ρ w a' hr ha) fun e aT aL ee=>?_)
  obtain⟨z,b,σ',ρ',h1,rfl,h3,h4⟩:=ee
  cases z with
  | normal=>exact⟨.normal,_,_,_,h1,rfl,h3,h4⟩
  | exit i=>
   have ew:(if i=id then Q .normal else Q (.exit i)) b σ':=h1
   by_cases hi:i=id
   ·simp only[rX,Exit.inBlock,hi,if_true]
    rw[if_pos hi] at ew
    exact⟨.normal,_,_,_,ew,rfl,h3,h4⟩
   ·simp only[rX,Exit.inBlock,hi,if_false]
    rw[if_neg hi] at ew
    exact⟨.exit i,_,_,_,ew,rfl,h3,h4⟩
  | goto l=>exact⟨.goto l,_,_,_,h1,rfl,h3,h4⟩
  | ret=>exact⟨.ret,_,_,_,h1,rfl,h3,h4⟩
theorem bM.scope {x:Code} {Q:cp} {a:Act} {σ:St} (h:bM P n₀ x (sm Q) a σ):bM P n₀ (.scope x) Q a σ:=by
 constructor
 ·obtain⟨e,a,τ,hx⟩:=h.ex
  cases e with
  | normal=>exact⟨_,_,_,hx⟩
  | exit i=>exact⟨_,_,_,hx⟩
  | goto i=>exact hx.elim
  | ret=>exact⟨_,_,_,hx⟩
 ·intro hn ρ w a' hr ha
  refine uK (zg (wpIn_mono (h.h hn ρ w a' hr ha) fun e aT aL ee=>?_))
  obtain⟨z,b,σ',ρ',h1,rfl,h3,h4⟩:=ee
  cases z with
  | normal=>exact⟨.normal,_,_,_,h1,rfl,h3,h4⟩
  | exit i=>exact⟨.exit i,_,_,_,h1,rfl,h3,h4⟩
  | goto l=>exact h1.elim
  | ret=>exact⟨.ret,_,_,_,h1,rfl,h3,h4⟩
theorem cT.code {x:Code} {Q:cp} {a:Act} {σ:St} (h:cT P n₀ x Q a σ):bM P n₀ (.loop x) Q a σ:=⟨h.ex,fun hn ρ w a' hr ha=>(h.h hn ρ w a' hr ha).1⟩
theorem cT.round {x:Code} {Q:cp} {a:Act} {σ:St} (h:bM P n₀ x (jg (cT P n₀ x Q) Q) a σ):cT P n₀ x Q a σ:=by
 constructor
 ·obtain⟨e,a,τ,hx⟩:=h.ex
  cases e with
  | normal=>exact cT.ex hx
  | exit i=>exact⟨_,_,_,hx⟩
  | goto i=>exact⟨_,_,_,hx⟩
  | ret=>exact⟨_,_,_,hx⟩
 ·intro hn ρ w a' hr ha
  refine pS (wpIn_mono (h.h hn ρ w a' hr ha) fun e aT aL ee=>?_)
  obtain⟨y,aY,bL,bm,h1,rfl,h3,h4⟩:=ee
  cases y with
  | normal=>
   have h1:cT P n₀ x Q aY bL:=h1
   exact(h1.h h4.next bm aL aT h4.r h3).2.mono fun e a w hx=>dY.trans h4 hx
  | exit i=>exact⟨.exit i,aY,bL,bm,h1,rfl,h3,h4⟩
  | goto i=>exact⟨.goto i,aY,bL,bm,h1,rfl,h3,h4⟩
  | ret=>exact⟨.ret,aY,bL,bm,h1,rfl,h3,h4⟩
noncomputable def behind (P:Program) (K:ff P) (fn:FuncId):Code→Nat→Nat→cp→cp
 | .seq x y,i,j,Q=>match Nat.blt j (aR x) with
  | true=>behind P K fn x i j (jg (ws P K fn none (Nat.add i (aR x)) y Q) Q)
  | false=>behind P K fn y (Nat.add i (aR x)) (Nat.sub j (aR x)) Q
 | .cond _ x y,i,j,Q=>match Nat.blt j (aR x) with
  | true=>behind P K fn x i j Q
  | false=>behind P K fn y (Nat.add i (aR x)) (Nat.sub j (aR x)) Q
 | .block id x,i,j,Q=>behind P K fn x i j (pT id Q)
 | .scope x,i,j,Q=>behind P K fn x i j (sm Q)
 | .loop x,i,j,Q=>match j with
  | 0=>Q
  | j+1=>behind P K fn x (Nat.add i 1) j (jg (K.loop fn none i x Q) Q)
 | _,_,_,_=>fun _ _ _=>False
def cd (P:Program) (n₀:Nat):Code→Nat→cp→cp
 | .seq x y,j,Q=>match Nat.blt j (aR x) with
  | true=>cd P n₀ x j (jg (bM P n₀ y Q) Q)
  | false=>cd P n₀ y (Nat.sub j (aR x)) Q
 | .cond _ x y,j,Q=>match Nat.blt j (aR x) with
  | true=>cd P n₀ x j Q
  | false=>cd P n₀ y (Nat.sub j (aR x)) Q
 | .block id x,j,Q=>cd P n₀ x j (pT id Q)
 | .scope x,j,Q=>cd P n₀ x j (sm Q)
 | .loop x,j,Q=>match j with
  | 0=>Q
  | j+1=>cd P n₀ x j (jg (cT P n₀ x Q) Q)
 | _,_,_=>fun _ _ _=>False
omit [Env] in
theorem o8 {x y:Code} {j:Nat} {z:Code} (h:(ba x)[j]? =some z):(ba x++ba y)[j]? =some z∧Nat.blt j (aR x)=true:=by
 have bE:=(List.getElem?_eq_some_iff.1 h).1
 refine⟨by rw[List.getElem?_append_left bE];exact h,?_⟩
 rw[Nat.blt_eq,←dX];exact bE
omit [Env] in
theorem nY {x y:Code} {j:Nat} {z:Code} (h:(ba y)[j]? =some z):(ba x++ba y)[aR x+j]? =some z∧Nat.blt (aR x+j) (aR x)=false:=by
 refine⟨by rw[List.getElem?_append_right (by rw[dX];omega),dX,show aR x+j-aR x=j by omega];exact h,?_⟩
 cases hb:Nat.blt (aR x+j) (aR x) with
 | false=>rfl
 | true=>rw[Nat.blt_eq] at hb;omega
section
variable [eQ P] {K:ff P}
structure ff.Ob (K:ff P) (n₀:Nat):Prop extends K.OkC where
 range:∀ {f:FuncId} {c:Code} {Q:cp} {a:Act} {σ:St},K.range f none c Q a σ→bM P n₀ c Q a σ
theorem bM.ia (hK:K.Ob n₀):∀(c:Code) {i:Nat} {Q Q':cp} (_:∀e a σ,Q e a σ→Q' e a σ)
  (_:∀j x,(ba c)[j]? =some x→∀a σ Q,K.loop fn none (i+j) x Q a σ→cT P n₀ x (cd P n₀ c j Q') a σ) {a:Act} {σ:St},ws P K fn none i c Q a σ→bM P n₀ c Q' a σ
 | .skip,i,Q,Q',hq,H,a,σ,h=>bM.of (fn:=fn) ⟨hq _ _ _ h⟩
 | .label l,i,Q,Q',hq,H,a,σ,h=>bM.of (fn:=fn) ⟨hq _ _ _ h⟩
 | .exit id,i,Q,Q',hq,H,a,σ,h=>bM.of (fn:=fn) ⟨hq _ _ _ h⟩
 | .goto l,i,Q,Q',hq,H,a,σ,h=>bM.of (fn:=fn) ⟨hq _ _ _ h⟩
 | .ret,i,Q,Q',hq,H,a,σ,h=>bM.of (fn:=fn) ⟨hq _ _ _ h⟩
 | .seq x y,i,Q,Q',hq,H,a,σ,h=>by
  refine .seq (bM.ia hK x (i:=i) (Q:=jg (ws P K fn none (Nat.add i (aR x)) y Q) Q) (fun e a σ h=>?_) (fun j z hz a σ dQ hA=>?_) h)
  ·cases e with
   | normal=>
    refine bM.ia hK y (i:=i+aR x) hq (fun j z hz a σ dQ hA=>?_) h
    obtain⟨h1,h2⟩:=nY (x:=x) hz
    have:=H (aR x+j) z h1 a σ dQ (by rw[←Nat.add_assoc];exact hA)
    unfold cd at this
    rw[h2] at this
    dsimp only at this
    rw[show Nat.sub (aR x+j) (aR x)=j from Nat.add_sub_cancel_left _ _] at this
    exact this
   | exit i=>exact hq _ _ _ h
   | goto l=>exact hq _ _ _ h
   | ret=>exact hq _ _ _ h
  ·obtain⟨h1,h2⟩:=o8 (y:=y) hz
   have:=H j z h1 a σ dQ hA
   unfold cd at this
   rw[h2] at this
   exact this
 | .cond x y z,i,Q,Q',hq,H,a,σ,h=>by
  refine .cond ?_
  have h':zh (ws P K fn none i y Q a σ) (ws P K fn none (Nat.add i (aR y)) z Q a σ) (a.eval x):=h
  revert h'
  cases a.eval x with
  | none=>exact id
  | some v=>cases v with
   | bool b=>
    refine fun h=>.mk (fun e=>bM.ia hK y (i:=i) hq (fun j t hz a σ dQ hA=>?_) (aa.y h e)) fun e=>bM.ia hK z (i:=i+aR y) hq (fun j t hz a σ dQ hA=>?_) (aa.z h e)
    ·obtain⟨h1,h2⟩:=o8 (y:=z) hz
     have:=H j t h1 a σ dQ hA
     unfold cd at this
     rw[h2] at this
     exact this
    ·obtain⟨h1,h2⟩:=nY (x:=y) hz
     have:=H (aR y+j) t h1 a σ dQ (by rw[←Nat.add_assoc];exact hA)
     unfold cd at this
     rw[h2] at this
     dsimp only at this
     rw[show Nat.sub (aR y+j) (aR y)=j from Nat.add_sub_cancel_left _ _] at this
     exact this
   | _=>exact id
 | .block id x,i,Q,Q',hq,H,a,σ,h=>by
  refine .block (bM.ia hK x (i:=i) (Q:=pT id Q) (fun e a σ h=>?_) (fun j z hz a σ dQ hA=>H j z hz a σ dQ hA) h)
  cases e with
  | normal=>exact hq _ _ _ h
  | exit k=>
   have h':(if k=id then Q .normal else Q (.exit k)) a σ:=h
   show(if k=id then Q' .normal else Q' (.exit k)) a σ
   by_cases e:k=id
   ·rw[if_pos e] at h'⊢;exact hq _ _ _ h'
   ·rw[if_neg e] at h'⊢;exact hq _ _ _ h'
  | goto l=>exact hq _ _ _ h
  | ret=>exact hq _ _ _ h
 | .loop x,i,Q,Q',hq,H,a,σ,h=>(H 0 x rfl a σ Q h).code
 | .region id ops draw,i,Q,Q',hq,H,a,σ,h=>by
  have h':AK P K none ops.toList (Q .normal) a σ draw:=h
  have hc:cr P fn none (.region id ops draw) Q a σ:=by
   cases draw with
   | false=>exact⟨tv hK.toOkC h'⟩
   | true=>
    have h':Lj P K none ops.toList (Q .normal) a σ (k9 P ops.toList):=h'
    constructor
    show((match k9 P ops.toList with
     | some l=>(⟨fun R ro a σ=>(la P ops.toList l).f R ro σ.next [ahead (len ops.toList) σ] a (ahead (len ops.toList) σ)⟩:wH)
     | none=>⟨fun _ _ _ _=>.fail "plan"⟩).f (dh P) none a σ).ar (kq Q)
    cases hp:k9 P ops.toList with
    | none=>rw[hp] at h';exact h'.elim
    | some l=>rw[hp] at h';exact pW hK.toOkC h'
  exact(bM.of hc).mono hq
 | .rangeFunc _ _ _ _,i,Q,Q',hq,H,a,σ,h=>(hK.range h).mono hq
 | .scope x,i,Q,Q',hq,H,a,σ,h=>by
  refine .scope (bM.ia hK x (i:=i) (Q:=sm Q) (fun e a σ h=>?_) (fun j z hz a σ dQ hA=>H j z hz a σ dQ hA) h)
  cases e with
  | normal=>exact hq _ _ _ h
  | exit k=>exact hq _ _ _ h
  | goto l=>exact h.elim
  | ret=>exact hq _ _ _ h
 | .refuse _,i,Q,Q',hq,H,a,σ,h=>(bM.of (show cr P fn none _ Q a σ from h)).mono hq
theorem eX (hK:K.Ob n₀):∀(c:Code) {i j:Nat} {Q Q':cp} (_:∀e a σ,Q e a σ→Q' e a σ)
  (_:∀j x,(ba c)[j]? =some x→∀a σ Q,K.loop fn none (i+j) x Q a σ→cT P n₀ x (cd P n₀ c j Q') a σ) {e:Ex} {a:Act} {σ:St},behind P K fn c i j Q e a σ→cd P n₀ c j Q' e a σ
 | .seq x y,i,j,Q,Q',hq,H,e,a,σ,h=>by
  have Hx:∀j z,(ba x)[j]? =some z→∀a σ Q,K.loop fn none (i+j) z Q a σ→cT P n₀ z (cd P n₀ x j (jg (bM P n₀ y Q') Q')) a σ:=by
   intro j z hz a σ dQ hA
   obtain⟨h1,h2⟩:=o8 (y:=y) hz
   have:=H j z h1 a σ dQ hA
   unfold cd at this
   rw[h2] at this
   exact this
  have Hy:∀j z,(ba y)[j]? =some z→∀a σ Q,K.loop fn none (i+aR x+j) z Q a σ→cT P n₀ z (cd P n₀ y j Q') a σ:=by
   intro j z hz a σ dQ hA
   obtain⟨h1,h2⟩:=nY (x:=x) hz
   have:=H (aR x+j) z h1 a σ dQ (by rw[←Nat.add_assoc];exact hA)
   unfold cd at this
   rw[h2] at this
   dsimp only at this
   rw[show Nat.sub (aR x+j) (aR x)=j from Nat.add_sub_cancel_left _ _] at this
   exact this
  unfold behind at h
  unfold cd
  cases hb:Nat.blt j (aR x) with
  | true=>
   rw[hb] at h
   refine eX hK x (i:=i) (fun e a σ h=>?_) Hx h
   cases e with
   | normal=>exact bM.ia hK y (i:=i+aR x) hq Hy h
   | exit i=>exact hq _ _ _ h
   | goto l=>exact hq _ _ _ h
   | ret=>exact hq _ _ _ h
  | false=>
   rw[hb] at h
   exact eX hK y (i:=i+aR x) hq Hy h
 | .cond _ x y,i,j,Q,Q',hq,H,e,a,σ,h=>by
  unfold behind at h
  unfold cd
  cases hb:Nat.blt j (aR x) with
  | true=>
   rw[hb] at h
   refine eX hK x (i:=i) hq (fun j z hz a σ dQ hA=>?_) h
   obtain⟨h1,h2⟩:=o8 (y:=y) hz
   have:=H j z h1 a σ dQ hA
   unfold cd at this
   rw[h2] at this
   exact this
  | false=>
   rw[hb] at h
   refine eX hK y (i:=i+aR x) hq (fun j z hz a σ dQ hA=>?_) h
   obtain⟨h1,h2⟩:=nY (x:=x) hz
   have:=H (aR x+j) z h1 a σ dQ (by rw[←Nat.add_assoc];exact hA)
   unfold cd at this
   rw[h2] at this
   dsimp only at this
   rw[show Nat.sub (aR x+j) (aR x)=j from Nat.add_sub_cancel_left _ _] at this
   exact this
 | .block id x,i,j,Q,Q',hq,H,e,a,σ,h=>by
  refine eX hK x (i:=i) (Q:=pT id Q) (fun e a σ h=>?_) (fun j z hz a σ dQ hA=>H j z hz a σ dQ hA) h
  cases e with
  | normal=>exact hq _ _ _ h
  | exit k=>
   have h':(if k=id then Q .normal else Q (.exit k)) a σ:=h
   show(if k=id then Q' .normal else Q' (.exit k)) a σ
   by_cases e:k=id
   ·rw[if_pos e] at h'⊢;exact hq _ _ _ h'
   ·rw[if_neg e] at h'⊢;exact hq _ _ _ h'
  | goto l=>exact hq _ _ _ h
  | ret=>exact hq _ _ _ h
 | .scope x,i,j,Q,Q',hq,H,e,a,σ,h=>by
  refine eX hK x (i:=i) (Q:=sm Q) (fun e a σ h=>?_) (fun j z hz a σ dQ hA=>H j z hz a σ dQ hA) h
  cases e with
  | normal=>exact hq _ _ _ h
  | exit k=>exact hq _ _ _ h
  | goto l=>exact h.elim
  | ret=>exact hq _ _ _ h
 | .loop x,i,0,Q,Q',hq,H,e,a,σ,h=>hq _ _ _ h
 | .loop x,i,j+1,Q,Q',hq,H,e,a,σ,h=>by
  refine eX hK x (i:=i+1) (Q:=jg (K.loop fn none i x Q) Q) (Q':=jg (cT P n₀ x Q') Q') (fun e a σ h=>?_) (fun j z hz a σ dQ hA=>?_) h
  ·cases e with
   | normal=>exact H 0 x rfl a σ Q h
   | exit i=>exact hq _ _ _ h
   | goto l=>exact hq _ _ _ h
   | ret=>exact hq _ _ _ h
  ·exact H (j+1) z (by rw[ba,List.getElem?_cons_succ];exact hz) a σ dQ (by rw[show i+(j+1)=i+1+j by omega];exact hA)
def iU:Code→Bool
 | .seq x y=>iU x&&iU y
 | .cond _ x y=>iU x&&iU y
 | .block _ x=>iU x
 | .loop x=>iU x
 | .scope x=>iU x
 | .rangeFunc _ _ _ _=>false
 | _=>true
omit [eQ P] in
theorem xD (x y:Code) (j:Nat) (Q:cp):cd P n₀ (.seq x y) j Q=match Nat.blt j (aR x) with
  | true=>cd P n₀ x j (jg (bM P n₀ y Q) Q)
  | false=>cd P n₀ y (Nat.sub j (aR x)) Q:=rfl
omit [eQ P] in
theorem vW (o:Operand) (x y:Code) (j:Nat) (Q:cp):cd P n₀ (.cond o x y) j Q=match Nat.blt j (aR x) with
  | true=>cd P n₀ x j Q
  | false=>cd P n₀ y (Nat.sub j (aR x)) Q:=rfl
omit [eQ P] in
theorem Ll:∀(c:Code),iU c=true→∀ {k j:Nat} {x z:Code} {Q:cp},(ba c)[k]? =some x→(ba x)[j]? =some z→cd P n₀ c (k+1+j) Q=cd P n₀ x j (jg (cT P n₀ x (cd P n₀ c k Q)) (cd P n₀ c k Q)):=by
 intro c
 have two:∀ {u v:Code} {k j:Nat} {x z:Code},(ba u++ba v)[k]? =some x→(ba x)[j]? =some z→
   (Nat.blt k (aR u)=true∧Nat.blt (k+1+j) (aR u)=true∧(ba u)[k]? =some x)∨(Nat.blt k (aR u)=false∧Nat.blt (k+1+j) (aR u)=false∧(ba v)[Nat.sub k (aR u)]? =some x∧Nat.sub (k+1+j) (aR u)=Nat.sub k (aR u)+1+j):=by
  intro u v k j x z hk hj
  rcases Nat.lt_or_ge k (ba u).length with bE | pO
  ·rw[List.getElem?_append_left bE] at hk
   have h2:=(List.getElem?_eq_some_iff.1 (tt u hk hj)).1
   rw[dX] at bE h2
   exact .inl ⟨by rw[Nat.blt_eq];exact bE,by rw[Nat.blt_eq];exact h2,hk⟩
  ·rw[List.getElem?_append_right pO] at hk
   rw[dX] at pO hk
   have f:∀n,aR u≤n→Nat.blt n (aR u)=false:=fun n hn=>by
    cases hb:Nat.blt n (aR u) with
    | false=>rfl
    | true=>rw[Nat.blt_eq] at hb;omega
   exact .inr ⟨f _ pO,f _ (by omega),hk,by show k+1+j-aR u=k-aR u+1+j;omega⟩
 induction c with
 | seq u v Yg Yh=>
  intro hp k j x z Q hk hj
  have hp:=Bool.and_eq_true_iff.1 (show(iU u&&iU v)=true from hp)
  rw[xD,xD]
  rcases two hk hj with ⟨h1,h2,h3⟩ | ⟨h1,h2,h3,h4⟩
  ·rw[h1,h2];exact Yg hp.1 h3 hj
  ·rw[h1,h2]
   dsimp only
   rw[h4];exact Yh hp.2 h3 hj
 | cond o u v Yg Yh=>
  intro hp k j x z Q hk hj
  have hp:=Bool.and_eq_true_iff.1 (show(iU u&&iU v)=true from hp)
  rw[vW,vW]
  rcases two hk hj with ⟨h1,h2,h3⟩ | ⟨h1,h2,h3,h4⟩
  ·rw[h1,h2];exact Yg hp.1 h3 hj
  ·rw[h1,h2]
   dsimp only
   rw[h4];exact Yh hp.2 h3 hj
 | block i u ih=>exact fun hp {_ _ _ _ _} hk hj=>ih hp hk hj
 | loop u ih=>
  intro hp k j x z Q hk hj
  cases k with
  | zero=>
   have e:u=x:=by simpa [ba] using hk
   subst e
   rw[show 0+1+j=j+1 by omega]
   rfl
  | succ k=>
   have eV:(ba u)[k]? =some x:=by simpa [ba] using hk
   rw[show k+1+1+j=(k+1+j)+1 by omega]
   show cd P n₀ u (k+1+j) _=_
   exact ih hp eV hj
 | scope u ih=>exact fun hp {_ _ _ _ _} hk hj=>ih hp hk hj
 | _=>intro hp k j x z Q hk;simp [ba] at hk
end
end
inductive SP where
 | val (v:V)
 | row (n:Nat) (f:Nat→V) (esz:Nat)
inductive NK where
 | ptr
 | sl (n m esz:Nat) (ex:Bool)
inductive SV where
 | val (v:V)
 | row (n:Nat) (f:Nat→V) (esz:Nat)
 | box (cs:List V)
 | nest (k:NK) (ps:List SP)
 | al (c n esz:Nat)
def SP.clean [Env]:SP→Prop
 | .val v=>Clean v
 | .row n f _=>∀i,i<n→∀u∈(f i).cells,Clean u
def SV.clean [Env]:SV→Prop
 | .val v=>Clean v
 | .row n f _=>∀i,i<n→∀u∈(f i).cells,Clean u
 | .box cs=>∀u∈cs,Clean u
 | .nest _ ps=>∀p∈ps,p.clean
 | .al ..=>True
noncomputable def Lm (ps:List SP):Nat→List V:=
 List.rec (motive:=fun _=>Nat→List V) (fun _=>[]) (fun p _ ih b=>match p with | .val v=>v::ih b | .row n _ esz=>.own b n esz::ih (Nat.add b 1)) ps
noncomputable def o9 (ps:List SP):List bU:=
 List.rec (motive:=fun _=>List bU) [] (fun p _ ih=>match p with | .val _=>ih | .row n f esz=>.row n f esz false::ih) ps
noncomputable def SV.v (s:SV) (b:Nat):V:=
 match s with
 | .val v=>v
 | .row n _ esz=>.own b n esz
 | .box _=>.ptr b 0
 | .nest .ptr _=>.ptr b 0
 | .nest (.sl n m esz ex) _=>.slice b 0 n m ex esz
 | .al c n esz=>.own c n esz
noncomputable def SV.ny (s:SV) (b:Nat):List bU:=
 match s with
 | .val _=>[]
 | .row n f esz=>[.row n f esz false]
 | .box cs=>[.cells (len cs) [] (ai cs .leaf 0) false false]
 | .nest _ ps=>.cells (len ps) [] (ai (Lm ps (Nat.add b 1)) .leaf 0) false false::o9 ps
 | .al ..=>[]
noncomputable def SV.nb (s:SV):Nat:=
 match s with
 | .val _=>0
 | .row ..=>1
 | .box _=>1
 | .nest _ ps=>Nat.add (len (o9 ps)) 1
 | .al ..=>0
noncomputable def Oc (ss:List SV):Nat→List V:=
 List.rec (motive:=fun _=>Nat→List V) (fun _=>[]) (fun s _ ih b=>s.v b::ih (Nat.add b s.nb)) ss
noncomputable def Ln (x y:List bU):List bU:=List.rec (motive:=fun _=>List bU) y (fun k _ ih=>k::ih) x
noncomputable def mU (ss:List SV):Nat→List bU:=
 List.rec (motive:=fun _=>Nat→List bU) (fun _=>[]) (fun s _ ih b=>Ln (s.ny b) (ih (Nat.add b s.nb))) ss
noncomputable def P6 (ls:List Nat):List V→bK V:=
 List.rec (motive:=fun _=>List V→bK V) (fun _=>[]) (fun t _ ih vs=>List.rec [] (fun v r _=>(ih r).put t v) vs) ls
noncomputable def Lo (ks:List bU):Nat→Trie bU:=
 List.rec (motive:=fun _=>Nat→Trie bU) (fun _=>.leaf) (fun k _ ih n=>(ih (Nat.add n 1)).put n (some k)) ks
noncomputable def HP (size:Nat) (live:List Nat) (ss:List SV):Act:=⟨P6 live (Oc ss 0),size,[]⟩
noncomputable def HQ (ss:List SV):St:=⟨Lo (mU ss 0) 0,len (mU ss 0)⟩
theorem HR (x y:List bU):Ln x y=x++y:=by
 induction x with
 | nil=>rfl
 | cons k x ih=>exact congrArg (k::·) ih
noncomputable def ER (n:Nat) (l:List Nat):Bool:=List.rec (motive:=fun _=>Bool) false (fun a _ b=>Nat.beq n a||b) l
noncomputable def ES (l:List Nat):Bool:=List.rec (motive:=fun _=>Bool) true (fun a t b=> !ER a t&&b) l
noncomputable def wS (N:Nat) (z:List V) (t:Trie V) (esz n:Nat):Nat→Option (List V):=
 Nat.rec (motive:=fun _=>Nat→Option (List V)) (fun _=>some []) (fun _ ih off=>match cellsOf N z t esz off with
  | some cs=>match ih (Nat.add off esz) with
   | some es=>some (.agg cs::es)
   | none=>none
  | none=>none) n
noncomputable def rowOf (n m:Nat) (ex:Bool) (esz N:Nat) (z:List V) (t:Trie V) (k:(Nat→V)→Prop):Trie V→Prop
 | .leaf=>match ex&&(Nat.beq (len z) esz&&Nat.blt 0 esz) with
  | true=>(n≤m∧N=n*esz)∧k fun _=>.agg z
  | false=>False
 | _=>match ex,cellsOf N z t esz 0 with
  | false,some cs=>match Nat.ble 2 n with
   | true=>match wS N z t esz n 0 with
    | some es=>(m=n∧N=n*esz)∧k (sJ es)
    | none=>False
   | false=>(n=1∧m=1∧N=1*esz)∧k fun _=>.agg cs
  | _,_=>False
theorem vX {n:Nat} {z:List V} {t:Trie V} (k off:Nat) {vs:List V} (h:cellsOf n z t k off=some vs):vs.length=k∧∀i v,vs[i]? =some v→cellOf n z t (off+i)=some v:=by
 letI:Env:=o7 [] fun x hx=>by cases hx
 exact gR k off h
theorem xE {N:Nat} {z:List V} {t:Trie V} {esz:Nat}:∀ {n off:Nat} {es:List V},wS N z t esz n off=some es→es.length=n∧∀i,i<n→∃cs,es[i]? =some (.agg cs)∧cs.length=esz∧∀j v,cs[j]? =some v→cellOf N z t (off+i*esz+j)=some v
 | 0,off,es,h=>by
  have h:some []=some es:=h
  cases h
  exact⟨rfl,fun i hi=>absurd hi (Nat.not_lt_zero i)⟩
 | n+1,off,es,h=>by
  have h:(match cellsOf N z t esz off with
   | some cs=>match wS N z t esz n (Nat.add off esz) with
    | some es=>some (.agg cs::es)
    | none=>none
   | none=>none)=some es:=h
  split at h
  ·rename_i cs hc
   split at h
   ·rename_i us hu
    cases h
    obtain⟨g1,g2⟩:=xE hu
    obtain⟨c1,c2⟩:=vX _ _ hc
    refine⟨congrArg (·+1) g1,fun i hi=>?_⟩
    cases i with
    | zero=>exact⟨cs,rfl,c1,fun j v hv=>by rw[Nat.zero_mul,Nat.add_zero];exact c2 j v hv⟩
    | succ i=>
     obtain⟨ds,d1,d2,d3⟩:=g2 i (by omega)
     refine⟨ds,d1,d2,fun j v hv=>?_⟩
     have:=d3 j v hv
     rwa [show Nat.add off esz+i*esz+j=off+(i+1)*esz+j by
      show off+esz+i*esz+j=_
      rw[Nat.succ_mul];omega] at this
   ·cases h
  ·cases h
theorem xF {n m:Nat} {ex:Bool} {esz N:Nat} {z:List V} {t:Trie V} {k:(Nat→V)→Prop} (h:rowOf n m ex esz N z t k t):
  ∃f,k f∧N=n*esz∧((ex=true∧n≤m)∨(ex=false∧m=n∧n≠0))∧(∀i,i<n→(f i).cells.length=esz)∧∀i,i<n→∀j v,(f i).cells[j]? =some v→cellOf N z t (i*esz+j)=some v:=by
 cases t with
 | nil=>
  have h':(match ex&&(Nat.beq (len z) esz&&Nat.blt 0 esz) with
   | true=>(n≤m∧N=n*esz)∧k fun _=>.agg z
   | false=>False):=h
  split at h'
  ·rename_i hb
   rw[Bool.and_eq_true,Bool.and_eq_true] at hb
   obtain⟨b1,b2,b3⟩:=hb
   have b2:=Nat.eq_of_beq_eq_true b2
   rw[aP] at b2
   rw[Nat.blt_eq] at b3
   obtain⟨⟨c1,c2⟩,c3⟩:=h'
   refine⟨_,c3,c2,.inl ⟨b1,c1⟩,fun i _=>b2,fun i hi j v hj=>?_⟩
   have gS:z[j]? =some v:=hj
   have bE:j<esz:=by rw[←b2];exact(List.getElem?_eq_some_iff.1 gS).1
   have afD:i*esz+j<N:=by rw[c2];have:=lM hi (Nat.succ_le_of_lt bE);omega
   unfold cellOf
   rw[show Nat.blt (i*esz+j) N=true by rw[Nat.blt_eq];exact afD]
   dsimp only
   rw[show Trie.get ([]:Trie V) (i*esz+j)=none from Trie.fw _]
   dsimp only
   rw[ea,aP,b2,show Nat.mod (i*esz+j) esz=j from by
    show(i*esz+j)%esz=j
    rw[Nat.add_comm,Nat.add_mul_mod_self_right,Nat.mod_eq_of_lt bE]]
   exact gS
  ·exact h'.elim
 | cons x t=>
  have h':(match (generalizing:=false) ex,cellsOf N z (x::t) esz 0 with
   | false,some cs=>match Nat.ble 2 n with
    | true=>match wS N z (x::t) esz n 0 with
     | some es=>(m=n∧N=n*esz)∧k (sJ es)
     | none=>False
    | false=>(n=1∧m=1∧N=1*esz)∧k fun _=>.agg cs
   | _,_=>False):=h
  split at h'
  ·rename_i cs hc
   split at h'
   ·rename_i h2
    have h2:=Nat.le_of_ble_eq_true h2
    split at h'
    ·rename_i es he
     obtain⟨⟨rfl,rfl⟩,h3⟩:=h'
     obtain⟨g1,g2⟩:=xE he
     have key:∀i,i<m→∃cs,sJ es i=.agg cs∧cs.length=esz∧∀j v,cs[j]? =some v→cellOf (m*esz) z (x::t) (i*esz+j)=some v:=fun i hi=>by
      obtain⟨ds,d1,d2,d3⟩:=g2 i hi
      refine⟨ds,?_,d2,fun j v hv=>by have:=d3 j v hv;rwa [Nat.zero_add] at this⟩
      unfold sJ
      rw[ea,d1]
     refine⟨_,h3,rfl,.inr ⟨rfl,rfl,by omega⟩,fun i hi=>?_,fun i hi j v hj=>?_⟩
     ·obtain⟨ds,d1,d2,_⟩:=key i hi
      rw[d1];exact d2
     ·obtain⟨ds,d1,_,d3⟩:=key i hi
      rw[d1] at hj;exact d3 j v hj
    ·exact h'.elim
   obtain⟨⟨rfl,rfl,rfl⟩,h3⟩:=h'
   obtain⟨g1,g2⟩:=vX _ _ hc
   refine⟨_,h3,rfl,.inr ⟨rfl,rfl,by omega⟩,fun i _=>g1,fun i hi j v hj=>?_⟩
   obtain rfl:i=0:=by omega
   have:=g2 j v hj
   rw[Nat.zero_mul];exact this
  ·exact h'.elim
def Lp (σ:St) (k:Nat→(Nat→V)→Nat→Nat→Prop):V→Prop
 | .own b n esz=>match σ.heap.get b with
  | some (.row n' f tc _)=>(n=n'∧esz=tc)∧k n' f tc b
  | _=>False
 | .slice b off n m ex esz=>match off,σ.heap.get b with
  | 0,some (.cells N z t _ false)=>rowOf n m ex esz N z t (fun f=>k n f esz b) t
  | _,_=>False
 | _=>False
def V.ET:V→Bool
 | .own ..=>true
 | .slice ..=>true
 | _=>false
noncomputable def Od (cs:List V):Bool:=List.rec (motive:=fun _=>Bool) false (fun v _ ih=>v.ET||ih) cs
noncomputable def zt (σ:St) (cs:List V):(List SP→List Nat→Prop)→Prop:=
 List.rec (motive:=fun _=>(List SP→List Nat→Prop)→Prop) (fun k=>k [] []) (fun v _ ih k=>match v.ET with
  | true=>Lp σ (fun n f esz b=>ih fun ps bs=>k (.row n f esz::ps) (b::bs)) v
  | false=>ih fun ps bs=>k (.val v::ps) bs) cs
noncomputable def Yi (σ:St) (n m:Nat) (ex:Bool) (esz N:Nat) (z:List V) (t:Trie V) (b:Nat) (k:SV→List Nat→Prop):Trie V→Prop
 | .leaf=>rowOf n m ex esz N z t (fun f=>k (.row n f esz) [b]) t
 | _=>match cellsOf N z t N 0 with
  | some cs=>match Od cs||ex with
   | true=>zt σ cs fun ps bs=>k (.nest (.sl n m esz ex) ps) (b::bs)
   | false=>rowOf n m ex esz N z t (fun f=>k (.row n f esz) [b]) t
  | none=>rowOf n m ex esz N z t (fun f=>k (.row n f esz) [b]) t
def zu (σ:St) (k:SV→List Nat→Prop):V→Prop
 | .own b n esz=>match σ.heap.get b with
  | some (.row n' f tc _)=>(n=n'∧esz=tc)∧k (.row n' f tc) [b]
  | _=>False
 | .ptr b off=>match off,σ.heap.get b with
  | 0,some (.cells n z t _ false)=>match cellsOf n z t n 0 with
   | some cs=>match Od cs with
    | true=>zt σ cs fun ps bs=>k (.nest .ptr ps) (b::bs)
    | false=>k (.box cs) [b]
   | none=>False
  | _,_=>False
 | .slice b off n m ex esz=>match off,σ.heap.get b with
  | 0,some (.cells N z t _ false)=>Yi σ n m ex esz N z t b k t
  | _,_=>False
 | v=>k (.val v) []
noncomputable def EU (x y:List Nat):List Nat:=List.rec (motive:=fun _=>List Nat) y (fun k _ ih=>k::ih) x
theorem HS (x y:List Nat):EU x y=x++y:=by
 induction x with
 | nil=>rfl
 | cons k x ih=>exact congrArg (k::·) ih
noncomputable def P7 (b:Nat) (l:List Nat):Nat→Option Nat:=
 List.rec (motive:=fun _=>Nat→Option Nat) (fun _=>none) (fun x _ ih i=>match Nat.beq b x with | true=>some i | false=>ih (Nat.add i 1)) l
noncomputable def wT (seen:List Nat):V→Option (Nat×Nat×Nat)
 | .own b n esz=>match P7 b seen 0 with
  | some c=>some (c,n,esz)
  | none=>none
 | _=>none
noncomputable def zw (a:Act) (σ:St) (ls:List Nat):List Nat→(List SV→List Nat→Prop)→Prop:=
 List.rec (motive:=fun _=>List Nat→(List SV→List Nat→Prop)→Prop) (fun _ k=>k [] []) (fun t _ ih seen k=>match a.tmps.get t with
  | some v=>match wT seen v with
   | some (c,n,esz)=>ih seen fun ss bs=>k (.al c n esz::ss) bs
   | none=>zu σ (fun s b=>ih (EU seen b) fun ss bs=>k (s::ss) (EU b bs)) v
  | none=>False) ls
noncomputable def P8 (n:Nat):Nat→List Nat→Bool:=
 Nat.rec (motive:=fun _=>Nat→List Nat→Bool) (fun _ _=>true) (fun _ ih k l=>List.rec false (fun b r _=>Nat.beq b k&&ih (Nat.add k 1) r) l) n
noncomputable def mV (n₀ size:Nat) (live:List Nat) (a:Act) (σ:St) (k:List SV→Prop):Prop:=
 match a.defers,Nat.beq a.size size with
 | [],true=>zw a σ live [] fun ss bs=>match P8 n₀ 0 bs&&ES bs with
  | true=>k ss
  | false=>False
 | _,_=>False
section
variable [Env]
inductive tw (σ:St):V→Nat→(Nat→V)→Nat→Nat→Prop
 | own {b n esz:Nat} {f:Nat→V} {p:Bool} (hb:σ.heap.get b=some (.row n f esz p)):tw σ (.own b n esz) n f esz b
 | of {b n m esz N:Nat} {ex:Bool} {f:Nat→V} {z:List V} {tr:Trie V} {p:Bool} (hb:σ.heap.get b=some (.cells N z tr p false))
   (hN:N=n*esz) (hm:(ex=true∧n≤m)∨(ex=false∧m=n∧n≠0)) (hu:∀i,i<n→(f i).cells.length=esz) (hc:∀i,i<n→∀j v,(f i).cells[j]? =some v→cellOf N z tr (i*esz+j)=some v):tw σ (.slice b 0 n m ex esz) n f esz b
omit [Env] in
theorem P9 {σ:St} {k:Nat→(Nat→V)→Nat→Nat→Prop} {v:V} (h:Lp σ k v):∃n f esz b,tw σ v n f esz b∧k n f esz b:=by
 unfold Lp at h
 split at h
 ·split at h
  ·rename_i hb
   obtain⟨⟨rfl,rfl⟩,h⟩:=h
   exact⟨_,_,_,_,.own hb,h⟩
  ·exact h.elim
 ·split at h
  ·rename_i hb
   obtain⟨f,h,c1,c2,c3,c4⟩:=xF h
   exact⟨_,_,_,_,.of hb c1 c2 c3 c4,h⟩
  ·exact h.elim
 ·exact h.elim
theorem tw.val {σ:St} {v:V} {n esz b:Nat} {f:Nat→V} (h:tw σ v n f esz b) {m:Nat→Option Nat} {i:Nat} (hm:m i=some b):eL m (.own i n esz) v:=by
 cases h with
 | own hb=>exact .own hm
 | of hb hN h hu hc=>
  rcases h with ⟨rfl,h⟩ | ⟨rfl,rfl,h⟩
  ·exact .TQ hm h
  ·exact .Lk hm h
theorem tw.di {σ:St} {v:V} {n esz b:Nat} {f:Nat→V} (h:tw σ v n f esz b) (jo:∀i,i<n→∀u∈(f i).cells,Clean u) (m:Nat→Option Nat):∃q,σ.heap.get b=some q∧fD m (.row n f esz false) q:=by
 cases h with
 | own hb=>exact⟨_,hb,.row (fun h=>by cases h) fun i hi=>eZ.clean (jo i hi)⟩
 | of hb hN h hu hc=>
  subst hN
  exact⟨_,hb,.wJ (fun h=>by cases h) hu fun i hi j v hj=>⟨v,hc i hi j v hj,.clean (jo i hi v (List.mem_of_getElem? hj))⟩⟩
inductive lT (σ:St):List V→List SP→List Nat→Prop
 | nil:lT σ [] [] []
 | val {v:V} {vs:List V} {ps:List SP} {bs:List Nat} (hl:lT σ vs ps bs):lT σ (v::vs) (.val v::ps) bs
 | row {v:V} {n esz b:Nat} {f:Nat→V} {vs:List V} {ps:List SP} {bs:List Nat} (h:tw σ v n f esz b) (hl:lT σ vs ps bs):lT σ (v::vs) (.row n f esz::ps) (b::bs)
omit [Env] in
theorem qM {σ:St}:∀ {cs:List V} {k:List SP→List Nat→Prop},zt σ cs k→∃ps bs,lT σ cs ps bs∧k ps bs
 | [],k,h=>⟨[],[],.nil,h⟩
 | v::vs,k,h=>by
  have h':(match v.ET with
   | true=>Lp σ (fun n f esz b=>zt σ vs fun ps bs=>k (.row n f esz::ps) (b::bs)) v
   | false=>zt σ vs fun ps bs=>k (.val v::ps) bs):=h
  split at h'
  ·obtain⟨n,f,esz,b,h1,h2⟩:=P9 h'
   obtain⟨ps,bs,h3,h4⟩:=qM h2
   exact⟨_,_,.row h1 h3,h4⟩
  ·obtain⟨ps,bs,h3,h4⟩:=qM h'
   exact⟨_,_,.val h3,h4⟩
omit [Env] in
theorem lT.len {σ:St} {vs:List V} {ps:List SP} {bs:List Nat} (h:lT σ vs ps bs):(o9 ps).length=bs.length∧ps.length=vs.length:=by
 induction h with
 | nil=>exact⟨rfl,rfl⟩
 | val hl ih=>exact⟨ih.1,congrArg (·+1) ih.2⟩
 | row h hl ih=>exact⟨congrArg (·+1) ih.1,congrArg (·+1) ih.2⟩
def iV (m:Nat→Option Nat) (b:Nat) (bs:List Nat):Prop:=∀i c,bs[i]? =some c→m (b+i)=some c
omit [Env] in
theorem iV.head {m:Nat→Option Nat} {b c:Nat} {bs:List Nat} (h:iV m b (c::bs)):m b=some c:=h 0 c rfl
omit [Env] in
theorem iV.tail {m:Nat→Option Nat} {b c:Nat} {bs:List Nat} (h:iV m b (c::bs)):iV m (b+1) bs:=fun i d hd=>by
 rw[show b+1+i=b+(i+1) by omega];exact h (i+1) d (by simpa using hd)
omit [Env] in
theorem iV.left {m:Nat→Option Nat} {b:Nat} {ak9 bs:List Nat} (h:iV m b (ak9++bs)):iV m b ak9:=fun i c hc=>h i c (by rw[List.getElem?_append_left (List.getElem?_eq_some_iff.1 hc).1];exact hc)
omit [Env] in
theorem iV.right {m:Nat→Option Nat} {b:Nat} {ak9 bs:List Nat} (h:iV m b (ak9++bs)):iV m (b+ak9.length) bs:=fun i c hc=>by
 rw[Nat.add_assoc]
 exact h (ak9.length+i) c (by rw[List.getElem?_append_right (by omega),show ak9.length+i-ak9.length=i by omega];exact hc)
theorem lT.An {σ:St} {vs:List V} {ps:List SP} {bs:List Nat} (h:lT σ vs ps bs):(∀p∈ps,p.clean)→∀ {m:Nat→Option Nat} {b:Nat},iV m b bs→eZ m (Lm ps b) vs:=by
 induction h with
 | nil=>exact fun _ {_ _} _=>.nil
 | val hl ih=>exact fun hc {_ _} hm=>.cons (.clean (hc _ List.mem_cons_self)) (ih (fun p hp=>hc p (List.mem_cons_of_mem _ hp)) hm)
 | row h hl ih=>exact fun hc {_ _} hm=>.cons (h.val hm.head) (ih (fun p hp=>hc p (List.mem_cons_of_mem _ hp)) hm.tail)
theorem lT.ny {σ:St} {vs:List V} {ps:List SP} {bs:List Nat} (h:lT σ vs ps bs):(∀p∈ps,p.clean)→∀(m:Nat→Option Nat) {i:Nat} {q:bU},(o9 ps)[i]? =some q→∃c q',bs[i]? =some c∧σ.heap.get c=some q'∧fD m q q':=by
 induction h with
 | nil=>intro _ m i q hq;simp [o9] at hq
 | val hl ih=>exact fun hc m {i q} hq=>ih (fun p hp=>hc p (List.mem_cons_of_mem _ hp)) m hq
 | row h hl ih=>
  intro hc m i q hq
  cases i with
  | zero=>
   have og:some _=some q:=hq
   cases og
   obtain⟨q',h1,h2⟩:=h.di (hc _ List.mem_cons_self) m
   exact⟨_,q',rfl,h1,h2⟩
  | succ i=>exact ih (fun p hp=>hc p (List.mem_cons_of_mem _ hp)) m (i:=i) (by simpa [o9] using hq)
inductive lU (σ:St):V→SV→List Nat→Prop
 | val {v:V}:lU σ v (.val v) []
 | row {v:V} {n esz b:Nat} {f:Nat→V} (h:tw σ v n f esz b):lU σ v (.row n f esz) [b]
 | box {b n:Nat} {z:List V} {tr:Trie V} {p:Bool} {cs:List V} (hb:σ.heap.get b=some (.cells n z tr p false)) (hc:cellsOf n z tr n 0=some cs):lU σ (.ptr b 0) (.box cs) [b]
 | ptr {b n:Nat} {z:List V} {tr:Trie V} {p:Bool} {cs:List V} {ps:List SP} {bs:List Nat} (hb:σ.heap.get b=some (.cells n z tr p false)) (hc:cellsOf n z tr n 0=some cs) (hp:lT σ cs ps bs):lU σ (.ptr b 0) (.nest .ptr ps) (b::bs)
 | sl {b N n m esz:Nat} {ex:Bool} {z:List V} {tr:Trie V} {p:Bool} {cs:List V} {ps:List SP} {bs:List Nat} (hb:σ.heap.get b=some (.cells N z tr p false)) (hc:cellsOf N z tr N 0=some cs) (hp:lT σ cs ps bs):lU σ (.slice b 0 n m ex esz) (.nest (.sl n m esz ex) ps) (b::bs)
omit [Env] in
theorem U7 {σ:St} {n m esz N b:Nat} {ex:Bool} {z:List V} {t:Trie V} {p:Bool} {k:SV→List Nat→Prop} (hb:σ.heap.get b=some (.cells N z t p false)) (h:Yi σ n m ex esz N z t b k t):∃s bs,lU σ (.slice b 0 n m ex esz) s bs∧k s bs:=by
 have row:rowOf n m ex esz N z t (fun f=>k (.row n f esz) [b]) t→∃s bs,lU σ (.slice b 0 n m ex esz) s bs∧k s bs:=fun h=>by
  obtain⟨f,h,c1,c2,c3,c4⟩:=xF h
  exact⟨_,_,.row (.of hb c1 c2 c3 c4),h⟩
 unfold Yi at h
 split at h
 ·exact row h
 ·split at h
  ·rename_i hc
   split at h
   ·obtain⟨ps,bs,h1,h2⟩:=qM h
    exact⟨_,_,.sl hb hc h1,h2⟩
   ·exact row h
  ·exact row h
omit [Env] in
theorem Lq {σ:St} {v:V} {k:SV→List Nat→Prop} (h:zu σ k v):∃s bs,lU σ v s bs∧k s bs:=by
 unfold zu at h
 split at h
 ·split at h
  ·rename_i hb
   obtain⟨⟨rfl,rfl⟩,h⟩:=h
   exact⟨_,_,.row (.own hb),h⟩
  ·exact h.elim
 ·split at h
  ·rename_i hb
   split at h
   ·rename_i hc
    split at h
    ·obtain⟨ps,bs,h1,h2⟩:=qM h
     exact⟨_,_,.ptr hb hc h1,h2⟩
    ·exact⟨_,_,.box hb hc,h⟩
   ·exact h.elim
  ·exact h.elim
 ·split at h
  ·rename_i hb
   exact U7 hb h
  ·exact h.elim
 ·exact⟨_,_,.val,h⟩
theorem Cr {m:Nat→Option Nat} {n:Nat} {z:List V} {tr:Trie V} {p:Bool} {cs us:List V} (hc:cellsOf n z tr n 0=some cs) (hr:eZ m us cs) {N:Nat} (hN:N=n):fD m (.cells N [] (ai us .leaf 0) false false) (.cells n z tr p false):=by
 subst hN
 obtain⟨_,g2⟩:=gR _ _ hc
 refine .cells (fun h=>by cases h) fun i v hi=>?_
 rcases gx hi with ⟨_,h2,h3⟩ | ⟨_,h2⟩
 ·rw[Nat.sub_zero] at h3
  obtain⟨u,hu,hv⟩:=hr.get h3
  have:=g2 i u hu
  rw[Nat.zero_add] at this
  exact⟨u,this,hv⟩
 ·unfold cellOf at h2
  split at h2
  ·rw[Trie.fw] at h2;simp [ea] at h2
  ·cases h2
omit [Env] in
theorem lU.len {σ:St} {v:V} {s:SV} {bs:List Nat} (h:lU σ v s bs):s.nb=bs.length∧∀b,(s.ny b).length=bs.length:=by
 cases h with
 | val=>exact⟨rfl,fun _=>rfl⟩
 | row h=>exact⟨rfl,fun _=>rfl⟩
 | box hb hc=>exact⟨rfl,fun _=>rfl⟩
 | ptr hb hc hp=>exact⟨by show Go.Ev.len (o9 _)+1=_;rw[aP,hp.len.1];rfl,fun _=>congrArg (·+1) hp.len.1⟩
 | sl hb hc hp=>exact⟨by show Go.Ev.len (o9 _)+1=_;rw[aP,hp.len.1];rfl,fun _=>congrArg (·+1) hp.len.1⟩
theorem lU.An {σ:St} {v:V} {s:SV} {bs:List Nat} (h:lU σ v s bs) (hc:s.clean) {m:Nat→Option Nat} {b:Nat} (hm:iV m b bs):eL m (s.v b) v:=by
 cases h with
 | val=>exact .clean hc
 | row h=>exact h.val hm.head
 | box hb dH=>exact .ptr hm.head
 | ptr hb dH hp=>exact .ptr hm.head
 | sl hb dH hp=>exact .slice hm.head
theorem lU.afE {σ:St} {v:V} {s:SV} {bs:List Nat} (h:lU σ v s bs) (hc:s.clean) {m:Nat→Option Nat} {b:Nat} (hm:iV m b bs) {i:Nat} {q:bU} (hq:(s.ny b)[i]? =some q):∃c q',bs[i]? =some c∧σ.heap.get c=some q'∧fD m q q':=by
 have nest:∀ {Qa N:Nat} {z:List V} {tr:Trie V} {p:Bool} {cs:List V} {ps:List SP} {l3:List Nat},bs=Qa::l3→σ.heap.get Qa=some (.cells N z tr p false)→cellsOf N z tr N 0=some cs→lT σ cs ps l3→(∀p∈ps,p.clean)→
   (bU.cells (Go.Ev.len ps) [] (ai (Lm ps (Nat.add b 1)) .leaf 0) false false::o9 ps)[i]? =some q→∃c q',bs[i]? =some c∧σ.heap.get c=some q'∧fD m q q':=by
  intro Qa N z tr p cs ps l3 e hb dH hp jo hq
  subst e
  cases i with
  | zero=>
   have og:some _=some q:=hq
   cases og
   refine⟨_,_,rfl,hb,Cr dH (hp.An jo hm.tail) ?_⟩
   rw[aP,hp.len.2];exact(gR _ _ dH).1
  | succ i=>exact hp.ny jo m (i:=i) (by simpa using hq)
 cases h with
 | val=>simp [SV.ny] at hq
 | row h=>
  cases i with
  | zero=>
   have og:some _=some q:=hq
   cases og
   obtain⟨q',h1,h2⟩:=h.di hc m
   exact⟨_,q',rfl,h1,h2⟩
  | succ i=>simp [SV.ny] at hq
 | box hb dH=>
  cases i with
  | zero=>
   have og:some _=some q:=hq
   cases og
   exact⟨_,_,rfl,hb,Cr dH (eZ.clean hc) (by rw[aP];exact(gR _ _ dH).1)⟩
  | succ i=>simp [SV.ny] at hq
 | ptr hb dH hp=>exact nest rfl hb dH hp hc hq
 | sl hb dH hp=>exact nest rfl hb dH hp hc hq
omit [Env] in
theorem EV {b:Nat}:∀ {l:List Nat} {i c:Nat},P7 b l i=some c→i≤c∧l[c-i]? =some b
 | [],i,c,h=>by cases h
 | x::l,i,c,h=>by
  have h':(match Nat.beq b x with | true=>some i | false=>P7 b l (Nat.add i 1))=some c:=h
  split at h'
  ·rename_i hb
   cases h'
   exact⟨Nat.le_refl _,by rw[Nat.sub_self,Nat.eq_of_beq_eq_true hb];rfl⟩
  ·obtain⟨h1,h2⟩:=EV h'
   have h1:i+1≤c:=h1
   have h2:l[c-(i+1)]? =some b:=h2
   exact⟨by omega,by rw[show c-i=(c-(i+1))+1 by omega,List.getElem?_cons_succ];exact h2⟩
inductive jP (a:Act) (σ:St):List Nat→List Nat→List SV→List Nat→Prop
 | nil {seen:List Nat}:jP a σ seen [] [] []
 | al {seen:List Nat} {t b n esz c:Nat} {l:List Nat} {ss:List SV} {cs:List Nat} (h:a.tmps.get t=some (.own b n esz)) (hc:seen[c]? =some b) (hl:jP a σ seen l ss cs):jP a σ seen (t::l) (.al c n esz::ss) cs
 | cons {seen:List Nat} {t:Nat} {v:V} {s:SV} {l:List Nat} {ss:List SV} {bs cs:List Nat} (h:a.tmps.get t=some v) (hs:lU σ v s bs) (hl:jP a σ (seen++bs) l ss cs):jP a σ seen (t::l) (s::ss) (bs++cs)
omit [Env] in
theorem tz {a:Act} {σ:St}:∀ {ls seen:List Nat} {k:List SV→List Nat→Prop},zw a σ ls seen k→∃ss bs,jP a σ seen ls ss bs∧k ss bs
 | [],seen,k,h=>⟨[],[],.nil,h⟩
 | t::l,seen,k,h=>by
  have h':(match a.tmps.get t with
   | some v=>match wT seen v with
    | some (c,n,esz)=>zw a σ l seen fun ss bs=>k (.al c n esz::ss) bs
    | none=>zu σ (fun s b=>zw a σ l (EU seen b) fun ss bs=>k (s::ss) (EU b bs)) v
   | none=>False):=h
  cases hv:a.tmps.get t with
  | none=>rw[hv] at h';exact h'.elim
  | some v=>
   rw[hv] at h'
   dsimp only at h'
   cases ha:wT seen v with
   | some q=>
    obtain⟨c,n,esz⟩:=q
    rw[ha] at h'
    obtain⟨ss,bs,h3,h4⟩:=tz h'
    unfold wT at ha
    split at ha
    ·rename_i b n' tc
     split at ha
     ·rename_i c' hp
      cases ha
      exact⟨_,_,.al hv (by have:=(EV hp).2;rwa [Nat.sub_zero] at this) h3,h4⟩
     ·cases ha
    ·cases ha
   | none=>
    rw[ha] at h'
    obtain⟨s,b,h1,h2⟩:=Lq h'
    rw[HS] at h2
    obtain⟨ss,bs,h3,h4⟩:=tz h2
    rw[HS] at h4
    exact⟨_,_,.cons hv h1 h3,h4⟩
omit [Env] in
theorem EW:∀ {ls:List Nat} {vs:List V} {t:Nat} {v:V},(P6 ls vs).get t=some v→∃i:Nat,ls[i]? =some t∧vs[i]? =some v
 | [],vs,t,v,h=>by cases h
 | u::ls,[],t,v,h=>by cases h
 | u::ls,w::vs,t,v,h=>by
  have h':((P6 ls vs).put u w).get t=some v:=h
  rw[bK.b9] at h'
  by_cases e:t=u
  ·rw[if_pos e] at h'
   exact⟨0,by rw[e];rfl,h'⟩
  ·rw[if_neg e] at h'
   obtain⟨i,h1,h2⟩:=EW h'
   exact⟨i+1,by simpa using h1,by simpa using h2⟩
omit [Env] in
theorem Cs:∀ {ks:List bU} {n i:Nat} {k:bU},(Lo ks n).get i=some k→n≤i∧ks[i-n]? =some k
 | [],n,i,k,h=>by
  have h':(Trie.leaf:Trie bU).get i=some k:=h
  rw[Trie.fw] at h';cases h'
 | q::ks,n,i,k,h=>by
  have h':((Lo ks (n+1)).put n (some q)).get i=some k:=h
  rw[Trie.b9] at h'
  by_cases e:i=n
  ·subst e
   rw[if_pos rfl] at h'
   exact⟨Nat.le_refl _,by rw[Nat.sub_self];exact h'⟩
  ·rw[if_neg e] at h'
   obtain⟨h1,h2⟩:=Cs h'
   exact⟨by omega,by rw[show i-n=(i-(n+1))+1 by omega,List.getElem?_cons_succ];exact h2⟩
omit [Env] in
theorem jP.len {a:Act} {σ:St} {seen ls:List Nat} {ss:List SV} {bs:List Nat} (h:jP a σ seen ls ss bs):∀b,(mU ss b).length=bs.length:=by
 induction h with
 | nil=>exact fun _=>rfl
 | al h hc hl ih=>exact fun b=>ih _
 | cons h hs hl ih=>
  intro b
  show(Ln _ _).length=_
  rw[HR,List.length_append,List.length_append,hs.len.2]
  exact congrArg (_+·) (ih _)
theorem jP.zr {a:Act} {σ:St} {seen ls:List Nat} {ss:List SV} {bs:List Nat} (h:jP a σ seen ls ss bs):(∀s∈ss,s.clean)→∀ {m:Nat→Option Nat},iV m 0 (seen++bs)→∀ {i t:Nat} {v:V},ls[i]? =some t→(Oc ss seen.length)[i]? =some v→
  ∃u,a.tmps.get t=some u∧eL m v u:=by
 induction h with
 | nil=>intro _ m _ i t v h1;simp at h1
 | @al seen XZ b n esz c l ss cs h hc hl ih=>
  intro jo m hm i t v h1 h2
  cases i with
  | zero=>
   simp at h1;subst h1
   have pG:some _=some v:=h2
   cases pG
   refine⟨_,h,.own ?_⟩
   have:=hm c b (by rw[List.getElem?_append_left (List.getElem?_eq_some_iff.1 hc).1];exact hc)
   rwa [Nat.zero_add] at this
  | succ i=>exact ih (fun s hs=>jo s (List.mem_cons_of_mem _ hs)) hm (i:=i) (by simpa using h1) h2
 | @cons seen XZ akA s l ss bs cs h hs hl ih=>
  intro hc m hm i t v h1 h2
  cases i with
  | zero=>
   simp at h1;subst h1
   have pG:some _=some v:=h2
   cases pG
   refine⟨_,h,hs.An (hc _ List.mem_cons_self) (fun j d hd=>?_)⟩
   have:=hm (seen.length+j) d (by rw[List.getElem?_append_right (by omega),show seen.length+j-seen.length=j by omega,List.getElem?_append_left (List.getElem?_eq_some_iff.1 hd).1];exact hd)
   rwa [Nat.zero_add] at this
  | succ i=>
   refine ih (fun s hs=>hc s (List.mem_cons_of_mem _ hs)) (by rw[List.append_assoc];exact hm) (i:=i) (by simpa using h1) ?_
   rw[List.length_append,←hs.len.1];exact h2
theorem jP.ny {a:Act} {σ:St} {seen ls:List Nat} {ss:List SV} {bs:List Nat} (h:jP a σ seen ls ss bs):(∀s∈ss,s.clean)→∀ {m:Nat→Option Nat},iV m 0 (seen++bs)→∀ {i:Nat} {k:bU},(mU ss seen.length)[i]? =some k→∃c k',bs[i]? =some c∧σ.heap.get c=some k'∧fD m k k':=by
 induction h with
 | nil=>intro _ m _ i k h;simp [mU] at h
 | al h hc hl ih=>exact fun jo {m} hm {i k} hk=>ih (fun s hs=>jo s (List.mem_cons_of_mem _ hs)) hm hk
 | @cons seen t v s l ss bs cs h hs hl ih=>
  intro hc m hm i k hk
  replace hk:(Ln (s.ny seen.length) (mU ss (Nat.add seen.length s.nb)))[i]? =some k:=hk
  rw[HR] at hk
  rcases Nat.lt_or_ge i (s.ny seen.length).length with bE | pO
  ·rw[List.getElem?_append_left bE] at hk
   obtain⟨c,q,h1,h2,h3⟩:=hs.afE (hc _ List.mem_cons_self) (m:=m) (fun j d hd=>by
    have:=hm (seen.length+j) d (by rw[List.getElem?_append_right (by omega),show seen.length+j-seen.length=j by omega,List.getElem?_append_left (List.getElem?_eq_some_iff.1 hd).1];exact hd)
    rwa [Nat.zero_add] at this) hk
   exact⟨c,q,by rw[List.getElem?_append_left (List.getElem?_eq_some_iff.1 h1).1];exact h1,h2,h3⟩
  ·rw[List.getElem?_append_right pO] at hk
   obtain⟨c,q,h1,h2,h3⟩:=ih (fun s hs=>hc s (List.mem_cons_of_mem _ hs)) (m:=m) (by rw[List.append_assoc];exact hm) (i:=i-(s.ny seen.length).length) (k:=k) (by rw[List.length_append,←hs.len.1];exact hk)
   rw[hs.len.2] at pO h1
   exact⟨c,q,by rw[List.getElem?_append_right pO];exact h1,h2,h3⟩
omit [Env] in
theorem zx:∀ {l:List Nat},ES l=true→∀(i j c:Nat),l[i]? =some c→l[j]? =some c→i=j
 | [],_,i,j,c,h,_=>by simp at h
 | a::t,hn,i,j,c,hi,hj=>by
  have oN:(!ER a t&&ES t)=true:=hn
  rw[Bool.and_eq_true] at oN
  have cZ:∀ {l:List Nat} {n k:Nat},l[k]? =some n→ER n l=true:=by
   intro l
   induction l with
   | nil=>intro n k h;simp at h
   | cons x l ih=>
    intro n k h
    show(Nat.beq n x||ER n l)=true
    cases k with
    | zero=>simp at h;subst h;rw[Nat.beq_refl,Bool.true_or]
    | succ k=>rw[ih (k:=k) (by simpa using h),Bool.or_true]
  have Tl:ER a t=false:=by simpa using oN.1
  cases i with
  | zero=>
   cases j with
   | zero=>rfl
   | succ j=>
    simp at hi;subst hi
    have:=cZ (l:=t) (k:=j) (by simpa using hj)
    rw[Tl] at this;cases this
  | succ i=>
   cases j with
   | zero=>
    simp at hj;subst hj
    have:=cZ (l:=t) (k:=i) (by simpa using hi)
    rw[Tl] at this;cases this
   | succ j=>rw[zx oN.2 i j c (by simpa using hi) (by simpa using hj)]
omit [Env] in
theorem EX:∀ {n k:Nat} {l:List Nat},P8 n k l=true→n≤l.length∧∀i,i<n→l[i]? =some (k+i)
 | 0,_,_,_=>⟨Nat.zero_le _,fun i hi=>absurd hi (Nat.not_lt_zero i)⟩
 | n+1,k,[],h=>by cases h
 | n+1,k,b::r,h=>by
  have h':(Nat.beq b k&&P8 n (k+1) r)=true:=h
  rw[Bool.and_eq_true] at h'
  obtain⟨h1,h2⟩:=EX h'.2
  refine⟨by simp;omega,fun i hi=>?_⟩
  cases i with
  | zero=>rw[Nat.eq_of_beq_eq_true h'.1];rfl
  | succ i=>rw[List.getElem?_cons_succ,h2 i (by omega),show k+1+i=k+(i+1) by omega]
theorem tA {n₀ size:Nat} {live:List Nat} {a:Act} {σ:St} {k:List SV→Prop} (h:mV n₀ size live a σ k):∃ss,k ss∧((∀s∈ss,s.clean)→∃m,pY n₀ m (HP size live ss) (HQ ss) a σ):=by
 unfold mV at h
 split at h
 ·rename_i hd hs
  obtain⟨ss,bs,h1,h2⟩:=tz h
  split at h2
  ·rename_i hn
   rw[Bool.and_eq_true] at hn
   obtain⟨hpf,hn⟩:=hn
   obtain⟨hp1,hp2⟩:=EX hpf
   refine⟨ss,h2,fun hc=>⟨fun b=>bs[b]?,?_⟩⟩
   refine⟨(Nat.eq_of_beq_eq_true hs).symm,rfl,hd,fun i v hv=>?_,fun i k hk=>?_,fun i j c=>zx hn i j c,fun i hi=>?_,fun i hi=>by rw[hp2 i hi,Nat.zero_add],by show n₀≤len (mU ss 0);rw[aP,h1.len];exact hp1⟩
   ·obtain⟨j,e1,e2⟩:=EW hv
    exact h1.zr hc (m:=fun b=>bs[b]?) (fun i c hc=>by rw[Nat.zero_add];exact hc) e1 e2
   ·obtain⟨_,e⟩:=Cs (n:=0) hk
    exact h1.ny hc (m:=fun b=>bs[b]?) (fun i c hc=>by rw[Nat.zero_add];exact hc) (by simpa using e)
   ·have eW:(mU ss 0).length≤i:=by
     have:len (mU ss 0)≤i:=hi
     rwa [aP] at this
    rw[h1.len] at eW
    exact List.getElem?_eq_none eW
  ·exact h2.elim
 ·exact h.elim
noncomputable def KF (P:Program) (call:FuncId→List V→St→ah→Prop) (n₀ size:Nat) (live:Nat→List Nat) (A:Nat→List SV→Prop):ff P:=
 {call:=call,loop:=fun _ _ i _ _ a σ=>mV n₀ size (live i) a σ (A i)}
variable {P:Program} [eQ P] {fn:FuncId}
theorem cT.cf {call:FuncId→List V→St→ah→Prop} (eD:∀ {f vs σ k},call f vs σ k→ag P f vs k σ) {n₀ size:Nat} {live:Nat→List Nat} {c:Code} (hp:iU c=true) {Q:cp}
  {α:Type} {r:α→α→Prop} (wf:WellFounded r) (μ:Nat→List SV→α) (I:Nat→List SV→Prop) (hc:∀k ss,I k ss→∀s∈ss,s.clean)
  (mP:∀k x,(ba c)[k]? =some x→∀ss,I k ss→ws P (KF P call n₀ size live fun k' fE=>I k' fE∧r (μ k' fE) (μ k ss)) fn none (Nat.add k 1) x
   (jg (fun a σ=>mV n₀ size (live k) a σ fun fE=>I k fE∧r (μ k fE) (μ k ss)) (behind P (KF P call n₀ size live fun k' fE=>I k' fE∧r (μ k' fE) (μ k ss)) fn c 0 k Q)) (HP size (live k) ss) (HQ ss)):
  ∀k x,(ba c)[k]? =some x→∀ss,I k ss→cT P n₀ x (cd P n₀ c k Q) (HP size (live k) ss) (HQ ss):=by
 have key:∀(q:α),∀k x,(ba c)[k]? =some x→∀ss,I k ss→μ k ss=q→cT P n₀ x (cd P n₀ c k Q) (HP size (live k) ss) (HQ ss):=by
  intro q
  induction q using wf.induction with
  | _ q ih=>
   intro k x hx ss hI hq
   have hK:(KF P call n₀ size live fun k' fE=>I k' fE∧r (μ k' fE) (μ k ss)).Ob n₀:=⟨⟨fun h=>eD h,fun h=>h⟩,fun h=>bM.of h⟩
   have H:∀j z,(ba c)[j]? =some z→∀a σ (dQ:cp),(KF P call n₀ size live fun k' fE=>I k' fE∧r (μ k' fE) (μ k ss)).loop fn none j z dQ a σ→cT P n₀ z (cd P n₀ c j Q) a σ:=by
    intro j z hz a σ dQ hA
    obtain⟨fE,⟨g1,g2⟩,g3⟩:=tA (show mV n₀ size (live j) a σ _ from hA)
    obtain⟨m,hf⟩:=g3 (hc j fE g1)
    exact(ih (μ j fE) (by rw[←hq];exact g2) j z hz fE g1 rfl).Cq hf
   have:=mP k x hx ss hI
   refine cT.round (bM.ia hK x (i:=k+1) (fun e a σ h=>?_) (fun j z hz a σ dQ hA=>?_) this)
   ·cases e with
    | normal=>exact H k x hx a σ (fun _ _ _=>True) h
    | exit i=>exact eX hK c (i:=0) (Q:=Q) (Q':=Q) (fun _ _ _ h=>h) (fun j z hz a σ dQ hA=>H j z hz a σ dQ (by rw[Nat.zero_add] at hA;exact hA)) h
    | goto i=>exact eX hK c (i:=0) (Q:=Q) (Q':=Q) (fun _ _ _ h=>h) (fun j z hz a σ dQ hA=>H j z hz a σ dQ (by rw[Nat.zero_add] at hA;exact hA)) h
    | ret=>exact eX hK c (i:=0) (Q:=Q) (Q':=Q) (fun _ _ _ h=>h) (fun j z hz a σ dQ hA=>H j z hz a σ dQ (by rw[Nat.zero_add] at hA;exact hA)) h
   ·rw[←Ll c hp hx hz]
    exact H (k+1+j) z (tt c hx hz) a σ dQ hA
 exact fun k x hx ss hI=>key _ k x hx ss hI rfl
theorem ag.cf {call:FuncId→List V→St→ah→Prop} (eD:∀ {f vs σ k},call f vs σ k→ag P f vs k σ) {g:Func} {c:Code} {vs:List V} {Q:ah} (hf:P.funcs[fn]? =some g) (hb:g.body=some c) (hn:(g.name== "runtime.NumGoroutine")=false) (hp:iU c=true) {σ:St} {n₀:Nat} (zy:σ.next=n₀)
  {live:Nat→List Nat} {α:Type} {r:α→α→Prop} (wf:WellFounded r) (μ:Nat→List SV→α) (I:Nat→List SV→Prop) (hc:∀k ss,I k ss→∀s∈ss,s.clean)
  (vY:ws P (KF P call n₀ g.ntmps live I) fn none 0 c (pX P g Q) (my g.ntmps vs) σ)
  (mP:∀k x,(ba c)[k]? =some x→∀ss,I k ss→ws P (KF P call n₀ g.ntmps live fun k' fE=>I k' fE∧r (μ k' fE) (μ k ss)) fn none (Nat.add k 1) x
   (jg (fun a σ=>mV n₀ g.ntmps (live k) a σ fun fE=>I k fE∧r (μ k fE) (μ k ss)) (behind P (KF P call n₀ g.ntmps live fun k' fE=>I k' fE∧r (μ k' fE) (μ k ss)) fn c 0 k (pX P g Q))) (HP g.ntmps (live k) ss) (HQ ss))
  (hl:∀x,c≠.loop x):ag P fn vs Q σ:=by
 subst zy
 have hL:=cT.cf (fn:=fn) (call:=call) (n₀:=σ.next) (size:=g.ntmps) (live:=live) (Q:=pX P g Q) (fun h=>eD h) hp wf μ I hc mP
 have hK:(KF P call σ.next g.ntmps live I).Ob σ.next:=⟨⟨fun h=>eD h,fun h=>h⟩,fun h=>bM.of h⟩
 have hN:bM P σ.next c (pX P g Q) (my g.ntmps vs) σ:=bM.ia hK c (i:=0) (fun _ _ _ h=>h) (fun j z hz a τ dQ hA=>by
  rw[Nat.zero_add] at hA
  obtain⟨fE,g1,g3⟩:=tA (show mV σ.next g.ntmps (live j) a τ _ from hA)
  obtain⟨m,hf⟩:=g3 (hc j fE g1)
  exact(hL j z hz fE g1).Cq hf) vY
 exact ag.TP hf hb hn (bM.vU (fn:=fn) hl hN)
end
end Go.Ev
