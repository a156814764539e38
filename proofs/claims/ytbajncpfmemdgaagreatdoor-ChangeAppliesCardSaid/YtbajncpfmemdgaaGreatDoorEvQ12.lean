/- Proved: parts of the way: Floyd. -/
import Derived.Test.YtbajncpfmemdgaaGreatDoorEvQ11
set_option linter.unusedVariables false
set_option linter.unusedSimpArgs false
namespace Go.Ev
open Go
section
variable [Env]
structure bM (P:Program) (n₀:Nat) (c:Code) (Q:dw) (a:Act) (σ:St):Prop where
 ex:∃e a σ,Q e a σ
 h:n₀≤σ.next→∀(ρ:Ren) (w:World) (a':Go.Act),R ρ σ w→bO ρ a a'→c.wpIn Fence.wide 0 P (gO n₀ Q ρ σ w) a' w
variable {P:Program} {fn:FuncId} {n₀:Nat}
theorem bM.of [iX P] {c:Code} {Q:dw} {a:Act} {σ:St} (h:sP P fn none c Q a σ):bM P n₀ c Q a σ:=by
 have hs:=h.G2
 refine⟨?_,fun hn ρ w a' hr ha=>wpIn_mono (dA.at hs ρ w a' Fence.wide hr ha rfl).1 fun e bf bq fS=>?_⟩
 ·obtain⟨⟨o,τ⟩,hx⟩:=hs.1
  cases o with
  | val v=>exact hx.elim
  | exit e a=>exact⟨e,a,τ,hx⟩
 ·obtain⟨y,ba,cc,bC,h1,h2,h3,h4⟩:=fS
  exact⟨y,ba,cc,bC,h1,h2,h3,kL.of hn h4⟩
theorem bM.G2 {c:Code} (hc:∀x,c≠.loop x) {Q:dw} {a:Act} {σ:St} (h:bM P σ.next c Q a σ):dA P (.code none fn c a) σ (w7 Q):=by
 refine⟨let ⟨e,a,τ,hx⟩:=h.ex;⟨(.exit e a,τ),hx⟩,?_⟩
 intro ρ w a' F hr ha bH
 have hF:F=Fence.wide:=bH
 subst hF
 refine⟨wpIn_mono (h.h (Nat.le_refl _) ρ w a' hr ha) fun e bf bq hx=>?_,fun x hx=>absurd hx (hc x)⟩
 obtain⟨y,bf,aJ,ct,h1,h2,h3,h4⟩:=hx
 exact⟨y,bf,aJ,ct,h1,h2,h3,h4.to hr⟩
theorem bM.mono {c:Code} {Q Q':dw} {a:Act} {σ:St} (h:bM P n₀ c Q a σ) (hq:∀e a σ,Q e a σ→Q' e a σ):bM P n₀ c Q' a σ:=by
 refine⟨let ⟨e,a,τ,hx⟩:=h.ex;⟨e,a,τ,hq _ _ _ hx⟩,fun hn ρ w a' hr ha=>wpIn_mono (h.h hn ρ w a' hr ha) fun e bf bq hx=>?_⟩
 obtain⟨y,ba,cc,bC,h1,h2,h3,h4⟩:=hx
 exact⟨y,ba,cc,bC,hq _ _ _ h1,h2,h3,h4⟩
theorem gO.trans {Q:dw} {ρ ct:Ren} {σ aJ:St} {w bq fD:World} {e:Exit} {a:Go.Act} (h:kL n₀ ρ σ w ct aJ bq) (k:gO n₀ Q ct aJ bq e a fD):gO n₀ Q ρ σ w e a fD:=by
 obtain⟨y,ba,cc,bC,h1,h2,h3,h4⟩:=k
 exact⟨y,ba,cc,bC,h1,h2,h3,h.trans h4⟩
theorem bM.seq {x y:Code} {Q:dw} {a:Act} {σ:St} (h:bM P n₀ x (kK (bM P n₀ y Q) Q) a σ):bM P n₀ (.seq x y) Q a σ:=by
 constructor
 ·obtain⟨e,a,τ,hx⟩:=h.ex
  cases e with
  | normal=>exact bM.ex hx
  | exit i=>exact⟨_,_,_,hx⟩
  | goto i=>exact⟨_,_,_,hx⟩
  | ret=>exact⟨_,_,_,hx⟩
 ·intro hn ρ w a' hr ha
  refine wpIn_seq (wpIn_mono (h.h hn ρ w a' hr ha) fun e bf bq fS=>?_)
  obtain⟨z,ba,cc,bC,h1,rfl,h3,h4⟩:=fS
  cases z with
  | normal=>
   have h1:bM P n₀ y Q ba cc:=h1
   exact wpIn_mono (h1.h h4.next bC bq bf h4.r h3) fun e a w hx=>gO.trans h4 hx
  | exit i=>exact⟨.exit i,ba,cc,bC,h1,rfl,h3,h4⟩
  | goto i=>exact⟨.goto i,ba,cc,bC,h1,rfl,h3,h4⟩
  | ret=>exact⟨.ret,ba,cc,bC,h1,rfl,h3,h4⟩
theorem bM.cond {x:Operand} {y z:Code} {Q:dw} {a:Act} {σ:St} (h:Kt (bM P n₀ y Q a σ) (bM P n₀ z Q a σ) (a.eval x)):bM P n₀ (.cond x y z) Q a σ:=by
 cases hx:a.eval x with
 | none=>rw[hx] at h;exact h.elim
 | some v=>
  rw[hx] at h
  cases v with
  | bool b=>
   cases b with
   | true=>
    have h:bM P n₀ y Q a σ:=h
    exact⟨h.ex,fun hn ρ w a' hr ha=>wpIn_cond_true ((ha.eval x hx).rv) (h.h hn ρ w a' hr ha)⟩
   | false=>
    have h:bM P n₀ z Q a σ:=h
    exact⟨h.ex,fun hn ρ w a' hr ha=>wpIn_cond_false ((ha.eval x hx).rv) (h.h hn ρ w a' hr ha)⟩
  | _=>exact h.elim
theorem bM.block {id:Nat} {x:Code} {Q:dw} {a:Act} {σ:St} (h:bM P n₀ x (rC id Q) a σ):bM P n₀ (.block id x) Q a σ:=by
 constructor
 ·obtain⟨e,a,τ,hx⟩:=h.ex
  cases e with
  | normal=>exact⟨_,_,_,hx⟩
  | exit i=>
   have cX:(if i=id then Q .normal else Q (.exit i)) a τ:=hx
   by_cases e:i=id
   ·rw[if_pos e] at cX;exact⟨_,_,_,cX⟩
   ·rw[if_neg e] at cX;exact⟨_,_,_,cX⟩
  | goto i=>exact⟨_,_,_,hx⟩
  | ret=>exact⟨_,_,_,hx⟩
 ·intro hn ρ w a' hr ha
  refine wpIn_block (wpIn_mono (h.h hn ρ w a' hr ha) fun e bf bq fS=>?_)
  obtain⟨z,b,σ',ρ',h1,rfl,h3,h4⟩:=fS
  cases z with
  | normal=>exact⟨.normal,_,_,_,h1,rfl,h3,h4⟩
  | exit i=>
   have fi:(if i=id then Q .normal else Q (.exit i)) b σ':=h1
   by_cases hi:i=id
   ·simp only[ry,Exit.inBlock,hi,if_true]
    rw[if_pos hi] at fi
    exact⟨.normal,_,_,_,fi,rfl,h3,h4⟩
   ·simp only[ry,Exit.inBlock,hi,if_false]
    rw[if_neg hi] at fi
    exact⟨.exit i,_,_,_,fi,rfl,h3,h4⟩
  | goto l=>exact⟨.goto l,_,_,_,h1,rfl,h3,h4⟩
  | ret=>exact⟨.ret,_,_,_,h1,rfl,h3,h4⟩
theorem bM.scope {x:Code} {Q:dw} {a:Act} {σ:St} (h:bM P n₀ x (rG Q) a σ):bM P n₀ (.scope x) Q a σ:=by
 constructor
 ·obtain⟨e,a,τ,hx⟩:=h.ex
  cases e with
  | normal=>exact⟨_,_,_,hx⟩
  | exit i=>exact⟨_,_,_,hx⟩
  | goto i=>exact hx.elim
  | ret=>exact⟨_,_,_,hx⟩
 ·intro hn ρ w a' hr ha
  refine uc (yH (wpIn_mono (h.h hn ρ w a' hr ha) fun e bf bq fS=>?_))
  obtain⟨z,b,σ',ρ',h1,rfl,h3,h4⟩:=fS
  cases z with
  | normal=>exact⟨.normal,_,_,_,h1,rfl,h3,h4⟩
  | exit i=>exact⟨.exit i,_,_,_,h1,rfl,h3,h4⟩
  | goto l=>exact h1.elim
  | ret=>exact⟨.ret,_,_,_,h1,rfl,h3,h4⟩
theorem e9.code {x:Code} {Q:dw} {a:Act} {σ:St} (h:e9 P n₀ x Q a σ):bM P n₀ (.loop x) Q a σ:=⟨h.ex,fun hn ρ w a' hr ha=>(h.h hn ρ w a' hr ha).1⟩
theorem e9.round {x:Code} {Q:dw} {a:Act} {σ:St} (h:bM P n₀ x (kK (e9 P n₀ x Q) Q) a σ):e9 P n₀ x Q a σ:=by
 constructor
 ·obtain⟨e,a,τ,hx⟩:=h.ex
  cases e with
  | normal=>exact e9.ex hx
  | exit i=>exact⟨_,_,_,hx⟩
  | goto i=>exact⟨_,_,_,hx⟩
  | ret=>exact⟨_,_,_,hx⟩
 ·intro hn ρ w a' hr ha
  refine u9 (wpIn_mono (h.h hn ρ w a' hr ha) fun e bf bq fS=>?_)
  obtain⟨y,ba,cc,bC,h1,rfl,h3,h4⟩:=fS
  cases y with
  | normal=>
   have h1:e9 P n₀ x Q ba cc:=h1
   exact(h1.h h4.next bC bq bf h4.r h3).2.mono fun e a w hx=>gO.trans h4 hx
  | exit i=>exact⟨.exit i,ba,cc,bC,h1,rfl,h3,h4⟩
  | goto i=>exact⟨.goto i,ba,cc,bC,h1,rfl,h3,h4⟩
  | ret=>exact⟨.ret,ba,cc,bC,h1,rfl,h3,h4⟩
noncomputable def behind (P:Program) (K:gq P) (fn:FuncId):Code→Nat→Nat→dw→dw
 | .seq x y,i,j,Q=>match Nat.blt j (aS x) with
  | true=>behind P K fn x i j (kK (ws P K fn none (Nat.add i (aS x)) y Q) Q)
  | false=>behind P K fn y (Nat.add i (aS x)) (Nat.sub j (aS x)) Q
 | .cond _ x y,i,j,Q=>match Nat.blt j (aS x) with
  | true=>behind P K fn x i j Q
  | false=>behind P K fn y (Nat.add i (aS x)) (Nat.sub j (aS x)) Q
 | .block id x,i,j,Q=>behind P K fn x i j (rC id Q)
 | .scope x,i,j,Q=>behind P K fn x i j (rG Q)
 | .loop x,i,j,Q=>match j with
  | 0=>Q
  | j+1=>behind P K fn x (Nat.add i 1) j (kK (K.loop fn none i x Q) Q)
 | _,_,_,_=>fun _ _ _=>False
def bZ (P:Program) (n₀:Nat):Code→Nat→dw→dw
 | .seq x y,j,Q=>match Nat.blt j (aS x) with
  | true=>bZ P n₀ x j (kK (bM P n₀ y Q) Q)
  | false=>bZ P n₀ y (Nat.sub j (aS x)) Q
 | .cond _ x y,j,Q=>match Nat.blt j (aS x) with
  | true=>bZ P n₀ x j Q
  | false=>bZ P n₀ y (Nat.sub j (aS x)) Q
 | .block id x,j,Q=>bZ P n₀ x j (rC id Q)
 | .scope x,j,Q=>bZ P n₀ x j (rG Q)
 | .loop x,j,Q=>match j with
  | 0=>Q
  | j+1=>bZ P n₀ x j (kK (e9 P n₀ x Q) Q)
 | _,_,_=>fun _ _ _=>False
omit [Env] in
theorem oS {x y:Code} {j:Nat} {z:Code} (h:(bk x)[j]? =some z):(bk x++bk y)[j]? =some z∧Nat.blt j (aS x)=true:=by
 have bI:=(List.getElem?_eq_some_iff.1 h).1
 refine⟨by rw[List.getElem?_append_left bI];exact h,?_⟩
 rw[Nat.blt_eq,←eI];exact bI
omit [Env] in
theorem nG {x y:Code} {j:Nat} {z:Code} (h:(bk y)[j]? =some z):(bk x++bk y)[aS x+j]? =some z∧Nat.blt (aS x+j) (aS x)=false:=by
 refine⟨by rw[List.getElem?_append_right (by rw[eI];omega),eI,show aS x+j-aS x=j by omega];exact h,?_⟩
 cases hb:Nat.blt (aS x+j) (aS x) with
 | false=>rfl
 | true=>rw[Nat.blt_eq] at hb;omega
section
variable [iX P] {K:gq P}
structure gq.Nu (K:gq P) (n₀:Nat):Prop extends K.OkC where
 range:∀ {f:FuncId} {c:Code} {Q:dw} {a:Act} {σ:St},K.range f none c Q a σ→bM P n₀ c Q a σ
theorem bM.nH (hK:K.Nu n₀):∀(c:Code) {i:Nat} {Q Q':dw} (_:∀e a σ,Q e a σ→Q' e a σ)
  (_:∀j x,(bk c)[j]? =some x→∀a σ Q,K.loop fn none (i+j) x Q a σ→e9 P n₀ x (bZ P n₀ c j Q') a σ) {a:Act} {σ:St},ws P K fn none i c Q a σ→bM P n₀ c Q' a σ
 | .skip,i,Q,Q',hq,H,a,σ,h=>bM.of (fn:=fn) ⟨hq _ _ _ h⟩
 | .label l,i,Q,Q',hq,H,a,σ,h=>bM.of (fn:=fn) ⟨hq _ _ _ h⟩
 | .exit id,i,Q,Q',hq,H,a,σ,h=>bM.of (fn:=fn) ⟨hq _ _ _ h⟩
 | .goto l,i,Q,Q',hq,H,a,σ,h=>bM.of (fn:=fn) ⟨hq _ _ _ h⟩
 | .ret,i,Q,Q',hq,H,a,σ,h=>bM.of (fn:=fn) ⟨hq _ _ _ h⟩
 | .seq x y,i,Q,Q',hq,H,a,σ,h=>by
  refine .seq (bM.nH hK x (i:=i) (Q:=kK (ws P K fn none (Nat.add i (aS x)) y Q) Q) (fun e a σ h=>?_) (fun j z hz a σ dJ hA=>?_) h)
  ·cases e with
   | normal=>
    refine bM.nH hK y (i:=i+aS x) hq (fun j z hz a σ dJ hA=>?_) h
    obtain⟨h1,h2⟩:=nG (x:=x) hz
    have:=H (aS x+j) z h1 a σ dJ (by rw[←Nat.add_assoc];exact hA)
    unfold bZ at this
    rw[h2] at this
    dsimp only at this
    rw[show Nat.sub (aS x+j) (aS x)=j from Nat.add_sub_cancel_left _ _] at this
    exact this
   | exit i=>exact hq _ _ _ h
   | goto l=>exact hq _ _ _ h
   | ret=>exact hq _ _ _ h
  ·obtain⟨h1,h2⟩:=oS (y:=y) hz
   have:=H j z h1 a σ dJ hA
   unfold bZ at this
   rw[h2] at this
   exact this
 | .cond x y z,i,Q,Q',hq,H,a,σ,h=>by
  refine .cond ?_
  have h':Kt (ws P K fn none i y Q a σ) (ws P K fn none (Nat.add i (aS y)) z Q a σ) (a.eval x):=h
  revert h'
  cases a.eval x with
  | none=>exact id
  | some v=>cases v with
   | bool b=>
    refine fun h=>.mk (fun e=>bM.nH hK y (i:=i) hq (fun j t hz a σ dJ hA=>?_) (aa.y h e)) fun e=>bM.nH hK z (i:=i+aS y) hq (fun j t hz a σ dJ hA=>?_) (aa.z h e)
    ·obtain⟨h1,h2⟩:=oS (y:=z) hz
     have:=H j t h1 a σ dJ hA
     unfold bZ at this
     rw[h2] at this
     exact this
    ·obtain⟨h1,h2⟩:=nG (x:=y) hz
     have:=H (aS y+j) t h1 a σ dJ (by rw[←Nat.add_assoc];exact hA)
     unfold bZ at this
     rw[h2] at this
     dsimp only at this
     rw[show Nat.sub (aS y+j) (aS y)=j from Nat.add_sub_cancel_left _ _] at this
     exact this
   | _=>exact id
 | .block id x,i,Q,Q',hq,H,a,σ,h=>by
  refine .block (bM.nH hK x (i:=i) (Q:=rC id Q) (fun e a σ h=>?_) (fun j z hz a σ dJ hA=>H j z hz a σ dJ hA) h)
  cases e with
  | normal=>exact hq _ _ _ h
  | exit k=>
   have h':(if k=id then Q .normal else Q (.exit k)) a σ:=h
   show(if k=id then Q' .normal else Q' (.exit k)) a σ
   by_cases e:k=id
   ·rw[if_pos e] at h'⊢;exact hq _ _ _ h'
   ·rw[if_neg e] at h'⊢;exact hq _ _ _ h'
  | goto l=>exact hq _ _ _ h
  | ret=>exact hq _ _ _ h
 | .loop x,i,Q,Q',hq,H,a,σ,h=>(H 0 x rfl a σ Q h).code
 | .region id ops draw,i,Q,Q',hq,H,a,σ,h=>by
  have h':G3 P K none ops.toList (Q .normal) a σ draw:=h
  have hc:sP P fn none (.region id ops draw) Q a σ:=by
   cases draw with
   | false=>exact⟨yS hK.toOkC h'⟩
   | true=>
    have h':S3 P K none ops.toList (Q .normal) a σ (pj P ops.toList):=h'
    constructor
    show((match pj P ops.toList with
     | some l=>(⟨fun R ro a σ=>(l8 P ops.toList l).f R ro σ.next [ahead (len ops.toList) σ] a (ahead (len ops.toList) σ)⟩:yg)
     | none=>⟨fun _ _ _ _=>.fail "plan"⟩).f (fr P) none a σ).Holds (w7 Q)
    cases hp:pj P ops.toList with
    | none=>rw[hp] at h';exact h'.elim
    | some l=>rw[hp] at h';exact ve hK.toOkC h'
  exact(bM.of hc).mono hq
 | .rangeFunc _ _ _ _,i,Q,Q',hq,H,a,σ,h=>(hK.range h).mono hq
 | .scope x,i,Q,Q',hq,H,a,σ,h=>by
  refine .scope (bM.nH hK x (i:=i) (Q:=rG Q) (fun e a σ h=>?_) (fun j z hz a σ dJ hA=>H j z hz a σ dJ hA) h)
  cases e with
  | normal=>exact hq _ _ _ h
  | exit k=>exact hq _ _ _ h
  | goto l=>exact h.elim
  | ret=>exact hq _ _ _ h
 | .refuse _,i,Q,Q',hq,H,a,σ,h=>(bM.of (show sP P fn none _ Q a σ from h)).mono hq
theorem eR (hK:K.Nu n₀):∀(c:Code) {i j:Nat} {Q Q':dw} (_:∀e a σ,Q e a σ→Q' e a σ)
  (_:∀j x,(bk c)[j]? =some x→∀a σ Q,K.loop fn none (i+j) x Q a σ→e9 P n₀ x (bZ P n₀ c j Q') a σ) {e:Ex} {a:Act} {σ:St},behind P K fn c i j Q e a σ→bZ P n₀ c j Q' e a σ
 | .seq x y,i,j,Q,Q',hq,H,e,a,σ,h=>by
  have Hx:∀j z,(bk x)[j]? =some z→∀a σ Q,K.loop fn none (i+j) z Q a σ→e9 P n₀ z (bZ P n₀ x j (kK (bM P n₀ y Q') Q')) a σ:=by
   intro j z hz a σ dJ hA
   obtain⟨h1,h2⟩:=oS (y:=y) hz
   have:=H j z h1 a σ dJ hA
   unfold bZ at this
   rw[h2] at this
   exact this
  have Hy:∀j z,(bk y)[j]? =some z→∀a σ Q,K.loop fn none (i+aS x+j) z Q a σ→e9 P n₀ z (bZ P n₀ y j Q') a σ:=by
   intro j z hz a σ dJ hA
   obtain⟨h1,h2⟩:=nG (x:=x) hz
   have:=H (aS x+j) z h1 a σ dJ (by rw[←Nat.add_assoc];exact hA)
   unfold bZ at this
   rw[h2] at this
   dsimp only at this
   rw[show Nat.sub (aS x+j) (aS x)=j from Nat.add_sub_cancel_left _ _] at this
   exact this
  unfold behind at h
  unfold bZ
  cases hb:Nat.blt j (aS x) with
  | true=>
   rw[hb] at h
   refine eR hK x (i:=i) (fun e a σ h=>?_) Hx h
   cases e with
   | normal=>exact bM.nH hK y (i:=i+aS x) hq Hy h
   | exit i=>exact hq _ _ _ h
   | goto l=>exact hq _ _ _ h
   | ret=>exact hq _ _ _ h
  | false=>
   rw[hb] at h
   exact eR hK y (i:=i+aS x) hq Hy h
 | .cond _ x y,i,j,Q,Q',hq,H,e,a,σ,h=>by
  unfold behind at h
  unfold bZ
  cases hb:Nat.blt j (aS x) with
  | true=>
   rw[hb] at h
   refine eR hK x (i:=i) hq (fun j z hz a σ dJ hA=>?_) h
   obtain⟨h1,h2⟩:=oS (y:=y) hz
   have:=H j z h1 a σ dJ hA
   unfold bZ at this
   rw[h2] at this
   exact this
  | false=>
   rw[hb] at h
   refine eR hK y (i:=i+aS x) hq (fun j z hz a σ dJ hA=>?_) h
   obtain⟨h1,h2⟩:=nG (x:=x) hz
   have:=H (aS x+j) z h1 a σ dJ (by rw[←Nat.add_assoc];exact hA)
   unfold bZ at this
   rw[h2] at this
   dsimp only at this
   rw[show Nat.sub (aS x+j) (aS x)=j from Nat.add_sub_cancel_left _ _] at this
   exact this
 | .block id x,i,j,Q,Q',hq,H,e,a,σ,h=>by
  refine eR hK x (i:=i) (Q:=rC id Q) (fun e a σ h=>?_) (fun j z hz a σ dJ hA=>H j z hz a σ dJ hA) h
  cases e with
  | normal=>exact hq _ _ _ h
  | exit k=>
   have h':(if k=id then Q .normal else Q (.exit k)) a σ:=h
   show(if k=id then Q' .normal else Q' (.exit k)) a σ
   by_cases e:k=id
   ·rw[if_pos e] at h'⊢;exact hq _ _ _ h'
   ·rw[if_neg e] at h'⊢;exact hq _ _ _ h'
  | goto l=>exact hq _ _ _ h
  | ret=>exact hq _ _ _ h
 | .scope x,i,j,Q,Q',hq,H,e,a,σ,h=>by
  refine eR hK x (i:=i) (Q:=rG Q) (fun e a σ h=>?_) (fun j z hz a σ dJ hA=>H j z hz a σ dJ hA) h
  cases e with
  | normal=>exact hq _ _ _ h
  | exit k=>exact hq _ _ _ h
  | goto l=>exact h.elim
  | ret=>exact hq _ _ _ h
 | .loop x,i,0,Q,Q',hq,H,e,a,σ,h=>hq _ _ _ h
 | .loop x,i,j+1,Q,Q',hq,H,e,a,σ,h=>by
  refine eR hK x (i:=i+1) (Q:=kK (K.loop fn none i x Q) Q) (Q':=kK (e9 P n₀ x Q') Q') (fun e a σ h=>?_) (fun j z hz a σ dJ hA=>?_) h
  ·cases e with
   | normal=>exact H 0 x rfl a σ Q h
   | exit i=>exact hq _ _ _ h
   | goto l=>exact hq _ _ _ h
   | ret=>exact hq _ _ _ h
  ·exact H (j+1) z (by rw[bk,List.getElem?_cons_succ];exact hz) a σ dJ (by rw[show i+(j+1)=i+1+j by omega];exact hA)
def iN:Code→Bool
 | .seq x y=>iN x&&iN y
 | .cond _ x y=>iN x&&iN y
 | .block _ x=>iN x
 | .loop x=>iN x
 | .scope x=>iN x
 | .rangeFunc _ _ _ _=>false
 | _=>true
omit [iX P] in
theorem xf (x y:Code) (j:Nat) (Q:dw):bZ P n₀ (.seq x y) j Q=match Nat.blt j (aS x) with
  | true=>bZ P n₀ x j (kK (bM P n₀ y Q) Q)
  | false=>bZ P n₀ y (Nat.sub j (aS x)) Q:=rfl
omit [iX P] in
theorem vg (o:Operand) (x y:Code) (j:Nat) (Q:dw):bZ P n₀ (.cond o x y) j Q=match Nat.blt j (aS x) with
  | true=>bZ P n₀ x j Q
  | false=>bZ P n₀ y (Nat.sub j (aS x)) Q:=rfl
omit [iX P] in
theorem KH:∀(c:Code),iN c=true→∀ {k j:Nat} {x z:Code} {Q:dw},(bk c)[k]? =some x→(bk x)[j]? =some z→bZ P n₀ c (k+1+j) Q=bZ P n₀ x j (kK (e9 P n₀ x (bZ P n₀ c k Q)) (bZ P n₀ c k Q)):=by
 intro c
 have two:∀ {u v:Code} {k j:Nat} {x z:Code},(bk u++bk v)[k]? =some x→(bk x)[j]? =some z→
   (Nat.blt k (aS u)=true∧Nat.blt (k+1+j) (aS u)=true∧(bk u)[k]? =some x)∨(Nat.blt k (aS u)=false∧Nat.blt (k+1+j) (aS u)=false∧(bk v)[Nat.sub k (aS u)]? =some x∧Nat.sub (k+1+j) (aS u)=Nat.sub k (aS u)+1+j):=by
  intro u v k j x z hk hj
  rcases Nat.lt_or_ge k (bk u).length with bI | pw
  ·rw[List.getElem?_append_left bI] at hk
   have h2:=(List.getElem?_eq_some_iff.1 (yR u hk hj)).1
   rw[eI] at bI h2
   exact .inl ⟨by rw[Nat.blt_eq];exact bI,by rw[Nat.blt_eq];exact h2,hk⟩
  ·rw[List.getElem?_append_right pw] at hk
   rw[eI] at pw hk
   have f:∀n,aS u≤n→Nat.blt n (aS u)=false:=fun n hn=>by
    cases hb:Nat.blt n (aS u) with
    | false=>rfl
    | true=>rw[Nat.blt_eq] at hb;omega
   exact .inr ⟨f _ pw,f _ (by omega),hk,by show k+1+j-aS u=k-aS u+1+j;omega⟩
 induction c with
 | seq u v Xo Xp=>
  intro hp k j x z Q hk hj
  have hp:=Bool.and_eq_true_iff.1 (show(iN u&&iN v)=true from hp)
  rw[xf,xf]
  rcases two hk hj with ⟨h1,h2,h3⟩ | ⟨h1,h2,h3,h4⟩
  ·rw[h1,h2];exact Xo hp.1 h3 hj
  ·rw[h1,h2]
   dsimp only
   rw[h4];exact Xp hp.2 h3 hj
 | cond o u v Xo Xp=>
  intro hp k j x z Q hk hj
  have hp:=Bool.and_eq_true_iff.1 (show(iN u&&iN v)=true from hp)
  rw[vg,vg]
  rcases two hk hj with ⟨h1,h2,h3⟩ | ⟨h1,h2,h3,h4⟩
  ·rw[h1,h2];exact Xo hp.1 h3 hj
  ·rw[h1,h2]
   dsimp only
   rw[h4];exact Xp hp.2 h3 hj
 | block i u ih=>exact fun hp {_ _ _ _ _} hk hj=>ih hp hk hj
 | loop u ih=>
  intro hp k j x z Q hk hj
  cases k with
  | zero=>
   have e:u=x:=by simpa [bk] using hk
   subst e
   rw[show 0+1+j=j+1 by omega]
   rfl
  | succ k=>
   have fB:(bk u)[k]? =some x:=by simpa [bk] using hk
   rw[show k+1+1+j=(k+1+j)+1 by omega]
   show bZ P n₀ u (k+1+j) _=_
   exact ih hp fB hj
 | scope u ih=>exact fun hp {_ _ _ _ _} hk hj=>ih hp hk hj
 | _=>intro hp k j x z Q hk;simp [bk] at hk
end
end
inductive SP where
 | val (v:V)
 | row (n:Nat) (f:Nat→V) (esz:Nat)
inductive NK where
 | ptr
 | sl (n m esz:Nat) (ex:Bool)
inductive SV where
 | val (v:V)
 | row (n:Nat) (f:Nat→V) (esz:Nat)
 | box (cs:List V)
 | nest (k:NK) (ps:List SP)
 | al (c n esz:Nat)
def SP.clean [Env]:SP→Prop
 | .val v=>Clean v
 | .row n f _=>∀i,i<n→∀u∈(f i).cells,Clean u
def SV.clean [Env]:SV→Prop
 | .val v=>Clean v
 | .row n f _=>∀i,i<n→∀u∈(f i).cells,Clean u
 | .box cs=>∀u∈cs,Clean u
 | .nest _ ps=>∀p∈ps,p.clean
 | .al ..=>True
noncomputable def KI (ps:List SP):Nat→List V:=
 List.rec (motive:=fun _=>Nat→List V) (fun _=>[]) (fun p _ ih b=>match p with | .val v=>v::ih b | .row n _ esz=>.own b n esz::ih (Nat.add b 1)) ps
noncomputable def oT (ps:List SP):List b9:=
 List.rec (motive:=fun _=>List b9) [] (fun p _ ih=>match p with | .val _=>ih | .row n f esz=>.row n f esz false::ih) ps
noncomputable def SV.v (s:SV) (b:Nat):V:=
 match s with
 | .val v=>v
 | .row n _ esz=>.own b n esz
 | .box _=>.ptr b 0
 | .nest .ptr _=>.ptr b 0
 | .nest (.sl n m esz ex) _=>.slice b 0 n m ex esz
 | .al c n esz=>.own c n esz
noncomputable def SV.mY (s:SV) (b:Nat):List b9:=
 match s with
 | .val _=>[]
 | .row n f esz=>[.row n f esz false]
 | .box cs=>[.cells (len cs) [] (ah cs .leaf 0) false false]
 | .nest _ ps=>.cells (len ps) [] (ah (KI ps (Nat.add b 1)) .leaf 0) false false::oT ps
 | .al ..=>[]
noncomputable def SV.nb (s:SV):Nat:=
 match s with
 | .val _=>0
 | .row ..=>1
 | .box _=>1
 | .nest _ ps=>Nat.add (len (oT ps)) 1
 | .al ..=>0
noncomputable def Nv (ss:List SV):Nat→List V:=
 List.rec (motive:=fun _=>Nat→List V) (fun _=>[]) (fun s _ ih b=>s.v b::ih (Nat.add b s.nb)) ss
noncomputable def KJ (x y:List b9):List b9:=List.rec (motive:=fun _=>List b9) y (fun k _ ih=>k::ih) x
noncomputable def mr (ss:List SV):Nat→List b9:=
 List.rec (motive:=fun _=>Nat→List b9) (fun _=>[]) (fun s _ ih b=>KJ (s.mY b) (ih (Nat.add b s.nb))) ss
noncomputable def qQ (ls:List Nat):List V→cC V:=
 List.rec (motive:=fun _=>List V→cC V) (fun _=>[]) (fun t _ ih vs=>List.rec [] (fun v r _=>(ih r).put t v) vs) ls
noncomputable def KK (ks:List b9):Nat→Trie b9:=
 List.rec (motive:=fun _=>Nat→Trie b9) (fun _=>.leaf) (fun k _ ih n=>(ih (Nat.add n 1)).put n (some k)) ks
noncomputable def G7 (size:Nat) (live:List Nat) (ss:List SV):Act:=⟨qQ live (Nv ss 0),size,[]⟩
noncomputable def G8 (ss:List SV):St:=⟨KK (mr ss 0) 0,len (mr ss 0)⟩
theorem G9 (x y:List b9):KJ x y=x++y:=by
 induction x with
 | nil=>rfl
 | cons k x ih=>exact congrArg (k::·) ih
noncomputable def D6 (n:Nat) (l:List Nat):Bool:=List.rec (motive:=fun _=>Bool) false (fun a _ b=>Nat.beq n a||b) l
noncomputable def D7 (l:List Nat):Bool:=List.rec (motive:=fun _=>Bool) true (fun a t b=> !D6 a t&&b) l
noncomputable def wm (N:Nat) (z:List V) (t:Trie V) (esz n:Nat):Nat→Option (List V):=
 Nat.rec (motive:=fun _=>Nat→Option (List V)) (fun _=>some []) (fun _ ih off=>match cellsOf N z t esz off with
  | some cs=>match ih (Nat.add off esz) with
   | some es=>some (.agg cs::es)
   | none=>none
  | none=>none) n
noncomputable def rowOf (n m:Nat) (ex:Bool) (esz N:Nat) (z:List V) (t:Trie V) (k:(Nat→V)→Prop):Trie V→Prop
 | .leaf=>match ex&&(Nat.beq (len z) esz&&Nat.blt 0 esz) with
  | true=>(n≤m∧N=n*esz)∧k fun _=>.agg z
  | false=>False
 | _=>match ex,cellsOf N z t esz 0 with
  | false,some cs=>match Nat.ble 2 n with
   | true=>match wm N z t esz n 0 with
    | some es=>(m=n∧N=n*esz)∧k (jK es)
    | none=>False
   | false=>(n=1∧m=1∧N=1*esz)∧k fun _=>.agg cs
  | _,_=>False
theorem vh {n:Nat} {z:List V} {t:Trie V} (k off:Nat) {vs:List V} (h:cellsOf n z t k off=some vs):vs.length=k∧∀i v,vs[i]? =some v→cellOf n z t (off+i)=some v:=by
 letI:Env:=SX [] fun x hx=>by cases hx
 exact gJ k off h
theorem xg {N:Nat} {z:List V} {t:Trie V} {esz:Nat}:∀ {n off:Nat} {es:List V},wm N z t esz n off=some es→es.length=n∧∀i,i<n→∃cs,es[i]? =some (.agg cs)∧cs.length=esz∧∀j v,cs[j]? =some v→cellOf N z t (off+i*esz+j)=some v
 | 0,off,es,h=>by
  have h:some []=some es:=h
  cases h
  exact⟨rfl,fun i hi=>absurd hi (Nat.not_lt_zero i)⟩
 | n+1,off,es,h=>by
  have h:(match cellsOf N z t esz off with
   | some cs=>match wm N z t esz n (Nat.add off esz) with
    | some es=>some (.agg cs::es)
    | none=>none
   | none=>none)=some es:=h
  split at h
  ·rename_i cs hc
   split at h
   ·rename_i us hu
    cases h
    obtain⟨g1,g2⟩:=xg hu
    obtain⟨c1,c2⟩:=vh _ _ hc
    refine⟨congrArg (·+1) g1,fun i hi=>?_⟩
    cases i with
    | zero=>exact⟨cs,rfl,c1,fun j v hv=>by rw[Nat.zero_mul,Nat.add_zero];exact c2 j v hv⟩
    | succ i=>
     obtain⟨ds,d1,d2,d3⟩:=g2 i (by omega)
     refine⟨ds,d1,d2,fun j v hv=>?_⟩
     have:=d3 j v hv
     rwa [show Nat.add off esz+i*esz+j=off+(i+1)*esz+j by
      show off+esz+i*esz+j=_
      rw[Nat.succ_mul];omega] at this
   ·cases h
  ·cases h
theorem xh {n m:Nat} {ex:Bool} {esz N:Nat} {z:List V} {t:Trie V} {k:(Nat→V)→Prop} (h:rowOf n m ex esz N z t k t):
  ∃f,k f∧N=n*esz∧((ex=true∧n≤m)∨(ex=false∧m=n∧n≠0))∧(∀i,i<n→(f i).cells.length=esz)∧∀i,i<n→∀j v,(f i).cells[j]? =some v→cellOf N z t (i*esz+j)=some v:=by
 cases t with
 | nil=>
  have h':(match ex&&(Nat.beq (len z) esz&&Nat.blt 0 esz) with
   | true=>(n≤m∧N=n*esz)∧k fun _=>.agg z
   | false=>False):=h
  split at h'
  ·rename_i hb
   rw[Bool.and_eq_true,Bool.and_eq_true] at hb
   obtain⟨b1,b2,b3⟩:=hb
   have b2:=Nat.eq_of_beq_eq_true b2
   rw[aO] at b2
   rw[Nat.blt_eq] at b3
   obtain⟨⟨c1,c2⟩,c3⟩:=h'
   refine⟨_,c3,c2,.inl ⟨b1,c1⟩,fun i _=>b2,fun i hi j v hj=>?_⟩
   have gK:z[j]? =some v:=hj
   have bI:j<esz:=by rw[←b2];exact(List.getElem?_eq_some_iff.1 gK).1
   have afh:i*esz+j<N:=by rw[c2];have:=ln hi (Nat.succ_le_of_lt bI);omega
   unfold cellOf
   rw[show Nat.blt (i*esz+j) N=true by rw[Nat.blt_eq];exact afh]
   dsimp only
   rw[show Trie.get ([]:Trie V) (i*esz+j)=none from Trie.eU _]
   dsimp only
   rw[dG,aO,b2,show Nat.mod (i*esz+j) esz=j from by
    show(i*esz+j)%esz=j
    rw[Nat.add_comm,Nat.add_mul_mod_self_right,Nat.mod_eq_of_lt bI]]
   exact gK
  ·exact h'.elim
 | cons x t=>
  have h':(match (generalizing:=false) ex,cellsOf N z (x::t) esz 0 with
   | false,some cs=>match Nat.ble 2 n with
    | true=>match wm N z (x::t) esz n 0 with
     | some es=>(m=n∧N=n*esz)∧k (jK es)
     | none=>False
    | false=>(n=1∧m=1∧N=1*esz)∧k fun _=>.agg cs
   | _,_=>False):=h
  split at h'
  ·rename_i cs hc
   split at h'
   ·rename_i h2
    have h2:=Nat.le_of_ble_eq_true h2
    split at h'
    ·rename_i es he
     obtain⟨⟨rfl,rfl⟩,h3⟩:=h'
     obtain⟨g1,g2⟩:=xg he
     have key:∀i,i<m→∃cs,jK es i=.agg cs∧cs.length=esz∧∀j v,cs[j]? =some v→cellOf (m*esz) z (x::t) (i*esz+j)=some v:=fun i hi=>by
      obtain⟨ds,d1,d2,d3⟩:=g2 i hi
      refine⟨ds,?_,d2,fun j v hv=>by have:=d3 j v hv;rwa [Nat.zero_add] at this⟩
      unfold jK
      rw[dG,d1]
     refine⟨_,h3,rfl,.inr ⟨rfl,rfl,by omega⟩,fun i hi=>?_,fun i hi j v hj=>?_⟩
     ·obtain⟨ds,d1,d2,_⟩:=key i hi
      rw[d1];exact d2
     ·obtain⟨ds,d1,_,d3⟩:=key i hi
      rw[d1] at hj;exact d3 j v hj
    ·exact h'.elim
   obtain⟨⟨rfl,rfl,rfl⟩,h3⟩:=h'
   obtain⟨g1,g2⟩:=vh _ _ hc
   refine⟨_,h3,rfl,.inr ⟨rfl,rfl,by omega⟩,fun i _=>g1,fun i hi j v hj=>?_⟩
   obtain rfl:i=0:=by omega
   have:=g2 j v hj
   rw[Nat.zero_mul];exact this
  ·exact h'.elim
def KL (σ:St) (k:Nat→(Nat→V)→Nat→Nat→Prop):V→Prop
 | .own b n esz=>match σ.heap.get b with
  | some (.row n' f sC _)=>(n=n'∧esz=sC)∧k n' f sC b
  | _=>False
 | .slice b off n m ex esz=>match off,σ.heap.get b with
  | 0,some (.cells N z t _ false)=>rowOf n m ex esz N z t (fun f=>k n f esz b) t
  | _,_=>False
 | _=>False
def V.D8:V→Bool
 | .own ..=>true
 | .slice ..=>true
 | _=>false
noncomputable def Nw (cs:List V):Bool:=List.rec (motive:=fun _=>Bool) false (fun v _ ih=>v.D8||ih) cs
noncomputable def yU (σ:St) (cs:List V):(List SP→List Nat→Prop)→Prop:=
 List.rec (motive:=fun _=>(List SP→List Nat→Prop)→Prop) (fun k=>k [] []) (fun v _ ih k=>match v.D8 with
  | true=>KL σ (fun n f esz b=>ih fun ps bs=>k (.row n f esz::ps) (b::bs)) v
  | false=>ih fun ps bs=>k (.val v::ps) bs) cs
noncomputable def Xq (σ:St) (n m:Nat) (ex:Bool) (esz N:Nat) (z:List V) (t:Trie V) (b:Nat) (k:SV→List Nat→Prop):Trie V→Prop
 | .leaf=>rowOf n m ex esz N z t (fun f=>k (.row n f esz) [b]) t
 | _=>match cellsOf N z t N 0 with
  | some cs=>match Nw cs||ex with
   | true=>yU σ cs fun ps bs=>k (.nest (.sl n m esz ex) ps) (b::bs)
   | false=>rowOf n m ex esz N z t (fun f=>k (.row n f esz) [b]) t
  | none=>rowOf n m ex esz N z t (fun f=>k (.row n f esz) [b]) t
def yV (σ:St) (k:SV→List Nat→Prop):V→Prop
 | .own b n esz=>match σ.heap.get b with
  | some (.row n' f sC _)=>(n=n'∧esz=sC)∧k (.row n' f sC) [b]
  | _=>False
 | .ptr b off=>match off,σ.heap.get b with
  | 0,some (.cells n z t _ false)=>match cellsOf n z t n 0 with
   | some cs=>match Nw cs with
    | true=>yU σ cs fun ps bs=>k (.nest .ptr ps) (b::bs)
    | false=>k (.box cs) [b]
   | none=>False
  | _,_=>False
 | .slice b off n m ex esz=>match off,σ.heap.get b with
  | 0,some (.cells N z t _ false)=>Xq σ n m ex esz N z t b k t
  | _,_=>False
 | v=>k (.val v) []
noncomputable def D9 (x y:List Nat):List Nat:=List.rec (motive:=fun _=>List Nat) y (fun k _ ih=>k::ih) x
theorem Ha (x y:List Nat):D9 x y=x++y:=by
 induction x with
 | nil=>rfl
 | cons k x ih=>exact congrArg (k::·) ih
noncomputable def Pp (b:Nat) (l:List Nat):Nat→Option Nat:=
 List.rec (motive:=fun _=>Nat→Option Nat) (fun _=>none) (fun x _ ih i=>match Nat.beq b x with | true=>some i | false=>ih (Nat.add i 1)) l
noncomputable def wo (seen:List Nat):V→Option (Nat×Nat×Nat)
 | .own b n esz=>match Pp b seen 0 with
  | some c=>some (c,n,esz)
  | none=>none
 | _=>none
noncomputable def yW (a:Act) (σ:St) (ls:List Nat):List Nat→(List SV→List Nat→Prop)→Prop:=
 List.rec (motive:=fun _=>List Nat→(List SV→List Nat→Prop)→Prop) (fun _ k=>k [] []) (fun t _ ih seen k=>match a.tmps.get t with
  | some v=>match wo seen v with
   | some (c,n,esz)=>ih seen fun ss bs=>k (.al c n esz::ss) bs
   | none=>yV σ (fun s b=>ih (D9 seen b) fun ss bs=>k (s::ss) (D9 b bs)) v
  | none=>False) ls
noncomputable def Pq (n:Nat):Nat→List Nat→Bool:=
 Nat.rec (motive:=fun _=>Nat→List Nat→Bool) (fun _ _=>true) (fun _ ih k l=>List.rec false (fun b r _=>Nat.beq b k&&ih (Nat.add k 1) r) l) n
noncomputable def mu (n₀ size:Nat) (live:List Nat) (a:Act) (σ:St) (k:List SV→Prop):Prop:=
 match a.defers,Nat.beq a.size size with
 | [],true=>yW a σ live [] fun ss bs=>match Pq n₀ 0 bs&&D7 bs with
  | true=>k ss
  | false=>False
 | _,_=>False
section
variable [Env]
inductive sT (σ:St):V→Nat→(Nat→V)→Nat→Nat→Prop
 | own {b n esz:Nat} {f:Nat→V} {p:Bool} (hb:σ.heap.get b=some (.row n f esz p)):sT σ (.own b n esz) n f esz b
 | of {b n m esz N:Nat} {ex:Bool} {f:Nat→V} {z:List V} {tr:Trie V} {p:Bool} (hb:σ.heap.get b=some (.cells N z tr p false))
   (hN:N=n*esz) (hm:(ex=true∧n≤m)∨(ex=false∧m=n∧n≠0)) (hu:∀i,i<n→(f i).cells.length=esz) (hc:∀i,i<n→∀j v,(f i).cells[j]? =some v→cellOf N z tr (i*esz+j)=some v):sT σ (.slice b 0 n m ex esz) n f esz b
omit [Env] in
theorem Ps {σ:St} {k:Nat→(Nat→V)→Nat→Nat→Prop} {v:V} (h:KL σ k v):∃n f esz b,sT σ v n f esz b∧k n f esz b:=by
 unfold KL at h
 split at h
 ·split at h
  ·rename_i hb
   obtain⟨⟨rfl,rfl⟩,h⟩:=h
   exact⟨_,_,_,_,.own hb,h⟩
  ·exact h.elim
 ·split at h
  ·rename_i hb
   obtain⟨f,h,c1,c2,c3,c4⟩:=xh h
   exact⟨_,_,_,_,.of hb c1 c2 c3 c4,h⟩
  ·exact h.elim
 ·exact h.elim
theorem sT.val {σ:St} {v:V} {n esz b:Nat} {f:Nat→V} (h:sT σ v n f esz b) {m:Nat→Option Nat} {i:Nat} (hm:m i=some b):eW m (.own i n esz) v:=by
 cases h with
 | own hb=>exact .own hm
 | of hb hN h hu hc=>
  rcases h with ⟨rfl,h⟩ | ⟨rfl,rfl,h⟩
  ·exact .S5 hm h
  ·exact .S4 hm h
theorem sT.di {σ:St} {v:V} {n esz b:Nat} {f:Nat→V} (h:sT σ v n f esz b) (jd:∀i,i<n→∀u∈(f i).cells,Clean u) (m:Nat→Option Nat):∃q,σ.heap.get b=some q∧fu m (.row n f esz false) q:=by
 cases h with
 | own hb=>exact⟨_,hb,.row (fun h=>by cases h) fun i hi=>e8.clean (jd i hi)⟩
 | of hb hN h hu hc=>
  subst hN
  exact⟨_,hb,.yj (fun h=>by cases h) hu fun i hi j v hj=>⟨v,hc i hi j v hj,.clean (jd i hi v (List.mem_of_getElem? hj))⟩⟩
inductive ly (σ:St):List V→List SP→List Nat→Prop
 | nil:ly σ [] [] []
 | val {v:V} {vs:List V} {ps:List SP} {bs:List Nat} (hl:ly σ vs ps bs):ly σ (v::vs) (.val v::ps) bs
 | row {v:V} {n esz b:Nat} {f:Nat→V} {vs:List V} {ps:List SP} {bs:List Nat} (h:sT σ v n f esz b) (hl:ly σ vs ps bs):ly σ (v::vs) (.row n f esz::ps) (b::bs)
omit [Env] in
theorem qq {σ:St}:∀ {cs:List V} {k:List SP→List Nat→Prop},yU σ cs k→∃ps bs,ly σ cs ps bs∧k ps bs
 | [],k,h=>⟨[],[],.nil,h⟩
 | v::vs,k,h=>by
  have h':(match v.D8 with
   | true=>KL σ (fun n f esz b=>yU σ vs fun ps bs=>k (.row n f esz::ps) (b::bs)) v
   | false=>yU σ vs fun ps bs=>k (.val v::ps) bs):=h
  split at h'
  ·obtain⟨n,f,esz,b,h1,h2⟩:=Ps h'
   obtain⟨ps,bs,h3,h4⟩:=qq h2
   exact⟨_,_,.row h1 h3,h4⟩
  ·obtain⟨ps,bs,h3,h4⟩:=qq h'
   exact⟨_,_,.val h3,h4⟩
omit [Env] in
theorem ly.len {σ:St} {vs:List V} {ps:List SP} {bs:List Nat} (h:ly σ vs ps bs):(oT ps).length=bs.length∧ps.length=vs.length:=by
 induction h with
 | nil=>exact⟨rfl,rfl⟩
 | val hl ih=>exact⟨ih.1,congrArg (·+1) ih.2⟩
 | row h hl ih=>exact⟨congrArg (·+1) ih.1,congrArg (·+1) ih.2⟩
def nI (m:Nat→Option Nat) (b:Nat) (bs:List Nat):Prop:=∀i c,bs[i]? =some c→m (b+i)=some c
omit [Env] in
theorem nI.head {m:Nat→Option Nat} {b c:Nat} {bs:List Nat} (h:nI m b (c::bs)):m b=some c:=h 0 c rfl
omit [Env] in
theorem nI.tail {m:Nat→Option Nat} {b c:Nat} {bs:List Nat} (h:nI m b (c::bs)):nI m (b+1) bs:=fun i d hd=>by
 rw[show b+1+i=b+(i+1) by omega];exact h (i+1) d (by simpa using hd)
theorem ly.zO {σ:St} {vs:List V} {ps:List SP} {bs:List Nat} (h:ly σ vs ps bs):(∀p∈ps,p.clean)→∀ {m:Nat→Option Nat} {b:Nat},nI m b bs→e8 m (KI ps b) vs:=by
 induction h with
 | nil=>exact fun _ {_ _} _=>.nil
 | val hl ih=>exact fun hc {_ _} hm=>.cons (.clean (hc _ List.mem_cons_self)) (ih (fun p hp=>hc p (List.mem_cons_of_mem _ hp)) hm)
 | row h hl ih=>exact fun hc {_ _} hm=>.cons (h.val hm.head) (ih (fun p hp=>hc p (List.mem_cons_of_mem _ hp)) hm.tail)
theorem ly.mY {σ:St} {vs:List V} {ps:List SP} {bs:List Nat} (h:ly σ vs ps bs):(∀p∈ps,p.clean)→∀(m:Nat→Option Nat) {i:Nat} {q:b9},(oT ps)[i]? =some q→∃c q',bs[i]? =some c∧σ.heap.get c=some q'∧fu m q q':=by
 induction h with
 | nil=>intro _ m i q hq;simp [oT] at hq
 | val hl ih=>exact fun hc m {i q} hq=>ih (fun p hp=>hc p (List.mem_cons_of_mem _ hp)) m hq
 | row h hl ih=>
  intro hc m i q hq
  cases i with
  | zero=>
   have j8:some _=some q:=hq
   cases j8
   obtain⟨q',h1,h2⟩:=h.di (hc _ List.mem_cons_self) m
   exact⟨_,q',rfl,h1,h2⟩
  | succ i=>exact ih (fun p hp=>hc p (List.mem_cons_of_mem _ hp)) m (i:=i) (by simpa [oT] using hq)
inductive lz (σ:St):V→SV→List Nat→Prop
 | val {v:V}:lz σ v (.val v) []
 | row {v:V} {n esz b:Nat} {f:Nat→V} (h:sT σ v n f esz b):lz σ v (.row n f esz) [b]
 | box {b n:Nat} {z:List V} {tr:Trie V} {p:Bool} {cs:List V} (hb:σ.heap.get b=some (.cells n z tr p false)) (hc:cellsOf n z tr n 0=some cs):lz σ (.ptr b 0) (.box cs) [b]
 | ptr {b n:Nat} {z:List V} {tr:Trie V} {p:Bool} {cs:List V} {ps:List SP} {bs:List Nat} (hb:σ.heap.get b=some (.cells n z tr p false)) (hc:cellsOf n z tr n 0=some cs) (hp:ly σ cs ps bs):lz σ (.ptr b 0) (.nest .ptr ps) (b::bs)
 | sl {b N n m esz:Nat} {ex:Bool} {z:List V} {tr:Trie V} {p:Bool} {cs:List V} {ps:List SP} {bs:List Nat} (hb:σ.heap.get b=some (.cells N z tr p false)) (hc:cellsOf N z tr N 0=some cs) (hp:ly σ cs ps bs):lz σ (.slice b 0 n m ex esz) (.nest (.sl n m esz ex) ps) (b::bs)
omit [Env] in
theorem Un {σ:St} {n m esz N b:Nat} {ex:Bool} {z:List V} {t:Trie V} {p:Bool} {k:SV→List Nat→Prop} (hb:σ.heap.get b=some (.cells N z t p false)) (h:Xq σ n m ex esz N z t b k t):∃s bs,lz σ (.slice b 0 n m ex esz) s bs∧k s bs:=by
 have row:rowOf n m ex esz N z t (fun f=>k (.row n f esz) [b]) t→∃s bs,lz σ (.slice b 0 n m ex esz) s bs∧k s bs:=fun h=>by
  obtain⟨f,h,c1,c2,c3,c4⟩:=xh h
  exact⟨_,_,.row (.of hb c1 c2 c3 c4),h⟩
 unfold Xq at h
 split at h
 ·exact row h
 ·split at h
  ·rename_i hc
   split at h
   ·obtain⟨ps,bs,h1,h2⟩:=qq h
    exact⟨_,_,.sl hb hc h1,h2⟩
   ·exact row h
  ·exact row h
omit [Env] in
theorem KM {σ:St} {v:V} {k:SV→List Nat→Prop} (h:yV σ k v):∃s bs,lz σ v s bs∧k s bs:=by
 unfold yV at h
 split at h
 ·split at h
  ·rename_i hb
   obtain⟨⟨rfl,rfl⟩,h⟩:=h
   exact⟨_,_,.row (.own hb),h⟩
  ·exact h.elim
 ·split at h
  ·rename_i hb
   split at h
   ·rename_i hc
    split at h
    ·obtain⟨ps,bs,h1,h2⟩:=qq h
     exact⟨_,_,.ptr hb hc h1,h2⟩
    ·exact⟨_,_,.box hb hc,h⟩
   ·exact h.elim
  ·exact h.elim
 ·split at h
  ·rename_i hb
   exact Un hb h
  ·exact h.elim
 ·exact⟨_,_,.val,h⟩
theorem BU {m:Nat→Option Nat} {n:Nat} {z:List V} {tr:Trie V} {p:Bool} {cs us:List V} (hc:cellsOf n z tr n 0=some cs) (hr:e8 m us cs) {N:Nat} (hN:N=n):fu m (.cells N [] (ah us .leaf 0) false false) (.cells n z tr p false):=by
 subst hN
 obtain⟨_,g2⟩:=gJ _ _ hc
 refine .cells (fun h=>by cases h) fun i v hi=>?_
 rcases gl hi with ⟨_,h2,h3⟩ | ⟨_,h2⟩
 ·rw[Nat.sub_zero] at h3
  obtain⟨u,hu,hv⟩:=hr.get h3
  have:=g2 i u hu
  rw[Nat.zero_add] at this
  exact⟨u,this,hv⟩
 ·unfold cellOf at h2
  split at h2
  ·rw[Trie.eU] at h2;simp [dG] at h2
  ·cases h2
omit [Env] in
theorem lz.len {σ:St} {v:V} {s:SV} {bs:List Nat} (h:lz σ v s bs):s.nb=bs.length∧∀b,(s.mY b).length=bs.length:=by
 cases h with
 | val=>exact⟨rfl,fun _=>rfl⟩
 | row h=>exact⟨rfl,fun _=>rfl⟩
 | box hb hc=>exact⟨rfl,fun _=>rfl⟩
 | ptr hb hc hp=>exact⟨by show Go.Ev.len (oT _)+1=_;rw[aO,hp.len.1];rfl,fun _=>congrArg (·+1) hp.len.1⟩
 | sl hb hc hp=>exact⟨by show Go.Ev.len (oT _)+1=_;rw[aO,hp.len.1];rfl,fun _=>congrArg (·+1) hp.len.1⟩
theorem lz.zO {σ:St} {v:V} {s:SV} {bs:List Nat} (h:lz σ v s bs) (hc:s.clean) {m:Nat→Option Nat} {b:Nat} (hm:nI m b bs):eW m (s.v b) v:=by
 cases h with
 | val=>exact .clean hc
 | row h=>exact h.val hm.head
 | box hb dI=>exact .ptr hm.head
 | ptr hb dI hp=>exact .ptr hm.head
 | sl hb dI hp=>exact .slice hm.head
theorem lz.afi {σ:St} {v:V} {s:SV} {bs:List Nat} (h:lz σ v s bs) (hc:s.clean) {m:Nat→Option Nat} {b:Nat} (hm:nI m b bs) {i:Nat} {q:b9} (hq:(s.mY b)[i]? =some q):∃c q',bs[i]? =some c∧σ.heap.get c=some q'∧fu m q q':=by
 have nest:∀ {Pt N:Nat} {z:List V} {tr:Trie V} {p:Bool} {cs:List V} {ps:List SP} {l3:List Nat},bs=Pt::l3→σ.heap.get Pt=some (.cells N z tr p false)→cellsOf N z tr N 0=some cs→ly σ cs ps l3→(∀p∈ps,p.clean)→
   (b9.cells (Go.Ev.len ps) [] (ah (KI ps (Nat.add b 1)) .leaf 0) false false::oT ps)[i]? =some q→∃c q',bs[i]? =some c∧σ.heap.get c=some q'∧fu m q q':=by
  intro Pt N z tr p cs ps l3 e hb dI hp jd hq
  subst e
  cases i with
  | zero=>
   have j8:some _=some q:=hq
   cases j8
   refine⟨_,_,rfl,hb,BU dI (hp.zO jd hm.tail) ?_⟩
   rw[aO,hp.len.2];exact(gJ _ _ dI).1
  | succ i=>exact hp.mY jd m (i:=i) (by simpa using hq)
 cases h with
 | val=>simp [SV.mY] at hq
 | row h=>
  cases i with
  | zero=>
   have j8:some _=some q:=hq
   cases j8
   obtain⟨q',h1,h2⟩:=h.di hc m
   exact⟨_,q',rfl,h1,h2⟩
  | succ i=>simp [SV.mY] at hq
 | box hb dI=>
  cases i with
  | zero=>
   have j8:some _=some q:=hq
   cases j8
   exact⟨_,_,rfl,hb,BU dI (e8.clean hc) (by rw[aO];exact(gJ _ _ dI).1)⟩
  | succ i=>simp [SV.mY] at hq
 | ptr hb dI hp=>exact nest rfl hb dI hp hc hq
 | sl hb dI hp=>exact nest rfl hb dI hp hc hq
omit [Env] in
theorem Ea {b:Nat}:∀ {l:List Nat} {i c:Nat},Pp b l i=some c→i≤c∧l[c-i]? =some b
 | [],i,c,h=>by cases h
 | x::l,i,c,h=>by
  have h':(match Nat.beq b x with | true=>some i | false=>Pp b l (Nat.add i 1))=some c:=h
  split at h'
  ·rename_i hb
   cases h'
   exact⟨Nat.le_refl _,by rw[Nat.sub_self,Nat.eq_of_beq_eq_true hb];rfl⟩
  ·obtain⟨h1,h2⟩:=Ea h'
   have h1:i+1≤c:=h1
   have h2:l[c-(i+1)]? =some b:=h2
   exact⟨by omega,by rw[show c-i=(c-(i+1))+1 by omega,List.getElem?_cons_succ];exact h2⟩
inductive jE (a:Act) (σ:St):List Nat→List Nat→List SV→List Nat→Prop
 | nil {seen:List Nat}:jE a σ seen [] [] []
 | al {seen:List Nat} {t b n esz c:Nat} {l:List Nat} {ss:List SV} {cs:List Nat} (h:a.tmps.get t=some (.own b n esz)) (hc:seen[c]? =some b) (hl:jE a σ seen l ss cs):jE a σ seen (t::l) (.al c n esz::ss) cs
 | cons {seen:List Nat} {t:Nat} {v:V} {s:SV} {l:List Nat} {ss:List SV} {bs cs:List Nat} (h:a.tmps.get t=some v) (hs:lz σ v s bs) (hl:jE a σ (seen++bs) l ss cs):jE a σ seen (t::l) (s::ss) (bs++cs)
omit [Env] in
theorem sU {a:Act} {σ:St}:∀ {ls seen:List Nat} {k:List SV→List Nat→Prop},yW a σ ls seen k→∃ss bs,jE a σ seen ls ss bs∧k ss bs
 | [],seen,k,h=>⟨[],[],.nil,h⟩
 | t::l,seen,k,h=>by
  have h':(match a.tmps.get t with
   | some v=>match wo seen v with
    | some (c,n,esz)=>yW a σ l seen fun ss bs=>k (.al c n esz::ss) bs
    | none=>yV σ (fun s b=>yW a σ l (D9 seen b) fun ss bs=>k (s::ss) (D9 b bs)) v
   | none=>False):=h
  cases hv:a.tmps.get t with
  | none=>rw[hv] at h';exact h'.elim
  | some v=>
   rw[hv] at h'
   dsimp only at h'
   cases ha:wo seen v with
   | some q=>
    obtain⟨c,n,esz⟩:=q
    rw[ha] at h'
    obtain⟨ss,bs,h3,h4⟩:=sU h'
    unfold wo at ha
    split at ha
    ·rename_i b n' sC
     split at ha
     ·rename_i c' hp
      cases ha
      exact⟨_,_,.al hv (by have:=(Ea hp).2;rwa [Nat.sub_zero] at this) h3,h4⟩
     ·cases ha
    ·cases ha
   | none=>
    rw[ha] at h'
    obtain⟨s,b,h1,h2⟩:=KM h'
    rw[Ha] at h2
    obtain⟨ss,bs,h3,h4⟩:=sU h2
    rw[Ha] at h4
    exact⟨_,_,.cons hv h1 h3,h4⟩
omit [Env] in
theorem Eb:∀ {ls:List Nat} {vs:List V} {t:Nat} {v:V},(qQ ls vs).get t=some v→∃i:Nat,ls[i]? =some t∧vs[i]? =some v
 | [],vs,t,v,h=>by cases h
 | u::ls,[],t,v,h=>by cases h
 | u::ls,w::vs,t,v,h=>by
  have h':((qQ ls vs).put u w).get t=some v:=h
  rw[cC.bY] at h'
  by_cases e:t=u
  ·rw[if_pos e] at h'
   exact⟨0,by rw[e];rfl,h'⟩
  ·rw[if_neg e] at h'
   obtain⟨i,h1,h2⟩:=Eb h'
   exact⟨i+1,by simpa using h1,by simpa using h2⟩
omit [Env] in
theorem BV:∀ {ks:List b9} {n i:Nat} {k:b9},(KK ks n).get i=some k→n≤i∧ks[i-n]? =some k
 | [],n,i,k,h=>by
  have h':(Trie.leaf:Trie b9).get i=some k:=h
  rw[Trie.eU] at h';cases h'
 | q::ks,n,i,k,h=>by
  have h':((KK ks (n+1)).put n (some q)).get i=some k:=h
  rw[Trie.bY] at h'
  by_cases e:i=n
  ·subst e
   rw[if_pos rfl] at h'
   exact⟨Nat.le_refl _,by rw[Nat.sub_self];exact h'⟩
  ·rw[if_neg e] at h'
   obtain⟨h1,h2⟩:=BV h'
   exact⟨by omega,by rw[show i-n=(i-(n+1))+1 by omega,List.getElem?_cons_succ];exact h2⟩
omit [Env] in
theorem jE.len {a:Act} {σ:St} {seen ls:List Nat} {ss:List SV} {bs:List Nat} (h:jE a σ seen ls ss bs):∀b,(mr ss b).length=bs.length:=by
 induction h with
 | nil=>exact fun _=>rfl
 | al h hc hl ih=>exact fun b=>ih _
 | cons h hs hl ih=>
  intro b
  show(KJ _ _).length=_
  rw[G9,List.length_append,List.length_append,hs.len.2]
  exact congrArg (_+·) (ih _)
theorem jE.KG {a:Act} {σ:St} {seen ls:List Nat} {ss:List SV} {bs:List Nat} (h:jE a σ seen ls ss bs):(∀s∈ss,s.clean)→∀ {m:Nat→Option Nat},nI m 0 (seen++bs)→∀ {i t:Nat} {v:V},ls[i]? =some t→(Nv ss seen.length)[i]? =some v→
  ∃u,a.tmps.get t=some u∧eW m v u:=by
 induction h with
 | nil=>intro _ m _ i t v h1;simp at h1
 | @al seen afj b n esz c l ss cs h hc hl ih=>
  intro jd m hm i t v h1 h2
  cases i with
  | zero=>
   simp at h1;subst h1
   have C6:some _=some v:=h2
   cases C6
   refine⟨_,h,.own ?_⟩
   have:=hm c b (by rw[List.getElem?_append_left (List.getElem?_eq_some_iff.1 hc).1];exact hc)
   rwa [Nat.zero_add] at this
  | succ i=>exact ih (fun s hs=>jd s (List.mem_cons_of_mem _ hs)) hm (i:=i) (by simpa using h1) h2
 | @cons seen afj qR s l ss bs cs h hs hl ih=>
  intro hc m hm i t v h1 h2
  cases i with
  | zero=>
   simp at h1;subst h1
   have C6:some _=some v:=h2
   cases C6
   refine⟨_,h,hs.zO (hc _ List.mem_cons_self) (fun j d hd=>?_)⟩
   have:=hm (seen.length+j) d (by rw[List.getElem?_append_right (by omega),show seen.length+j-seen.length=j by omega,List.getElem?_append_left (List.getElem?_eq_some_iff.1 hd).1];exact hd)
   rwa [Nat.zero_add] at this
  | succ i=>
   refine ih (fun s hs=>hc s (List.mem_cons_of_mem _ hs)) (by rw[List.append_assoc];exact hm) (i:=i) (by simpa using h1) ?_
   rw[List.length_append,←hs.len.1];exact h2
theorem jE.mY {a:Act} {σ:St} {seen ls:List Nat} {ss:List SV} {bs:List Nat} (h:jE a σ seen ls ss bs):(∀s∈ss,s.clean)→∀ {m:Nat→Option Nat},nI m 0 (seen++bs)→∀ {i:Nat} {k:b9},(mr ss seen.length)[i]? =some k→∃c k',bs[i]? =some c∧σ.heap.get c=some k'∧fu m k k':=by
 induction h with
 | nil=>intro _ m _ i k h;simp [mr] at h
 | al h hc hl ih=>exact fun jd {m} hm {i k} hk=>ih (fun s hs=>jd s (List.mem_cons_of_mem _ hs)) hm hk
 | @cons seen t v s l ss bs cs h hs hl ih=>
  intro hc m hm i k hk
  replace hk:(KJ (s.mY seen.length) (mr ss (Nat.add seen.length s.nb)))[i]? =some k:=hk
  rw[G9] at hk
  rcases Nat.lt_or_ge i (s.mY seen.length).length with bI | pw
  ·rw[List.getElem?_append_left bI] at hk
   obtain⟨c,q,h1,h2,h3⟩:=hs.afi (hc _ List.mem_cons_self) (m:=m) (fun j d hd=>by
    have:=hm (seen.length+j) d (by rw[List.getElem?_append_right (by omega),show seen.length+j-seen.length=j by omega,List.getElem?_append_left (List.getElem?_eq_some_iff.1 hd).1];exact hd)
    rwa [Nat.zero_add] at this) hk
   exact⟨c,q,by rw[List.getElem?_append_left (List.getElem?_eq_some_iff.1 h1).1];exact h1,h2,h3⟩
  ·rw[List.getElem?_append_right pw] at hk
   obtain⟨c,q,h1,h2,h3⟩:=ih (fun s hs=>hc s (List.mem_cons_of_mem _ hs)) (m:=m) (by rw[List.append_assoc];exact hm) (i:=i-(s.mY seen.length).length) (k:=k) (by rw[List.length_append,←hs.len.1];exact hk)
   rw[hs.len.2] at pw h1
   exact⟨c,q,by rw[List.getElem?_append_right pw];exact h1,h2,h3⟩
omit [Env] in
theorem yX:∀ {l:List Nat},D7 l=true→∀(i j c:Nat),l[i]? =some c→l[j]? =some c→i=j
 | [],_,i,j,c,h,_=>by simp at h
 | a::t,hn,i,j,c,hi,hj=>by
  have oD:(!D6 a t&&D7 t)=true:=hn
  rw[Bool.and_eq_true] at oD
  have cP:∀ {l:List Nat} {n k:Nat},l[k]? =some n→D6 n l=true:=by
   intro l
   induction l with
   | nil=>intro n k h;simp at h
   | cons x l ih=>
    intro n k h
    show(Nat.beq n x||D6 n l)=true
    cases k with
    | zero=>simp at h;subst h;rw[Nat.beq_refl,Bool.true_or]
    | succ k=>rw[ih (k:=k) (by simpa using h),Bool.or_true]
  have SE:D6 a t=false:=by simpa using oD.1
  cases i with
  | zero=>
   cases j with
   | zero=>rfl
   | succ j=>
    simp at hi;subst hi
    have:=cP (l:=t) (k:=j) (by simpa using hj)
    rw[SE] at this;cases this
  | succ i=>
   cases j with
   | zero=>
    simp at hj;subst hj
    have:=cP (l:=t) (k:=i) (by simpa using hi)
    rw[SE] at this;cases this
   | succ j=>rw[yX oD.2 i j c (by simpa using hi) (by simpa using hj)]
omit [Env] in
theorem Ec:∀ {n k:Nat} {l:List Nat},Pq n k l=true→n≤l.length∧∀i,i<n→l[i]? =some (k+i)
 | 0,_,_,_=>⟨Nat.zero_le _,fun i hi=>absurd hi (Nat.not_lt_zero i)⟩
 | n+1,k,[],h=>by cases h
 | n+1,k,b::r,h=>by
  have h':(Nat.beq b k&&Pq n (k+1) r)=true:=h
  rw[Bool.and_eq_true] at h'
  obtain⟨h1,h2⟩:=Ec h'.2
  refine⟨by simp;omega,fun i hi=>?_⟩
  cases i with
  | zero=>rw[Nat.eq_of_beq_eq_true h'.1];rfl
  | succ i=>rw[List.getElem?_cons_succ,h2 i (by omega),show k+1+i=k+(i+1) by omega]
theorem sV {n₀ size:Nat} {live:List Nat} {a:Act} {σ:St} {k:List SV→Prop} (h:mu n₀ size live a σ k):∃ss,k ss∧((∀s∈ss,s.clean)→∃m,xe n₀ m (G7 size live ss) (G8 ss) a σ):=by
 unfold mu at h
 split at h
 ·rename_i hd hs
  obtain⟨ss,bs,h1,h2⟩:=sU h
  split at h2
  ·rename_i hn
   rw[Bool.and_eq_true] at hn
   obtain⟨hpf,hn⟩:=hn
   obtain⟨Xr,hp2⟩:=Ec hpf
   refine⟨ss,h2,fun hc=>⟨fun b=>bs[b]?,?_⟩⟩
   refine⟨(Nat.eq_of_beq_eq_true hs).symm,rfl,hd,fun i v hv=>?_,fun i k hk=>?_,fun i j c=>yX hn i j c,fun i hi=>?_,fun i hi=>by rw[hp2 i hi,Nat.zero_add],by show n₀≤len (mr ss 0);rw[aO,h1.len];exact Xr⟩
   ·obtain⟨j,e1,e2⟩:=Eb hv
    exact h1.KG hc (m:=fun b=>bs[b]?) (fun i c hc=>by rw[Nat.zero_add];exact hc) e1 e2
   ·obtain⟨_,e⟩:=BV (n:=0) hk
    exact h1.mY hc (m:=fun b=>bs[b]?) (fun i c hc=>by rw[Nat.zero_add];exact hc) (by simpa using e)
   ·have eQ:(mr ss 0).length≤i:=by
     have:len (mr ss 0)≤i:=hi
     rwa [aO] at this
    rw[h1.len] at eQ
    exact List.getElem?_eq_none eQ
  ·exact h2.elim
 ·exact h.elim
noncomputable def KF (P:Program) (call:FuncId→List V→St→ai→Prop) (n₀ size:Nat) (live:Nat→List Nat) (A:Nat→List SV→Prop):gq P:=
 {call:=call,loop:=fun _ _ i _ _ a σ=>mu n₀ size (live i) a σ (A i)}
variable {P:Program} [iX P] {fn:FuncId}
theorem e9.bV {call:FuncId→List V→St→ai→Prop} (fp:∀ {f vs σ k},call f vs σ k→ag P f vs k σ) {n₀ size:Nat} {live:Nat→List Nat} {c:Code} (hp:iN c=true) {Q:dw}
  {α:Type} {r:α→α→Prop} (wf:WellFounded r) (μ:Nat→List SV→α) (I:Nat→List SV→Prop) (hc:∀k ss,I k ss→∀s∈ss,s.clean)
  (mi:∀k x,(bk c)[k]? =some x→∀ss,I k ss→ws P (KF P call n₀ size live fun k' ey=>I k' ey∧r (μ k' ey) (μ k ss)) fn none (Nat.add k 1) x
   (kK (fun a σ=>mu n₀ size (live k) a σ fun ey=>I k ey∧r (μ k ey) (μ k ss)) (behind P (KF P call n₀ size live fun k' ey=>I k' ey∧r (μ k' ey) (μ k ss)) fn c 0 k Q)) (G7 size (live k) ss) (G8 ss)):
  ∀k x,(bk c)[k]? =some x→∀ss,I k ss→e9 P n₀ x (bZ P n₀ c k Q) (G7 size (live k) ss) (G8 ss):=by
 have key:∀(q:α),∀k x,(bk c)[k]? =some x→∀ss,I k ss→μ k ss=q→e9 P n₀ x (bZ P n₀ c k Q) (G7 size (live k) ss) (G8 ss):=by
  intro q
  induction q using wf.induction with
  | _ q ih=>
   intro k x hx ss hI hq
   have hK:(KF P call n₀ size live fun k' ey=>I k' ey∧r (μ k' ey) (μ k ss)).Nu n₀:=⟨⟨fun h=>fp h,fun h=>h⟩,fun h=>bM.of h⟩
   have H:∀j z,(bk c)[j]? =some z→∀a σ (dJ:dw),(KF P call n₀ size live fun k' ey=>I k' ey∧r (μ k' ey) (μ k ss)).loop fn none j z dJ a σ→e9 P n₀ z (bZ P n₀ c j Q) a σ:=by
    intro j z hz a σ dJ hA
    obtain⟨ey,⟨g1,g2⟩,g3⟩:=sV (show mu n₀ size (live j) a σ _ from hA)
    obtain⟨m,hf⟩:=g3 (hc j ey g1)
    exact(ih (μ j ey) (by rw[←hq];exact g2) j z hz ey g1 rfl).Xn hf
   have:=mi k x hx ss hI
   refine e9.round (bM.nH hK x (i:=k+1) (fun e a σ h=>?_) (fun j z hz a σ dJ hA=>?_) this)
   ·cases e with
    | normal=>exact H k x hx a σ (fun _ _ _=>True) h
    | exit i=>exact eR hK c (i:=0) (Q:=Q) (Q':=Q) (fun _ _ _ h=>h) (fun j z hz a σ dJ hA=>H j z hz a σ dJ (by rw[Nat.zero_add] at hA;exact hA)) h
    | goto i=>exact eR hK c (i:=0) (Q:=Q) (Q':=Q) (fun _ _ _ h=>h) (fun j z hz a σ dJ hA=>H j z hz a σ dJ (by rw[Nat.zero_add] at hA;exact hA)) h
    | ret=>exact eR hK c (i:=0) (Q:=Q) (Q':=Q) (fun _ _ _ h=>h) (fun j z hz a σ dJ hA=>H j z hz a σ dJ (by rw[Nat.zero_add] at hA;exact hA)) h
   ·rw[←KH c hp hx hz]
    exact H (k+1+j) z (yR c hx hz) a σ dJ hA
 exact fun k x hx ss hI=>key _ k x hx ss hI rfl
theorem ag.bV {call:FuncId→List V→St→ai→Prop} (fp:∀ {f vs σ k},call f vs σ k→ag P f vs k σ) {g:Func} {c:Code} {vs:List V} {Q:ai} (hf:P.funcs[fn]? =some g) (hb:g.body=some c) (hn:(g.name== "runtime.NumGoroutine")=false) (hp:iN c=true) {σ:St} {n₀:Nat} (yY:σ.next=n₀)
  {live:Nat→List Nat} {α:Type} {r:α→α→Prop} (wf:WellFounded r) (μ:Nat→List SV→α) (I:Nat→List SV→Prop) (hc:∀k ss,I k ss→∀s∈ss,s.clean)
  (vi:ws P (KF P call n₀ g.ntmps live I) fn none 0 c (sR P g Q) (oK g.ntmps vs) σ)
  (mi:∀k x,(bk c)[k]? =some x→∀ss,I k ss→ws P (KF P call n₀ g.ntmps live fun k' ey=>I k' ey∧r (μ k' ey) (μ k ss)) fn none (Nat.add k 1) x
   (kK (fun a σ=>mu n₀ g.ntmps (live k) a σ fun ey=>I k ey∧r (μ k ey) (μ k ss)) (behind P (KF P call n₀ g.ntmps live fun k' ey=>I k' ey∧r (μ k' ey) (μ k ss)) fn c 0 k (sR P g Q))) (G7 g.ntmps (live k) ss) (G8 ss))
  (hl:∀x,c≠.loop x):ag P fn vs Q σ:=by
 subst yY
 have hL:=e9.bV (fn:=fn) (call:=call) (n₀:=σ.next) (size:=g.ntmps) (live:=live) (Q:=sR P g Q) (fun h=>fp h) hp wf μ I hc mi
 have hK:(KF P call σ.next g.ntmps live I).Nu σ.next:=⟨⟨fun h=>fp h,fun h=>h⟩,fun h=>bM.of h⟩
 have hN:bM P σ.next c (sR P g Q) (oK g.ntmps vs) σ:=bM.nH hK c (i:=0) (fun _ _ _ h=>h) (fun j z hz a τ dJ hA=>by
  rw[Nat.zero_add] at hA
  obtain⟨ey,g1,g3⟩:=sV (show mu σ.next g.ntmps (live j) a τ _ from hA)
  obtain⟨m,hf⟩:=g3 (hc j ey g1)
  exact(hL j z hz ey g1).Xn hf) vi
 exact ag.ab2 hf hb hn (bM.G2 (fn:=fn) hl hN)
end
end Go.Ev
