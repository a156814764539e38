/- Proved: parts of the way: Floyd. -/
import Derived.Test.YtbajncpfmemdgaaGreatDoorEvQ11
set_option linter.unusedVariables false
set_option linter.unusedSimpArgs false
namespace Go.Ev
open Go
section
variable [Env]
structure bH (P:Program) (n₀:Nat) (c:Code) (Q:cj) (a:Act) (σ:St):Prop where
 ex:∃e a σ,Q e a σ
 h:n₀≤σ.next→∀(ρ:Ren) (w:World) (a':Go.Act),R ρ σ w→bC ρ a a'→c.wpIn Fence.wide 0 P (ez n₀ Q ρ σ w) a' w
variable {P:Program} {fn:FuncId} {n₀:Nat}
theorem bH.of [eJ P] {c:Code} {Q:cj} {a:Act} {σ:St} (h:cp P fn none c Q a σ):bH P n₀ c Q a σ:=by
 have hs:=h.yl
 refine⟨?_,fun hn ρ w a' hr ha=>wpIn_mono (cm.at hs ρ w a' Fence.wide hr ha rfl).1 fun e aZ bg fe=>?_⟩
 ·obtain⟨⟨o,τ⟩,hx⟩:=hs.1
  cases o with
  | val v=>exact hx.elim
  | exit e a=>exact⟨e,a,τ,hx⟩
 ·obtain⟨y,aR,bG,bh,h1,h2,h3,h4⟩:=fe
  exact⟨y,aR,bG,bh,h1,h2,h3,gG.of hn h4⟩
theorem bH.yl {c:Code} (hc:∀x,c≠.loop x) {Q:cj} {a:Act} {σ:St} (h:bH P σ.next c Q a σ):cm P (.code none fn c a) σ (kj Q):=by
 refine⟨let ⟨e,a,τ,hx⟩:=h.ex;⟨(.exit e a,τ),hx⟩,?_⟩
 intro ρ w a' F hr ha bt
 have hF:F=Fence.wide:=bt
 subst hF
 refine⟨wpIn_mono (h.h (Nat.le_refl _) ρ w a' hr ha) fun e aZ bg hx=>?_,fun x hx=>absurd hx (hc x)⟩
 obtain⟨y,aZ,aB,bD,h1,h2,h3,h4⟩:=hx
 exact⟨y,aZ,aB,bD,h1,h2,h3,h4.to hr⟩
theorem bH.mono {c:Code} {Q Q':cj} {a:Act} {σ:St} (h:bH P n₀ c Q a σ) (hq:∀e a σ,Q e a σ→Q' e a σ):bH P n₀ c Q' a σ:=by
 refine⟨let ⟨e,a,τ,hx⟩:=h.ex;⟨e,a,τ,hq _ _ _ hx⟩,fun hn ρ w a' hr ha=>wpIn_mono (h.h hn ρ w a' hr ha) fun e aZ bg hx=>?_⟩
 obtain⟨y,aR,bG,bh,h1,h2,h3,h4⟩:=hx
 exact⟨y,aR,bG,bh,hq _ _ _ h1,h2,h3,h4⟩
theorem ez.trans {Q:cj} {ρ bD:Ren} {σ aB:St} {w bg fr:World} {e:Exit} {a:Go.Act} (h:gG n₀ ρ σ w bD aB bg) (k:ez n₀ Q bD aB bg e a fr):ez n₀ Q ρ σ w e a fr:=by
 obtain⟨y,aR,bG,bh,h1,h2,h3,h4⟩:=k
 exact⟨y,aR,bG,bh,h1,h2,h3,h.trans h4⟩
theorem bH.seq {x y:Code} {Q:cj} {a:Act} {σ:St} (h:bH P n₀ x (ig (bH P n₀ y Q) Q) a σ):bH P n₀ (.seq x y) Q a σ:=by
 constructor
 ·obtain⟨e,a,τ,hx⟩:=h.ex
  cases e with
  | normal=>exact bH.ex hx
  | exit i=>exact⟨_,_,_,hx⟩
  | goto i=>exact⟨_,_,_,hx⟩
  | ret=>exact⟨_,_,_,hx⟩
 ·intro hn ρ w a' hr ha
  refine wpIn_seq (wpIn_mono (h.h hn ρ w a' hr ha) fun e aZ bg fe=>?_)
  obtain⟨z,aR,bG,bh,h1,rfl,h3,h4⟩:=fe
  cases z with
  | normal=>
   have h1:bH P n₀ y Q aR bG:=h1
   exact wpIn_mono (h1.h h4.next bh bg aZ h4.r h3) fun e a w hx=>ez.trans h4 hx
  | exit i=>exact⟨.exit i,aR,bG,bh,h1,rfl,h3,h4⟩
  | goto i=>exact⟨.goto i,aR,bG,bh,h1,rfl,h3,h4⟩
  | ret=>exact⟨.ret,aR,bG,bh,h1,rfl,h3,h4⟩
theorem bH.cond {x:Operand} {y z:Code} {Q:cj} {a:Act} {σ:St} (h:yb (bH P n₀ y Q a σ) (bH P n₀ z Q a σ) (a.eval x)):bH P n₀ (.cond x y z) Q a σ:=by
 cases hx:a.eval x with
 | none=>rw[hx] at h;exact h.elim
 | some v=>
  rw[hx] at h
  cases v with
  | bool b=>
   cases b with
   | true=>
    have h:bH P n₀ y Q a σ:=h
    exact⟨h.ex,fun hn ρ w a' hr ha=>wpIn_cond_true ((ha.eval x hx).qN) (h.h hn ρ w a' hr ha)⟩
   | false=>
    have h:bH P n₀ z Q a σ:=h
    exact⟨h.ex,fun hn ρ w a' hr ha=>wpIn_cond_false ((ha.eval x hx).qN) (h.h hn ρ w a' hr ha)⟩
  | _=>exact h.elim
theorem bH.block {id:Nat} {x:Code} {Q:cj} {a:Act} {σ:St} (h:bH P n₀ x (oS id Q) a σ):bH P n₀ (.block id x) Q a σ:=by
 constructor
 ·obtain⟨e,a,τ,hx⟩:=h.ex
  cases e with
  | normal=>exact⟨_,_,_,hx⟩
  | exit i=>
   have cG:(if i=id then Q .normal else Q (.exit i)) a τ:=hx
   by_cases e:i=id
   ·rw[if_pos e] at cG;exact⟨_,_,_,cG⟩
   ·rw[if_neg e] at cG;exact⟨_,_,_,cG⟩
  | goto i=>exact⟨_,_,_,hx⟩
  | ret=>exact⟨_,_,_,hx⟩
 ·intro hn ρ w a' hr ha
  refine wpIn_block (wpIn_mono (h.h hn ρ w a' hr ha) fun e aZ bg fe=>?_)
  obtain⟨z,b,σ',ρ',h1,rfl,h3,h4⟩:=fe
  cases z with
  | normal=>exact⟨.normal,_,_,_,h1,rfl,h3,h4⟩
  | exit i=>
   have fM:(if i=id then Q .normal else Q (.exit i)) b σ':=h1
   by_cases hi:i=id
   ·simp only[qO,Exit.inBlock,hi,if_true]
    rw[if_pos hi] at fM
    exact⟨.normal,_,_,_,fM,rfl,h3,h4⟩
   ·simp only[qO,Exit.inBlock,hi,if_false]
    rw[if_neg hi] at fM
    exact⟨.exit i,_,_,_,fM,rfl,h3,h4⟩
  | goto l=>exact⟨.goto l,_,_,_,h1,rfl,h3,h4⟩
  | ret=>exact⟨.ret,_,_,_,h1,rfl,h3,h4⟩
theorem bH.scope {x:Code} {Q:cj} {a:Act} {σ:St} (h:bH P n₀ x (qV Q) a σ):bH P n₀ (.scope x) Q a σ:=by
 constructor
 ·obtain⟨e,a,τ,hx⟩:=h.ex
  cases e with
  | normal=>exact⟨_,_,_,hx⟩
  | exit i=>exact⟨_,_,_,hx⟩
  | goto i=>exact hx.elim
  | ret=>exact⟨_,_,_,hx⟩
 ·intro hn ρ w a' hr ha
  refine sR (ya (wpIn_mono (h.h hn ρ w a' hr ha) fun e aZ bg fe=>?_))
  obtain⟨z,b,σ',ρ',h1,rfl,h3,h4⟩:=fe
  cases z with
  | normal=>exact⟨.normal,_,_,_,h1,rfl,h3,h4⟩
  | exit i=>exact⟨.exit i,_,_,_,h1,rfl,h3,h4⟩
  | goto l=>exact h1.elim
  | ret=>exact⟨.ret,_,_,_,h1,rfl,h3,h4⟩
theorem cV.code {x:Code} {Q:cj} {a:Act} {σ:St} (h:cV P n₀ x Q a σ):bH P n₀ (.loop x) Q a σ:=⟨h.ex,fun hn ρ w a' hr ha=>(h.h hn ρ w a' hr ha).1⟩
theorem cV.round {x:Code} {Q:cj} {a:Act} {σ:St} (h:bH P n₀ x (ig (cV P n₀ x Q) Q) a σ):cV P n₀ x Q a σ:=by
 constructor
 ·obtain⟨e,a,τ,hx⟩:=h.ex
  cases e with
  | normal=>exact cV.ex hx
  | exit i=>exact⟨_,_,_,hx⟩
  | goto i=>exact⟨_,_,_,hx⟩
  | ret=>exact⟨_,_,_,hx⟩
 ·intro hn ρ w a' hr ha
  refine oQ (wpIn_mono (h.h hn ρ w a' hr ha) fun e aZ bg fe=>?_)
  obtain⟨y,aR,bG,bh,h1,rfl,h3,h4⟩:=fe
  cases y with
  | normal=>
   have h1:cV P n₀ x Q aR bG:=h1
   exact(h1.h h4.next bh bg aZ h4.r h3).2.mono fun e a w hx=>ez.trans h4 hx
  | exit i=>exact⟨.exit i,aR,bG,bh,h1,rfl,h3,h4⟩
  | goto i=>exact⟨.goto i,aR,bG,bh,h1,rfl,h3,h4⟩
  | ret=>exact⟨.ret,aR,bG,bh,h1,rfl,h3,h4⟩
noncomputable def behind (P:Program) (K:eM P) (fn:FuncId):Code→Nat→Nat→cj→cj
 | .seq x y,i,j,Q=>match Nat.blt j (aF x) with
  | true=>behind P K fn x i j (ig (ws P K fn none (Nat.add i (aF x)) y Q) Q)
  | false=>behind P K fn y (Nat.add i (aF x)) (Nat.sub j (aF x)) Q
 | .cond _ x y,i,j,Q=>match Nat.blt j (aF x) with
  | true=>behind P K fn x i j Q
  | false=>behind P K fn y (Nat.add i (aF x)) (Nat.sub j (aF x)) Q
 | .block id x,i,j,Q=>behind P K fn x i j (oS id Q)
 | .scope x,i,j,Q=>behind P K fn x i j (qV Q)
 | .loop x,i,j,Q=>match j with
  | 0=>Q
  | j+1=>behind P K fn x (Nat.add i 1) j (ig (K.loop fn none i x Q) Q)
 | _,_,_,_=>fun _ _ _=>False
def bW (P:Program) (n₀:Nat):Code→Nat→cj→cj
 | .seq x y,j,Q=>match Nat.blt j (aF x) with
  | true=>bW P n₀ x j (ig (bH P n₀ y Q) Q)
  | false=>bW P n₀ y (Nat.sub j (aF x)) Q
 | .cond _ x y,j,Q=>match Nat.blt j (aF x) with
  | true=>bW P n₀ x j Q
  | false=>bW P n₀ y (Nat.sub j (aF x)) Q
 | .block id x,j,Q=>bW P n₀ x j (oS id Q)
 | .scope x,j,Q=>bW P n₀ x j (qV Q)
 | .loop x,j,Q=>match j with
  | 0=>Q
  | j+1=>bW P n₀ x j (ig (cV P n₀ x Q) Q)
 | _,_,_=>fun _ _ _=>False
omit [Env] in
theorem ob {x y:Code} {j:Nat} {z:Code} (h:(aQ x)[j]? =some z):(aQ x++aQ y)[j]? =some z∧Nat.blt j (aF x)=true:=by
 have bB:=(List.getElem?_eq_some_iff.1 h).1
 refine⟨by rw[List.getElem?_append_left bB];exact h,?_⟩
 rw[Nat.blt_eq,←dN];exact bB
omit [Env] in
theorem mX {x y:Code} {j:Nat} {z:Code} (h:(aQ y)[j]? =some z):(aQ x++aQ y)[aF x+j]? =some z∧Nat.blt (aF x+j) (aF x)=false:=by
 refine⟨by rw[List.getElem?_append_right (by rw[dN];omega),dN,show aF x+j-aF x=j by omega];exact h,?_⟩
 cases hb:Nat.blt (aF x+j) (aF x) with
 | false=>rfl
 | true=>rw[Nat.blt_eq] at hb;omega
section
variable [eJ P] {K:eM P}
structure eM.Ki (K:eM P) (n₀:Nat):Prop extends K.OkC where
 range:∀ {f:FuncId} {c:Code} {Q:cj} {a:Act} {σ:St},K.range f none c Q a σ→bH P n₀ c Q a σ
theorem bH.gA (hK:K.Ki n₀):∀(c:Code) {i:Nat} {Q Q':cj} (_:∀e a σ,Q e a σ→Q' e a σ)
  (_:∀j x,(aQ c)[j]? =some x→∀a σ Q,K.loop fn none (i+j) x Q a σ→cV P n₀ x (bW P n₀ c j Q') a σ) {a:Act} {σ:St},ws P K fn none i c Q a σ→bH P n₀ c Q' a σ
 | .skip,i,Q,Q',hq,H,a,σ,h=>bH.of (fn:=fn) ⟨hq _ _ _ h⟩
 | .label l,i,Q,Q',hq,H,a,σ,h=>bH.of (fn:=fn) ⟨hq _ _ _ h⟩
 | .exit id,i,Q,Q',hq,H,a,σ,h=>bH.of (fn:=fn) ⟨hq _ _ _ h⟩
 | .goto l,i,Q,Q',hq,H,a,σ,h=>bH.of (fn:=fn) ⟨hq _ _ _ h⟩
 | .ret,i,Q,Q',hq,H,a,σ,h=>bH.of (fn:=fn) ⟨hq _ _ _ h⟩
 | .seq x y,i,Q,Q',hq,H,a,σ,h=>by
  refine .seq (bH.gA hK x (i:=i) (Q:=ig (ws P K fn none (Nat.add i (aF x)) y Q) Q) (fun e a σ h=>?_) (fun j z hz a σ dF hA=>?_) h)
  ·cases e with
   | normal=>
    refine bH.gA hK y (i:=i+aF x) hq (fun j z hz a σ dF hA=>?_) h
    obtain⟨h1,h2⟩:=mX (x:=x) hz
    have:=H (aF x+j) z h1 a σ dF (by rw[←Nat.add_assoc];exact hA)
    unfold bW at this
    rw[h2] at this
    dsimp only at this
    rw[show Nat.sub (aF x+j) (aF x)=j from Nat.add_sub_cancel_left _ _] at this
    exact this
   | exit i=>exact hq _ _ _ h
   | goto l=>exact hq _ _ _ h
   | ret=>exact hq _ _ _ h
  ·obtain⟨h1,h2⟩:=ob (y:=y) hz
   have:=H j z h1 a σ dF hA
   unfold bW at this
   rw[h2] at this
   exact this
 | .cond x y z,i,Q,Q',hq,H,a,σ,h=>by
  refine .cond ?_
  have h':yb (ws P K fn none i y Q a σ) (ws P K fn none (Nat.add i (aF y)) z Q a σ) (a.eval x):=h
  revert h'
  cases a.eval x with
  | none=>exact id
  | some v=>cases v with
   | bool b=>
    refine fun h=>.mk (fun e=>bH.gA hK y (i:=i) hq (fun j t hz a σ dF hA=>?_) (af.y h e)) fun e=>bH.gA hK z (i:=i+aF y) hq (fun j t hz a σ dF hA=>?_) (af.z h e)
    ·obtain⟨h1,h2⟩:=ob (y:=z) hz
     have:=H j t h1 a σ dF hA
     unfold bW at this
     rw[h2] at this
     exact this
    ·obtain⟨h1,h2⟩:=mX (x:=y) hz
     have:=H (aF y+j) t h1 a σ dF (by rw[←Nat.add_assoc];exact hA)
     unfold bW at this
     rw[h2] at this
     dsimp only at this
     rw[show Nat.sub (aF y+j) (aF y)=j from Nat.add_sub_cancel_left _ _] at this
     exact this
   | _=>exact id
 | .block id x,i,Q,Q',hq,H,a,σ,h=>by
  refine .block (bH.gA hK x (i:=i) (Q:=oS id Q) (fun e a σ h=>?_) (fun j z hz a σ dF hA=>H j z hz a σ dF hA) h)
  cases e with
  | normal=>exact hq _ _ _ h
  | exit k=>
   have h':(if k=id then Q .normal else Q (.exit k)) a σ:=h
   show(if k=id then Q' .normal else Q' (.exit k)) a σ
   by_cases e:k=id
   ·rw[if_pos e] at h'⊢;exact hq _ _ _ h'
   ·rw[if_neg e] at h'⊢;exact hq _ _ _ h'
  | goto l=>exact hq _ _ _ h
  | ret=>exact hq _ _ _ h
 | .loop x,i,Q,Q',hq,H,a,σ,h=>(H 0 x rfl a σ Q h).code
 | .region id ops draw,i,Q,Q',hq,H,a,σ,h=>by
  have h':zo P K none ops.toList (Q .normal) a σ draw:=h
  have hc:cp P fn none (.region id ops draw) Q a σ:=by
   cases draw with
   | false=>exact⟨sf hK.toOkC h'⟩
   | true=>
    have h':HG P K none ops.toList (Q .normal) a σ (kc P ops.toList):=h'
    constructor
    show((match kc P ops.toList with
     | some l=>(⟨fun R ro a σ=>(ke P ops.toList l).f R ro σ.next [ahead (len ops.toList) σ] a (ahead (len ops.toList) σ)⟩:u7)
     | none=>⟨fun _ _ _ _=>.fail "plan"⟩).f (er P) none a σ).Holds (kj Q)
    cases hp:kc P ops.toList with
    | none=>rw[hp] at h';exact h'.elim
    | some l=>rw[hp] at h';exact oV hK.toOkC h'
  exact(bH.of hc).mono hq
 | .rangeFunc _ _ _ _,i,Q,Q',hq,H,a,σ,h=>(hK.range h).mono hq
 | .scope x,i,Q,Q',hq,H,a,σ,h=>by
  refine .scope (bH.gA hK x (i:=i) (Q:=qV Q) (fun e a σ h=>?_) (fun j z hz a σ dF hA=>H j z hz a σ dF hA) h)
  cases e with
  | normal=>exact hq _ _ _ h
  | exit k=>exact hq _ _ _ h
  | goto l=>exact h.elim
  | ret=>exact hq _ _ _ h
 | .refuse _,i,Q,Q',hq,H,a,σ,h=>(bH.of (show cp P fn none _ Q a σ from h)).mono hq
theorem eF (hK:K.Ki n₀):∀(c:Code) {i j:Nat} {Q Q':cj} (_:∀e a σ,Q e a σ→Q' e a σ)
  (_:∀j x,(aQ c)[j]? =some x→∀a σ Q,K.loop fn none (i+j) x Q a σ→cV P n₀ x (bW P n₀ c j Q') a σ) {e:Ex} {a:Act} {σ:St},behind P K fn c i j Q e a σ→bW P n₀ c j Q' e a σ
 | .seq x y,i,j,Q,Q',hq,H,e,a,σ,h=>by
  have Hx:∀j z,(aQ x)[j]? =some z→∀a σ Q,K.loop fn none (i+j) z Q a σ→cV P n₀ z (bW P n₀ x j (ig (bH P n₀ y Q') Q')) a σ:=by
   intro j z hz a σ dF hA
   obtain⟨h1,h2⟩:=ob (y:=y) hz
   have:=H j z h1 a σ dF hA
   unfold bW at this
   rw[h2] at this
   exact this
  have Hy:∀j z,(aQ y)[j]? =some z→∀a σ Q,K.loop fn none (i+aF x+j) z Q a σ→cV P n₀ z (bW P n₀ y j Q') a σ:=by
   intro j z hz a σ dF hA
   obtain⟨h1,h2⟩:=mX (x:=x) hz
   have:=H (aF x+j) z h1 a σ dF (by rw[←Nat.add_assoc];exact hA)
   unfold bW at this
   rw[h2] at this
   dsimp only at this
   rw[show Nat.sub (aF x+j) (aF x)=j from Nat.add_sub_cancel_left _ _] at this
   exact this
  unfold behind at h
  unfold bW
  cases hb:Nat.blt j (aF x) with
  | true=>
   rw[hb] at h
   refine eF hK x (i:=i) (fun e a σ h=>?_) Hx h
   cases e with
   | normal=>exact bH.gA hK y (i:=i+aF x) hq Hy h
   | exit i=>exact hq _ _ _ h
   | goto l=>exact hq _ _ _ h
   | ret=>exact hq _ _ _ h
  | false=>
   rw[hb] at h
   exact eF hK y (i:=i+aF x) hq Hy h
 | .cond _ x y,i,j,Q,Q',hq,H,e,a,σ,h=>by
  unfold behind at h
  unfold bW
  cases hb:Nat.blt j (aF x) with
  | true=>
   rw[hb] at h
   refine eF hK x (i:=i) hq (fun j z hz a σ dF hA=>?_) h
   obtain⟨h1,h2⟩:=ob (y:=y) hz
   have:=H j z h1 a σ dF hA
   unfold bW at this
   rw[h2] at this
   exact this
  | false=>
   rw[hb] at h
   refine eF hK y (i:=i+aF x) hq (fun j z hz a σ dF hA=>?_) h
   obtain⟨h1,h2⟩:=mX (x:=x) hz
   have:=H (aF x+j) z h1 a σ dF (by rw[←Nat.add_assoc];exact hA)
   unfold bW at this
   rw[h2] at this
   dsimp only at this
   rw[show Nat.sub (aF x+j) (aF x)=j from Nat.add_sub_cancel_left _ _] at this
   exact this
 | .block id x,i,j,Q,Q',hq,H,e,a,σ,h=>by
  refine eF hK x (i:=i) (Q:=oS id Q) (fun e a σ h=>?_) (fun j z hz a σ dF hA=>H j z hz a σ dF hA) h
  cases e with
  | normal=>exact hq _ _ _ h
  | exit k=>
   have h':(if k=id then Q .normal else Q (.exit k)) a σ:=h
   show(if k=id then Q' .normal else Q' (.exit k)) a σ
   by_cases e:k=id
   ·rw[if_pos e] at h'⊢;exact hq _ _ _ h'
   ·rw[if_neg e] at h'⊢;exact hq _ _ _ h'
  | goto l=>exact hq _ _ _ h
  | ret=>exact hq _ _ _ h
 | .scope x,i,j,Q,Q',hq,H,e,a,σ,h=>by
  refine eF hK x (i:=i) (Q:=qV Q) (fun e a σ h=>?_) (fun j z hz a σ dF hA=>H j z hz a σ dF hA) h
  cases e with
  | normal=>exact hq _ _ _ h
  | exit k=>exact hq _ _ _ h
  | goto l=>exact h.elim
  | ret=>exact hq _ _ _ h
 | .loop x,i,0,Q,Q',hq,H,e,a,σ,h=>hq _ _ _ h
 | .loop x,i,j+1,Q,Q',hq,H,e,a,σ,h=>by
  refine eF hK x (i:=i+1) (Q:=ig (K.loop fn none i x Q) Q) (Q':=ig (cV P n₀ x Q') Q') (fun e a σ h=>?_) (fun j z hz a σ dF hA=>?_) h
  ·cases e with
   | normal=>exact H 0 x rfl a σ Q h
   | exit i=>exact hq _ _ _ h
   | goto l=>exact hq _ _ _ h
   | ret=>exact hq _ _ _ h
  ·exact H (j+1) z (by rw[aQ,List.getElem?_cons_succ];exact hz) a σ dF (by rw[show i+(j+1)=i+1+j by omega];exact hA)
def hQ:Code→Bool
 | .seq x y=>hQ x&&hQ y
 | .cond _ x y=>hQ x&&hQ y
 | .block _ x=>hQ x
 | .loop x=>hQ x
 | .scope x=>hQ x
 | .rangeFunc _ _ _ _=>false
 | _=>true
omit [eJ P] in
theorem wB (x y:Code) (j:Nat) (Q:cj):bW P n₀ (.seq x y) j Q=match Nat.blt j (aF x) with
  | true=>bW P n₀ x j (ig (bH P n₀ y Q) Q)
  | false=>bW P n₀ y (Nat.sub j (aF x)) Q:=rfl
omit [eJ P] in
theorem tQ (o:Operand) (x y:Code) (j:Nat) (Q:cj):bW P n₀ (.cond o x y) j Q=match Nat.blt j (aF x) with
  | true=>bW P n₀ x j Q
  | false=>bW P n₀ y (Nat.sub j (aF x)) Q:=rfl
omit [eJ P] in
theorem HJ:∀(c:Code),hQ c=true→∀ {k j:Nat} {x z:Code} {Q:cj},(aQ c)[k]? =some x→(aQ x)[j]? =some z→bW P n₀ c (k+1+j) Q=bW P n₀ x j (ig (cV P n₀ x (bW P n₀ c k Q)) (bW P n₀ c k Q)):=by
 intro c
 have two:∀ {u v:Code} {k j:Nat} {x z:Code},(aQ u++aQ v)[k]? =some x→(aQ x)[j]? =some z→
   (Nat.blt k (aF u)=true∧Nat.blt (k+1+j) (aF u)=true∧(aQ u)[k]? =some x)∨(Nat.blt k (aF u)=false∧Nat.blt (k+1+j) (aF u)=false∧(aQ v)[Nat.sub k (aF u)]? =some x∧Nat.sub (k+1+j) (aF u)=Nat.sub k (aF u)+1+j):=by
  intro u v k j x z hk hj
  rcases Nat.lt_or_ge k (aQ u).length with bB | oN
  ·rw[List.getElem?_append_left bB] at hk
   have h2:=(List.getElem?_eq_some_iff.1 (sd u hk hj)).1
   rw[dN] at bB h2
   exact .inl ⟨by rw[Nat.blt_eq];exact bB,by rw[Nat.blt_eq];exact h2,hk⟩
  ·rw[List.getElem?_append_right oN] at hk
   rw[dN] at oN hk
   have f:∀n,aF u≤n→Nat.blt n (aF u)=false:=fun n hn=>by
    cases hb:Nat.blt n (aF u) with
    | false=>rfl
    | true=>rw[Nat.blt_eq] at hb;omega
   exact .inr ⟨f _ oN,f _ (by omega),hk,by show k+1+j-aF u=k-aF u+1+j;omega⟩
 induction c with
 | seq u v Sx Sy=>
  intro hp k j x z Q hk hj
  have hp:=Bool.and_eq_true_iff.1 (show(hQ u&&hQ v)=true from hp)
  rw[wB,wB]
  rcases two hk hj with ⟨h1,h2,h3⟩ | ⟨h1,h2,h3,h4⟩
  ·rw[h1,h2];exact Sx hp.1 h3 hj
  ·rw[h1,h2]
   dsimp only
   rw[h4];exact Sy hp.2 h3 hj
 | cond o u v Sx Sy=>
  intro hp k j x z Q hk hj
  have hp:=Bool.and_eq_true_iff.1 (show(hQ u&&hQ v)=true from hp)
  rw[tQ,tQ]
  rcases two hk hj with ⟨h1,h2,h3⟩ | ⟨h1,h2,h3,h4⟩
  ·rw[h1,h2];exact Sx hp.1 h3 hj
  ·rw[h1,h2]
   dsimp only
   rw[h4];exact Sy hp.2 h3 hj
 | block i u ih=>exact fun hp {_ _ _ _ _} hk hj=>ih hp hk hj
 | loop u ih=>
  intro hp k j x z Q hk hj
  cases k with
  | zero=>
   have e:u=x:=by simpa [aQ] using hk
   subst e
   rw[show 0+1+j=j+1 by omega]
   rfl
  | succ k=>
   have ed:(aQ u)[k]? =some x:=by simpa [aQ] using hk
   rw[show k+1+1+j=(k+1+j)+1 by omega]
   show bW P n₀ u (k+1+j) _=_
   exact ih hp ed hj
 | scope u ih=>exact fun hp {_ _ _ _ _} hk hj=>ih hp hk hj
 | _=>intro hp k j x z Q hk;simp [aQ] at hk
end
end
inductive SP where
 | val (v:V)
 | row (n:Nat) (f:Nat→V) (esz:Nat)
inductive NK where
 | ptr
 | sl (n m esz:Nat) (ex:Bool)
inductive SV where
 | val (v:V)
 | row (n:Nat) (f:Nat→V) (esz:Nat)
 | box (cs:List V)
 | nest (k:NK) (ps:List SP)
 | al (c n esz:Nat)
def SP.clean [Env]:SP→Prop
 | .val v=>Clean v
 | .row n f _=>∀i,i<n→∀u∈(f i).cells,Clean u
def SV.clean [Env]:SV→Prop
 | .val v=>Clean v
 | .row n f _=>∀i,i<n→∀u∈(f i).cells,Clean u
 | .box cs=>∀u∈cs,Clean u
 | .nest _ ps=>∀p∈ps,p.clean
 | .al ..=>True
noncomputable def HK (ps:List SP):Nat→List V:=
 List.rec (motive:=fun _=>Nat→List V) (fun _=>[]) (fun p _ ih b=>match p with | .val v=>v::ih b | .row n _ esz=>.own b n esz::ih (Nat.add b 1)) ps
noncomputable def od (ps:List SP):List bV:=
 List.rec (motive:=fun _=>List bV) [] (fun p _ ih=>match p with | .val _=>ih | .row n f esz=>.row n f esz false::ih) ps
noncomputable def SV.v (s:SV) (b:Nat):V:=
 match s with
 | .val v=>v
 | .row n _ esz=>.own b n esz
 | .box _=>.ptr b 0
 | .nest .ptr _=>.ptr b 0
 | .nest (.sl n m esz ex) _=>.slice b 0 n m ex esz
 | .al c n esz=>.own c n esz
noncomputable def SV.mC (s:SV) (b:Nat):List bV:=
 match s with
 | .val _=>[]
 | .row n f esz=>[.row n f esz false]
 | .box cs=>[.cells (len cs) [] (an cs .leaf 0) false false]
 | .nest _ ps=>.cells (len ps) [] (an (HK ps (Nat.add b 1)) .leaf 0) false false::od ps
 | .al ..=>[]
noncomputable def SV.nb (s:SV):Nat:=
 match s with
 | .val _=>0
 | .row ..=>1
 | .box _=>1
 | .nest _ ps=>Nat.add (len (od ps)) 1
 | .al ..=>0
noncomputable def Kj (ss:List SV):Nat→List V:=
 List.rec (motive:=fun _=>Nat→List V) (fun _=>[]) (fun s _ ih b=>s.v b::ih (Nat.add b s.nb)) ss
noncomputable def HL (x y:List bV):List bV:=List.rec (motive:=fun _=>List bV) y (fun k _ ih=>k::ih) x
noncomputable def lU (ss:List SV):Nat→List bV:=
 List.rec (motive:=fun _=>Nat→List bV) (fun _=>[]) (fun s _ ih b=>HL (s.mC b) (ih (Nat.add b s.nb))) ss
noncomputable def w9 (ls:List Nat):List V→bF V:=
 List.rec (motive:=fun _=>List V→bF V) (fun _=>[]) (fun t _ ih vs=>List.rec [] (fun v r _=>(ih r).put t v) vs) ls
noncomputable def HM (ks:List bV):Nat→Trie bV:=
 List.rec (motive:=fun _=>Nat→Trie bV) (fun _=>.leaf) (fun k _ ih n=>(ih (Nat.add n 1)).put n (some k)) ks
noncomputable def EM (size:Nat) (live:List Nat) (ss:List SV):Act:=⟨w9 live (Kj ss 0),size,[]⟩
noncomputable def EN (ss:List SV):St:=⟨HM (lU ss 0) 0,len (lU ss 0)⟩
theorem EO (x y:List bV):HL x y=x++y:=by
 induction x with
 | nil=>rfl
 | cons k x ih=>exact congrArg (k::·) ih
noncomputable def Cz (n:Nat) (l:List Nat):Bool:=List.rec (motive:=fun _=>Bool) false (fun a _ b=>Nat.beq n a||b) l
noncomputable def CA (l:List Nat):Bool:=List.rec (motive:=fun _=>Bool) true (fun a t b=> !Cz a t&&b) l
noncomputable def vj (N:Nat) (z:List V) (t:Trie V) (esz n:Nat):Nat→Option (List V):=
 Nat.rec (motive:=fun _=>Nat→Option (List V)) (fun _=>some []) (fun _ ih off=>match cellsOf N z t esz off with
  | some cs=>match ih (Nat.add off esz) with
   | some es=>some (.agg cs::es)
   | none=>none
  | none=>none) n
noncomputable def rowOf (n m:Nat) (ex:Bool) (esz N:Nat) (z:List V) (t:Trie V) (k:(Nat→V)→Prop):Trie V→Prop
 | .leaf=>match ex&&(Nat.beq (len z) esz&&Nat.blt 0 esz) with
  | true=>(n≤m∧N=n*esz)∧k fun _=>.agg z
  | false=>False
 | _=>match ex,cellsOf N z t esz 0 with
  | false,some cs=>match Nat.ble 2 n with
   | true=>match vj N z t esz n 0 with
    | some es=>(m=n∧N=n*esz)∧k (kD es)
    | none=>False
   | false=>(n=1∧m=1∧N=1*esz)∧k fun _=>.agg cs
  | _,_=>False
theorem tR {n:Nat} {z:List V} {t:Trie V} (k off:Nat) {vs:List V} (h:cellsOf n z t k off=some vs):vs.length=k∧∀i v,vs[i]? =some v→cellOf n z t (off+i)=some v:=by
 letI:Env:=n9 [] fun x hx=>by cases hx
 exact gm k off h
theorem wC {N:Nat} {z:List V} {t:Trie V} {esz:Nat}:∀ {n off:Nat} {es:List V},vj N z t esz n off=some es→es.length=n∧∀i,i<n→∃cs,es[i]? =some (.agg cs)∧cs.length=esz∧∀j v,cs[j]? =some v→cellOf N z t (off+i*esz+j)=some v
 | 0,off,es,h=>by
  have h:some []=some es:=h
  cases h
  exact⟨rfl,fun i hi=>absurd hi (Nat.not_lt_zero i)⟩
 | n+1,off,es,h=>by
  have h:(match cellsOf N z t esz off with
   | some cs=>match vj N z t esz n (Nat.add off esz) with
    | some es=>some (.agg cs::es)
    | none=>none
   | none=>none)=some es:=h
  split at h
  ·rename_i cs hc
   split at h
   ·rename_i us hu
    cases h
    obtain⟨g1,g2⟩:=wC hu
    obtain⟨c1,c2⟩:=tR _ _ hc
    refine⟨congrArg (·+1) g1,fun i hi=>?_⟩
    cases i with
    | zero=>exact⟨cs,rfl,c1,fun j v hv=>by rw[Nat.zero_mul,Nat.add_zero];exact c2 j v hv⟩
    | succ i=>
     obtain⟨ds,d1,d2,d3⟩:=g2 i (by omega)
     refine⟨ds,d1,d2,fun j v hv=>?_⟩
     have:=d3 j v hv
     rwa [show Nat.add off esz+i*esz+j=off+(i+1)*esz+j by
      show off+esz+i*esz+j=_
      rw[Nat.succ_mul];omega] at this
   ·cases h
  ·cases h
theorem wD {n m:Nat} {ex:Bool} {esz N:Nat} {z:List V} {t:Trie V} {k:(Nat→V)→Prop} (h:rowOf n m ex esz N z t k t):
  ∃f,k f∧N=n*esz∧((ex=true∧n≤m)∨(ex=false∧m=n∧n≠0))∧(∀i,i<n→(f i).cells.length=esz)∧∀i,i<n→∀j v,(f i).cells[j]? =some v→cellOf N z t (i*esz+j)=some v:=by
 cases t with
 | nil=>
  have h':(match ex&&(Nat.beq (len z) esz&&Nat.blt 0 esz) with
   | true=>(n≤m∧N=n*esz)∧k fun _=>.agg z
   | false=>False):=h
  split at h'
  ·rename_i hb
   rw[Bool.and_eq_true,Bool.and_eq_true] at hb
   obtain⟨b1,b2,b3⟩:=hb
   have b2:=Nat.eq_of_beq_eq_true b2
   rw[bc] at b2
   rw[Nat.blt_eq] at b3
   obtain⟨⟨c1,c2⟩,c3⟩:=h'
   refine⟨_,c3,c2,.inl ⟨b1,c1⟩,fun i _=>b2,fun i hi j v hj=>?_⟩
   have iY:z[j]? =some v:=hj
   have bB:j<esz:=by rw[←b2];exact(List.getElem?_eq_some_iff.1 iY).1
   have ZR:i*esz+j<N:=by rw[c2];have:=kH hi (Nat.succ_le_of_lt bB);omega
   unfold cellOf
   rw[show Nat.blt (i*esz+j) N=true by rw[Nat.blt_eq];exact ZR]
   dsimp only
   rw[show Trie.get ([]:Trie V) (i*esz+j)=none from Trie.eK _]
   dsimp only
   rw[dA,bc,b2,show Nat.mod (i*esz+j) esz=j from by
    show(i*esz+j)%esz=j
    rw[Nat.add_comm,Nat.add_mul_mod_self_right,Nat.mod_eq_of_lt bB]]
   exact iY
  ·exact h'.elim
 | cons x t=>
  have h':(match (generalizing:=false) ex,cellsOf N z (x::t) esz 0 with
   | false,some cs=>match Nat.ble 2 n with
    | true=>match vj N z (x::t) esz n 0 with
     | some es=>(m=n∧N=n*esz)∧k (kD es)
     | none=>False
    | false=>(n=1∧m=1∧N=1*esz)∧k fun _=>.agg cs
   | _,_=>False):=h
  split at h'
  ·rename_i cs hc
   split at h'
   ·rename_i h2
    have h2:=Nat.le_of_ble_eq_true h2
    split at h'
    ·rename_i es he
     obtain⟨⟨rfl,rfl⟩,h3⟩:=h'
     obtain⟨g1,g2⟩:=wC he
     have key:∀i,i<m→∃cs,kD es i=.agg cs∧cs.length=esz∧∀j v,cs[j]? =some v→cellOf (m*esz) z (x::t) (i*esz+j)=some v:=fun i hi=>by
      obtain⟨ds,d1,d2,d3⟩:=g2 i hi
      refine⟨ds,?_,d2,fun j v hv=>by have:=d3 j v hv;rwa [Nat.zero_add] at this⟩
      unfold kD
      rw[dA,d1]
     refine⟨_,h3,rfl,.inr ⟨rfl,rfl,by omega⟩,fun i hi=>?_,fun i hi j v hj=>?_⟩
     ·obtain⟨ds,d1,d2,_⟩:=key i hi
      rw[d1];exact d2
     ·obtain⟨ds,d1,_,d3⟩:=key i hi
      rw[d1] at hj;exact d3 j v hj
    ·exact h'.elim
   obtain⟨⟨rfl,rfl,rfl⟩,h3⟩:=h'
   obtain⟨g1,g2⟩:=tR _ _ hc
   refine⟨_,h3,rfl,.inr ⟨rfl,rfl,by omega⟩,fun i _=>g1,fun i hi j v hj=>?_⟩
   obtain rfl:i=0:=by omega
   have:=g2 j v hj
   rw[Nat.zero_mul];exact this
  ·exact h'.elim
def HN (σ:St) (k:Nat→(Nat→V)→Nat→Nat→Prop):V→Prop
 | .own b n esz=>match σ.heap.get b with
  | some (.row n' f rN _)=>(n=n'∧esz=rN)∧k n' f rN b
  | _=>False
 | .slice b off n m ex esz=>match off,σ.heap.get b with
  | 0,some (.cells N z t _ false)=>rowOf n m ex esz N z t (fun f=>k n f esz b) t
  | _,_=>False
 | _=>False
def V.CB:V→Bool
 | .own ..=>true
 | .slice ..=>true
 | _=>false
noncomputable def Kk (cs:List V):Bool:=List.rec (motive:=fun _=>Bool) false (fun v _ ih=>v.CB||ih) cs
noncomputable def yn (σ:St) (cs:List V):(List SP→List Nat→Prop)→Prop:=
 List.rec (motive:=fun _=>(List SP→List Nat→Prop)→Prop) (fun k=>k [] []) (fun v _ ih k=>match v.CB with
  | true=>HN σ (fun n f esz b=>ih fun ps bs=>k (.row n f esz::ps) (b::bs)) v
  | false=>ih fun ps bs=>k (.val v::ps) bs) cs
noncomputable def Sz (σ:St) (n m:Nat) (ex:Bool) (esz N:Nat) (z:List V) (t:Trie V) (b:Nat) (k:SV→List Nat→Prop):Trie V→Prop
 | .leaf=>rowOf n m ex esz N z t (fun f=>k (.row n f esz) [b]) t
 | _=>match cellsOf N z t N 0 with
  | some cs=>match Kk cs||ex with
   | true=>yn σ cs fun ps bs=>k (.nest (.sl n m esz ex) ps) (b::bs)
   | false=>rowOf n m ex esz N z t (fun f=>k (.row n f esz) [b]) t
  | none=>rowOf n m ex esz N z t (fun f=>k (.row n f esz) [b]) t
def yo (σ:St) (k:SV→List Nat→Prop):V→Prop
 | .own b n esz=>match σ.heap.get b with
  | some (.row n' f rN _)=>(n=n'∧esz=rN)∧k (.row n' f rN) [b]
  | _=>False
 | .ptr b off=>match off,σ.heap.get b with
  | 0,some (.cells n z t _ false)=>match cellsOf n z t n 0 with
   | some cs=>match Kk cs with
    | true=>yn σ cs fun ps bs=>k (.nest .ptr ps) (b::bs)
    | false=>k (.box cs) [b]
   | none=>False
  | _,_=>False
 | .slice b off n m ex esz=>match off,σ.heap.get b with
  | 0,some (.cells N z t _ false)=>Sz σ n m ex esz N z t b k t
  | _,_=>False
 | v=>k (.val v) []
noncomputable def CC (x y:List Nat):List Nat:=List.rec (motive:=fun _=>List Nat) y (fun k _ ih=>k::ih) x
theorem EP (x y:List Nat):CC x y=x++y:=by
 induction x with
 | nil=>rfl
 | cons k x ih=>exact congrArg (k::·) ih
noncomputable def L8 (b:Nat) (l:List Nat):Nat→Option Nat:=
 List.rec (motive:=fun _=>Nat→Option Nat) (fun _=>none) (fun x _ ih i=>match Nat.beq b x with | true=>some i | false=>ih (Nat.add i 1)) l
noncomputable def vk (seen:List Nat):V→Option (Nat×Nat×Nat)
 | .own b n esz=>match L8 b seen 0 with
  | some c=>some (c,n,esz)
  | none=>none
 | _=>none
noncomputable def yp (a:Act) (σ:St) (ls:List Nat):List Nat→(List SV→List Nat→Prop)→Prop:=
 List.rec (motive:=fun _=>List Nat→(List SV→List Nat→Prop)→Prop) (fun _ k=>k [] []) (fun t _ ih seen k=>match a.tmps.get t with
  | some v=>match vk seen v with
   | some (c,n,esz)=>ih seen fun ss bs=>k (.al c n esz::ss) bs
   | none=>yo σ (fun s b=>ih (CC seen b) fun ss bs=>k (s::ss) (CC b bs)) v
  | none=>False) ls
noncomputable def L9 (n:Nat):Nat→List Nat→Bool:=
 Nat.rec (motive:=fun _=>Nat→List Nat→Bool) (fun _ _=>true) (fun _ ih k l=>List.rec false (fun b r _=>Nat.beq b k&&ih (Nat.add k 1) r) l) n
noncomputable def lV (n₀ size:Nat) (live:List Nat) (a:Act) (σ:St) (k:List SV→Prop):Prop:=
 match a.defers,Nat.beq a.size size with
 | [],true=>yp a σ live [] fun ss bs=>match L9 n₀ 0 bs&&CA bs with
  | true=>k ss
  | false=>False
 | _,_=>False
section
variable [Env]
inductive sj (σ:St):V→Nat→(Nat→V)→Nat→Nat→Prop
 | own {b n esz:Nat} {f:Nat→V} {p:Bool} (hb:σ.heap.get b=some (.row n f esz p)):sj σ (.own b n esz) n f esz b
 | of {b n m esz N:Nat} {ex:Bool} {f:Nat→V} {z:List V} {tr:Trie V} {p:Bool} (hb:σ.heap.get b=some (.cells N z tr p false))
   (hN:N=n*esz) (hm:(ex=true∧n≤m)∨(ex=false∧m=n∧n≠0)) (hu:∀i,i<n→(f i).cells.length=esz) (hc:∀i,i<n→∀j v,(f i).cells[j]? =some v→cellOf N z tr (i*esz+j)=some v):sj σ (.slice b 0 n m ex esz) n f esz b
omit [Env] in
theorem Ma {σ:St} {k:Nat→(Nat→V)→Nat→Nat→Prop} {v:V} (h:HN σ k v):∃n f esz b,sj σ v n f esz b∧k n f esz b:=by
 unfold HN at h
 split at h
 ·split at h
  ·rename_i hb
   obtain⟨⟨rfl,rfl⟩,h⟩:=h
   exact⟨_,_,_,_,.own hb,h⟩
  ·exact h.elim
 ·split at h
  ·rename_i hb
   obtain⟨f,h,c1,c2,c3,c4⟩:=wD h
   exact⟨_,_,_,_,.of hb c1 c2 c3 c4,h⟩
  ·exact h.elim
 ·exact h.elim
theorem sj.val {σ:St} {v:V} {n esz b:Nat} {f:Nat→V} (h:sj σ v n f esz b) {m:Nat→Option Nat} {i:Nat} (hm:m i=some b):eE m (.own i n esz) v:=by
 cases h with
 | own hb=>exact .own hm
 | of hb hN h hu hc=>
  rcases h with ⟨rfl,h⟩ | ⟨rfl,rfl,h⟩
  ·exact .OZ hm h
  ·exact .HH hm h
theorem sj.cP {σ:St} {v:V} {n esz b:Nat} {f:Nat→V} (h:sj σ v n f esz b) (iZ:∀i,i<n→∀u∈(f i).cells,Clean u) (m:Nat→Option Nat):∃q,σ.heap.get b=some q∧ff m (.row n f esz false) q:=by
 cases h with
 | own hb=>exact⟨_,hb,.row (fun h=>by cases h) fun i hi=>eI.clean (iZ i hi)⟩
 | of hb hN h hu hc=>
  subst hN
  exact⟨_,hb,.vb (fun h=>by cases h) hu fun i hi j v hj=>⟨v,hc i hi j v hj,.clean (iZ i hi v (List.mem_of_getElem? hj))⟩⟩
inductive kN (σ:St):List V→List SP→List Nat→Prop
 | nil:kN σ [] [] []
 | val {v:V} {vs:List V} {ps:List SP} {bs:List Nat} (hl:kN σ vs ps bs):kN σ (v::vs) (.val v::ps) bs
 | row {v:V} {n esz b:Nat} {f:Nat→V} {vs:List V} {ps:List SP} {bs:List Nat} (h:sj σ v n f esz b) (hl:kN σ vs ps bs):kN σ (v::vs) (.row n f esz::ps) (b::bs)
omit [Env] in
theorem pG {σ:St}:∀ {cs:List V} {k:List SP→List Nat→Prop},yn σ cs k→∃ps bs,kN σ cs ps bs∧k ps bs
 | [],k,h=>⟨[],[],.nil,h⟩
 | v::vs,k,h=>by
  have h':(match v.CB with
   | true=>HN σ (fun n f esz b=>yn σ vs fun ps bs=>k (.row n f esz::ps) (b::bs)) v
   | false=>yn σ vs fun ps bs=>k (.val v::ps) bs):=h
  split at h'
  ·obtain⟨n,f,esz,b,h1,h2⟩:=Ma h'
   obtain⟨ps,bs,h3,h4⟩:=pG h2
   exact⟨_,_,.row h1 h3,h4⟩
  ·obtain⟨ps,bs,h3,h4⟩:=pG h'
   exact⟨_,_,.val h3,h4⟩
omit [Env] in
theorem kN.len {σ:St} {vs:List V} {ps:List SP} {bs:List Nat} (h:kN σ vs ps bs):(od ps).length=bs.length∧ps.length=vs.length:=by
 induction h with
 | nil=>exact⟨rfl,rfl⟩
 | val hl ih=>exact⟨ih.1,congrArg (·+1) ih.2⟩
 | row h hl ih=>exact⟨congrArg (·+1) ih.1,congrArg (·+1) ih.2⟩
def hR (m:Nat→Option Nat) (b:Nat) (bs:List Nat):Prop:=∀i c,bs[i]? =some c→m (b+i)=some c
omit [Env] in
theorem hR.head {m:Nat→Option Nat} {b c:Nat} {bs:List Nat} (h:hR m b (c::bs)):m b=some c:=h 0 c rfl
omit [Env] in
theorem hR.tail {m:Nat→Option Nat} {b c:Nat} {bs:List Nat} (h:hR m b (c::bs)):hR m (b+1) bs:=fun i d hd=>by
 rw[show b+1+i=b+(i+1) by omega];exact h (i+1) d (by simpa using hd)
omit [Env] in
theorem hR.left {m:Nat→Option Nat} {b:Nat} {aef bs:List Nat} (h:hR m b (aef++bs)):hR m b aef:=fun i c hc=>h i c (by rw[List.getElem?_append_left (List.getElem?_eq_some_iff.1 hc).1];exact hc)
omit [Env] in
theorem hR.right {m:Nat→Option Nat} {b:Nat} {aef bs:List Nat} (h:hR m b (aef++bs)):hR m (b+aef.length) bs:=fun i c hc=>by
 rw[Nat.add_assoc]
 exact h (aef.length+i) c (by rw[List.getElem?_append_right (by omega),show aef.length+i-aef.length=i by omega];exact hc)
theorem kN.y0 {σ:St} {vs:List V} {ps:List SP} {bs:List Nat} (h:kN σ vs ps bs):(∀p∈ps,p.clean)→∀ {m:Nat→Option Nat} {b:Nat},hR m b bs→eI m (HK ps b) vs:=by
 induction h with
 | nil=>exact fun _ {_ _} _=>.nil
 | val hl ih=>exact fun hc {_ _} hm=>.cons (.clean (hc _ List.mem_cons_self)) (ih (fun p hp=>hc p (List.mem_cons_of_mem _ hp)) hm)
 | row h hl ih=>exact fun hc {_ _} hm=>.cons (h.val hm.head) (ih (fun p hp=>hc p (List.mem_cons_of_mem _ hp)) hm.tail)
theorem kN.mC {σ:St} {vs:List V} {ps:List SP} {bs:List Nat} (h:kN σ vs ps bs):(∀p∈ps,p.clean)→∀(m:Nat→Option Nat) {i:Nat} {q:bV},(od ps)[i]? =some q→∃c q',bs[i]? =some c∧σ.heap.get c=some q'∧ff m q q':=by
 induction h with
 | nil=>intro _ m i q hq;simp [od] at hq
 | val hl ih=>exact fun hc m {i q} hq=>ih (fun p hp=>hc p (List.mem_cons_of_mem _ hp)) m hq
 | row h hl ih=>
  intro hc m i q hq
  cases i with
  | zero=>
   have iA:some _=some q:=hq
   cases iA
   obtain⟨q',h1,h2⟩:=h.cP (hc _ List.mem_cons_self) m
   exact⟨_,q',rfl,h1,h2⟩
  | succ i=>exact ih (fun p hp=>hc p (List.mem_cons_of_mem _ hp)) m (i:=i) (by simpa [od] using hq)
inductive kO (σ:St):V→SV→List Nat→Prop
 | val {v:V}:kO σ v (.val v) []
 | row {v:V} {n esz b:Nat} {f:Nat→V} (h:sj σ v n f esz b):kO σ v (.row n f esz) [b]
 | box {b n:Nat} {z:List V} {tr:Trie V} {p:Bool} {cs:List V} (hb:σ.heap.get b=some (.cells n z tr p false)) (hc:cellsOf n z tr n 0=some cs):kO σ (.ptr b 0) (.box cs) [b]
 | ptr {b n:Nat} {z:List V} {tr:Trie V} {p:Bool} {cs:List V} {ps:List SP} {bs:List Nat} (hb:σ.heap.get b=some (.cells n z tr p false)) (hc:cellsOf n z tr n 0=some cs) (hp:kN σ cs ps bs):kO σ (.ptr b 0) (.nest .ptr ps) (b::bs)
 | sl {b N n m esz:Nat} {ex:Bool} {z:List V} {tr:Trie V} {p:Bool} {cs:List V} {ps:List SP} {bs:List Nat} (hb:σ.heap.get b=some (.cells N z tr p false)) (hc:cellsOf N z tr N 0=some cs) (hp:kN σ cs ps bs):kO σ (.slice b 0 n m ex esz) (.nest (.sl n m esz ex) ps) (b::bs)
omit [Env] in
theorem PT {σ:St} {n m esz N b:Nat} {ex:Bool} {z:List V} {t:Trie V} {p:Bool} {k:SV→List Nat→Prop} (hb:σ.heap.get b=some (.cells N z t p false)) (h:Sz σ n m ex esz N z t b k t):∃s bs,kO σ (.slice b 0 n m ex esz) s bs∧k s bs:=by
 have row:rowOf n m ex esz N z t (fun f=>k (.row n f esz) [b]) t→∃s bs,kO σ (.slice b 0 n m ex esz) s bs∧k s bs:=fun h=>by
  obtain⟨f,h,c1,c2,c3,c4⟩:=wD h
  exact⟨_,_,.row (.of hb c1 c2 c3 c4),h⟩
 unfold Sz at h
 split at h
 ·exact row h
 ·split at h
  ·rename_i hc
   split at h
   ·obtain⟨ps,bs,h1,h2⟩:=pG h
    exact⟨_,_,.sl hb hc h1,h2⟩
   ·exact row h
  ·exact row h
omit [Env] in
theorem HO {σ:St} {v:V} {k:SV→List Nat→Prop} (h:yo σ k v):∃s bs,kO σ v s bs∧k s bs:=by
 unfold yo at h
 split at h
 ·split at h
  ·rename_i hb
   obtain⟨⟨rfl,rfl⟩,h⟩:=h
   exact⟨_,_,.row (.own hb),h⟩
  ·exact h.elim
 ·split at h
  ·rename_i hb
   split at h
   ·rename_i hc
    split at h
    ·obtain⟨ps,bs,h1,h2⟩:=pG h
     exact⟨_,_,.ptr hb hc h1,h2⟩
    ·exact⟨_,_,.box hb hc,h⟩
   ·exact h.elim
  ·exact h.elim
 ·split at h
  ·rename_i hb
   exact PT hb h
  ·exact h.elim
 ·exact⟨_,_,.val,h⟩
theorem AJ {m:Nat→Option Nat} {n:Nat} {z:List V} {tr:Trie V} {p:Bool} {cs us:List V} (hc:cellsOf n z tr n 0=some cs) (hr:eI m us cs) {N:Nat} (hN:N=n):ff m (.cells N [] (an us .leaf 0) false false) (.cells n z tr p false):=by
 subst hN
 obtain⟨_,g2⟩:=gm _ _ hc
 refine .cells (fun h=>by cases h) fun i v hi=>?_
 rcases fR hi with ⟨_,h2,h3⟩ | ⟨_,h2⟩
 ·rw[Nat.sub_zero] at h3
  obtain⟨u,hu,hv⟩:=hr.get h3
  have:=g2 i u hu
  rw[Nat.zero_add] at this
  exact⟨u,this,hv⟩
 ·unfold cellOf at h2
  split at h2
  ·rw[Trie.eK] at h2;simp [dA] at h2
  ·cases h2
omit [Env] in
theorem kO.len {σ:St} {v:V} {s:SV} {bs:List Nat} (h:kO σ v s bs):s.nb=bs.length∧∀b,(s.mC b).length=bs.length:=by
 cases h with
 | val=>exact⟨rfl,fun _=>rfl⟩
 | row h=>exact⟨rfl,fun _=>rfl⟩
 | box hb hc=>exact⟨rfl,fun _=>rfl⟩
 | ptr hb hc hp=>exact⟨by show Go.Ev.len (od _)+1=_;rw[bc,hp.len.1];rfl,fun _=>congrArg (·+1) hp.len.1⟩
 | sl hb hc hp=>exact⟨by show Go.Ev.len (od _)+1=_;rw[bc,hp.len.1];rfl,fun _=>congrArg (·+1) hp.len.1⟩
theorem kO.y0 {σ:St} {v:V} {s:SV} {bs:List Nat} (h:kO σ v s bs) (hc:s.clean) {m:Nat→Option Nat} {b:Nat} (hm:hR m b bs):eE m (s.v b) v:=by
 cases h with
 | val=>exact .clean hc
 | row h=>exact h.val hm.head
 | box hb dE=>exact .ptr hm.head
 | ptr hb dE hp=>exact .ptr hm.head
 | sl hb dE hp=>exact .slice hm.head
theorem kO.ZS {σ:St} {v:V} {s:SV} {bs:List Nat} (h:kO σ v s bs) (hc:s.clean) {m:Nat→Option Nat} {b:Nat} (hm:hR m b bs) {i:Nat} {q:bV} (hq:(s.mC b)[i]? =some q):∃c q',bs[i]? =some c∧σ.heap.get c=some q'∧ff m q q':=by
 have nest:∀ {Mb N:Nat} {z:List V} {tr:Trie V} {p:Bool} {cs:List V} {ps:List SP} {lz:List Nat},bs=Mb::lz→σ.heap.get Mb=some (.cells N z tr p false)→cellsOf N z tr N 0=some cs→kN σ cs ps lz→(∀p∈ps,p.clean)→
   (bV.cells (Go.Ev.len ps) [] (an (HK ps (Nat.add b 1)) .leaf 0) false false::od ps)[i]? =some q→∃c q',bs[i]? =some c∧σ.heap.get c=some q'∧ff m q q':=by
  intro Mb N z tr p cs ps lz e hb dE hp iZ hq
  subst e
  cases i with
  | zero=>
   have iA:some _=some q:=hq
   cases iA
   refine⟨_,_,rfl,hb,AJ dE (hp.y0 iZ hm.tail) ?_⟩
   rw[bc,hp.len.2];exact(gm _ _ dE).1
  | succ i=>exact hp.mC iZ m (i:=i) (by simpa using hq)
 cases h with
 | val=>simp [SV.mC] at hq
 | row h=>
  cases i with
  | zero=>
   have iA:some _=some q:=hq
   cases iA
   obtain⟨q',h1,h2⟩:=h.cP hc m
   exact⟨_,q',rfl,h1,h2⟩
  | succ i=>simp [SV.mC] at hq
 | box hb dE=>
  cases i with
  | zero=>
   have iA:some _=some q:=hq
   cases iA
   exact⟨_,_,rfl,hb,AJ dE (eI.clean hc) (by rw[bc];exact(gm _ _ dE).1)⟩
  | succ i=>simp [SV.mC] at hq
 | ptr hb dE hp=>exact nest rfl hb dE hp hc hq
 | sl hb dE hp=>exact nest rfl hb dE hp hc hq
omit [Env] in
theorem CD {b:Nat}:∀ {l:List Nat} {i c:Nat},L8 b l i=some c→i≤c∧l[c-i]? =some b
 | [],i,c,h=>by cases h
 | x::l,i,c,h=>by
  have h':(match Nat.beq b x with | true=>some i | false=>L8 b l (Nat.add i 1))=some c:=h
  split at h'
  ·rename_i hb
   cases h'
   exact⟨Nat.le_refl _,by rw[Nat.sub_self,Nat.eq_of_beq_eq_true hb];rfl⟩
  ·obtain⟨h1,h2⟩:=CD h'
   have h1:i+1≤c:=h1
   have h2:l[c-(i+1)]? =some b:=h2
   exact⟨by omega,by rw[show c-i=(c-(i+1))+1 by omega,List.getElem?_cons_succ];exact h2⟩
inductive jd (a:Act) (σ:St):List Nat→List Nat→List SV→List Nat→Prop
 | nil {seen:List Nat}:jd a σ seen [] [] []
 | al {seen:List Nat} {t b n esz c:Nat} {l:List Nat} {ss:List SV} {cs:List Nat} (h:a.tmps.get t=some (.own b n esz)) (hc:seen[c]? =some b) (hl:jd a σ seen l ss cs):jd a σ seen (t::l) (.al c n esz::ss) cs
 | cons {seen:List Nat} {t:Nat} {v:V} {s:SV} {l:List Nat} {ss:List SV} {bs cs:List Nat} (h:a.tmps.get t=some v) (hs:kO σ v s bs) (hl:jd a σ (seen++bs) l ss cs):jd a σ seen (t::l) (s::ss) (bs++cs)
omit [Env] in
theorem sk {a:Act} {σ:St}:∀ {ls seen:List Nat} {k:List SV→List Nat→Prop},yp a σ ls seen k→∃ss bs,jd a σ seen ls ss bs∧k ss bs
 | [],seen,k,h=>⟨[],[],.nil,h⟩
 | t::l,seen,k,h=>by
  have h':(match a.tmps.get t with
   | some v=>match vk seen v with
    | some (c,n,esz)=>yp a σ l seen fun ss bs=>k (.al c n esz::ss) bs
    | none=>yo σ (fun s b=>yp a σ l (CC seen b) fun ss bs=>k (s::ss) (CC b bs)) v
   | none=>False):=h
  cases hv:a.tmps.get t with
  | none=>rw[hv] at h';exact h'.elim
  | some v=>
   rw[hv] at h'
   dsimp only at h'
   cases ha:vk seen v with
   | some q=>
    obtain⟨c,n,esz⟩:=q
    rw[ha] at h'
    obtain⟨ss,bs,h3,h4⟩:=sk h'
    unfold vk at ha
    split at ha
    ·rename_i b n' rN
     split at ha
     ·rename_i c' hp
      cases ha
      exact⟨_,_,.al hv (by have:=(CD hp).2;rwa [Nat.sub_zero] at this) h3,h4⟩
     ·cases ha
    ·cases ha
   | none=>
    rw[ha] at h'
    obtain⟨s,b,h1,h2⟩:=HO h'
    rw[EP] at h2
    obtain⟨ss,bs,h3,h4⟩:=sk h2
    rw[EP] at h4
    exact⟨_,_,.cons hv h1 h3,h4⟩
omit [Env] in
theorem CE:∀ {ls:List Nat} {vs:List V} {t:Nat} {v:V},(w9 ls vs).get t=some v→∃i:Nat,ls[i]? =some t∧vs[i]? =some v
 | [],vs,t,v,h=>by cases h
 | u::ls,[],t,v,h=>by cases h
 | u::ls,w::vs,t,v,h=>by
  have h':((w9 ls vs).put u w).get t=some v:=h
  rw[bF.bP] at h'
  by_cases e:t=u
  ·rw[if_pos e] at h'
   exact⟨0,by rw[e];rfl,h'⟩
  ·rw[if_neg e] at h'
   obtain⟨i,h1,h2⟩:=CE h'
   exact⟨i+1,by simpa using h1,by simpa using h2⟩
omit [Env] in
theorem AK:∀ {ks:List bV} {n i:Nat} {k:bV},(HM ks n).get i=some k→n≤i∧ks[i-n]? =some k
 | [],n,i,k,h=>by
  have h':(Trie.leaf:Trie bV).get i=some k:=h
  rw[Trie.eK] at h';cases h'
 | q::ks,n,i,k,h=>by
  have h':((HM ks (n+1)).put n (some q)).get i=some k:=h
  rw[Trie.bP] at h'
  by_cases e:i=n
  ·subst e
   rw[if_pos rfl] at h'
   exact⟨Nat.le_refl _,by rw[Nat.sub_self];exact h'⟩
  ·rw[if_neg e] at h'
   obtain⟨h1,h2⟩:=AK h'
   exact⟨by omega,by rw[show i-n=(i-(n+1))+1 by omega,List.getElem?_cons_succ];exact h2⟩
omit [Env] in
theorem jd.len {a:Act} {σ:St} {seen ls:List Nat} {ss:List SV} {bs:List Nat} (h:jd a σ seen ls ss bs):∀b,(lU ss b).length=bs.length:=by
 induction h with
 | nil=>exact fun _=>rfl
 | al h hc hl ih=>exact fun b=>ih _
 | cons h hs hl ih=>
  intro b
  show(HL _ _).length=_
  rw[EO,List.length_append,List.length_append,hs.len.2]
  exact congrArg (_+·) (ih _)
theorem jd.HI {a:Act} {σ:St} {seen ls:List Nat} {ss:List SV} {bs:List Nat} (h:jd a σ seen ls ss bs):(∀s∈ss,s.clean)→∀ {m:Nat→Option Nat},hR m 0 (seen++bs)→∀ {i t:Nat} {v:V},ls[i]? =some t→(Kj ss seen.length)[i]? =some v→
  ∃u,a.tmps.get t=some u∧eE m v u:=by
 induction h with
 | nil=>intro _ m _ i t v h1;simp at h1
 | @al seen ZU b n esz c l ss cs h hc hl ih=>
  intro iZ m hm i t v h1 h2
  cases i with
  | zero=>
   simp at h1;subst h1
   have BG:some _=some v:=h2
   cases BG
   refine⟨_,h,.own ?_⟩
   have:=hm c b (by rw[List.getElem?_append_left (List.getElem?_eq_some_iff.1 hc).1];exact hc)
   rwa [Nat.zero_add] at this
  | succ i=>exact ih (fun s hs=>iZ s (List.mem_cons_of_mem _ hs)) hm (i:=i) (by simpa using h1) h2
 | @cons seen ZU qg s l ss bs cs h hs hl ih=>
  intro hc m hm i t v h1 h2
  cases i with
  | zero=>
   simp at h1;subst h1
   have BG:some _=some v:=h2
   cases BG
   refine⟨_,h,hs.y0 (hc _ List.mem_cons_self) (fun j d hd=>?_)⟩
   have:=hm (seen.length+j) d (by rw[List.getElem?_append_right (by omega),show seen.length+j-seen.length=j by omega,List.getElem?_append_left (List.getElem?_eq_some_iff.1 hd).1];exact hd)
   rwa [Nat.zero_add] at this
  | succ i=>
   refine ih (fun s hs=>hc s (List.mem_cons_of_mem _ hs)) (by rw[List.append_assoc];exact hm) (i:=i) (by simpa using h1) ?_
   rw[List.length_append,←hs.len.1];exact h2
theorem jd.mC {a:Act} {σ:St} {seen ls:List Nat} {ss:List SV} {bs:List Nat} (h:jd a σ seen ls ss bs):(∀s∈ss,s.clean)→∀ {m:Nat→Option Nat},hR m 0 (seen++bs)→∀ {i:Nat} {k:bV},(lU ss seen.length)[i]? =some k→∃c k',bs[i]? =some c∧σ.heap.get c=some k'∧ff m k k':=by
 induction h with
 | nil=>intro _ m _ i k h;simp [lU] at h
 | al h hc hl ih=>exact fun iZ {m} hm {i k} hk=>ih (fun s hs=>iZ s (List.mem_cons_of_mem _ hs)) hm hk
 | @cons seen t v s l ss bs cs h hs hl ih=>
  intro hc m hm i k hk
  replace hk:(HL (s.mC seen.length) (lU ss (Nat.add seen.length s.nb)))[i]? =some k:=hk
  rw[EO] at hk
  rcases Nat.lt_or_ge i (s.mC seen.length).length with bB | oN
  ·rw[List.getElem?_append_left bB] at hk
   obtain⟨c,q,h1,h2,h3⟩:=hs.ZS (hc _ List.mem_cons_self) (m:=m) (fun j d hd=>by
    have:=hm (seen.length+j) d (by rw[List.getElem?_append_right (by omega),show seen.length+j-seen.length=j by omega,List.getElem?_append_left (List.getElem?_eq_some_iff.1 hd).1];exact hd)
    rwa [Nat.zero_add] at this) hk
   exact⟨c,q,by rw[List.getElem?_append_left (List.getElem?_eq_some_iff.1 h1).1];exact h1,h2,h3⟩
  ·rw[List.getElem?_append_right oN] at hk
   obtain⟨c,q,h1,h2,h3⟩:=ih (fun s hs=>hc s (List.mem_cons_of_mem _ hs)) (m:=m) (by rw[List.append_assoc];exact hm) (i:=i-(s.mC seen.length).length) (k:=k) (by rw[List.length_append,←hs.len.1];exact hk)
   rw[hs.len.2] at oN h1
   exact⟨c,q,by rw[List.getElem?_append_right oN];exact h1,h2,h3⟩
omit [Env] in
theorem yq:∀ {l:List Nat},CA l=true→∀(i j c:Nat),l[i]? =some c→l[j]? =some c→i=j
 | [],_,i,j,c,h,_=>by simp at h
 | a::t,hn,i,j,c,hi,hj=>by
  have nP:(!Cz a t&&CA t)=true:=hn
  rw[Bool.and_eq_true] at nP
  have cL:∀ {l:List Nat} {n k:Nat},l[k]? =some n→Cz n l=true:=by
   intro l
   induction l with
   | nil=>intro n k h;simp at h
   | cons x l ih=>
    intro n k h
    show(Nat.beq n x||Cz n l)=true
    cases k with
    | zero=>simp at h;subst h;rw[Nat.beq_refl,Bool.true_or]
    | succ k=>rw[ih (k:=k) (by simpa using h),Bool.or_true]
  have OD:Cz a t=false:=by simpa using nP.1
  cases i with
  | zero=>
   cases j with
   | zero=>rfl
   | succ j=>
    simp at hi;subst hi
    have:=cL (l:=t) (k:=j) (by simpa using hj)
    rw[OD] at this;cases this
  | succ i=>
   cases j with
   | zero=>
    simp at hj;subst hj
    have:=cL (l:=t) (k:=i) (by simpa using hi)
    rw[OD] at this;cases this
   | succ j=>rw[yq nP.2 i j c (by simpa using hi) (by simpa using hj)]
omit [Env] in
theorem CF:∀ {n k:Nat} {l:List Nat},L9 n k l=true→n≤l.length∧∀i,i<n→l[i]? =some (k+i)
 | 0,_,_,_=>⟨Nat.zero_le _,fun i hi=>absurd hi (Nat.not_lt_zero i)⟩
 | n+1,k,[],h=>by cases h
 | n+1,k,b::r,h=>by
  have h':(Nat.beq b k&&L9 n (k+1) r)=true:=h
  rw[Bool.and_eq_true] at h'
  obtain⟨h1,h2⟩:=CF h'.2
  refine⟨by simp;omega,fun i hi=>?_⟩
  cases i with
  | zero=>rw[Nat.eq_of_beq_eq_true h'.1];rfl
  | succ i=>rw[List.getElem?_cons_succ,h2 i (by omega),show k+1+i=k+(i+1) by omega]
theorem sm {n₀ size:Nat} {live:List Nat} {a:Act} {σ:St} {k:List SV→Prop} (h:lV n₀ size live a σ k):∃ss,k ss∧((∀s∈ss,s.clean)→∃m,qX n₀ m (EM size live ss) (EN ss) a σ):=by
 unfold lV at h
 split at h
 ·rename_i hd hs
  obtain⟨ss,bs,h1,h2⟩:=sk h
  split at h2
  ·rename_i hn
   rw[Bool.and_eq_true] at hn
   obtain⟨hpf,hn⟩:=hn
   obtain⟨hp1,hp2⟩:=CF hpf
   refine⟨ss,h2,fun hc=>⟨fun b=>bs[b]?,?_⟩⟩
   refine⟨(Nat.eq_of_beq_eq_true hs).symm,rfl,hd,fun i v hv=>?_,fun i k hk=>?_,fun i j c=>yq hn i j c,fun i hi=>?_,fun i hi=>by rw[hp2 i hi,Nat.zero_add],by show n₀≤len (lU ss 0);rw[bc,h1.len];exact hp1⟩
   ·obtain⟨j,e1,e2⟩:=CE hv
    exact h1.HI hc (m:=fun b=>bs[b]?) (fun i c hc=>by rw[Nat.zero_add];exact hc) e1 e2
   ·obtain⟨_,e⟩:=AK (n:=0) hk
    exact h1.mC hc (m:=fun b=>bs[b]?) (fun i c hc=>by rw[Nat.zero_add];exact hc) (by simpa using e)
   ·have eR:(lU ss 0).length≤i:=by
     have:len (lU ss 0)≤i:=hi
     rwa [bc] at this
    rw[h1.len] at eR
    exact List.getElem?_eq_none eR
  ·exact h2.elim
 ·exact h.elim
noncomputable def KF (P:Program) (call:FuncId→List V→St→ah→Prop) (n₀ size:Nat) (live:Nat→List Nat) (A:Nat→List SV→Prop):eM P:=
 {call:=call,loop:=fun _ _ i _ _ a σ=>lV n₀ size (live i) a σ (A i)}
variable {P:Program} [eJ P] {fn:FuncId}
theorem cV.cx {call:FuncId→List V→St→ah→Prop} (e9:∀ {f vs σ k},call f vs σ k→ag P f vs k σ) {n₀ size:Nat} {live:Nat→List Nat} {c:Code} (hp:hQ c=true) {Q:cj}
  {α:Type} {r:α→α→Prop} (wf:WellFounded r) (μ:Nat→List SV→α) (I:Nat→List SV→Prop) (hc:∀k ss,I k ss→∀s∈ss,s.clean)
  (lP:∀k x,(aQ c)[k]? =some x→∀ss,I k ss→ws P (KF P call n₀ size live fun k' ei=>I k' ei∧r (μ k' ei) (μ k ss)) fn none (Nat.add k 1) x
   (ig (fun a σ=>lV n₀ size (live k) a σ fun ei=>I k ei∧r (μ k ei) (μ k ss)) (behind P (KF P call n₀ size live fun k' ei=>I k' ei∧r (μ k' ei) (μ k ss)) fn c 0 k Q)) (EM size (live k) ss) (EN ss)):
  ∀k x,(aQ c)[k]? =some x→∀ss,I k ss→cV P n₀ x (bW P n₀ c k Q) (EM size (live k) ss) (EN ss):=by
 have key:∀(q:α),∀k x,(aQ c)[k]? =some x→∀ss,I k ss→μ k ss=q→cV P n₀ x (bW P n₀ c k Q) (EM size (live k) ss) (EN ss):=by
  intro q
  induction q using wf.induction with
  | _ q ih=>
   intro k x hx ss hI hq
   have hK:(KF P call n₀ size live fun k' ei=>I k' ei∧r (μ k' ei) (μ k ss)).Ki n₀:=⟨⟨fun h=>e9 h,fun h=>h⟩,fun h=>bH.of h⟩
   have H:∀j z,(aQ c)[j]? =some z→∀a σ (dF:cj),(KF P call n₀ size live fun k' ei=>I k' ei∧r (μ k' ei) (μ k ss)).loop fn none j z dF a σ→cV P n₀ z (bW P n₀ c j Q) a σ:=by
    intro j z hz a σ dF hA
    obtain⟨ei,⟨g1,g2⟩,g3⟩:=sm (show lV n₀ size (live j) a σ _ from hA)
    obtain⟨m,hf⟩:=g3 (hc j ei g1)
    exact(ih (μ j ei) (by rw[←hq];exact g2) j z hz ei g1 rfl).EL hf
   have:=lP k x hx ss hI
   refine cV.round (bH.gA hK x (i:=k+1) (fun e a σ h=>?_) (fun j z hz a σ dF hA=>?_) this)
   ·cases e with
    | normal=>exact H k x hx a σ (fun _ _ _=>True) h
    | exit i=>exact eF hK c (i:=0) (Q:=Q) (Q':=Q) (fun _ _ _ h=>h) (fun j z hz a σ dF hA=>H j z hz a σ dF (by rw[Nat.zero_add] at hA;exact hA)) h
    | goto i=>exact eF hK c (i:=0) (Q:=Q) (Q':=Q) (fun _ _ _ h=>h) (fun j z hz a σ dF hA=>H j z hz a σ dF (by rw[Nat.zero_add] at hA;exact hA)) h
    | ret=>exact eF hK c (i:=0) (Q:=Q) (Q':=Q) (fun _ _ _ h=>h) (fun j z hz a σ dF hA=>H j z hz a σ dF (by rw[Nat.zero_add] at hA;exact hA)) h
   ·rw[←HJ c hp hx hz]
    exact H (k+1+j) z (sd c hx hz) a σ dF hA
 exact fun k x hx ss hI=>key _ k x hx ss hI rfl
theorem ag.cx {call:FuncId→List V→St→ah→Prop} (e9:∀ {f vs σ k},call f vs σ k→ag P f vs k σ) {g:Func} {c:Code} {vs:List V} {Q:ah} (hf:P.funcs[fn]? =some g) (hb:g.body=some c) (hn:(g.name== "runtime.NumGoroutine")=false) (hp:hQ c=true) {σ:St} {n₀:Nat} (yr:σ.next=n₀)
  {live:Nat→List Nat} {α:Type} {r:α→α→Prop} (wf:WellFounded r) (μ:Nat→List SV→α) (I:Nat→List SV→Prop) (hc:∀k ss,I k ss→∀s∈ss,s.clean)
  (tS:ws P (KF P call n₀ g.ntmps live I) fn none 0 c (oW P g Q) (lC g.ntmps vs) σ)
  (lP:∀k x,(aQ c)[k]? =some x→∀ss,I k ss→ws P (KF P call n₀ g.ntmps live fun k' ei=>I k' ei∧r (μ k' ei) (μ k ss)) fn none (Nat.add k 1) x
   (ig (fun a σ=>lV n₀ g.ntmps (live k) a σ fun ei=>I k ei∧r (μ k ei) (μ k ss)) (behind P (KF P call n₀ g.ntmps live fun k' ei=>I k' ei∧r (μ k' ei) (μ k ss)) fn c 0 k (oW P g Q))) (EM g.ntmps (live k) ss) (EN ss))
  (hl:∀x,c≠.loop x):ag P fn vs Q σ:=by
 subst yr
 have hL:=cV.cx (fn:=fn) (call:=call) (n₀:=σ.next) (size:=g.ntmps) (live:=live) (Q:=oW P g Q) (fun h=>e9 h) hp wf μ I hc lP
 have hK:(KF P call σ.next g.ntmps live I).Ki σ.next:=⟨⟨fun h=>e9 h,fun h=>h⟩,fun h=>bH.of h⟩
 have hN:bH P σ.next c (oW P g Q) (lC g.ntmps vs) σ:=bH.gA hK c (i:=0) (fun _ _ _ h=>h) (fun j z hz a τ dF hA=>by
  rw[Nat.zero_add] at hA
  obtain⟨ei,g1,g3⟩:=sm (show lV σ.next g.ntmps (live j) a τ _ from hA)
  obtain⟨m,hf⟩:=g3 (hc j ei g1)
  exact(hL j z hz ei g1).EL hf) tS
 exact ag.OY hf hb hn (bH.yl (fn:=fn) hl hN)
end
end Go.Ev
