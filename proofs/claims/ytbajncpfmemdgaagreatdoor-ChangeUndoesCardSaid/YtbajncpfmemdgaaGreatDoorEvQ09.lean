/- Proved: parts of the way: Wp, Ends, Args. -/
import Derived.Test.YtbajncpfmemdgaaGreatDoorEvQ08
import Derived.Below
import Derived.ProofKit
import Derived.Carry
import Derived.WideShapes
set_option linter.unusedVariables false
set_option linter.unusedSimpArgs false
section
namespace Go.Ev
open Go
abbrev ah:=V→St→Prop
abbrev cd:=Ex→Act→St→Prop
def l9 (Q:ah):Out×St→Prop
 | (.val v,σ)=>Q v σ
 | _=>False
def j7 (Q:cd):Out×St→Prop
 | (.exit e a,σ)=>Q e a σ
 | _=>False
def dd (r:VS) (k:ah):Prop:=
 match r with
 | .ok (v,σ)=>k v σ
 | _=>False
theorem dd.h {r:VS} {k:ah} (h:dd r k):∃v σ',r=.ok (v,σ')∧k v σ':=by
 unfold dd at h
 split at h
 ·exact⟨_,_,rfl,h⟩
 ·exact h.elim
def ae (b:Bool) (Y Z:Prop):Prop:=
 match b with
 | true=>Y
 | false=>Z
theorem ae.y {b:Bool} {Y Z:Prop} (h:ae b Y Z) (e:b=true):Y:=by subst e;exact h
theorem ae.z {b:Bool} {Y Z:Prop} (h:ae b Y Z) (e:b=false):Z:=by subst e;exact h
theorem ae.mk {b:Bool} {Y Z:Prop} (y:b=true→Y) (z:b=false→Z):ae b Y Z:=by cases b<;>first | exact y rfl | exact z rfl
theorem dd.mk' {r:VS} {k:ah} {v:V} {σ:St} (h:r=.ok (v,σ)) (hk:k v σ):dd r k:=by subst h;exact hk
section
variable {P:Program}
def ib (Y:Act→St→Prop) (Q:cd):cd
 | .normal=>Y
 | e=>Q e
def xw (y z:Prop):Option V→Prop
 | some (.bool b)=>ae b y z
 | _=>False
def oE (id:Nat) (Q:cd):cd
 | .exit i=>if i=id then Q .normal else Q (.exit i)
 | e=>Q e
def fw (x:Option V) (k:V→Prop):Prop:=
 match x with
 | some v=>k v
 | none=>False
def lB (x y:Option V) (k:V→V→Prop):Prop:=
 match x with
 | some v=>match y with
  | some u=>k v u
  | none=>False
 | none=>False
theorem fX {w:String} {x:Option V} {f:V→VS} {p:V×St→Prop} (h:fw x fun v=>(f v).Holds p):(eP w x f).Holds p:=by
 cases x with
 | none=>exact h.elim
 | some v=>exact h
theorem lC {w:String} {x y:Option V} {f:V→V→VS} {p:V×St→Prop} (h:lB x y fun v u=>(f v u).Holds p):(o8 w x y f).Holds p:=by
 cases x with
 | none=>exact h.elim
 | some v=>cases y with
  | none=>exact h.elim
  | some u=>exact h
theorem fw.mono {x:Option V} {k k':V→Prop} (h:fw x k) (hk:∀v,k v→k' v):fw x k':=by
 cases x with
 | none=>exact h
 | some v=>exact hk v h
theorem lB.mono {x y:Option V} {k k':V→V→Prop} (h:lB x y k) (hk:∀v u,k v u→k' v u):lB x y k':=by
 cases x with
 | none=>exact h
 | some v=>cases y with
  | none=>exact h
  | some u=>exact hk v u h
def rI (k:ah):V×St→Prop
 | (v,σ)=>k v σ
theorem dd.holds {r:VS} {k:ah} (h:dd r k):r.Holds (rI k):=by
 obtain⟨v,σ,rfl,hk⟩:=h.h
 exact hk
def gB (p:Prop) [Decidable p] (k:V→Prop):Prop:=ae (decide p) (k (.bool true)) (k (.bool false))
theorem gB.y {p:Prop} [Decidable p] {k:V→Prop} (h:gB p k) (hp:p):k (.bool true):=ae.y h (decide_eq_true hp)
theorem gB.n {p:Prop} [Decidable p] {k:V→Prop} (h:gB p k) (hp:¬p):k (.bool false):=ae.z h (decide_eq_false hp)
theorem gB.of {p:Prop} [Decidable p] {k:V→Prop} (h:gB p k) {b:Bool} (hb:b=decide p):k (.bool b):=by
 subst hb
 by_cases hp:p
 ·rw[decide_eq_true hp];exact h.y hp
 ·rw[decide_eq_false hp];exact h.n hp
def Lg (op:BinOp) (kd:IntKind) (a:Int) (gX:IntKind) (b:Int) (k:V→Prop):Prop:=
 match op with
 | .shl=>0≤b∧k (.int kd (kd.wrap (a*2^min b.toNat kd.bits)))
 | .shr=>0≤b∧k (.int kd (a.fdiv (2^min b.toNat kd.bits)))
 | .quo=>(kd=gX∧b≠0)∧k (.int kd (kd.wrap (a.tdiv b)))
 | .rem=>(kd=gX∧b≠0)∧k (.int kd (a.tmod b))
 | .eql=>kd=gX∧gB (a=b) k
 | .neq=>kd=gX∧gB (a≠b) k
 | .lss=>kd=gX∧gB (a<b) k
 | .leq=>kd=gX∧gB (a≤b) k
 | .gtr=>kd=gX∧gB (a>b) k
 | .geq=>kd=gX∧gB (a≥b) k
 | op=>match lW op kd a gX b with
  | some v=>k v
  | none=>False
theorem Js {op:BinOp} {kd gX:IntKind} {a b:Int} {k:V→Prop} (h:Lg op kd a gX b k):∃v,lW op kd a gX b=some v∧k v:=by
 cases op<;>first
  | (have h':0≤b∧_:=h
     refine⟨_,?_,h'.2⟩
     show(if b<0 then none else some _)=_
     rw[if_neg (by omega)])
  | (have h':(kd=gX∧b≠0)∧_:=h
     obtain⟨⟨rfl,hb⟩,hk⟩:=h'
     refine⟨_,?_,hk⟩
     show(if kd≠kd then none else if b=0 then none else some _)=_
     rw[if_neg (by simp),if_neg hb])
  | (have h':kd=gX∧gB (a=b) k:=h
     obtain⟨rfl,hk⟩:=h'
     exact⟨.bool (a==b),by show(if kd≠kd then none else some _)=_;rw[if_neg (by simp)],hk.of (by rw[Bool.eq_iff_iff];simp)⟩)
  | (have h':kd=gX∧gB (a≠b) k:=h
     obtain⟨rfl,hk⟩:=h'
     exact⟨.bool (a != b),by show(if kd≠kd then none else some _)=_;rw[if_neg (by simp)],hk.of (by rw[Bool.eq_iff_iff];simp)⟩)
  | (have h':kd=gX∧gB (a<b) k:=h
     obtain⟨rfl,hk⟩:=h'
     exact⟨.bool (decide (a<b)),by show(if kd≠kd then none else some _)=_;rw[if_neg (by simp)],hk.of rfl⟩)
  | (have h':kd=gX∧gB (a≤b) k:=h
     obtain⟨rfl,hk⟩:=h'
     exact⟨.bool (decide (a≤b)),by show(if kd≠kd then none else some _)=_;rw[if_neg (by simp)],hk.of rfl⟩)
  | (have h':kd=gX∧gB (a>b) k:=h
     obtain⟨rfl,hk⟩:=h'
     exact⟨.bool (decide (a>b)),by show(if kd≠kd then none else some _)=_;rw[if_neg (by simp)],hk.of rfl⟩)
  | (have h':kd=gX∧gB (a≥b) k:=h
     obtain⟨rfl,hk⟩:=h'
     exact⟨.bool (decide (a≥b)),by show(if kd≠kd then none else some _)=_;rw[if_neg (by simp)],hk.of rfl⟩)
  | (revert h
     unfold Lg
     dsimp only
     cases lW _ kd a gX b with
     | none=>exact fun h=>h.elim
     | some v=>exact fun h=>⟨v,rfl,h⟩)
def Lh (op:BinOp) (x y:List UInt8) (k:V→Prop):Prop:=
 match op with
 | .add=>x.length+y.length≤9223372036854775807∧k (.str (x++y))
 | .eql=>gB (x=y) k
 | .neq=>gB (x≠y) k
 | op=>match lX op x y with
  | some v=>k v
  | none=>False
theorem Jt {op:BinOp} {x y:List UInt8} {k:V→Prop} (h:Lh op x y k):∃v,lX op x y=some v∧k v:=by
 cases op<;>first
  | (have h':x.length+y.length≤9223372036854775807∧_:=h
     exact⟨_,if_pos h'.1,h'.2⟩)
  | (have h':gB (x=y) k:=h
     exact⟨.bool (x==y),rfl,h'.of (by rw[Bool.eq_iff_iff];simp)⟩)
  | (have h':gB (x≠y) k:=h
     exact⟨.bool (!(x==y)),rfl,h'.of (by rw[Bool.eq_iff_iff];simp)⟩)
  | (revert h
     unfold Lh
     dsimp only
     cases lX _ x y with
     | none=>exact fun h=>h.elim
     | some v=>exact fun h=>⟨v,rfl,h⟩)
noncomputable def tN (mW:TypeId→V→V→Prop→Prop→Prop) (P:Program) (xs ys:List V) (z:Prop) (fs:List Field):Prop→Prop:=
 List.rec (motive:=fun _=>Prop→Prop) (fun y=>y)
  (fun f _ ih y=>match f.name== "_",dR P f.type xs f.offset,dR P f.type ys f.offset with
   | false,some a,some b=>mW f.type a b (ih y) z
   | _,_,_=>False) fs
noncomputable def oF (P:Program) (mW:TypeId→V→V→Prop→Prop→Prop) (t:TypeId) (fs:List Field) (x v:V) (y z:Prop):Prop:=
 match P.stoodInHeld t with
 | true=>False
 | false=>match x with
  | .agg xs=>match v with
   | .agg ys=>tN mW P xs ys z fs y
   | _=>False
  | _=>False
noncomputable def BH (P:Program) (mW:TypeId→V→V→Prop→Prop→Prop) (t:TypeId) (x v:V) (y z:Prop):Option TypeDesc→Prop
 | some .bool=>match x with
  | .bool a=>match v with
   | .bool b=>ae (a==b) y z
   | _=>False
  | _=>False
 | some (.int _)=>match x with
  | .int k a=>match v with
   | .int k' b=>k=k'∧ae (decide (a=b)) y z
   | _=>False
  | _=>False
 | some .string=>match x with
  | .str a=>match v with
   | .str b=>ae (decide (a=b)) y z
   | _=>False
  | _=>False
 | some (.struct fs)=>oF P mW t fs.toList x v y z
 | _=>False
noncomputable def qG (P:Program) (d:Nat):TypeId→V→V→Prop→Prop→Prop:=
 Nat.rec (motive:=fun _=>TypeId→V→V→Prop→Prop→Prop) (fun _ _ _ _ _=>False) (fun _ ih t x v y z=>BH P ih t x v y z (P.underlying t)) d
def ji (b:Option Bool) (y z:Prop):Prop:=(b=some true∧y)∨(b=some false∧z)
theorem ji.of {b:Bool} {y z:Prop} (h:ae b y z):ji (some b) y z:=by
 cases b with
 | true=>exact .inl ⟨rfl,h⟩
 | false=>exact .inr ⟨rfl,h⟩
theorem lD {mW:TypeId→V→V→Prop→Prop→Prop} {eq:TypeId→V→V→Option Bool} (h:∀t x v y z,mW t x v y z→ji (eq t x v) y z) {xs ys:List V} {z:Prop}:∀ {fs:List Field} {y:Prop},tN mW P xs ys z fs y→ji (oa P eq xs ys fs) y z
 | [],y,hy=>.inl ⟨rfl,hy⟩
 | f::fs,y,hy=>by
  have xx:(match f.name== "_",dR P f.type xs f.offset,dR P f.type ys f.offset with
   | false,some a,some b=>mW f.type a b (tN mW P xs ys z fs y) z
   | _,_,_=>False):=hy
  show ji (match f.name== "_",dR P f.type xs f.offset,dR P f.type ys f.offset with
   | false,some a,some b=>match eq f.type a b with
    | some true=>oa P eq xs ys fs
    | some false=>some false
    | none=>none
   | _,_,_=>none) y z
  revert xx
  cases f.name== "_" with
  | true=>exact fun h=>h.elim
  | false=>cases dR P f.type xs f.offset with
   | none=>exact fun h=>h.elim
   | some a=>cases dR P f.type ys f.offset with
    | none=>exact fun h=>h.elim
    | some b=>
     intro xx
     dsimp only
     rcases h _ _ _ _ _ xx with ⟨e,hr⟩ | ⟨e,hr⟩
     ·rw[e];exact lD h hr
     ·rw[e];exact .inr ⟨rfl,hr⟩
theorem np:∀(d:Nat) (t:TypeId) (x v:V) (y z:Prop),qG P d t x v y z→ji (j0 P d t x v) y z
 | 0,_,_,_,_,_,h=>h.elim
 | d+1,t,x,v,y,z,h=>by
  have h':BH P (qG P d) t x v y z (P.underlying t):=h
  show ji (uK P (j0 P d) t x v (P.underlying t)) y z
  revert h'
  cases P.underlying t with
  | none=>exact fun h=>h.elim
  | some u=>cases u with
   | bool=>cases x with
    | bool a=>cases v with
     | bool b=>exact fun h=>.of h
     | _=>exact fun h=>h.elim
    | _=>exact fun h=>h.elim
   | int i=>cases x with
    | int k a=>cases v with
     | int k' b=>
      intro h0
      obtain⟨rfl,h1⟩:=(show k=k'∧ae (decide (a=b)) y z from h0)
      show ji (if k=k then some (a==b) else none) y z
      rw[if_pos rfl,show(a==b)=decide (a=b) by rw[Bool.eq_iff_iff];simp]
      exact .of h1
     | _=>exact fun h=>h.elim
    | _=>exact fun h=>h.elim
   | string=>cases x with
    | str a=>cases v with
     | str b=>
      intro h
      show ji (some (a==b)) y z
      rw[show(a==b)=decide (a=b) by rw[Bool.eq_iff_iff];simp]
      exact .of h
     | _=>exact fun h=>h.elim
    | _=>exact fun h=>h.elim
   | struct fs=>
    intro h
    have h':oF P (qG P d) t fs.toList x v y z:=h
    show ji (hJ P (j0 P d) t fs.toList x v) y z
    unfold oF at h'
    unfold hJ
    cases hs:P.stoodInHeld t with
    | true=>rw[hs] at h';exact h'.elim
    | false=>
     rw[hs] at h'
     cases x with
     | agg xs=>cases v with
      | agg ys=>exact lD (fun t x v y z=>np d t x v y z) h'
      | _=>exact h'.elim
     | _=>exact h'.elim
   | _=>exact fun h=>h.elim
noncomputable def wv (P:Program) (mW:TypeId→V→V→Prop→Prop→Prop) (e:TypeId) (sz:Nat) (xs ys:List V) (z:Prop) (n:Nat):Nat→Prop→Prop:=
 Nat.rec (motive:=fun _=>Nat→Prop→Prop) (fun _ y=>y)
  (fun _ ih i y=>match dR P e xs (Nat.mul i sz),dR P e ys (Nat.mul i sz) with
   | some a,some b=>mW e a b (ih (Nat.succ i) y) z
   | _,_=>False) n
theorem qH {mW:TypeId→V→V→Prop→Prop→Prop} {eq:TypeId→V→V→Option Bool} (h:∀t x v y z,mW t x v y z→ji (eq t x v) y z) {e:TypeId} {sz:Nat} {xs ys:List V} {z:Prop}:∀ {n i:Nat} {y:Prop},wv P mW e sz xs ys z n i y→ji (qj P eq e sz xs ys n i) y z
 | 0,_,y,hy=>.inl ⟨rfl,hy⟩
 | n+1,i,y,hy=>by
  have xx:(match dR P e xs (Nat.mul i sz),dR P e ys (Nat.mul i sz) with
   | some a,some b=>mW e a b (wv P mW e sz xs ys z n (Nat.succ i) y) z
   | _,_=>False):=hy
  show ji (match dR P e xs (Nat.mul i sz),dR P e ys (Nat.mul i sz) with
   | some a,some b=>match eq e a b with
    | some true=>qj P eq e sz xs ys n (Nat.succ i)
    | some false=>some false
    | none=>none
   | _,_=>none) y z
  revert xx
  cases dR P e xs (Nat.mul i sz) with
  | none=>exact fun h=>h.elim
  | some a=>cases dR P e ys (Nat.mul i sz) with
   | none=>exact fun h=>h.elim
   | some b=>
    intro xx
    dsimp only
    rcases h _ _ _ _ _ xx with ⟨e',hr⟩ | ⟨e',hr⟩
    ·rw[e'];exact qH h hr
    ·rw[e'];exact .inr ⟨rfl,hr⟩
noncomputable def pr (P:Program) (σ:St) (t:TypeId) (xs ys:List V) (y z:V) (k:ah):Prop:=
 match P.underlying t with
 | some (.struct fs)=>match P.eqGuardType P.depth t with
  | false=>oF P (qG P eM) t fs.toList (.agg xs) (.agg ys) (k y σ) (k z σ)
  | true=>False
 | some (.array n e)=>match P.eqGuardType P.depth t,bL P e with
  | false,some sz=>wv P (qG P eM) e sz xs ys (k z σ) n 0 (k y σ)
  | _,_=>False
 | _=>False
theorem pt {σ:St} {t:TypeId} {lit:Bool} {xs ys:List V} {y z:V} {k:ah} (h:pr P σ t xs ys y z k):ji (evalEq P σ t lit (.agg xs) (.agg ys)) (k y σ) (k z σ):=by
 unfold pr at h
 unfold evalEq uL
 split at h
 ·rename_i fs hu
  rw[hu]
  dsimp only
  split at h
  ·rename_i hg
   rw[hg]
   dsimp only
   unfold oF at h
   unfold hJ
   cases hs:P.stoodInHeld t with
   | true=>rw[hs] at h;exact h.elim
   | false=>rw[hs] at h;exact lD (fun t x v y z=>np _ t x v y z) h
  ·exact h.elim
 ·rename_i n e hu
  rw[hu]
  dsimp only
  unfold jF
  split at h
  ·rename_i sz hg hz
   rw[hg,hz]
   exact qH (fun t x v y z=>np _ t x v y z) h
  ·exact h.elim
 ·exact h.elim
def N0 (a b:Nat):Bool:=FloatKind.f64.format.order a b==some .eq
def zS (a b:Nat):Bool:=FloatKind.f64.format.order a b==some .lt
def xy (a b:Nat):Bool:=FloatKind.f64.format.order a b==some .gt||FloatKind.f64.format.order a b==some .eq
def RC (op:BinOp) (k:FloatKind) (a:Nat) (k':FloatKind) (b:Nat) (c:V→Prop):Prop:=
 match k,k',op with
 | .f64,.f64,.eql=>ae (N0 a b) (c (.bool true)) (c (.bool false))
 | .f64,.f64,.neq=>ae (FloatKind.f64.format.order a b != some .eq) (c (.bool true)) (c (.bool false))
 | .f64,.f64,.lss=>ae (zS a b) (c (.bool true)) (c (.bool false))
 | .f64,.f64,.geq=>ae (xy a b) (c (.bool true)) (c (.bool false))
 | _,_,_=>False
theorem Ju {op:BinOp} {k k':FloatKind} {a b:Nat} {c:V→Prop} (h:RC op k a k' b c):∃v,qk op k a k' b=some v∧c v:=by
 cases k<;>cases k'<;>cases op<;>first | exact h.elim | skip
 ·refine⟨_,rfl,?_⟩
  cases he:N0 a b
  ·have:=ae.z h he;unfold N0 at he;rw[he];exact this
  ·have:=ae.y h he;unfold N0 at he;rw[he];exact this
 ·refine⟨_,rfl,?_⟩
  cases he:FloatKind.f64.format.order a b != some .eq
  ·exact ae.z h he
  ·exact ae.y h he
 ·refine⟨_,rfl,?_⟩
  cases he:zS a b
  ·have:=ae.z h he;unfold zS at he;rw[he];exact this
  ·have:=ae.y h he;unfold zS at he;rw[he];exact this
 ·refine⟨_,rfl,?_⟩
  cases he:xy a b
  ·have:=ae.z h he;unfold xy at he;rw[he];exact this
  ·have:=ae.y h he;unfold xy at he;rw[he];exact this
noncomputable def Li (P:Program) (σ:St) (op:BinOp) (t:TypeId) (lit:Bool) (x y:V) (k:ah):Prop:=
 match x,y with
 | .dJ kd a,.dJ gX b=>RC op kd a gX b fun v=>k v σ
 | .int kd a,.int gX b=>Lg op kd a gX b fun v=>k v σ
 | .str a,.str b=>Lh op a b fun v=>k v σ
 | .agg xs,.agg ys=>match op with
  | .eql=>pr P σ t xs ys (.bool true) (.bool false) k
  | .neq=>pr P σ t xs ys (.bool false) (.bool true) k
  | _=>False
 | x,y=>dd (uN P σ op t lit x y) k
theorem GR {σ:St} {op:BinOp} {t:TypeId} {lit:Bool} {x y:V} {k:ah} (h:Li P σ op t lit x y k):(uN P σ op t lit x y).Holds (rI k):=by
 unfold Li at h
 split at h
 ·rename_i kd a gX b
  obtain⟨v,hv,hk⟩:=Ju h
  show(aJ σ "binOp" (qk op kd a gX b)).Holds _
  rw[hv];exact hk
 ·rename_i kd a gX b
  obtain⟨v,hv,hk⟩:=Js h
  show(aJ σ "binOp" (lW op kd a gX b)).Holds _
  rw[hv];exact hk
 ·rename_i a b
  obtain⟨v,hv,hk⟩:=Jt h
  show(aJ σ "binOp" (lX op a b)).Holds _
  rw[hv];exact hk
 ·rename_i xs ys
  split at h
  ·show(aJ σ "binOp" ((evalEq P σ t lit (.agg xs) (.agg ys)).map .bool)).Holds _
   rcases pt (lit:=lit) h with ⟨e,hk⟩ | ⟨e,hk⟩
   ·rw[e];exact hk
   ·rw[e];exact hk
  ·show(aJ σ "binOp" ((evalEq P σ t lit (.agg xs) (.agg ys)).map fun b=>.bool !b)).Holds _
   rcases pt (lit:=lit) h with ⟨e,hk⟩ | ⟨e,hk⟩
   ·rw[e];exact hk
   ·rw[e];exact hk
  ·exact h.elim
 ·exact h.holds
noncomputable def GS (P:Program) (t:TypeId) (n:Nat) (esz:Nat) (i:Int) (k:Prop):Prop:=
 match gp P t with
 | some e=>match bL P e with
  | some sz=>match Nat.beq sz esz&& !Nat.beq sz 0 with
   | true=>(0≤i∧i<n)∧k
   | false=>False
  | none=>False
 | none=>False
theorem xz {t:TypeId} {n esz:Nat} {i:Int} {k:Prop} (h:GS P t n esz i k):∃e sz,gp P t=some e∧bL P e=some sz∧(0≤i∧i<n∧sz=esz∧sz≠0)∧k:=by
 unfold GS at h
 cases he:gp P t with
 | none=>rw[he] at h;exact h.elim
 | some e=>
  rw[he] at h
  dsimp only at h
  cases ba:bL P e with
  | none=>rw[ba] at h;exact h.elim
  | some sz=>
   rw[ba] at h
   dsimp only at h
   cases hb:Nat.beq sz esz&& !Nat.beq sz 0 with
   | false=>rw[hb] at h;exact h.elim
   | true=>
    rw[hb] at h
    rw[Bool.and_eq_true] at hb
    have h2:sz≠0:=fun e=>by subst e;simp at hb
    exact⟨e,sz,rfl,ba,⟨h.1.1,h.1.2,Nat.eq_of_beq_eq_true hb.1,h2⟩,h.2⟩
noncomputable def rJ (P:Program) (σ:St) (t:TypeId) (x ix:V) (k:ah):Prop:=
 match x,ix with
 | .arr n f esz _ _,.int _ i=>GS P t n esz i (k (.aK (f i.toNat).cells 0) σ)
 | .own b n esz,.int _ i=>GS P t n esz i (k (.fj b i.toNat esz 0) σ)
 | x,ix=>dd (jb P σ t x ix) k
theorem wx {σ:St} {t:TypeId} {x ix:V} {k:ah} (h:rJ P σ t x ix k):dd (jb P σ t x ix) k:=by
 unfold rJ at h
 split at h
 ·obtain⟨e,sz,he,ba,hc,hk⟩:=xz h
  refine dd.mk' (v:=_) (σ:=_) ?_ hk
  show jl ..=_
  unfold jl
  rw[he];dsimp only;rw[ba];dsimp only;rw[if_pos hc]
 ·obtain⟨e,sz,he,ba,hc,hk⟩:=xz h
  refine dd.mk' (v:=_) (σ:=_) ?_ hk
  show jm ..=_
  unfold jm
  rw[he];dsimp only;rw[ba];dsimp only;rw[if_pos hc]
 ·exact h
noncomputable def iW (s:List UInt8) (i:Int):Int:=
 match nth s i.toNat with
 | some c=>c.toNat
 | none=>0
noncomputable def tP (P:Program) (σ:St) (t:TypeId) (s:List UInt8) (i:Int) (k:ah):Prop:=
 match P.underlying t with
 | some .string=>(0≤i∧i<(len s:Nat))∧k (.int .u8 (iW s i)) σ
 | _=>False
theorem xA {σ:St} {t:TypeId} {s:List UInt8} {i:Int} {k:ah} (h:tP P σ t s i k):dd (la P σ t s i) k:=by
 unfold tP at h
 unfold la
 split at h
 ·rename_i hu
  obtain⟨⟨h1,h2⟩,hk⟩:=h
  rw[aZ] at h2
  have hn:nth s i.toNat=some (s[i.toNat]'(by omega)):=by rw[dz];exact List.getElem?_eq_getElem _
  unfold iW at hk
  rw[hn] at hk
  rw[hu]
  dsimp only
  rw[if_pos h1,hn]
  exact hk
 ·exact h.elim
noncomputable def BI (P:Program) (σ:St) (t:TypeId) (x ix:V) (k:ah):Prop:=
 match x,ix with
 | .str s,.int _ i=>tP P σ t s i k
 | x,ix=>dd (nW P σ t x ix) k
theorem BJ {σ:St} {t:TypeId} {x ix:V} {k:ah} (h:BI P σ t x ix k):dd (nW P σ t x ix) k:=by
 unfold BI at h
 split at h
 ·exact xA h
 ·exact h
def AK (x:Option V) (k:V→Prop):Prop:=
 match x with
 | some v=>k v
 | none=>False
theorem AK.h {x:Option V} {k:V→Prop} (h:AK x k):∃v,x=some v∧k v:=by
 cases x with
 | none=>exact h.elim
 | some v=>exact⟨v,rfl,h⟩
noncomputable def BK (P:Program) (σ:St) (t:TypeId) (i esz off:Nat) (k:ah):Option bR→Prop
 | some (.row n f z _)=>match Nat.beq z esz with
  | true=>i<n∧(match ra P t,bL P t with
   | some true,some sz=>AK (Gr (f i).cells off sz) fun v=>k v σ
   | some false,_=>AK (nth (f i).cells off) fun v=>k v σ
   | _,_=>False)
  | false=>False
 | _=>False
noncomputable def GU (P:Program) (σ:St) (t:TypeId) (v:V) (k:ah):Prop:=
 match v with
 | .fj b i esz off=>BK P σ t i esz off k (σ.heap.get b)
 | v=>dd (oh P σ t v) k
theorem Dx {σ:St} {t:TypeId} {v:V} {k:ah} (h:GU P σ t v k):dd (oh P σ t v) k:=by
 unfold GU at h
 split at h
 ·rename_i b i esz off
  unfold BK at h
  split at h
  ·rename_i n f z p hb
   split at h
   ·rename_i hz
    have hz:=Nat.eq_of_beq_eq_true hz
    obtain⟨hi,h⟩:=h
    have he:σ.iD b i esz=some (f i).cells:=by
     unfold St.iD
     rw[hb]
     exact if_pos ⟨hi,hz⟩
    show dd (aJ σ "load" (ea P σ t (.fj b i esz off))) k
    unfold ea
    split at h
    ·rename_i sz fN ba
     obtain⟨u,hu,hk⟩:=h.h
     rw[fN,ba]
     dsimp only
     rw[he,Option.bind_some,hu]
     exact hk
    ·rename_i fN
     obtain⟨u,hu,hk⟩:=h.h
     rw[fN]
     dsimp only
     rw[he,Option.bind_some,hu]
     exact hk
    ·exact h.elim
   ·exact h.elim
  ·exact h.elim
 ·exact h
noncomputable def zT (P:Program) (σ:St) (t:TypeId) (v:V) (b i esz off:Nat) (k:ah):Option bR→Prop
 | some (.row n f z p)=>match bL P t with
  | some sz=>match Nat.beq (len v.cells) sz&&(Nat.beq z esz&&(Nat.ble (Nat.add off (len v.cells)) esz&&gE V.scalar v.cells)) with
   | true=>i<n∧k cO (σ.set b (.row n (fe f i (qm (f i) esz off v)) z p))
   | false=>False
  | none=>False
 | _=>False
noncomputable def BL (P:Program) (σ:St) (t:TypeId) (v u:V) (k:ah):Prop:=
 match u with
 | .fj b i esz off=>zT P σ t v b i esz off k (σ.heap.get b)
 | u=>dd (nV P σ t v u) k
theorem BM {σ:St} {t:TypeId} {v u:V} {k:ah} (h:BL P σ t v u k):dd (nV P σ t v u) k:=by
 unfold BL at h
 split at h
 ·rename_i b i esz off
  unfold zT at h
  split at h
  ·rename_i n f z p hb
   split at h
   ·rename_i sz ba
    split at h
    ·rename_i hc
     rw[Bool.and_eq_true,Bool.and_eq_true] at hc
     obtain⟨c1,c2,c3⟩:=hc
     have c1:=Nat.eq_of_beq_eq_true c1
     have c2:=Nat.eq_of_beq_eq_true c2
     subst c2
     obtain⟨hi,hk⟩:=h
     refine dd.mk' (v:=_) (σ:=_) ?_ hk
     unfold nV
     dsimp only
     rw[ba]
     dsimp only
     rw[if_pos c1]
     have:σ.jj b i z off v=some (σ.set b (.row n (fe f i (qm (f i) z off v)) z p)):=by
      unfold St.jj
      rw[hb]
      dsimp only
      rw[if_pos ⟨hi,rfl⟩,c3]
     rw[this];rfl
    ·exact h.elim
   ·exact h.elim
  ·exact h.elim
 ·exact h
def pV (d:Int):Option V→Option Int
 | none=>some d
 | some (.int _ i)=>some i
 | _=>none
noncomputable def zU (σ:St) (n:Nat) (f:Nat→V) (esz:Nat) (ex:Bool) (mx:Bool) (k:ah):Option Int→Option Int→Option Int→Prop
 | some l,some h,some m=>(0≤l∧l≤h∧h≤m∧m≤n)∧k (.arr (h.toNat-l.toNat) (fun i=>f (Nat.add l.toNat i)) esz ((mx||(ex&&Nat.beq h.toNat n))&&Nat.beq h.toNat m.toNat) false) σ
 | _,_,_=>False
def zV (σ:St) (s:List UInt8) (k:ah):Option Int→Option Int→Prop
 | some l,some h=>(0≤l∧l≤h∧h≤(len s:Nat))∧k (.str (di l.toNat (dA s h.toNat))) σ
 | _,_=>False
noncomputable def oG (P:Program) (a:Act) (σ:St) (t:TypeId) (lo hi mx:Option Operand) (v:V) (k:ah):Prop:=
 match v with
 | .arr n f esz ex _=>match P.underlying t with
  | some (.slice e)=>match bL P e with
   | some sz=>match Nat.beq sz esz&&(hi.isSome|| !mx.isSome) with
    | true=>match hP a lo,hP a hi,hP a mx with
     | some l,some h,some m=>zU σ n f esz ex m.isSome k (pV 0 l) (pV n h) (pV n m)
     | _,_,_=>False
    | false=>False
   | none=>False
  | _=>False
 | .str s=>match P.underlying t,mx with
  | some .string,none=>match hP a lo,hP a hi with
   | some l,some h=>zV σ s k (pV 0 l) (pV (len s) h)
   | _,_=>False
  | _,_=>False
 | v=>dd (fp P a σ t lo hi mx v) k
theorem vJ {a:Act} {x:Option Operand} {v:Option V} (h:hP a x=some v):v.isSome=x.isSome:=by
 cases x with
 | none=>cases h;rfl
 | some x=>
  have h':(a.eval x).map some=some v:=h
  rw[Option.map_eq_some_iff] at h'
  obtain⟨u,_,rfl⟩:=h';rfl
theorem gQ {lo hi:Nat} {k:IntKind} {i:Int} (h1:(lo:Int)≤i) (h2:i≤hi):asNat lo hi (.int k i)=some i.toNat:=if_pos ⟨h1,h2⟩
theorem vK {n:Nat} {l hh m:Option V} {L H M:Int} (e1:pV 0 l=some L) (e2:pV n hh=some H) (e3:pV n m=some M) (c:(hh.isSome|| !m.isSome)=true) (b1:0≤L) (b2:L≤H) (b3:H≤M) (b4:M≤n):
  bounds n n l hh m=some (L.toNat,H.toNat,M.toNat):=by
 have hl:∀ {d:Int} {o:Option V} {I:Int},pV d o=some I→(o=none∧I=d)∨∃k,o=some (.int k I):=by
  intro d o I h
  unfold pV at h
  split at h
  ·exact .inl ⟨rfl,(Option.some.inj h).symm⟩
  ·rename_i k i;cases h;exact .inr ⟨k,rfl⟩
  ·cases h
 rcases hl e3 with ⟨rfl,rfl⟩ | ⟨k3,rfl⟩
 ·rcases hl e2 with ⟨rfl,rfl⟩ | ⟨k2,rfl⟩
  ·rcases hl e1 with ⟨rfl,rfl⟩ | ⟨k1,rfl⟩
   ·rfl
   ·unfold bounds
    dsimp only
    rw[gQ (by omega) (by omega)];rfl
  ·rcases hl e1 with ⟨rfl,rfl⟩ | ⟨k1,rfl⟩
   ·unfold bounds
    dsimp only
    rw[gQ (by omega) (by omega)];rfl
   ·unfold bounds
    dsimp only
    rw[gQ (by omega) (by omega)]
    dsimp only
    rw[gQ (by omega) (by omega)];rfl
 ·rcases hl e2 with ⟨rfl,rfl⟩ | ⟨k2,rfl⟩
  ·simp at c
  ·rcases hl e1 with ⟨rfl,rfl⟩ | ⟨k1,rfl⟩
   ·unfold bounds
    dsimp only
    rw[gQ (by omega) (by omega)]
    dsimp only
    rw[gQ (by omega) (by omega)];rfl
   ·unfold bounds
    dsimp only
    rw[gQ (by omega) (by omega)]
    dsimp only
    rw[gQ (by omega) (by omega)]
    dsimp only
    rw[gQ (by omega) (by omega)]
theorem BN {a:Act} {σ:St} {t:TypeId} {lo hi mx:Option Operand} {v:V} {k:ah} (h:oG P a σ t lo hi mx v k):dd (fp P a σ t lo hi mx v) k:=by
 unfold oG at h
 split at h
 ·rename_i n f esz ex nn
  split at h
  ·rename_i e hu
   split at h
   ·rename_i sz ba
    split at h
    ·rename_i hc
     rw[Bool.and_eq_true] at hc
     obtain⟨c1,c2⟩:=hc
     have c1:=Nat.eq_of_beq_eq_true c1
     subst c1
     split at h
     ·rename_i l hh m h1 h2 h3
      have s2:=vJ h2
      have s3:=vJ h3
      unfold zU at h
      split at h
      ·rename_i L H M e1 e2 e3
       obtain⟨⟨b1,b2,b3,b4⟩,hk⟩:=h
       refine dd.mk' (v:=_) (σ:=_) ?_ hk
       unfold fp
       rw[h1,h2,h3]
       dsimp only
       have ha:jk P t=none:=by unfold jk;rw[hu]
       rw[ha]
       dsimp only
       have BF:=vK e1 e2 e3 (by rw[s2,s3];exact c2) b1 b2 b3 b4
       unfold mM
       rw[hu]
       dsimp only
       rw[ba,BF]
       dsimp only
       rw[if_neg (by simp)]
       rfl
      ·exact h.elim
     ·exact h.elim
    ·exact h.elim
   ·exact h.elim
  ·exact h.elim
 ·rename_i s
  split at h
  ·rename_i hu
   split at h
   ·rename_i l hh h1 h2
    unfold zV at h
    split at h
    ·rename_i L H e1 e2
     obtain⟨⟨b1,b2,b3⟩,hk⟩:=h
     refine dd.mk' (v:=_) (σ:=_) ?_ hk
     unfold fp
     rw[h1,h2,show hP a none=some none from rfl]
     dsimp only
     have ha:jk P t=none:=by unfold jk;rw[hu]
     rw[ha]
     dsimp only
     have BF:bounds (len s) (len s) l hh none=some (L.toNat,H.toNat,len s):=by
      have:=vK (n:=len s) (m:=none) (M:=(len s:Nat)) e1 e2 rfl (by simp) b1 b2 b3 (Int.le_refl _)
      rw[this,Int.toNat_natCast]
     unfold mM
     rw[hu]
     dsimp only
     rw[BF,if_neg (by simp)]
     rfl
    ·exact h.elim
   ·exact h.elim
  ·exact h.elim
 ·exact h
noncomputable def rK (σ:St) (id sz c7 m:Nat) (g:Nat→V) (k:ah):V→Prop
 | .ai=>ae (decide (m=0)) (k .ai σ) (m*c7≤1099511627776∧k (.own id m sz) (σ.new id (.row m g sz true)))
 | .arr n f esz true _=>match Nat.beq n 0&&Nat.beq sz esz with
  | true=>ae (decide (m=0)) (k (.arr n f esz true false) σ) (m*c7≤1099511627776∧k (.own id m sz) (σ.new id (.row m g sz true)))
  | false=>False
 | .slice b off n cap true esz=>match Nat.beq n 0&&(Nat.beq cap 0&&Nat.beq sz esz),σ.cells b off 0 with
  | true,some []=>ae (decide (m=0)) (k (.slice b off n cap true esz) σ) (m*c7≤1099511627776∧k (.own id m sz) (σ.new id (.row m g sz true)))
  | _,_=>False
 | _=>False
theorem wy {σ:St} {id sz c7 m:Nat} {g:Nat→V} {k:ah} {s:V} (h:rK σ id sz c7 m g k s):∃v σ',iu σ id sz c7 m g s=some (v,σ')∧k v σ':=by
 unfold rK at h
 split at h
 ·by_cases hm:m=0
  ·exact⟨_,_,if_pos hm,ae.y h (decide_eq_true hm)⟩
  ·obtain⟨h1,h2⟩:=ae.z h (decide_eq_false hm)
   exact⟨_,_,by unfold iu;dsimp only;rw[if_neg hm,if_pos h1],h2⟩
 ·rename_i n f esz nn
  split at h
  ·rename_i hc
   rw[Bool.and_eq_true] at hc
   have c1:=Nat.eq_of_beq_eq_true hc.1
   have c2:=Nat.eq_of_beq_eq_true hc.2
   subst c1 c2
   by_cases hm:m=0
   ·exact⟨_,_,by unfold iu;dsimp only;rw[if_neg (by simp),if_pos hm],ae.y h (decide_eq_true hm)⟩
   ·obtain⟨h1,h2⟩:=ae.z h (decide_eq_false hm)
    exact⟨_,_,by unfold iu;dsimp only;rw[if_neg (by simp),if_neg hm,if_pos h1],h2⟩
  ·exact h.elim
 ·rename_i b off n cap esz
  split at h
  ·rename_i hc dC
   rw[Bool.and_eq_true,Bool.and_eq_true] at hc
   have c1:=Nat.eq_of_beq_eq_true hc.1
   have c2:=Nat.eq_of_beq_eq_true hc.2.1
   have c3:=Nat.eq_of_beq_eq_true hc.2.2
   subst c1 c2 c3
   by_cases hm:m=0
   ·exact⟨_,_,by unfold iu;dsimp only;rw[dC];dsimp only;rw[if_neg (by simp),if_pos hm],ae.y h (decide_eq_true hm)⟩
   ·obtain⟨h1,h2⟩:=ae.z h (decide_eq_false hm)
    exact⟨_,_,by unfold iu;dsimp only;rw[dC];dsimp only;rw[if_neg (by simp),if_neg hm,if_pos h1],h2⟩
  ·exact h.elim
 ·exact h.elim
noncomputable def D0 (P:Program) (σ:St) (id:Nat) (t t':TypeId) (m:Nat) (g:Nat→V) (esz:Nat) (s:V) (k:ah):Prop:=
 match intType P t' with
 | true=>False
 | false=>match P.underlying t with
  | some (.slice e)=>match bL P e,iS P e,gu P e with
   | some sz,some c7,some z=>match Nat.beq sz 0||(Nat.beq c7 0||(!Nat.beq (len z.cells) sz|| !Nat.beq sz esz)) with
    | true=>False
    | false=>rK σ id sz c7 m g k s
   | _,_,_=>False
  | _=>False
noncomputable def xB (σ:St) (id sz c7 b n:Nat) (k:ah):Option (Nat×(Nat→V)×List V)→Option bR→Prop
 | some (m,g,new),some (.row n' f esz p)=>match Nat.beq esz sz&&(Nat.blt 0 m&&gE V.scalar new) with
  | true=>(n'=n∧(n+m)*c7≤1099511627776)∧k (.own id (n+m) sz) ((σ.kill b).new id (.row (n+m) (dU n f g) sz p))
  | false=>False
 | _,_=>False
noncomputable def rL (P:Program) (σ:St) (id:Nat) (t t':TypeId) (b n esz:Nat) (x:V) (k:ah):Prop:=
 match intType P t' with
 | true=>False
 | false=>match P.underlying t with
  | some (.slice e)=>match bL P e,iS P e,gu P e with
   | some sz,some c7,some z=>match Nat.beq sz 0||(Nat.beq c7 0||(!Nat.beq (len z.cells) sz|| !Nat.beq sz esz)) with
    | true=>False
    | false=>xB σ id sz c7 b n k (oneOf σ sz x) (σ.heap.get b)
   | _,_,_=>False
  | _=>False
theorem wz {σ:St} {id:Nat} {t t':TypeId} {tl:List TypeId} {b n esz:Nat} {x:V} {k:ah} (hx:∀m g e a c,x≠.arr m g e a c) (h:rL P σ id t t' b n esz x k):
  dd (gG P σ id .append (t::t'::tl) (some [.own b n esz,x])) k:=by
 unfold rL at h
 split at h
 ·exact h.elim
 ·rename_i hi
  split at h
  ·rename_i e hu
   split at h
   ·rename_i sz c7 z h1 h2 h3
    split at h
    ·exact h.elim
    ·rename_i hc
     rw[Bool.or_eq_false_iff,Bool.or_eq_false_iff,Bool.or_eq_false_iff] at hc
     obtain⟨c1,c2,c3,c4⟩:=hc
     unfold xB at h
     split at h
     ·rename_i m g new n' f rB p RD hb
      split at h
      ·rename_i hs
       rw[Bool.and_eq_true,Bool.and_eq_true] at hs
       have xo:=Nat.eq_of_beq_eq_true hs.1
       have Jp:=hs.2.1
       rw[Nat.blt_eq] at Jp
       obtain⟨⟨rfl,dS⟩,hk⟩:=h
       refine dd.mk' (v:=_) (σ:=_) ?_ hk
       show bu.of "builtin" (match intType P t' with
        | true=>j1 P σ id t t' (.own b n' esz) x
        | false=>ja P σ id t (.own b n' esz) x)=_
       rw[hi]
       have he:ja P σ id t (.own b n' esz) x=mO P σ id t b n' esz x:=by
        cases x with
        | arr m g e a c=>exact absurd rfl (hx m g e a c)
        | _=>rfl
       dsimp only
       rw[he]
       unfold mO
       rw[hu]
       dsimp only
       rw[h1,h2,h3]
       dsimp only
       have d:¬(sz=0∨c7=0∨len z.cells≠sz∨sz≠esz):=by
        rw[not_or,not_or,not_or]
        refine⟨fun e=>?_,fun e=>?_,fun e=>?_,fun e=>?_⟩
        ·subst e;simp at c1
        ·subst e;simp at c2
        ·simp only[Bool.not_eq_false'] at c3;exact e (Nat.eq_of_beq_eq_true c3)
        ·simp only[Bool.not_eq_false'] at c4;exact e (Nat.eq_of_beq_eq_true c4)
       rw[if_neg d,RD]
       dsimp only
       unfold s7
       rw[hb]
       dsimp only
       rw[if_pos ⟨rfl,xo,by omega,dS,hs.2.2⟩]
       rfl
      ·exact h.elim
     ·exact h.elim
   ·exact h.elim
  ·exact h.elim
noncomputable def wA (P:Program) (σ:St) (id:Nat) (b:Builtin) (tys:List TypeId) (vs:Option (List V)) (k:ah):Prop:=
 match b,tys,vs with
 | .append,t::t'::_,some [s,.arr m g esz _ _]=>D0 P σ id t t' m g esz s k
 | .append,t::t'::_,some [.own b n esz,x]=>rL P σ id t t' b n esz x k
 | b,tys,vs=>dd (gG P σ id b tys vs) k
theorem yH {σ:St} {id:Nat} {b:Builtin} {tys:List TypeId} {vs:Option (List V)} {k:ah} (h:wA P σ id b tys vs k):dd (gG P σ id b tys vs) k:=by
 unfold wA at h
 split at h
 ·rename_i t t' tl s m g esz ex nn
  unfold D0 at h
  split at h
  ·exact h.elim
  ·rename_i hi
   split at h
   ·rename_i e hu
    split at h
    ·rename_i sz c7 z h1 h2 h3
     split at h
     ·exact h.elim
     ·rename_i hc
      rw[Bool.or_eq_false_iff,Bool.or_eq_false_iff,Bool.or_eq_false_iff] at hc
      obtain⟨c1,c2,c3,c4⟩:=hc
      obtain⟨v,σ',hr,hk⟩:=wy h
      refine dd.mk' (v:=v) (σ:=σ') ?_ hk
      show bu.of "builtin" (match intType P t' with
       | true=>j1 P σ id t t' s (.arr m g esz ex nn)
       | false=>ja P σ id t s (.arr m g esz ex nn))=_
      rw[hi]
      show bu.of "builtin" (mN P σ id t m g esz s)=_
      unfold mN
      rw[hu]
      dsimp only
      rw[h1,h2,h3]
      dsimp only
      have d:¬(sz=0∨c7=0∨len z.cells≠sz∨sz≠esz):=by
       rw[not_or,not_or,not_or]
       refine⟨fun e=>?_,fun e=>?_,fun e=>?_,fun e=>?_⟩
       ·subst e;simp at c1
       ·subst e;simp at c2
       ·simp only[Bool.not_eq_false'] at c3;exact e (Nat.eq_of_beq_eq_true c3)
       ·simp only[Bool.not_eq_false'] at c4;exact e (Nat.eq_of_beq_eq_true c4)
      rw[if_neg d,hr];rfl
    ·exact h.elim
   ·exact h.elim
 ·rename_i bQ
  exact wz (fun m g e a c he=>bQ m g e a c he) h
 ·exact h
noncomputable def D3 (σ:St) (n:Nat) (k:ah):Option bR→Prop
 | some (.row n' f z _)=>match Nat.beq z 1 with
  | true=>n'=n∧∃s,eH (ar (bY n' f))=some s∧k (.str s) σ
  | false=>False
 | _=>False
def nq (b:Nat):Int:=match (FloatKind.f64.decode b).toInt .zero with | some n=>n | none=>0
def zW (b:Nat) (k:IntKind):Prop:=(FloatKind.f64.decode b).toInt .zero=some (nq b)∧k.min≤nq b∧nq b≤k.max
noncomputable def GV (P:Program) (σ:St) (id:Nat) (src dst:TypeId) (v:V) (k:ah):Prop:=
 match v with
 | .dJ .f64 b=>match P.underlying src,P.underlying dst with
  | some (.float _),some (.int kd)=>zW b kd∧k (.int kd (nq b)) σ
  | _,_=>False
 | .str s=>match P.underlying src,P.underlying dst with
  | some .string,some (.slice e)=>match P.underlying e with
   | some (.int .u8)=>match bL P e,iS P e with
    | some 1,some 1=>len s≤1099511627776∧k (.own id (len s) 1) (σ.new id (.row (len s) (du s) 1 false))
    | _,_=>False
   | _=>False
  | some .string,some .string=>k (.str s) σ
  | _,_=>False
 | .own b n _=>match P.underlying src,P.underlying dst with
  | some (.slice e),some .string=>match P.underlying e with
   | some (.int .u8)=>D3 σ n k (σ.heap.get b)
   | _=>False
  | _,_=>False
 | v=>dd (cX P σ id src dst v) k
theorem Dy {σ:St} {id:Nat} {src dst:TypeId} {v:V} {k:ah} (h:GV P σ id src dst v k):dd (cX P σ id src dst v) k:=by
 unfold GV at h
 split at h
 ·rename_i b
  split at h
  ·rename_i q kd hs hd
   refine dd.mk' (v:=_) (σ:=_) ?_ h.2
   unfold cX evalConv
   rw[hs,hd]
   dsimp only
   rw[h.1.1]
   dsimp only
   rw[if_pos h.1.2]
   rfl
  ·exact h.elim
 ·rename_i s
  split at h
  ·rename_i e hs hd
   split at h
   ·rename_i he
    split at h
    ·rename_i h1 h2
     refine dd.mk' (v:=_) (σ:=_) ?_ h.2
     unfold cX evalConv
     rw[hs,hd]
     dsimp only
     rw[he]
     dsimp only
     rw[if_pos ⟨h1,h2,h.1⟩]
     rfl
    ·exact h.elim
   ·exact h.elim
  ·rename_i hs hd
   refine dd.mk' (v:=_) (σ:=_) ?_ h
   unfold cX evalConv
   rw[hs,hd]
   rfl
  ·exact h.elim
 ·rename_i b n esz
  split at h
  ·rename_i e hs hd
   split at h
   ·rename_i he
    unfold D3 at h
    split at h
    ·rename_i n' f z p hb
     split at h
     ·rename_i hz
      obtain⟨rfl,s,h1,hk⟩:=h
      refine dd.mk' (v:=_) (σ:=_) ?_ hk
      unfold cX evalConv
      rw[hs,hd]
      dsimp only
      rw[he]
      dsimp only
      rw[hb]
      dsimp only
      rw[if_pos ⟨rfl,Nat.eq_of_beq_eq_true hz⟩,h1]
      rfl
     ·exact h.elim
    ·exact h.elim
   ·exact h.elim
  ·exact h.elim
 ·exact h
noncomputable def vL (σ:St) (id sz c7:Nat) (z:List V) (n m:Int) (k:ah):Prop:=
 match !Nat.beq sz 0&&(Nat.beq (len z) sz&&gE V.scalar z) with
 | true=>(0≤n∧n≤m∧m.toNat*c7≤1099511627776∧m≤1099511627776)∧k (.slice id 0 n.toNat m.toNat true sz) (newRow σ id (m.toNat*sz) z .leaf true)
 | false=>False
noncomputable def rM (P:Program) (σ:St) (id:Nat) (t:TypeId) (v u:V) (k:ah):Prop:=
 match v,u with
 | .int _ n,.int _ m=>match gp P t with
  | some e=>match bL P e,iS P e,gu P e with
   | some sz,some c7,some z=>vL σ id sz c7 z.cells n m k
   | _,_,_=>False
  | none=>False
 | v,u=>dd (gg P σ id t v u) k
theorem wB {σ:St} {id:Nat} {t:TypeId} {v u:V} {k:ah} (h:rM P σ id t v u k):dd (gg P σ id t v u) k:=by
 unfold rM at h
 split at h
 ·rename_i k1 n k2 m
  split at h
  ·rename_i e he
   split at h
   ·rename_i sz c7 z h1 h2 h3
    unfold vL at h
    split at h
    ·rename_i hb
     rw[Bool.and_eq_true,Bool.and_eq_true] at hb
     obtain⟨b1,b2,b3⟩:=hb
     obtain⟨⟨c1,c2,c3,c4⟩,hk⟩:=h
     refine dd.mk' (v:=_) (σ:=_) ?_ hk
     unfold gg
     dsimp only
     rw[he]
     dsimp only
     rw[h1,h2,h3]
     dsimp only
     unfold k9
     rw[if_pos ⟨c1,c2,c3,c4,fun e=>by subst e;simp at b1,Nat.eq_of_beq_eq_true b2,b3⟩]
    ·exact h.elim
   ·exact h.elim
  ·exact h.elim
 ·exact h
noncomputable def N1 (a:Act) (σ:St) (x y:Operand) (k:ah):V→Prop
 | .bool b=>ae b (fw (a.eval x) fun v=>k v σ) (fw (a.eval y) fun v=>k v σ)
 | _=>False
theorem Dz {a:Act} {σ:St} {x y:Operand} {k:ah} {v:V} (h:N1 a σ x y k v):(mP a σ x y v).Holds (rI k):=by
 cases v with
 | bool b=>
  have h':ae b (fw (a.eval x) fun v=>k v σ) (fw (a.eval y) fun v=>k v σ):=h
  have go:∀o:Option V,fw o (fun v=>k v σ)→(aJ σ "pick" o:VS).Holds (rI k):=by
   intro o ho
   cases o with
   | none=>exact ho.elim
   | some v=>exact ho
  cases b with
  | true=>exact go _ (ae.y h' rfl)
  | false=>exact go _ (ae.z h' rfl)
 | _=>exact h.elim
noncomputable def RE (P:Program) (o:Op) (a:Act) (σ:St) (id:Nat) (k:ah):Prop:=
 match o with
 | .load t x=>fw (a.eval x) fun v=>GU P σ t v k
 | .pick c x y=>fw (a.eval c) fun v=>N1 a σ x y k v
 | .store t x y=>lB (a.eval y) (a.eval x) fun v p=>BL P σ t v p k
 | .binOp op t x y _=>lB (a.eval x) (a.eval y) fun v u=>Li P σ op t (isConst x||isConst y) v u k
 | .convert s d x=>fw (a.eval x) fun v=>GV P σ id s d v k
 | .makeSlice t l c=>lB (a.eval l) (a.eval c) fun v u=>rM P σ id t v u k
 | .slice t x lo hi mx=>fw (a.eval x) fun v=>oG P a σ t lo hi mx v k
 | .indexAddr t x ix=>lB (a.eval x) (a.eval ix) fun v u=>rJ P σ t v u k
 | .index t x ix=>lB (a.eval x) (a.eval ix) fun v u=>BI P σ t v u k
 | .box _ x=>fw (a.eval x) fun v=>dd (w2 σ id v) k
 | .field t x f=>fw (a.eval x) fun v=>dd (qn P σ t f v) k
 | .fieldAddr t x f=>fw (a.eval x) fun v=>dd (j2 P σ t f v) k
 | .build t ps=>dd (lZ P σ t (a.parts ps.toList)) k
 | .buildSlice t n ps=>dd (fD P σ id t n (a.parts ps.toList)) k
 | .alloc e=>dd (nX P σ id e) k
 | .typeAssert x _ t ok=>fw (a.eval x) fun v=>dd (we P σ t ok v) k
 | .makeInterface t x=>fw (a.eval x) fun v=>dd (gF P σ t v) k
 | o=>((lU P o).f a σ id).Holds (rI k)
theorem Jv {o:Op} {a:Act} {σ:St} {id:Nat} {k:ah} (h:RE P o a σ id k):((lU P o).f a σ id).Holds (rI k):=by
 cases o with
 | convert s d x=>exact fX (fw.mono h fun _ hv=>(Dy hv).holds)
 | slice t x lo hi mx=>exact fX (fw.mono h fun _ hv=>(BN hv).holds)
 | box e x=>exact fX (fw.mono h fun _ hv=>hv.holds)
 | field t x f=>exact fX (fw.mono h fun _ hv=>hv.holds)
 | fieldAddr t x f=>exact fX (fw.mono h fun _ hv=>hv.holds)
 | typeAssert x _ t ok=>exact fX (fw.mono h fun _ hv=>hv.holds)
 | makeInterface t x=>exact fX (fw.mono h fun _ hv=>hv.holds)
 | load t x=>exact fX (fw.mono h fun _ hv=>(Dx hv).holds)
 | pick c x y=>exact fX (fw.mono h fun _ hv=>Dz hv)
 | store t x y=>exact lC (lB.mono h fun _ _ hv=>(BM hv).holds)
 | makeSlice t l c=>exact lC (lB.mono h fun _ _ hv=>(wB hv).holds)
 | indexAddr t x ix=>exact lC (lB.mono h fun _ _ hv=>(wx hv).holds)
 | index t x ix=>exact lC (lB.mono h fun _ _ hv=>(BJ hv).holds)
 | binOp op t x y _=>exact lC (lB.mono h fun _ _ hv=>GR hv)
 | build t ps=>exact dd.holds h
 | buildSlice t n ps=>exact dd.holds h
 | alloc e=>exact dd.holds h
 | _=>exact h
abbrev uZ:=V→Act→St→Prop
def jL (k:uZ):V×Act×St→Prop
 | (v,a,σ)=>k v a σ
theorem bu.Holds.fq {a:Act} {r:VS} {k:uZ} (h:r.Holds (rI fun v σ=>k v a σ)):(r.bind (fq a)).Holds (jL k):=
 bu.Holds.dN (h.mono fun⟨_,_⟩ hx=>hx)
noncomputable def Lj {α:Type} (l:List α):(List α→Prop)→Prop:=
 List.rec (motive:=fun _=>(List α→Prop)→Prop) (fun k=>k []) (fun x _ ih k=>ih fun l=>k (x::l)) l
theorem O4 {α:Type} (l:List α) (k:List α→Prop):Lj l k=k l:=by
 induction l generalizing k with
 | nil=>rfl
 | cons x l ih=>exact ih _
noncomputable def GW {α:Type} (l:List (List α)):(List (List α)→Prop)→Prop:=
 List.rec (motive:=fun _=>(List (List α)→Prop)→Prop) (fun k=>k []) (fun x _ ih k=>Lj x fun x=>ih fun l=>k (x::l)) l
theorem O5 {α:Type} (l:List (List α)) (k:List (List α)→Prop):GW l k=k l:=by
 induction l generalizing k with
 | nil=>rfl
 | cons x l ih=>
  show Lj x (fun x=>GW l fun l=>k (x::l))=_
  rw[O4,ih]
noncomputable def yI (dst:Option Tmp) (k:Act→Prop) (a:Act) (v:V):Prop:=
 match dst with
 | some d=>match a with
  | ⟨t,s,ds⟩=>match Nat.blt d s with
   | true=>GW (t.put d v) fun t=>k ⟨t,s,ds⟩
   | false=>False
 | none=>k a
def yJ (k:Act→St→Prop):Act×St→Prop
 | (a,σ)=>k a σ
theorem nN {dst:Option Tmp} {a:Act} {v:V} {σ:St} {k:Act→St→Prop} (h:yI dst (fun a=>k a σ) a v):(pO σ (a.put dst v)).Holds (yJ k):=by
 cases dst with
 | none=>exact h
 | some d=>
  obtain⟨t,s,ds⟩:=a
  have h':match Nat.blt d s with
   | true=>GW (t.put d v) fun t=>k ⟨t,s,ds⟩ σ
   | false=>False:=h
  show(pO σ (match Nat.blt d s with
   | true=>some ⟨t.put d v,s,ds⟩
   | false=>none)).Holds (yJ k)
  revert h'
  cases Nat.blt d s with
  | true=>intro h;rw[O5] at h;exact h
  | false=>exact fun h=>h.elim
def GX (b:Nat) (c:Bool) (k:Prop):Prop:=
 match b with
 | 0=>k
 | _+1=>ae c k False
def BO (Q:ah) (σ:St):Option (List V)→Prop
 | some l=>Q (rl l) σ
 | none=>False
end
end Go.Ev
end
section
namespace Go.Ev
open Go Go.RowKit
def start:St:={heap:=.leaf,next:=0}
def wC:Out×St→Bool
 | (.val (.bool b),_)=>b
 | _=>false
end Go.Ev
end
section
namespace Go.Ev
open Go Go.RowKit
theorem BP {P:Program} {w:World} {r:Reach} {base:Nat} {t:TypeId} {v:Value} (h:Cell.okWide P w r base t v):v.oneCell'=true:=by
 unfold Cell.okWide at h
 split at h<;>first
  | rfl
  | (unfold Cell.ok at h;split at h<;>first | rfl | exact h.elim)
def pw (P:Program) (t:TypeId):Bool:=
 match P.underlying t with
 | some (.int .i64)=>true
 | _=>false
def iX (P:Program) (t:TypeId):Bool×List Bool:=
 match P.underlying t with
 | some (.struct _) | some (.array _ _)=>(true,(List.range (P.cellsOf t)).map fun i=>match P.cellTypes P.depth t with
  | some ts=>match ts[i%ts.length]? with
   | some u=>pw P u
   | none=>false
  | none=>false)
 | _=>(false,[pw P t])
def tQ (f:Bool) (x:Value):Prop:=x.oneCell'=true∧(f=true→∃n,x=.int .i64 n)
def fc:List Bool→List Value→Prop
 | [],[]=>True
 | f::fs,x::xs=>tQ f x∧fc fs xs
 | _,_=>False
theorem fc.of:∀ {fs:List Bool} {xs:List Value},xs.length=fs.length→(∀(i:Nat) f x,fs[i]? =some f→xs[i]? =some x→tQ f x)→fc fs xs
 | [],[],_,_=>trivial
 | f::fs,x::xs,hl,h=>⟨h 0 f x rfl rfl,fc.of (by simpa using hl) fun i f x hf hx=>h (i+1) f x (by simpa using hf) (by simpa using hx)⟩
theorem fc.length:∀ {fs:List Bool} {xs:List Value},fc fs xs→xs.length=fs.length
 | [],[],_=>rfl
 | f::fs,x::xs,h=>by simpa using fc.length h.2
theorem fc.get:∀ {fs:List Bool} {xs:List Value},fc fs xs→∀(i:Nat) f x,fs[i]? =some f→xs[i]? =some x→tQ f x
 | f::fs,x::xs,h,0,g,y,hg,hy=>by cases hg;cases hy;exact h.1
 | f::fs,x::xs,h,i+1,g,y,hg,hy=>fc.get h.2 i g y (by simpa using hg) (by simpa using hy)
theorem fc.one {fs:List Bool} {xs:List Value} (h:fc fs xs):∀x∈xs,x.oneCell'=true:=fun x hx=>by
 obtain⟨i,hi,rfl⟩:=List.getElem_of_mem hx
 have hl:=h.length
 exact(h.get i fs[i] xs[i] (by simp) (by simp)).1
theorem xC {P:Program} {w:World} {r:Reach} {base:Nat} {t:TypeId} {v:Value} (h:Cell.okWide P w r base t v):tQ (pw P t) v:=by
 refine⟨BP h,fun hf=>?_⟩
 unfold pw at hf
 split at hf
 ·rename_i hu
  simp only[Cell.okWide,hu] at h
  cases v<;>simp_all [Cell.ok]
 ·cases hf
theorem Jw {P:Program} {w:World} {r:Reach} {base:Nat} {t:TypeId} {cs:List Value} (hs:cs.length=P.cellsOf t) (h:Row.okWide P w r base t ⟨cs⟩):
  fc ((List.range (P.cellsOf t)).map fun i=>match P.cellTypes P.depth t with
  | some ts=>match ts[i%ts.length]? with
   | some u=>pw P u
   | none=>false
  | none=>false) cs:=by
 obtain⟨ts,hts,_,hc⟩:=h
 refine .of (by simp [hs]) fun i f x hf hx=>?_
 have hi:=(List.getElem?_eq_some_iff.1 hx).1
 obtain⟨u,hu,dq⟩:=hc i x (by simpa using hx)
 rw[hs] at hi
 simp only[List.getElem?_map,List.getElem?_range hi,Option.map_some,Option.some.injEq,hts,hu] at hf
 subst hf
 exact xC dq
theorem mD {P:Program} {w:World} {r:Reach} {base:Nat} {t:TypeId} {v:Value} (h:Value.okWide P w r base t v):
  (∃cs,v=.agg ⟨cs⟩∧(iX P t).1=true∧fc (iX P t).2 cs∧Row.okWide P w r base t ⟨cs⟩)∨((iX P t).1=false∧fc (iX P t).2 [v]∧v.oneCell'=true∧Cell.okWide P w r base t v):=by
 unfold Value.okWide at h
 unfold iX
 split at h
 ·rename_i fs hu
  obtain⟨⟨cs⟩,rfl,hs,hr⟩:=h
  refine .inl ⟨cs,rfl,by rw[hu],?_,hr⟩
  rw[hu];exact Jw hs hr
 ·rename_i n e hu
  obtain⟨⟨cs⟩,rfl,hs,hr⟩:=h
  refine .inl ⟨cs,rfl,by rw[hu],?_,hr⟩
  rw[hu];exact Jw hs hr
 ·rename_i h1 h2
  have e:(match P.underlying t with
   | some (.struct _) | some (.array _ _)=>(true,(List.range (P.cellsOf t)).map fun i=>match P.cellTypes P.depth t with
    | some ts=>match ts[i%ts.length]? with
     | some u=>pw P u
     | none=>false
    | none=>false)
   | _=>(false,[pw P t]))=(false,[pw P t]):=by
   split
   ·rename_i fs hu;exact absurd hu (h1 fs)
   ·rename_i n e hu;exact absurd hu (h2 n e)
   ·rfl
  rw[e]
  exact .inr ⟨rfl,⟨xC h,trivial⟩,BP h,h⟩
def asInt:Value→Value
 | .int .i64 n=>.int .i64 n
 | _=>.int .i64 0
abbrev nO (cs:List Value) (h:∀x∈cs,x.oneCell'=true) (l:List (Nat×Nat×Value):=[]):Env:=⟨fun i=>if i<dZ then cs.getD i (.bool true) else asInt (cs.getD (i-dZ) (.bool true)),fun i=>by
 by_cases hi:i<dZ
 ·rw[if_pos hi,List.getD_eq_getElem?_getD]
  cases hi:cs[i]? with
  | none=>rfl
  | some x=>exact h x (List.mem_of_getElem? hi)
 ·rw[if_neg hi]
  unfold asInt
  split<;>rfl,fun i hi=>by
 rw[if_neg (Nat.not_lt.2 hi)]
 unfold asInt
 split
 ·exact⟨_,rfl⟩
 ·exact⟨0,rfl⟩,l⟩
noncomputable def N2 (k:Nat):Bool→V
 | true=>.any (Nat.add dZ k)
 | false=>.any k
noncomputable def yK:Nat→List Bool→List V
 | _,[]=>[]
 | k,f::fs=>N2 k f::yK (Nat.add k 1) fs
noncomputable def qI:List (Bool×List Bool)→Nat→List V
 | [],_=>[]
 | (true,fs)::l,k=>.agg (yK k fs)::qI l (Nat.add k (len fs))
 | (false,fs)::l,k=>app (yK k fs) (qI l (Nat.add k (len fs)))
def iO:List Value→List Value
 | []=>[]
 | v::l=>v.cells.toList++iO l
theorem Jx {ρ:Ren} {all:List Value} (h:∀x∈all,x.oneCell'=true) (hs:all.length≤dZ) {k:Nat} {x:Value} (hx:all[k]? =some x) {f:Bool} (hf:tQ f x):@aq (nO all h) ρ (N2 k f) x:=by
 letI:=nO all h
 have hk:=(List.getElem?_eq_some_iff.1 hx).1
 cases f with
 | false=>
  have e:x=Env.val k:=by
   show x=if k<dZ then all.getD k (.bool true) else _
   rw[if_pos (Nat.lt_of_lt_of_le hk hs),List.getD_eq_getElem?_getD,hx];rfl
  rw[e];exact .any k
 | true=>
  obtain⟨n,hn⟩:=hf.2 rfl
  have e:x=Env.val (dZ+k):=by
   show x=if dZ+k<dZ then _ else asInt (all.getD (dZ+k-dZ) (.bool true))
   rw[if_neg (by omega),show dZ+k-dZ=k by omega,List.getD_eq_getElem?_getD,hx,hn];rfl
  rw[e];exact .any (dZ+k)
theorem wD {ρ:Ren} {all:List Value} (h:∀x∈all,x.oneCell'=true) (hs:all.length≤dZ):∀ {fs:List Bool} {cs:List Value} {k:Nat},fc fs cs→(∀i x,cs[i]? =some x→all[k+i]? =some x)→@au (nO all h) ρ (yK k fs) cs
 | [],[],_,_,_=>@au.nil (nO all h) ρ
 | f::fs,x::xs,k,hc,hk=>@au.cons (nO all h) ρ _ _ _ _ (Jx h hs (hk 0 x rfl) hc.1) (wD h hs (k:=k+1) hc.2 fun i y hy=>by rw[←hk (i+1) y (by simpa using hy)];congr 1;omega)
inductive Typed (P:Program) (w:World) (r:Reach) (base:Nat):List TypeId→List Value→Prop
 | nil:Typed P w r base [] []
 | cons {t:TypeId} {v:Value} {ts:List TypeId} {vs:List Value} (h:Value.okWide P w r base t v) (hl:Typed P w r base ts vs):Typed P w r base (t::ts) (v::vs)
theorem Typed.of {P:Program} {w:World} {r:Reach} {base:Nat}:∀ {ts:List TypeId} {vs:List Value},vs.length=ts.length→(∀(j:Nat) t v,ts[j]? =some t→vs[j]? =some v→Value.okWide P w r base t v)→Typed P w r base ts vs
 | [],[],_,_=>.nil
 | t::ts,v::vs,hl,h=>.cons (h 0 t v rfl rfl) (Typed.of (by simpa using hl) fun j t v ht hv=>h (j+1) t v (by simpa using ht) (by simpa using hv))
theorem zX {v:Value} (hv:v.oneCell'=true):v.cells.toList=[v]:=by
 cases v<;>first | rfl | cases hv
theorem Typed.one {P:Program} {w:World} {r:Reach} {base:Nat} {ts:List TypeId} {vs:List Value} (h:Typed P w r base ts vs):∀x∈iO vs,x.oneCell'=true:=by
 induction h with
 | nil=>intro x hx;simp [iO] at hx
 | @cons t v ts vs h hl ih=>
  intro x hx
  rcases(List.mem_append (s:=v.cells.toList) (t:=iO vs)).1 hx with hx | hx
  ·rcases mD h with ⟨cs,rfl,_,hc,_⟩ | ⟨_,_,hv,_⟩
   ·exact hc.one x hx
   ·rw[zX hv] at hx
    rw[List.mem_singleton.1 hx];exact hv
  ·exact ih x hx
theorem Typed.yK {P:Program} {w:World} {r:Reach} {base:Nat} {ρ:Ren} {ts:List TypeId} {vs:List Value} (h:Typed P w r base ts vs) {all:List Value} (ha:∀x∈all,x.oneCell'=true) (hs:all.length≤dZ) {k:Nat}
  (hk:∀i x,(iO vs)[i]? =some x→all[k+i]? =some x):@au (nO all ha) ρ (qI (ts.map (iX P)) k) vs:=by
 letI:=nO all ha
 induction h generalizing k with
 | nil=>exact .nil
 | @cons t v ts vs h hl ih=>
  rw[List.map_cons]
  rcases mD h with ⟨cs,rfl,h1,hc,_⟩ | ⟨h1,hc,hv,_⟩
  ·generalize iX P t=q at h1 hc
   obtain⟨q1,fs⟩:=q
   dsimp only at h1 hc
   subst h1
   have hlen:=hc.length
   refine .cons (.agg (wD ha hs hc fun i x hx=>hk i x ?_)) (ih fun i x hx=>?_)
   ·have hi:=(List.getElem?_eq_some_iff.1 hx).1
    show(cs++iO vs)[i]? =_
    rw[List.getElem?_append_left hi];exact hx
   ·rw[←hk (fs.length+i) x ?_]
    ·congr 1
     show k+len fs+i=_
     rw[aZ];omega
    ·show(cs++iO vs)[fs.length+i]? =_
     rw[List.getElem?_append_right (by omega),←hx]
     congr 1;omega
  ·generalize iX P t=q at h1 hc
   obtain⟨q1,fs⟩:=q
   dsimp only at h1 hc
   subst h1
   have hlen:=hc.length
   have RD:fs.length=1:=by simpa using hlen.symm
   have e:=zX hv
   show au ρ (app (Ev.yK k fs) (qI (ts.map (iX P)) (Nat.add k (len fs)))) (v::vs)
   rw[gD]
   refine au.append (a':=[v]) (wD ha hs hc fun i x hx=>hk i x ?_) (ih fun i x hx=>?_)
   ·have hi:=(List.getElem?_eq_some_iff.1 hx).1
    show(v.cells.toList++iO vs)[i]? =_
    rw[e,List.getElem?_append_left hi];exact hx
   ·rw[←hk (i+1) x ?_]
    ·congr 1
     show k+len fs+i=_
     rw[aZ];omega
    ·show(v.cells.toList++iO vs)[i+1]? =_
     rw[e];simpa using hx
theorem sB {H:Type} {enc:TypeId×Value→H} {P:Program} (hl:laidOutB P=true) {W W':World} (hb:Below W.heap.size W W'):∀ {ts:List TypeId} {vs:List Value} {ds:List (DataW H)} {ps:List MemPlace},
  (∀t∈ts,P.readableRec t=true∧t<P.types.size)→DataW.TrodAll enc P W 0 (fun _=>true) true ts vs ds ps→(∀x∈ps,x.block<W.heap.size)→DataW.TrodAll enc P W' 0 (fun b=>decide (b<W.heap.size)) true ts vs ds ps
 | [],[],[],_,_,h,_=>h
 | t::ts,v::vs,d::ds,ps,ht,h,bz=>by
  obtain⟨p,q,h0,h1,rfl⟩:=h
  refine⟨p,q,Below.trod hl (ht t (by simp)).1 (ht t (by simp)).2 h0 hb fun x hx=>bz x (by simp [hx]),sB hl hb (fun t h=>ht t (by simp [h])) h1 fun x hx=>bz x (by simp [hx]),rfl⟩
noncomputable def VS.st:VS→St
 | .ok x=>x.2
 | _=>start
noncomputable def VS.v:VS→V
 | .ok x=>x.1
 | _=>cO
noncomputable def Run.st:Run→St
 | .ok x=>x.2
 | _=>start
noncomputable def Run.v:Run→V
 | .ok (.val v,_)=>v
 | _=>cO
end Go.Ev
end
