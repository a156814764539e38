/- Proved: parts of the way: Wp, Ends, Args. -/
import Derived.Test.YtbajncpfmemdgaaGreatDoorEvQ08
import Derived.Below
import Derived.ProofKit
import Derived.Carry
import Derived.WideShapes
set_option linter.unusedVariables false
set_option linter.unusedSimpArgs false
section
namespace Go.Ev
open Go
abbrev ah:=V→St→Prop
abbrev cj:=Ex→Act→St→Prop
def mw (Q:ah):Out×St→Prop
 | (.val v,σ)=>Q v σ
 | _=>False
def kj (Q:cj):Out×St→Prop
 | (.exit e a,σ)=>Q e a σ
 | _=>False
def di (r:VS) (k:ah):Prop:=
 match r with
 | .ok (v,σ)=>k v σ
 | _=>False
theorem di.h {r:VS} {k:ah} (h:di r k):∃v σ',r=.ok (v,σ')∧k v σ':=by
 unfold di at h
 split at h
 ·exact⟨_,_,rfl,h⟩
 ·exact h.elim
def af (b:Bool) (Y Z:Prop):Prop:=
 match b with
 | true=>Y
 | false=>Z
theorem af.y {b:Bool} {Y Z:Prop} (h:af b Y Z) (e:b=true):Y:=by subst e;exact h
theorem af.z {b:Bool} {Y Z:Prop} (h:af b Y Z) (e:b=false):Z:=by subst e;exact h
theorem af.mk {b:Bool} {Y Z:Prop} (y:b=true→Y) (z:b=false→Z):af b Y Z:=by cases b<;>first | exact y rfl | exact z rfl
theorem di.mk' {r:VS} {k:ah} {v:V} {σ:St} (h:r=.ok (v,σ)) (hk:k v σ):di r k:=by subst h;exact hk
section
variable {P:Program}
def ig (Y:Act→St→Prop) (Q:cj):cj
 | .normal=>Y
 | e=>Q e
def yb (y z:Prop):Option V→Prop
 | some (.bool b)=>af b y z
 | _=>False
def oS (id:Nat) (Q:cj):cj
 | .exit i=>if i=id then Q .normal else Q (.exit i)
 | e=>Q e
def fF (x:Option V) (k:V→Prop):Prop:=
 match x with
 | some v=>k v
 | none=>False
def lQ (x y:Option V) (k:V→V→Prop):Prop:=
 match x with
 | some v=>match y with
  | some u=>k v u
  | none=>False
 | none=>False
theorem ga {w:String} {x:Option V} {f:V→VS} {p:V×St→Prop} (h:fF x fun v=>(f v).Holds p):(eV w x f).Holds p:=by
 cases x with
 | none=>exact h.elim
 | some v=>exact h
theorem lR {w:String} {x y:Option V} {f:V→V→VS} {p:V×St→Prop} (h:lQ x y fun v u=>(f v u).Holds p):(pj w x y f).Holds p:=by
 cases x with
 | none=>exact h.elim
 | some v=>cases y with
  | none=>exact h.elim
  | some u=>exact h
theorem fF.mono {x:Option V} {k k':V→Prop} (h:fF x k) (hk:∀v,k v→k' v):fF x k':=by
 cases x with
 | none=>exact h
 | some v=>exact hk v h
theorem lQ.mono {x y:Option V} {k k':V→V→Prop} (h:lQ x y k) (hk:∀v u,k v u→k' v u):lQ x y k':=by
 cases x with
 | none=>exact h
 | some v=>cases y with
  | none=>exact h
  | some u=>exact hk v u h
def rV (k:ah):V×St→Prop
 | (v,σ)=>k v σ
theorem di.holds {r:VS} {k:ah} (h:di r k):r.Holds (rV k):=by
 obtain⟨v,σ,rfl,hk⟩:=h.h
 exact hk
def gF (p:Prop) [Decidable p] (k:V→Prop):Prop:=af (decide p) (k (.bool true)) (k (.bool false))
theorem gF.y {p:Prop} [Decidable p] {k:V→Prop} (h:gF p k) (hp:p):k (.bool true):=af.y h (decide_eq_true hp)
theorem gF.n {p:Prop} [Decidable p] {k:V→Prop} (h:gF p k) (hp:¬p):k (.bool false):=af.z h (decide_eq_false hp)
theorem gF.of {p:Prop} [Decidable p] {k:V→Prop} (h:gF p k) {b:Bool} (hb:b=decide p):k (.bool b):=by
 subst hb
 by_cases hp:p
 ·rw[decide_eq_true hp];exact h.y hp
 ·rw[decide_eq_false hp];exact h.n hp
def L1 (op:BinOp) (kd:IntKind) (a:Int) (hP:IntKind) (b:Int) (k:V→Prop):Prop:=
 match op with
 | .shl=>0≤b∧k (.int kd (kd.wrap (a*2^min b.toNat kd.bits)))
 | .shr=>0≤b∧k (.int kd (a.fdiv (2^min b.toNat kd.bits)))
 | .quo=>(kd=hP∧b≠0)∧k (.int kd (kd.wrap (a.tdiv b)))
 | .rem=>(kd=hP∧b≠0)∧k (.int kd (a.tmod b))
 | .eql=>kd=hP∧gF (a=b) k
 | .neq=>kd=hP∧gF (a≠b) k
 | .lss=>kd=hP∧gF (a<b) k
 | .leq=>kd=hP∧gF (a≤b) k
 | .gtr=>kd=hP∧gF (a>b) k
 | .geq=>kd=hP∧gF (a≥b) k
 | op=>match mg op kd a hP b with
  | some v=>k v
  | none=>False
theorem J6 {op:BinOp} {kd hP:IntKind} {a b:Int} {k:V→Prop} (h:L1 op kd a hP b k):∃v,mg op kd a hP b=some v∧k v:=by
 cases op<;>first
  | (have h':0≤b∧_:=h
     refine⟨_,?_,h'.2⟩
     show(if b<0 then none else some _)=_
     rw[if_neg (by omega)])
  | (have h':(kd=hP∧b≠0)∧_:=h
     obtain⟨⟨rfl,hb⟩,hk⟩:=h'
     refine⟨_,?_,hk⟩
     show(if kd≠kd then none else if b=0 then none else some _)=_
     rw[if_neg (by simp),if_neg hb])
  | (have h':kd=hP∧gF (a=b) k:=h
     obtain⟨rfl,hk⟩:=h'
     exact⟨.bool (a==b),by show(if kd≠kd then none else some _)=_;rw[if_neg (by simp)],hk.of (by rw[Bool.eq_iff_iff];simp)⟩)
  | (have h':kd=hP∧gF (a≠b) k:=h
     obtain⟨rfl,hk⟩:=h'
     exact⟨.bool (a != b),by show(if kd≠kd then none else some _)=_;rw[if_neg (by simp)],hk.of (by rw[Bool.eq_iff_iff];simp)⟩)
  | (have h':kd=hP∧gF (a<b) k:=h
     obtain⟨rfl,hk⟩:=h'
     exact⟨.bool (decide (a<b)),by show(if kd≠kd then none else some _)=_;rw[if_neg (by simp)],hk.of rfl⟩)
  | (have h':kd=hP∧gF (a≤b) k:=h
     obtain⟨rfl,hk⟩:=h'
     exact⟨.bool (decide (a≤b)),by show(if kd≠kd then none else some _)=_;rw[if_neg (by simp)],hk.of rfl⟩)
  | (have h':kd=hP∧gF (a>b) k:=h
     obtain⟨rfl,hk⟩:=h'
     exact⟨.bool (decide (a>b)),by show(if kd≠kd then none else some _)=_;rw[if_neg (by simp)],hk.of rfl⟩)
  | (have h':kd=hP∧gF (a≥b) k:=h
     obtain⟨rfl,hk⟩:=h'
     exact⟨.bool (decide (a≥b)),by show(if kd≠kd then none else some _)=_;rw[if_neg (by simp)],hk.of rfl⟩)
  | (revert h
     unfold L1
     dsimp only
     cases mg _ kd a hP b with
     | none=>exact fun h=>h.elim
     | some v=>exact fun h=>⟨v,rfl,h⟩)
def L2 (op:BinOp) (x y:List UInt8) (k:V→Prop):Prop:=
 match op with
 | .add=>x.length+y.length≤9223372036854775807∧k (.str (x++y))
 | .eql=>gF (x=y) k
 | .neq=>gF (x≠y) k
 | op=>match mh op x y with
  | some v=>k v
  | none=>False
theorem J7 {op:BinOp} {x y:List UInt8} {k:V→Prop} (h:L2 op x y k):∃v,mh op x y=some v∧k v:=by
 cases op<;>first
  | (have h':x.length+y.length≤9223372036854775807∧_:=h
     exact⟨_,if_pos h'.1,h'.2⟩)
  | (have h':gF (x=y) k:=h
     exact⟨.bool (x==y),rfl,h'.of (by rw[Bool.eq_iff_iff];simp)⟩)
  | (have h':gF (x≠y) k:=h
     exact⟨.bool (!(x==y)),rfl,h'.of (by rw[Bool.eq_iff_iff];simp)⟩)
  | (revert h
     unfold L2
     dsimp only
     cases mh _ x y with
     | none=>exact fun h=>h.elim
     | some v=>exact fun h=>⟨v,rfl,h⟩)
noncomputable def tI (nv:TypeId→V→V→Prop→Prop→Prop) (P:Program) (xs ys:List V) (z:Prop) (fs:List Field):Prop→Prop:=
 List.rec (motive:=fun _=>Prop→Prop) (fun y=>y)
  (fun f _ ih y=>match f.name== "_",dV P f.type xs f.offset,dV P f.type ys f.offset with
   | false,some a,some b=>nv f.type a b (ih y) z
   | _,_,_=>False) fs
noncomputable def oT (P:Program) (nv:TypeId→V→V→Prop→Prop→Prop) (t:TypeId) (fs:List Field) (x v:V) (y z:Prop):Prop:=
 match P.stoodInHeld t with
 | true=>False
 | false=>match x with
  | .agg xs=>match v with
   | .agg ys=>tI nv P xs ys z fs y
   | _=>False
  | _=>False
noncomputable def Ch (P:Program) (nv:TypeId→V→V→Prop→Prop→Prop) (t:TypeId) (x v:V) (y z:Prop):Option TypeDesc→Prop
 | some .bool=>match x with
  | .bool a=>match v with
   | .bool b=>af (a==b) y z
   | _=>False
  | _=>False
 | some (.int _)=>match x with
  | .int k a=>match v with
   | .int k' b=>k=k'∧af (decide (a=b)) y z
   | _=>False
  | _=>False
 | some .string=>match x with
  | .str a=>match v with
   | .str b=>af (decide (a=b)) y z
   | _=>False
  | _=>False
 | some (.struct fs)=>oT P nv t fs.toList x v y z
 | _=>False
noncomputable def qR (P:Program) (d:Nat):TypeId→V→V→Prop→Prop→Prop:=
 Nat.rec (motive:=fun _=>TypeId→V→V→Prop→Prop→Prop) (fun _ _ _ _ _=>False) (fun _ ih t x v y z=>Ch P ih t x v y z (P.underlying t)) d
def jn (b:Option Bool) (y z:Prop):Prop:=(b=some true∧y)∨(b=some false∧z)
theorem jn.of {b:Bool} {y z:Prop} (h:af b y z):jn (some b) y z:=by
 cases b with
 | true=>exact .inl ⟨rfl,h⟩
 | false=>exact .inr ⟨rfl,h⟩
theorem lS {nv:TypeId→V→V→Prop→Prop→Prop} {eq:TypeId→V→V→Option Bool} (h:∀t x v y z,nv t x v y z→jn (eq t x v) y z) {xs ys:List V} {z:Prop}:∀ {fs:List Field} {y:Prop},tI nv P xs ys z fs y→jn (oA P eq xs ys fs) y z
 | [],y,hy=>.inl ⟨rfl,hy⟩
 | f::fs,y,hy=>by
  have yc:(match f.name== "_",dV P f.type xs f.offset,dV P f.type ys f.offset with
   | false,some a,some b=>nv f.type a b (tI nv P xs ys z fs y) z
   | _,_,_=>False):=hy
  show jn (match f.name== "_",dV P f.type xs f.offset,dV P f.type ys f.offset with
   | false,some a,some b=>match eq f.type a b with
    | some true=>oA P eq xs ys fs
    | some false=>some false
    | none=>none
   | _,_,_=>none) y z
  revert yc
  cases f.name== "_" with
  | true=>exact fun h=>h.elim
  | false=>cases dV P f.type xs f.offset with
   | none=>exact fun h=>h.elim
   | some a=>cases dV P f.type ys f.offset with
    | none=>exact fun h=>h.elim
    | some b=>
     intro yc
     dsimp only
     rcases h _ _ _ _ _ yc with ⟨e,hr⟩ | ⟨e,hr⟩
     ·rw[e];exact lS h hr
     ·rw[e];exact .inr ⟨rfl,hr⟩
theorem nH:∀(d:Nat) (t:TypeId) (x v:V) (y z:Prop),qR P d t x v y z→jn (j9 P d t x v) y z
 | 0,_,_,_,_,_,h=>h.elim
 | d+1,t,x,v,y,z,h=>by
  have h':Ch P (qR P d) t x v y z (P.underlying t):=h
  show jn (uZ P (j9 P d) t x v (P.underlying t)) y z
  revert h'
  cases P.underlying t with
  | none=>exact fun h=>h.elim
  | some u=>cases u with
   | bool=>cases x with
    | bool a=>cases v with
     | bool b=>exact fun h=>.of h
     | _=>exact fun h=>h.elim
    | _=>exact fun h=>h.elim
   | int i=>cases x with
    | int k a=>cases v with
     | int k' b=>
      intro h0
      obtain⟨rfl,h1⟩:=(show k=k'∧af (decide (a=b)) y z from h0)
      show jn (if k=k then some (a==b) else none) y z
      rw[if_pos rfl,show(a==b)=decide (a=b) by rw[Bool.eq_iff_iff];simp]
      exact .of h1
     | _=>exact fun h=>h.elim
    | _=>exact fun h=>h.elim
   | string=>cases x with
    | str a=>cases v with
     | str b=>
      intro h
      show jn (some (a==b)) y z
      rw[show(a==b)=decide (a=b) by rw[Bool.eq_iff_iff];simp]
      exact .of h
     | _=>exact fun h=>h.elim
    | _=>exact fun h=>h.elim
   | struct fs=>
    intro h
    have h':oT P (qR P d) t fs.toList x v y z:=h
    show jn (hY P (j9 P d) t fs.toList x v) y z
    unfold oT at h'
    unfold hY
    cases hs:P.stoodInHeld t with
    | true=>rw[hs] at h';exact h'.elim
    | false=>
     rw[hs] at h'
     cases x with
     | agg xs=>cases v with
      | agg ys=>exact lS (fun t x v y z=>nH d t x v y z) h'
      | _=>exact h'.elim
     | _=>exact h'.elim
   | _=>exact fun h=>h.elim
noncomputable def wZ (P:Program) (nv:TypeId→V→V→Prop→Prop→Prop) (e:TypeId) (sz:Nat) (xs ys:List V) (z:Prop) (n:Nat):Nat→Prop→Prop:=
 Nat.rec (motive:=fun _=>Nat→Prop→Prop) (fun _ y=>y)
  (fun _ ih i y=>match dV P e xs (Nat.mul i sz),dV P e ys (Nat.mul i sz) with
   | some a,some b=>nv e a b (ih (Nat.succ i) y) z
   | _,_=>False) n
theorem qS {nv:TypeId→V→V→Prop→Prop→Prop} {eq:TypeId→V→V→Option Bool} (h:∀t x v y z,nv t x v y z→jn (eq t x v) y z) {e:TypeId} {sz:Nat} {xs ys:List V} {z:Prop}:∀ {n i:Nat} {y:Prop},wZ P nv e sz xs ys z n i y→jn (qw P eq e sz xs ys n i) y z
 | 0,_,y,hy=>.inl ⟨rfl,hy⟩
 | n+1,i,y,hy=>by
  have yc:(match dV P e xs (Nat.mul i sz),dV P e ys (Nat.mul i sz) with
   | some a,some b=>nv e a b (wZ P nv e sz xs ys z n (Nat.succ i) y) z
   | _,_=>False):=hy
  show jn (match dV P e xs (Nat.mul i sz),dV P e ys (Nat.mul i sz) with
   | some a,some b=>match eq e a b with
    | some true=>qw P eq e sz xs ys n (Nat.succ i)
    | some false=>some false
    | none=>none
   | _,_=>none) y z
  revert yc
  cases dV P e xs (Nat.mul i sz) with
  | none=>exact fun h=>h.elim
  | some a=>cases dV P e ys (Nat.mul i sz) with
   | none=>exact fun h=>h.elim
   | some b=>
    intro yc
    dsimp only
    rcases h _ _ _ _ _ yc with ⟨e',hr⟩ | ⟨e',hr⟩
    ·rw[e'];exact qS h hr
    ·rw[e'];exact .inr ⟨rfl,hr⟩
noncomputable def pC (P:Program) (σ:St) (t:TypeId) (xs ys:List V) (y z:V) (k:ah):Prop:=
 match P.underlying t with
 | some (.struct fs)=>match P.eqGuardType P.depth t with
  | false=>oT P (qR P eQ) t fs.toList (.agg xs) (.agg ys) (k y σ) (k z σ)
  | true=>False
 | some (.array n e)=>match P.eqGuardType P.depth t,bN P e with
  | false,some sz=>wZ P (qR P eQ) e sz xs ys (k z σ) n 0 (k y σ)
  | _,_=>False
 | _=>False
theorem pD {σ:St} {t:TypeId} {lit:Bool} {xs ys:List V} {y z:V} {k:ah} (h:pC P σ t xs ys y z k):jn (evalEq P σ t lit (.agg xs) (.agg ys)) (k y σ) (k z σ):=by
 unfold pC at h
 unfold evalEq u1
 split at h
 ·rename_i fs hu
  rw[hu]
  dsimp only
  split at h
  ·rename_i hg
   rw[hg]
   dsimp only
   unfold oT at h
   unfold hY
   cases hs:P.stoodInHeld t with
   | true=>rw[hs] at h;exact h.elim
   | false=>rw[hs] at h;exact lS (fun t x v y z=>nH _ t x v y z) h
  ·exact h.elim
 ·rename_i n e hu
  rw[hu]
  dsimp only
  unfold jO
  split at h
  ·rename_i sz hg hz
   rw[hg,hz]
   exact qS (fun t x v y z=>nH _ t x v y z) h
  ·exact h.elim
 ·exact h.elim
def OQ (a b:Nat):Bool:=FloatKind.f64.format.order a b==some .eq
def Ax (a b:Nat):Bool:=FloatKind.f64.format.order a b==some .lt
def yd (a b:Nat):Bool:=FloatKind.f64.format.order a b==some .gt||FloatKind.f64.format.order a b==some .eq
def Sm (op:BinOp) (k:FloatKind) (a:Nat) (k':FloatKind) (b:Nat) (c:V→Prop):Prop:=
 match k,k',op with
 | .f64,.f64,.eql=>af (OQ a b) (c (.bool true)) (c (.bool false))
 | .f64,.f64,.neq=>af (FloatKind.f64.format.order a b != some .eq) (c (.bool true)) (c (.bool false))
 | .f64,.f64,.lss=>af (Ax a b) (c (.bool true)) (c (.bool false))
 | .f64,.f64,.geq=>af (yd a b) (c (.bool true)) (c (.bool false))
 | _,_,_=>False
theorem J8 {op:BinOp} {k k':FloatKind} {a b:Nat} {c:V→Prop} (h:Sm op k a k' b c):∃v,qx op k a k' b=some v∧c v:=by
 cases k<;>cases k'<;>cases op<;>first | exact h.elim | skip
 ·refine⟨_,rfl,?_⟩
  cases he:OQ a b
  ·have:=af.z h he;unfold OQ at he;rw[he];exact this
  ·have:=af.y h he;unfold OQ at he;rw[he];exact this
 ·refine⟨_,rfl,?_⟩
  cases he:FloatKind.f64.format.order a b != some .eq
  ·exact af.z h he
  ·exact af.y h he
 ·refine⟨_,rfl,?_⟩
  cases he:Ax a b
  ·have:=af.z h he;unfold Ax at he;rw[he];exact this
  ·have:=af.y h he;unfold Ax at he;rw[he];exact this
 ·refine⟨_,rfl,?_⟩
  cases he:yd a b
  ·have:=af.z h he;unfold yd at he;rw[he];exact this
  ·have:=af.y h he;unfold yd at he;rw[he];exact this
noncomputable def L3 (P:Program) (σ:St) (op:BinOp) (t:TypeId) (lit:Bool) (x y:V) (k:ah):Prop:=
 match x,y with
 | .dM kd a,.dM hP b=>Sm op kd a hP b fun v=>k v σ
 | .int kd a,.int hP b=>L1 op kd a hP b fun v=>k v σ
 | .str a,.str b=>L2 op a b fun v=>k v σ
 | .agg xs,.agg ys=>match op with
  | .eql=>pC P σ t xs ys (.bool true) (.bool false) k
  | .neq=>pC P σ t xs ys (.bool false) (.bool true) k
  | _=>False
 | x,y=>di (u4 P σ op t lit x y) k
theorem Ht {σ:St} {op:BinOp} {t:TypeId} {lit:Bool} {x y:V} {k:ah} (h:L3 P σ op t lit x y k):(u4 P σ op t lit x y).Holds (rV k):=by
 unfold L3 at h
 split at h
 ·rename_i kd a hP b
  obtain⟨v,hv,hk⟩:=J8 h
  show(aJ σ "binOp" (qx op kd a hP b)).Holds _
  rw[hv];exact hk
 ·rename_i kd a hP b
  obtain⟨v,hv,hk⟩:=J6 h
  show(aJ σ "binOp" (mg op kd a hP b)).Holds _
  rw[hv];exact hk
 ·rename_i a b
  obtain⟨v,hv,hk⟩:=J7 h
  show(aJ σ "binOp" (mh op a b)).Holds _
  rw[hv];exact hk
 ·rename_i xs ys
  split at h
  ·show(aJ σ "binOp" ((evalEq P σ t lit (.agg xs) (.agg ys)).map .bool)).Holds _
   rcases pD (lit:=lit) h with ⟨e,hk⟩ | ⟨e,hk⟩
   ·rw[e];exact hk
   ·rw[e];exact hk
  ·show(aJ σ "binOp" ((evalEq P σ t lit (.agg xs) (.agg ys)).map fun b=>.bool !b)).Holds _
   rcases pD (lit:=lit) h with ⟨e,hk⟩ | ⟨e,hk⟩
   ·rw[e];exact hk
   ·rw[e];exact hk
  ·exact h.elim
 ·exact h.holds
noncomputable def Hu (P:Program) (t:TypeId) (n:Nat) (esz:Nat) (i:Int) (k:Prop):Prop:=
 match gu P t with
 | some e=>match bN P e with
  | some sz=>match Nat.beq sz esz&& !Nat.beq sz 0 with
   | true=>(0≤i∧i<n)∧k
   | false=>False
  | none=>False
 | none=>False
theorem ye {t:TypeId} {n esz:Nat} {i:Int} {k:Prop} (h:Hu P t n esz i k):∃e sz,gu P t=some e∧bN P e=some sz∧(0≤i∧i<n∧sz=esz∧sz≠0)∧k:=by
 unfold Hu at h
 cases he:gu P t with
 | none=>rw[he] at h;exact h.elim
 | some e=>
  rw[he] at h
  dsimp only at h
  cases bd:bN P e with
  | none=>rw[bd] at h;exact h.elim
  | some sz=>
   rw[bd] at h
   dsimp only at h
   cases hb:Nat.beq sz esz&& !Nat.beq sz 0 with
   | false=>rw[hb] at h;exact h.elim
   | true=>
    rw[hb] at h
    rw[Bool.and_eq_true] at hb
    have h2:sz≠0:=fun e=>by subst e;simp at hb
    exact⟨e,sz,rfl,bd,⟨h.1.1,h.1.2,Nat.eq_of_beq_eq_true hb.1,h2⟩,h.2⟩
noncomputable def rW (P:Program) (σ:St) (t:TypeId) (x ix:V) (k:ah):Prop:=
 match x,ix with
 | .arr n f esz _ _,.int _ i=>Hu P t n esz i (k (.aM (f i.toNat).cells 0) σ)
 | .own b n esz,.int _ i=>Hu P t n esz i (k (.fy b i.toNat esz 0) σ)
 | x,ix=>di (jg P σ t x ix) k
theorem w1 {σ:St} {t:TypeId} {x ix:V} {k:ah} (h:rW P σ t x ix k):di (jg P σ t x ix) k:=by
 unfold rW at h
 split at h
 ·obtain⟨e,sz,he,bd,hc,hk⟩:=ye h
  refine di.mk' (v:=_) (σ:=_) ?_ hk
  show ju ..=_
  unfold ju
  rw[he];dsimp only;rw[bd];dsimp only;rw[if_pos hc]
 ·obtain⟨e,sz,he,bd,hc,hk⟩:=ye h
  refine di.mk' (v:=_) (σ:=_) ?_ hk
  show jv ..=_
  unfold jv
  rw[he];dsimp only;rw[bd];dsimp only;rw[if_pos hc]
 ·exact h
noncomputable def jb (s:List UInt8) (i:Int):Int:=
 match nth s i.toNat with
 | some c=>c.toNat
 | none=>0
noncomputable def tJ (P:Program) (σ:St) (t:TypeId) (s:List UInt8) (i:Int) (k:ah):Prop:=
 match P.underlying t with
 | some .string=>(0≤i∧i<(len s:Nat))∧k (.int .u8 (jb s i)) σ
 | _=>False
theorem yf {σ:St} {t:TypeId} {s:List UInt8} {i:Int} {k:ah} (h:tJ P σ t s i k):di (lB P σ t s i) k:=by
 unfold tJ at h
 unfold lB
 split at h
 ·rename_i hu
  obtain⟨⟨h1,h2⟩,hk⟩:=h
  rw[bc] at h2
  have hn:nth s i.toNat=some (s[i.toNat]'(by omega)):=by rw[dA];exact List.getElem?_eq_getElem _
  unfold jb at hk
  rw[hn] at hk
  rw[hu]
  dsimp only
  rw[if_pos h1,hn]
  exact hk
 ·exact h.elim
noncomputable def Ci (P:Program) (σ:St) (t:TypeId) (x ix:V) (k:ah):Prop:=
 match x,ix with
 | .str s,.int _ i=>tJ P σ t s i k
 | x,ix=>di (om P σ t x ix) k
theorem Cj {σ:St} {t:TypeId} {x ix:V} {k:ah} (h:Ci P σ t x ix k):di (om P σ t x ix) k:=by
 unfold Ci at h
 split at h
 ·exact yf h
 ·exact h
def Bj (x:Option V) (k:V→Prop):Prop:=
 match x with
 | some v=>k v
 | none=>False
theorem Bj.h {x:Option V} {k:V→Prop} (h:Bj x k):∃v,x=some v∧k v:=by
 cases x with
 | none=>exact h.elim
 | some v=>exact⟨v,rfl,h⟩
noncomputable def Ck (P:Program) (σ:St) (t:TypeId) (i esz off:Nat) (k:ah):Option bV→Prop
 | some (.row n f z _)=>match Nat.beq z esz with
  | true=>i<n∧(match rq P t,bN P t with
   | some true,some sz=>Bj (G4 (f i).cells off sz) fun v=>k v σ
   | some false,_=>Bj (nth (f i).cells off) fun v=>k v σ
   | _,_=>False)
  | false=>False
 | _=>False
noncomputable def Hv (P:Program) (σ:St) (t:TypeId) (v:V) (k:ah):Prop:=
 match v with
 | .fy b i esz off=>Ck P σ t i esz off k (σ.heap.get b)
 | v=>di (oF P σ t v) k
theorem D8 {σ:St} {t:TypeId} {v:V} {k:ah} (h:Hv P σ t v k):di (oF P σ t v) k:=by
 unfold Hv at h
 split at h
 ·rename_i b i esz off
  unfold Ck at h
  split at h
  ·rename_i n f z p hb
   split at h
   ·rename_i hz
    have hz:=Nat.eq_of_beq_eq_true hz
    obtain⟨hi,h⟩:=h
    have he:σ.iG b i esz=some (f i).cells:=by
     unfold St.iG
     rw[hb]
     exact if_pos ⟨hi,hz⟩
    show di (aJ σ "load" (eg P σ t (.fy b i esz off))) k
    unfold eg
    split at h
    ·rename_i sz fS bd
     obtain⟨u,hu,hk⟩:=h.h
     rw[fS,bd]
     dsimp only
     rw[he,Option.bind_some,hu]
     exact hk
    ·rename_i fS
     obtain⟨u,hu,hk⟩:=h.h
     rw[fS]
     dsimp only
     rw[he,Option.bind_some,hu]
     exact hk
    ·exact h.elim
   ·exact h.elim
  ·exact h.elim
 ·exact h
noncomputable def Ay (P:Program) (σ:St) (t:TypeId) (v:V) (b i esz off:Nat) (k:ah):Option bV→Prop
 | some (.row n f z p)=>match bN P t with
  | some sz=>match Nat.beq (len v.cells) sz&&(Nat.beq z esz&&(Nat.ble (Nat.add off (len v.cells)) esz&&gJ V.scalar v.cells)) with
   | true=>i<n∧k cO (σ.set b (.row n (fq f i (qz (f i) esz off v)) z p))
   | false=>False
  | none=>False
 | _=>False
noncomputable def Cl (P:Program) (σ:St) (t:TypeId) (v u:V) (k:ah):Prop:=
 match u with
 | .fy b i esz off=>Ay P σ t v b i esz off k (σ.heap.get b)
 | u=>di (oh P σ t v u) k
theorem Cm {σ:St} {t:TypeId} {v u:V} {k:ah} (h:Cl P σ t v u k):di (oh P σ t v u) k:=by
 unfold Cl at h
 split at h
 ·rename_i b i esz off
  unfold Ay at h
  split at h
  ·rename_i n f z p hb
   split at h
   ·rename_i sz bd
    split at h
    ·rename_i hc
     rw[Bool.and_eq_true,Bool.and_eq_true] at hc
     obtain⟨c1,c2,c3⟩:=hc
     have c1:=Nat.eq_of_beq_eq_true c1
     have c2:=Nat.eq_of_beq_eq_true c2
     subst c2
     obtain⟨hi,hk⟩:=h
     refine di.mk' (v:=_) (σ:=_) ?_ hk
     unfold oh
     dsimp only
     rw[bd]
     dsimp only
     rw[if_pos c1]
     have:σ.js b i z off v=some (σ.set b (.row n (fq f i (qz (f i) z off v)) z p)):=by
      unfold St.js
      rw[hb]
      dsimp only
      rw[if_pos ⟨hi,rfl⟩,c3]
     rw[this];rfl
    ·exact h.elim
   ·exact h.elim
  ·exact h.elim
 ·exact h
def qd (d:Int):Option V→Option Int
 | none=>some d
 | some (.int _ i)=>some i
 | _=>none
noncomputable def Az (σ:St) (n:Nat) (f:Nat→V) (esz:Nat) (ex:Bool) (mx:Bool) (k:ah):Option Int→Option Int→Option Int→Prop
 | some l,some h,some m=>(0≤l∧l≤h∧h≤m∧m≤n)∧k (.arr (h.toNat-l.toNat) (fun i=>f (Nat.add l.toNat i)) esz ((mx||(ex&&Nat.beq h.toNat n))&&Nat.beq h.toNat m.toNat) false) σ
 | _,_,_=>False
def AA (σ:St) (s:List UInt8) (k:ah):Option Int→Option Int→Prop
 | some l,some h=>(0≤l∧l≤h∧h≤(len s:Nat))∧k (.str (dq l.toNat (dB s h.toNat))) σ
 | _,_=>False
noncomputable def oU (P:Program) (a:Act) (σ:St) (t:TypeId) (lo hi mx:Option Operand) (v:V) (k:ah):Prop:=
 match v with
 | .arr n f esz ex _=>match P.underlying t with
  | some (.slice e)=>match bN P e with
   | some sz=>match Nat.beq sz esz&&(hi.isSome|| !mx.isSome) with
    | true=>match hZ a lo,hZ a hi,hZ a mx with
     | some l,some h,some m=>Az σ n f esz ex m.isSome k (qd 0 l) (qd n h) (qd n m)
     | _,_,_=>False
    | false=>False
   | none=>False
  | _=>False
 | .str s=>match P.underlying t,mx with
  | some .string,none=>match hZ a lo,hZ a hi with
   | some l,some h=>AA σ s k (qd 0 l) (qd (len s) h)
   | _,_=>False
  | _,_=>False
 | v=>di (fA P a σ t lo hi mx v) k
theorem wv {a:Act} {x:Option Operand} {v:Option V} (h:hZ a x=some v):v.isSome=x.isSome:=by
 cases x with
 | none=>cases h;rfl
 | some x=>
  have h':(a.eval x).map some=some v:=h
  rw[Option.map_eq_some_iff] at h'
  obtain⟨u,_,rfl⟩:=h';rfl
theorem gV {lo hi:Nat} {k:IntKind} {i:Int} (h1:(lo:Int)≤i) (h2:i≤hi):asNat lo hi (.int k i)=some i.toNat:=if_pos ⟨h1,h2⟩
theorem wx {n:Nat} {l hh m:Option V} {L H M:Int} (e1:qd 0 l=some L) (e2:qd n hh=some H) (e3:qd n m=some M) (c:(hh.isSome|| !m.isSome)=true) (b1:0≤L) (b2:L≤H) (b3:H≤M) (b4:M≤n):
  bounds n n l hh m=some (L.toNat,H.toNat,M.toNat):=by
 have hl:∀ {d:Int} {o:Option V} {I:Int},qd d o=some I→(o=none∧I=d)∨∃k,o=some (.int k I):=by
  intro d o I h
  unfold qd at h
  split at h
  ·exact .inl ⟨rfl,(Option.some.inj h).symm⟩
  ·rename_i k i;cases h;exact .inr ⟨k,rfl⟩
  ·cases h
 rcases hl e3 with ⟨rfl,rfl⟩ | ⟨k3,rfl⟩
 ·rcases hl e2 with ⟨rfl,rfl⟩ | ⟨k2,rfl⟩
  ·rcases hl e1 with ⟨rfl,rfl⟩ | ⟨k1,rfl⟩
   ·rfl
   ·unfold bounds
    dsimp only
    rw[gV (by omega) (by omega)];rfl
  ·rcases hl e1 with ⟨rfl,rfl⟩ | ⟨k1,rfl⟩
   ·unfold bounds
    dsimp only
    rw[gV (by omega) (by omega)];rfl
   ·unfold bounds
    dsimp only
    rw[gV (by omega) (by omega)]
    dsimp only
    rw[gV (by omega) (by omega)];rfl
 ·rcases hl e2 with ⟨rfl,rfl⟩ | ⟨k2,rfl⟩
  ·simp at c
  ·rcases hl e1 with ⟨rfl,rfl⟩ | ⟨k1,rfl⟩
   ·unfold bounds
    dsimp only
    rw[gV (by omega) (by omega)]
    dsimp only
    rw[gV (by omega) (by omega)];rfl
   ·unfold bounds
    dsimp only
    rw[gV (by omega) (by omega)]
    dsimp only
    rw[gV (by omega) (by omega)]
    dsimp only
    rw[gV (by omega) (by omega)]
theorem Cn {a:Act} {σ:St} {t:TypeId} {lo hi mx:Option Operand} {v:V} {k:ah} (h:oU P a σ t lo hi mx v k):di (fA P a σ t lo hi mx v) k:=by
 unfold oU at h
 split at h
 ·rename_i n f esz ex nn
  split at h
  ·rename_i e hu
   split at h
   ·rename_i sz bd
    split at h
    ·rename_i hc
     rw[Bool.and_eq_true] at hc
     obtain⟨c1,c2⟩:=hc
     have c1:=Nat.eq_of_beq_eq_true c1
     subst c1
     split at h
     ·rename_i l hh m h1 h2 h3
      have s2:=wv h2
      have s3:=wv h3
      unfold Az at h
      split at h
      ·rename_i L H M e1 e2 e3
       obtain⟨⟨b1,b2,b3,b4⟩,hk⟩:=h
       refine di.mk' (v:=_) (σ:=_) ?_ hk
       unfold fA
       rw[h1,h2,h3]
       dsimp only
       have ha:jt P t=none:=by unfold jt;rw[hu]
       rw[ha]
       dsimp only
       have Cf:=wx e1 e2 e3 (by rw[s2,s3];exact c2) b1 b2 b3 b4
       unfold ng
       rw[hu]
       dsimp only
       rw[bd,Cf]
       dsimp only
       rw[if_neg (by simp)]
       rfl
      ·exact h.elim
     ·exact h.elim
    ·exact h.elim
   ·exact h.elim
  ·exact h.elim
 ·rename_i s
  split at h
  ·rename_i hu
   split at h
   ·rename_i l hh h1 h2
    unfold AA at h
    split at h
    ·rename_i L H e1 e2
     obtain⟨⟨b1,b2,b3⟩,hk⟩:=h
     refine di.mk' (v:=_) (σ:=_) ?_ hk
     unfold fA
     rw[h1,h2,show hZ a none=some none from rfl]
     dsimp only
     have ha:jt P t=none:=by unfold jt;rw[hu]
     rw[ha]
     dsimp only
     have Cf:bounds (len s) (len s) l hh none=some (L.toNat,H.toNat,len s):=by
      have:=wx (n:=len s) (m:=none) (M:=(len s:Nat)) e1 e2 rfl (by simp) b1 b2 b3 (Int.le_refl _)
      rw[this,Int.toNat_natCast]
     unfold ng
     rw[hu]
     dsimp only
     rw[Cf,if_neg (by simp)]
     rfl
    ·exact h.elim
   ·exact h.elim
  ·exact h.elim
 ·exact h
noncomputable def rX (σ:St) (id sz dc m:Nat) (g:Nat→V) (k:ah):V→Prop
 | .ai=>af (decide (m=0)) (k .ai σ) (m*dc≤1099511627776∧k (.own id m sz) (σ.new id (.row m g sz true)))
 | .arr n f esz true _=>match Nat.beq n 0&&Nat.beq sz esz with
  | true=>af (decide (m=0)) (k (.arr n f esz true false) σ) (m*dc≤1099511627776∧k (.own id m sz) (σ.new id (.row m g sz true)))
  | false=>False
 | .slice b off n cap true esz=>match Nat.beq n 0&&(Nat.beq cap 0&&Nat.beq sz esz),σ.cells b off 0 with
  | true,some []=>af (decide (m=0)) (k (.slice b off n cap true esz) σ) (m*dc≤1099511627776∧k (.own id m sz) (σ.new id (.row m g sz true)))
  | _,_=>False
 | _=>False
theorem w2 {σ:St} {id sz dc m:Nat} {g:Nat→V} {k:ah} {s:V} (h:rX σ id sz dc m g k s):∃v σ',iw σ id sz dc m g s=some (v,σ')∧k v σ':=by
 unfold rX at h
 split at h
 ·by_cases hm:m=0
  ·exact⟨_,_,if_pos hm,af.y h (decide_eq_true hm)⟩
  ·obtain⟨h1,h2⟩:=af.z h (decide_eq_false hm)
   exact⟨_,_,by unfold iw;dsimp only;rw[if_neg hm,if_pos h1],h2⟩
 ·rename_i n f esz nn
  split at h
  ·rename_i hc
   rw[Bool.and_eq_true] at hc
   have c1:=Nat.eq_of_beq_eq_true hc.1
   have c2:=Nat.eq_of_beq_eq_true hc.2
   subst c1 c2
   by_cases hm:m=0
   ·exact⟨_,_,by unfold iw;dsimp only;rw[if_neg (by simp),if_pos hm],af.y h (decide_eq_true hm)⟩
   ·obtain⟨h1,h2⟩:=af.z h (decide_eq_false hm)
    exact⟨_,_,by unfold iw;dsimp only;rw[if_neg (by simp),if_neg hm,if_pos h1],h2⟩
  ·exact h.elim
 ·rename_i b off n cap esz
  split at h
  ·rename_i hc dE
   rw[Bool.and_eq_true,Bool.and_eq_true] at hc
   have c1:=Nat.eq_of_beq_eq_true hc.1
   have c2:=Nat.eq_of_beq_eq_true hc.2.1
   have c3:=Nat.eq_of_beq_eq_true hc.2.2
   subst c1 c2 c3
   by_cases hm:m=0
   ·exact⟨_,_,by unfold iw;dsimp only;rw[dE];dsimp only;rw[if_neg (by simp),if_pos hm],af.y h (decide_eq_true hm)⟩
   ·obtain⟨h1,h2⟩:=af.z h (decide_eq_false hm)
    exact⟨_,_,by unfold iw;dsimp only;rw[dE];dsimp only;rw[if_neg (by simp),if_neg hm,if_pos h1],h2⟩
  ·exact h.elim
 ·exact h.elim
noncomputable def EG (P:Program) (σ:St) (id:Nat) (t t':TypeId) (m:Nat) (g:Nat→V) (esz:Nat) (s:V) (k:ah):Prop:=
 match intType P t' with
 | true=>False
 | false=>match P.underlying t with
  | some (.slice e)=>match bN P e,iX P e,gy P e with
   | some sz,some dc,some z=>match Nat.beq sz 0||(Nat.beq dc 0||(!Nat.beq (len z.cells) sz|| !Nat.beq sz esz)) with
    | true=>False
    | false=>rX σ id sz dc m g k s
   | _,_,_=>False
  | _=>False
noncomputable def yg (σ:St) (id sz dc b n:Nat) (k:ah):Option (Nat×(Nat→V)×List V)→Option bV→Prop
 | some (m,g,new),some (.row n' f esz p)=>match Nat.beq esz sz&&(Nat.blt 0 m&&gJ V.scalar new) with
  | true=>(n'=n∧(n+m)*dc≤1099511627776)∧k (.own id (n+m) sz) ((σ.kill b).new id (.row (n+m) (dY n f g) sz p))
  | false=>False
 | _,_=>False
noncomputable def rY (P:Program) (σ:St) (id:Nat) (t t':TypeId) (b n esz:Nat) (x:V) (k:ah):Prop:=
 match intType P t' with
 | true=>False
 | false=>match P.underlying t with
  | some (.slice e)=>match bN P e,iX P e,gy P e with
   | some sz,some dc,some z=>match Nat.beq sz 0||(Nat.beq dc 0||(!Nat.beq (len z.cells) sz|| !Nat.beq sz esz)) with
    | true=>False
    | false=>yg σ id sz dc b n k (oneOf σ sz x) (σ.heap.get b)
   | _,_,_=>False
  | _=>False
theorem w3 {σ:St} {id:Nat} {t t':TypeId} {tl:List TypeId} {b n esz:Nat} {x:V} {k:ah} (hx:∀m g e a c,x≠.arr m g e a c) (h:rY P σ id t t' b n esz x k):
  di (gL P σ id .append (t::t'::tl) (some [.own b n esz,x])) k:=by
 unfold rY at h
 split at h
 ·exact h.elim
 ·rename_i hi
  split at h
  ·rename_i e hu
   split at h
   ·rename_i sz dc z h1 h2 h3
    split at h
    ·exact h.elim
    ·rename_i hc
     rw[Bool.or_eq_false_iff,Bool.or_eq_false_iff,Bool.or_eq_false_iff] at hc
     obtain⟨c1,c2,c3,c4⟩:=hc
     unfold yg at h
     split at h
     ·rename_i m g new n' f rN p Sn hb
      split at h
      ·rename_i hs
       rw[Bool.and_eq_true,Bool.and_eq_true] at hs
       have xY:=Nat.eq_of_beq_eq_true hs.1
       have J3:=hs.2.1
       rw[Nat.blt_eq] at J3
       obtain⟨⟨rfl,dW⟩,hk⟩:=h
       refine di.mk' (v:=_) (σ:=_) ?_ hk
       show bA.of "builtin" (match intType P t' with
        | true=>ka P σ id t t' (.own b n' esz) x
        | false=>jf P σ id t (.own b n' esz) x)=_
       rw[hi]
       have he:jf P σ id t (.own b n' esz) x=ni P σ id t b n' esz x:=by
        cases x with
        | arr m g e a c=>exact absurd rfl (hx m g e a c)
        | _=>rfl
       dsimp only
       rw[he]
       unfold ni
       rw[hu]
       dsimp only
       rw[h1,h2,h3]
       dsimp only
       have d:¬(sz=0∨dc=0∨len z.cells≠sz∨sz≠esz):=by
        rw[not_or,not_or,not_or]
        refine⟨fun e=>?_,fun e=>?_,fun e=>?_,fun e=>?_⟩
        ·subst e;simp at c1
        ·subst e;simp at c2
        ·simp only[Bool.not_eq_false'] at c3;exact e (Nat.eq_of_beq_eq_true c3)
        ·simp only[Bool.not_eq_false'] at c4;exact e (Nat.eq_of_beq_eq_true c4)
       rw[if_neg d,Sn]
       dsimp only
       unfold sZ
       rw[hb]
       dsimp only
       rw[if_pos ⟨rfl,xY,by omega,dW,hs.2.2⟩]
       rfl
      ·exact h.elim
     ·exact h.elim
   ·exact h.elim
  ·exact h.elim
noncomputable def w4 (P:Program) (σ:St) (id:Nat) (b:Builtin) (tys:List TypeId) (vs:Option (List V)) (k:ah):Prop:=
 match b,tys,vs with
 | .append,t::t'::_,some [s,.arr m g esz _ _]=>EG P σ id t t' m g esz s k
 | .append,t::t'::_,some [.own b n esz,x]=>rY P σ id t t' b n esz x k
 | b,tys,vs=>di (gL P σ id b tys vs) k
theorem zi {σ:St} {id:Nat} {b:Builtin} {tys:List TypeId} {vs:Option (List V)} {k:ah} (h:w4 P σ id b tys vs k):di (gL P σ id b tys vs) k:=by
 unfold w4 at h
 split at h
 ·rename_i t t' tl s m g esz ex nn
  unfold EG at h
  split at h
  ·exact h.elim
  ·rename_i hi
   split at h
   ·rename_i e hu
    split at h
    ·rename_i sz dc z h1 h2 h3
     split at h
     ·exact h.elim
     ·rename_i hc
      rw[Bool.or_eq_false_iff,Bool.or_eq_false_iff,Bool.or_eq_false_iff] at hc
      obtain⟨c1,c2,c3,c4⟩:=hc
      obtain⟨v,σ',hr,hk⟩:=w2 h
      refine di.mk' (v:=v) (σ:=σ') ?_ hk
      show bA.of "builtin" (match intType P t' with
       | true=>ka P σ id t t' s (.arr m g esz ex nn)
       | false=>jf P σ id t s (.arr m g esz ex nn))=_
      rw[hi]
      show bA.of "builtin" (nh P σ id t m g esz s)=_
      unfold nh
      rw[hu]
      dsimp only
      rw[h1,h2,h3]
      dsimp only
      have d:¬(sz=0∨dc=0∨len z.cells≠sz∨sz≠esz):=by
       rw[not_or,not_or,not_or]
       refine⟨fun e=>?_,fun e=>?_,fun e=>?_,fun e=>?_⟩
       ·subst e;simp at c1
       ·subst e;simp at c2
       ·simp only[Bool.not_eq_false'] at c3;exact e (Nat.eq_of_beq_eq_true c3)
       ·simp only[Bool.not_eq_false'] at c4;exact e (Nat.eq_of_beq_eq_true c4)
      rw[if_neg d,hr];rfl
    ·exact h.elim
   ·exact h.elim
 ·rename_i bQ
  exact w3 (fun m g e a c he=>bQ m g e a c he) h
 ·exact h
noncomputable def EH (σ:St) (n:Nat) (k:ah):Option bV→Prop
 | some (.row n' f z _)=>match Nat.beq z 1 with
  | true=>n'=n∧∃s,eL (ar (b9 n' f))=some s∧k (.str s) σ
  | false=>False
 | _=>False
def nI (b:Nat):Int:=match (FloatKind.f64.decode b).toInt .zero with | some n=>n | none=>0
def AB (b:Nat) (k:IntKind):Prop:=(FloatKind.f64.decode b).toInt .zero=some (nI b)∧k.min≤nI b∧nI b≤k.max
noncomputable def Hw (P:Program) (σ:St) (id:Nat) (src dst:TypeId) (v:V) (k:ah):Prop:=
 match v with
 | .dM .f64 b=>match P.underlying src,P.underlying dst with
  | some (.float _),some (.int kd)=>AB b kd∧k (.int kd (nI b)) σ
  | _,_=>False
 | .str s=>match P.underlying src,P.underlying dst with
  | some .string,some (.slice e)=>match P.underlying e with
   | some (.int .u8)=>match bN P e,iX P e with
    | some 1,some 1=>len s≤1099511627776∧k (.own id (len s) 1) (σ.new id (.row (len s) (dx s) 1 false))
    | _,_=>False
   | _=>False
  | some .string,some .string=>k (.str s) σ
  | _,_=>False
 | .own b n _=>match P.underlying src,P.underlying dst with
  | some (.slice e),some .string=>match P.underlying e with
   | some (.int .u8)=>EH σ n k (σ.heap.get b)
   | _=>False
  | _,_=>False
 | v=>di (c7 P σ id src dst v) k
theorem D9 {σ:St} {id:Nat} {src dst:TypeId} {v:V} {k:ah} (h:Hw P σ id src dst v k):di (c7 P σ id src dst v) k:=by
 unfold Hw at h
 split at h
 ·rename_i b
  split at h
  ·rename_i q kd hs hd
   refine di.mk' (v:=_) (σ:=_) ?_ h.2
   unfold c7 evalConv
   rw[hs,hd]
   dsimp only
   rw[h.1.1]
   dsimp only
   rw[if_pos h.1.2]
   rfl
  ·exact h.elim
 ·rename_i s
  split at h
  ·rename_i e hs hd
   split at h
   ·rename_i he
    split at h
    ·rename_i h1 h2
     refine di.mk' (v:=_) (σ:=_) ?_ h.2
     unfold c7 evalConv
     rw[hs,hd]
     dsimp only
     rw[he]
     dsimp only
     rw[if_pos ⟨h1,h2,h.1⟩]
     rfl
    ·exact h.elim
   ·exact h.elim
  ·rename_i hs hd
   refine di.mk' (v:=_) (σ:=_) ?_ h
   unfold c7 evalConv
   rw[hs,hd]
   rfl
  ·exact h.elim
 ·rename_i b n esz
  split at h
  ·rename_i e hs hd
   split at h
   ·rename_i he
    unfold EH at h
    split at h
    ·rename_i n' f z p hb
     split at h
     ·rename_i hz
      obtain⟨rfl,s,h1,hk⟩:=h
      refine di.mk' (v:=_) (σ:=_) ?_ hk
      unfold c7 evalConv
      rw[hs,hd]
      dsimp only
      rw[he]
      dsimp only
      rw[hb]
      dsimp only
      rw[if_pos ⟨rfl,Nat.eq_of_beq_eq_true hz⟩,h1]
      rfl
     ·exact h.elim
    ·exact h.elim
   ·exact h.elim
  ·exact h.elim
 ·exact h
noncomputable def wy (σ:St) (id sz dc:Nat) (z:List V) (n m:Int) (k:ah):Prop:=
 match !Nat.beq sz 0&&(Nat.beq (len z) sz&&gJ V.scalar z) with
 | true=>(0≤n∧n≤m∧m.toNat*dc≤1099511627776∧m≤1099511627776)∧k (.slice id 0 n.toNat m.toNat true sz) (newRow σ id (m.toNat*sz) z .leaf true)
 | false=>False
noncomputable def rZ (P:Program) (σ:St) (id:Nat) (t:TypeId) (v u:V) (k:ah):Prop:=
 match v,u with
 | .int _ n,.int _ m=>match gu P t with
  | some e=>match bN P e,iX P e,gy P e with
   | some sz,some dc,some z=>wy σ id sz dc z.cells n m k
   | _,_,_=>False
  | none=>False
 | v,u=>di (gl P σ id t v u) k
theorem w5 {σ:St} {id:Nat} {t:TypeId} {v u:V} {k:ah} (h:rZ P σ id t v u k):di (gl P σ id t v u) k:=by
 unfold rZ at h
 split at h
 ·rename_i k1 n k2 m
  split at h
  ·rename_i e he
   split at h
   ·rename_i sz dc z h1 h2 h3
    unfold wy at h
    split at h
    ·rename_i hb
     rw[Bool.and_eq_true,Bool.and_eq_true] at hb
     obtain⟨b1,b2,b3⟩:=hb
     obtain⟨⟨c1,c2,c3,c4⟩,hk⟩:=h
     refine di.mk' (v:=_) (σ:=_) ?_ hk
     unfold gl
     dsimp only
     rw[he]
     dsimp only
     rw[h1,h2,h3]
     dsimp only
     unfold lA
     rw[if_pos ⟨c1,c2,c3,c4,fun e=>by subst e;simp at b1,Nat.eq_of_beq_eq_true b2,b3⟩]
    ·exact h.elim
   ·exact h.elim
  ·exact h.elim
 ·exact h
noncomputable def OR (a:Act) (σ:St) (x y:Operand) (k:ah):V→Prop
 | .bool b=>af b (fF (a.eval x) fun v=>k v σ) (fF (a.eval y) fun v=>k v σ)
 | _=>False
theorem Ea {a:Act} {σ:St} {x y:Operand} {k:ah} {v:V} (h:OR a σ x y k v):(nj a σ x y v).Holds (rV k):=by
 cases v with
 | bool b=>
  have h':af b (fF (a.eval x) fun v=>k v σ) (fF (a.eval y) fun v=>k v σ):=h
  have go:∀o:Option V,fF o (fun v=>k v σ)→(aJ σ "pick" o:VS).Holds (rV k):=by
   intro o ho
   cases o with
   | none=>exact ho.elim
   | some v=>exact ho
  cases b with
  | true=>exact go _ (af.y h' rfl)
  | false=>exact go _ (af.z h' rfl)
 | _=>exact h.elim
noncomputable def Sp (P:Program) (o:Op) (a:Act) (σ:St) (id:Nat) (k:ah):Prop:=
 match o with
 | .load t x=>fF (a.eval x) fun v=>Hv P σ t v k
 | .pick c x y=>fF (a.eval c) fun v=>OR a σ x y k v
 | .store t x y=>lQ (a.eval y) (a.eval x) fun v p=>Cl P σ t v p k
 | .binOp op t x y _=>lQ (a.eval x) (a.eval y) fun v u=>L3 P σ op t (isConst x||isConst y) v u k
 | .convert s d x=>fF (a.eval x) fun v=>Hw P σ id s d v k
 | .makeSlice t l c=>lQ (a.eval l) (a.eval c) fun v u=>rZ P σ id t v u k
 | .slice t x lo hi mx=>fF (a.eval x) fun v=>oU P a σ t lo hi mx v k
 | .indexAddr t x ix=>lQ (a.eval x) (a.eval ix) fun v u=>rW P σ t v u k
 | .index t x ix=>lQ (a.eval x) (a.eval ix) fun v u=>Ci P σ t v u k
 | .box _ x=>fF (a.eval x) fun v=>di (xC σ id v) k
 | .field t x f=>fF (a.eval x) fun v=>di (qA P σ t f v) k
 | .fieldAddr t x f=>fF (a.eval x) fun v=>di (kb P σ t f v) k
 | .build t ps=>di (mj P σ t (a.parts ps.toList)) k
 | .buildSlice t n ps=>di (fJ P σ id t n (a.parts ps.toList)) k
 | .alloc e=>di (oo P σ id e) k
 | .typeAssert x _ t ok=>fF (a.eval x) fun v=>di (wR P σ t ok v) k
 | .makeInterface t x=>fF (a.eval x) fun v=>di (gK P σ t v) k
 | o=>((me P o).f a σ id).Holds (rV k)
theorem J9 {o:Op} {a:Act} {σ:St} {id:Nat} {k:ah} (h:Sp P o a σ id k):((me P o).f a σ id).Holds (rV k):=by
 cases o with
 | convert s d x=>exact ga (fF.mono h fun _ hv=>(D9 hv).holds)
 | slice t x lo hi mx=>exact ga (fF.mono h fun _ hv=>(Cn hv).holds)
 | box e x=>exact ga (fF.mono h fun _ hv=>hv.holds)
 | field t x f=>exact ga (fF.mono h fun _ hv=>hv.holds)
 | fieldAddr t x f=>exact ga (fF.mono h fun _ hv=>hv.holds)
 | typeAssert x _ t ok=>exact ga (fF.mono h fun _ hv=>hv.holds)
 | makeInterface t x=>exact ga (fF.mono h fun _ hv=>hv.holds)
 | load t x=>exact ga (fF.mono h fun _ hv=>(D8 hv).holds)
 | pick c x y=>exact ga (fF.mono h fun _ hv=>Ea hv)
 | store t x y=>exact lR (lQ.mono h fun _ _ hv=>(Cm hv).holds)
 | makeSlice t l c=>exact lR (lQ.mono h fun _ _ hv=>(w5 hv).holds)
 | indexAddr t x ix=>exact lR (lQ.mono h fun _ _ hv=>(w1 hv).holds)
 | index t x ix=>exact lR (lQ.mono h fun _ _ hv=>(Cj hv).holds)
 | binOp op t x y _=>exact lR (lQ.mono h fun _ _ hv=>Ht hv)
 | build t ps=>exact di.holds h
 | buildSlice t n ps=>exact di.holds h
 | alloc e=>exact di.holds h
 | _=>exact h
abbrev vh:=V→Act→St→Prop
def jU (k:vh):V×Act×St→Prop
 | (v,a,σ)=>k v a σ
theorem bA.Holds.fB {a:Act} {r:VS} {k:vh} (h:r.Holds (rV fun v σ=>k v a σ)):(r.bind (fB a)).Holds (jU k):=
 bA.Holds.dP (h.mono fun⟨_,_⟩ hx=>hx)
noncomputable def L4 {α:Type} (l:List α):(List α→Prop)→Prop:=
 List.rec (motive:=fun _=>(List α→Prop)→Prop) (fun k=>k []) (fun x _ ih k=>ih fun l=>k (x::l)) l
theorem PQ {α:Type} (l:List α) (k:List α→Prop):L4 l k=k l:=by
 induction l generalizing k with
 | nil=>rfl
 | cons x l ih=>exact ih _
noncomputable def Hz {α:Type} (l:List (List α)):(List (List α)→Prop)→Prop:=
 List.rec (motive:=fun _=>(List (List α)→Prop)→Prop) (fun k=>k []) (fun x _ ih k=>L4 x fun x=>ih fun l=>k (x::l)) l
theorem PR {α:Type} (l:List (List α)) (k:List (List α)→Prop):Hz l k=k l:=by
 induction l generalizing k with
 | nil=>rfl
 | cons x l ih=>
  show L4 x (fun x=>Hz l fun l=>k (x::l))=_
  rw[PQ,ih]
noncomputable def zj (dst:Option Tmp) (k:Act→Prop) (a:Act) (v:V):Prop:=
 match dst with
 | some d=>match a with
  | ⟨t,s,ds⟩=>match Nat.blt d s with
   | true=>Hz (t.put d v) fun t=>k ⟨t,s,ds⟩
   | false=>False
 | none=>k a
def zk (k:Act→St→Prop):Act×St→Prop
 | (a,σ)=>k a σ
theorem n5 {dst:Option Tmp} {a:Act} {v:V} {σ:St} {k:Act→St→Prop} (h:zj dst (fun a=>k a σ) a v):(pW σ (a.put dst v)).Holds (zk k):=by
 cases dst with
 | none=>exact h
 | some d=>
  obtain⟨t,s,ds⟩:=a
  have h':match Nat.blt d s with
   | true=>Hz (t.put d v) fun t=>k ⟨t,s,ds⟩ σ
   | false=>False:=h
  show(pW σ (match Nat.blt d s with
   | true=>some ⟨t.put d v,s,ds⟩
   | false=>none)).Holds (zk k)
  revert h'
  cases Nat.blt d s with
  | true=>intro h;rw[PR] at h;exact h
  | false=>exact fun h=>h.elim
def HA (b:Nat) (c:Bool) (k:Prop):Prop:=
 match b with
 | 0=>k
 | _+1=>af c k False
def Co (Q:ah) (σ:St):Option (List V)→Prop
 | some l=>Q (rC l) σ
 | none=>False
end
end Go.Ev
end
section
namespace Go.Ev
open Go Go.RowKit
def start:St:={heap:=.leaf,next:=0}
def w6:Out×St→Bool
 | (.val (.bool b),_)=>b
 | _=>false
end Go.Ev
end
section
namespace Go.Ev
open Go Go.RowKit
theorem Cp {P:Program} {w:World} {r:Reach} {base:Nat} {t:TypeId} {v:Value} (h:Cell.okWide P w r base t v):v.oneCell'=true:=by
 unfold Cell.okWide at h
 split at h<;>first
  | rfl
  | (unfold Cell.ok at h;split at h<;>first | rfl | exact h.elim)
def pE (P:Program) (t:TypeId):Bool:=
 match P.underlying t with
 | some (.int .i64)=>true
 | _=>false
def jc (P:Program) (t:TypeId):Bool×List Bool:=
 match P.underlying t with
 | some (.struct _) | some (.array _ _)=>(true,(List.range (P.cellsOf t)).map fun i=>match P.cellTypes P.depth t with
  | some ts=>match ts[i%ts.length]? with
   | some u=>pE P u
   | none=>false
  | none=>false)
 | _=>(false,[pE P t])
def tK (f:Bool) (x:Value):Prop:=x.oneCell'=true∧(f=true→∃n,x=.int .i64 n)
def fm:List Bool→List Value→Prop
 | [],[]=>True
 | f::fs,x::xs=>tK f x∧fm fs xs
 | _,_=>False
theorem fm.of:∀ {fs:List Bool} {xs:List Value},xs.length=fs.length→(∀(i:Nat) f x,fs[i]? =some f→xs[i]? =some x→tK f x)→fm fs xs
 | [],[],_,_=>trivial
 | f::fs,x::xs,hl,h=>⟨h 0 f x rfl rfl,fm.of (by simpa using hl) fun i f x hf hx=>h (i+1) f x (by simpa using hf) (by simpa using hx)⟩
theorem fm.length:∀ {fs:List Bool} {xs:List Value},fm fs xs→xs.length=fs.length
 | [],[],_=>rfl
 | f::fs,x::xs,h=>by simpa using fm.length h.2
theorem fm.get:∀ {fs:List Bool} {xs:List Value},fm fs xs→∀(i:Nat) f x,fs[i]? =some f→xs[i]? =some x→tK f x
 | f::fs,x::xs,h,0,g,y,hg,hy=>by cases hg;cases hy;exact h.1
 | f::fs,x::xs,h,i+1,g,y,hg,hy=>fm.get h.2 i g y (by simpa using hg) (by simpa using hy)
theorem fm.one {fs:List Bool} {xs:List Value} (h:fm fs xs):∀x∈xs,x.oneCell'=true:=fun x hx=>by
 obtain⟨i,hi,rfl⟩:=List.getElem_of_mem hx
 have hl:=h.length
 exact(h.get i fs[i] xs[i] (by simp) (by simp)).1
theorem yh {P:Program} {w:World} {r:Reach} {base:Nat} {t:TypeId} {v:Value} (h:Cell.okWide P w r base t v):tK (pE P t) v:=by
 refine⟨Cp h,fun hf=>?_⟩
 unfold pE at hf
 split at hf
 ·rename_i hu
  simp only[Cell.okWide,hu] at h
  cases v<;>simp_all [Cell.ok]
 ·cases hf
theorem Ka {P:Program} {w:World} {r:Reach} {base:Nat} {t:TypeId} {cs:List Value} (hs:cs.length=P.cellsOf t) (h:Row.okWide P w r base t ⟨cs⟩):
  fm ((List.range (P.cellsOf t)).map fun i=>match P.cellTypes P.depth t with
  | some ts=>match ts[i%ts.length]? with
   | some u=>pE P u
   | none=>false
  | none=>false) cs:=by
 obtain⟨ts,hts,_,hc⟩:=h
 refine .of (by simp [hs]) fun i f x hf hx=>?_
 have hi:=(List.getElem?_eq_some_iff.1 hx).1
 obtain⟨u,hu,dD⟩:=hc i x (by simpa using hx)
 rw[hs] at hi
 simp only[List.getElem?_map,List.getElem?_range hi,Option.map_some,Option.some.injEq,hts,hu] at hf
 subst hf
 exact yh dD
theorem mW {P:Program} {w:World} {r:Reach} {base:Nat} {t:TypeId} {v:Value} (h:Value.okWide P w r base t v):
  (∃cs,v=.agg ⟨cs⟩∧(jc P t).1=true∧fm (jc P t).2 cs∧Row.okWide P w r base t ⟨cs⟩)∨((jc P t).1=false∧fm (jc P t).2 [v]∧v.oneCell'=true∧Cell.okWide P w r base t v):=by
 unfold Value.okWide at h
 unfold jc
 split at h
 ·rename_i fs hu
  obtain⟨⟨cs⟩,rfl,hs,hr⟩:=h
  refine .inl ⟨cs,rfl,by rw[hu],?_,hr⟩
  rw[hu];exact Ka hs hr
 ·rename_i n e hu
  obtain⟨⟨cs⟩,rfl,hs,hr⟩:=h
  refine .inl ⟨cs,rfl,by rw[hu],?_,hr⟩
  rw[hu];exact Ka hs hr
 ·rename_i h1 h2
  have e:(match P.underlying t with
   | some (.struct _) | some (.array _ _)=>(true,(List.range (P.cellsOf t)).map fun i=>match P.cellTypes P.depth t with
    | some ts=>match ts[i%ts.length]? with
     | some u=>pE P u
     | none=>false
    | none=>false)
   | _=>(false,[pE P t]))=(false,[pE P t]):=by
   split
   ·rename_i fs hu;exact absurd hu (h1 fs)
   ·rename_i n e hu;exact absurd hu (h2 n e)
   ·rfl
  rw[e]
  exact .inr ⟨rfl,⟨yh h,trivial⟩,Cp h,h⟩
def asInt:Value→Value
 | .int .i64 n=>.int .i64 n
 | _=>.int .i64 0
abbrev n9 (cs:List Value) (h:∀x∈cs,x.oneCell'=true) (l:List (Nat×Nat×Value):=[]):Env:=⟨fun i=>if i<ee then cs.getD i (.bool true) else asInt (cs.getD (i-ee) (.bool true)),fun i=>by
 by_cases hi:i<ee
 ·rw[if_pos hi,List.getD_eq_getElem?_getD]
  cases hi:cs[i]? with
  | none=>rfl
  | some x=>exact h x (List.mem_of_getElem? hi)
 ·rw[if_neg hi]
  unfold asInt
  split<;>rfl,fun i hi=>by
 rw[if_neg (Nat.not_lt.2 hi)]
 unfold asInt
 split
 ·exact⟨_,rfl⟩
 ·exact⟨0,rfl⟩,l⟩
noncomputable def OS (k:Nat):Bool→V
 | true=>.any (Nat.add ee k)
 | false=>.any k
noncomputable def zl:Nat→List Bool→List V
 | _,[]=>[]
 | k,f::fs=>OS k f::zl (Nat.add k 1) fs
noncomputable def qT:List (Bool×List Bool)→Nat→List V
 | [],_=>[]
 | (true,fs)::l,k=>.agg (zl k fs)::qT l (Nat.add k (len fs))
 | (false,fs)::l,k=>app (zl k fs) (qT l (Nat.add k (len fs)))
def iR:List Value→List Value
 | []=>[]
 | v::l=>v.cells.toList++iR l
theorem Kb {ρ:Ren} {all:List Value} (h:∀x∈all,x.oneCell'=true) (hs:all.length≤ee) {k:Nat} {x:Value} (hx:all[k]? =some x) {f:Bool} (hf:tK f x):@aq (n9 all h) ρ (OS k f) x:=by
 letI:=n9 all h
 have hk:=(List.getElem?_eq_some_iff.1 hx).1
 cases f with
 | false=>
  have e:x=Env.val k:=by
   show x=if k<ee then all.getD k (.bool true) else _
   rw[if_pos (Nat.lt_of_lt_of_le hk hs),List.getD_eq_getElem?_getD,hx];rfl
  rw[e];exact .any k
 | true=>
  obtain⟨n,hn⟩:=hf.2 rfl
  have e:x=Env.val (ee+k):=by
   show x=if ee+k<ee then _ else asInt (all.getD (ee+k-ee) (.bool true))
   rw[if_neg (by omega),show ee+k-ee=k by omega,List.getD_eq_getElem?_getD,hx,hn];rfl
  rw[e];exact .any (ee+k)
theorem w7 {ρ:Ren} {all:List Value} (h:∀x∈all,x.oneCell'=true) (hs:all.length≤ee):∀ {fs:List Bool} {cs:List Value} {k:Nat},fm fs cs→(∀i x,cs[i]? =some x→all[k+i]? =some x)→@au (n9 all h) ρ (zl k fs) cs
 | [],[],_,_,_=>@au.nil (n9 all h) ρ
 | f::fs,x::xs,k,hc,hk=>@au.cons (n9 all h) ρ _ _ _ _ (Kb h hs (hk 0 x rfl) hc.1) (w7 h hs (k:=k+1) hc.2 fun i y hy=>by rw[←hk (i+1) y (by simpa using hy)];congr 1;omega)
inductive Typed (P:Program) (w:World) (r:Reach) (base:Nat):List TypeId→List Value→Prop
 | nil:Typed P w r base [] []
 | cons {t:TypeId} {v:Value} {ts:List TypeId} {vs:List Value} (h:Value.okWide P w r base t v) (hl:Typed P w r base ts vs):Typed P w r base (t::ts) (v::vs)
theorem Typed.of {P:Program} {w:World} {r:Reach} {base:Nat}:∀ {ts:List TypeId} {vs:List Value},vs.length=ts.length→(∀(j:Nat) t v,ts[j]? =some t→vs[j]? =some v→Value.okWide P w r base t v)→Typed P w r base ts vs
 | [],[],_,_=>.nil
 | t::ts,v::vs,hl,h=>.cons (h 0 t v rfl rfl) (Typed.of (by simpa using hl) fun j t v ht hv=>h (j+1) t v (by simpa using ht) (by simpa using hv))
theorem AD {v:Value} (hv:v.oneCell'=true):v.cells.toList=[v]:=by
 cases v<;>first | rfl | cases hv
theorem Typed.one {P:Program} {w:World} {r:Reach} {base:Nat} {ts:List TypeId} {vs:List Value} (h:Typed P w r base ts vs):∀x∈iR vs,x.oneCell'=true:=by
 induction h with
 | nil=>intro x hx;simp [iR] at hx
 | @cons t v ts vs h hl ih=>
  intro x hx
  rcases(List.mem_append (s:=v.cells.toList) (t:=iR vs)).1 hx with hx | hx
  ·rcases mW h with ⟨cs,rfl,_,hc,_⟩ | ⟨_,_,hv,_⟩
   ·exact hc.one x hx
   ·rw[AD hv] at hx
    rw[List.mem_singleton.1 hx];exact hv
  ·exact ih x hx
theorem Typed.zl {P:Program} {w:World} {r:Reach} {base:Nat} {ρ:Ren} {ts:List TypeId} {vs:List Value} (h:Typed P w r base ts vs) {all:List Value} (ha:∀x∈all,x.oneCell'=true) (hs:all.length≤ee) {k:Nat}
  (hk:∀i x,(iR vs)[i]? =some x→all[k+i]? =some x):@au (n9 all ha) ρ (qT (ts.map (jc P)) k) vs:=by
 letI:=n9 all ha
 induction h generalizing k with
 | nil=>exact .nil
 | @cons t v ts vs h hl ih=>
  rw[List.map_cons]
  rcases mW h with ⟨cs,rfl,h1,hc,_⟩ | ⟨h1,hc,hv,_⟩
  ·generalize jc P t=q at h1 hc
   obtain⟨q1,fs⟩:=q
   dsimp only at h1 hc
   subst h1
   have hlen:=hc.length
   refine .cons (.agg (w7 ha hs hc fun i x hx=>hk i x ?_)) (ih fun i x hx=>?_)
   ·have hi:=(List.getElem?_eq_some_iff.1 hx).1
    show(cs++iR vs)[i]? =_
    rw[List.getElem?_append_left hi];exact hx
   ·rw[←hk (fs.length+i) x ?_]
    ·congr 1
     show k+len fs+i=_
     rw[bc];omega
    ·show(cs++iR vs)[fs.length+i]? =_
     rw[List.getElem?_append_right (by omega),←hx]
     congr 1;omega
  ·generalize jc P t=q at h1 hc
   obtain⟨q1,fs⟩:=q
   dsimp only at h1 hc
   subst h1
   have hlen:=hc.length
   have Sn:fs.length=1:=by simpa using hlen.symm
   have e:=AD hv
   show au ρ (app (Ev.zl k fs) (qT (ts.map (jc P)) (Nat.add k (len fs)))) (v::vs)
   rw[gI]
   refine au.append (a':=[v]) (w7 ha hs hc fun i x hx=>hk i x ?_) (ih fun i x hx=>?_)
   ·have hi:=(List.getElem?_eq_some_iff.1 hx).1
    show(v.cells.toList++iR vs)[i]? =_
    rw[e,List.getElem?_append_left hi];exact hx
   ·rw[←hk (i+1) x ?_]
    ·congr 1
     show k+len fs+i=_
     rw[bc];omega
    ·show(v.cells.toList++iR vs)[i+1]? =_
     rw[e];simpa using hx
theorem sS {H:Type} {enc:TypeId×Value→H} {P:Program} (hl:laidOutB P=true) {W W':World} (hb:Below W.heap.size W W'):∀ {ts:List TypeId} {vs:List Value} {ds:List (DataW H)} {ps:List MemPlace},
  (∀t∈ts,P.readableRec t=true∧t<P.types.size)→DataW.TrodAll enc P W 0 (fun _=>true) true ts vs ds ps→(∀x∈ps,x.block<W.heap.size)→DataW.TrodAll enc P W' 0 (fun b=>decide (b<W.heap.size)) true ts vs ds ps
 | [],[],[],_,_,h,_=>h
 | t::ts,v::vs,d::ds,ps,ht,h,bB=>by
  obtain⟨p,q,h0,h1,rfl⟩:=h
  refine⟨p,q,Below.trod hl (ht t (by simp)).1 (ht t (by simp)).2 h0 hb fun x hx=>bB x (by simp [hx]),sS hl hb (fun t h=>ht t (by simp [h])) h1 fun x hx=>bB x (by simp [hx]),rfl⟩
noncomputable def VS.st:VS→St
 | .ok x=>x.2
 | _=>start
noncomputable def VS.v:VS→V
 | .ok x=>x.1
 | _=>cO
noncomputable def Run.st:Run→St
 | .ok x=>x.2
 | _=>start
noncomputable def Run.v:Run→V
 | .ok (.val v,_)=>v
 | _=>cO
end Go.Ev
end
