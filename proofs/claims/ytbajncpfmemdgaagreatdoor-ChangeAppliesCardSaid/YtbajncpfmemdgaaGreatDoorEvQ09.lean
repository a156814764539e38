/- Proved: parts of the way: Wp, Ends, Args. -/
import Derived.Test.YtbajncpfmemdgaaGreatDoorEvQ08
import Derived.Below
import Derived.ProofKit
import Derived.Carry
import Derived.WideShapes
set_option linter.unusedVariables false
set_option linter.unusedSimpArgs false
section
namespace Go.Ev
open Go
abbrev ai:=V→St→Prop
abbrev dw:=Ex→Act→St→Prop
def mV (Q:ai):Out×St→Prop
 | (.val v,σ)=>Q v σ
 | _=>False
def w7 (Q:dw):Out×St→Prop
 | (.exit e a,σ)=>Q e a σ
 | _=>False
def dx (r:VS) (k:ai):Prop:=
 match r with
 | .ok (v,σ)=>k v σ
 | _=>False
theorem dx.h {r:VS} {k:ai} (h:dx r k):∃v σ',r=.ok (v,σ')∧k v σ':=by
 unfold dx at h
 split at h
 ·exact⟨_,_,rfl,h⟩
 ·exact h.elim
def aa (b:Bool) (Y Z:Prop):Prop:=
 match b with
 | true=>Y
 | false=>Z
theorem aa.y {b:Bool} {Y Z:Prop} (h:aa b Y Z) (e:b=true):Y:=by subst e;exact h
theorem aa.z {b:Bool} {Y Z:Prop} (h:aa b Y Z) (e:b=false):Z:=by subst e;exact h
theorem aa.mk {b:Bool} {Y Z:Prop} (y:b=true→Y) (z:b=false→Z):aa b Y Z:=by cases b<;>first | exact y rfl | exact z rfl
theorem dx.mk' {r:VS} {k:ai} {v:V} {σ:St} (h:r=.ok (v,σ)) (hk:k v σ):dx r k:=by subst h;exact hk
section
variable {P:Program}
def kK (Y:Act→St→Prop) (Q:dw):dw
 | .normal=>Y
 | e=>Q e
def Kt (y z:Prop):Option V→Prop
 | some (.bool b)=>aa b y z
 | _=>False
def rC (id:Nat) (Q:dw):dw
 | .exit i=>if i=id then Q .normal else Q (.exit i)
 | e=>Q e
def fL (x:Option V) (k:V→Prop):Prop:=
 match x with
 | some v=>k v
 | none=>False
def ml (x y:Option V) (k:V→V→Prop):Prop:=
 match x with
 | some v=>match y with
  | some u=>k v u
  | none=>False
 | none=>False
theorem gC {w:String} {x:Option V} {f:V→VS} {p:V×St→Prop} (h:fL x fun v=>(f v).Holds p):(fh w x f).Holds p:=by
 cases x with
 | none=>exact h.elim
 | some v=>exact h
theorem mn {w:String} {x y:Option V} {f:V→V→VS} {p:V×St→Prop} (h:ml x y fun v u=>(f v u).Holds p):(qa w x y f).Holds p:=by
 cases x with
 | none=>exact h.elim
 | some v=>cases y with
  | none=>exact h.elim
  | some u=>exact h
theorem fL.mono {x:Option V} {k k':V→Prop} (h:fL x k) (hk:∀v,k v→k' v):fL x k':=by
 cases x with
 | none=>exact h
 | some v=>exact hk v h
theorem ml.mono {x y:Option V} {k k':V→V→Prop} (h:ml x y k) (hk:∀v u,k v u→k' v u):ml x y k':=by
 cases x with
 | none=>exact h
 | some v=>cases y with
  | none=>exact h
  | some u=>exact hk v u h
def sJ (k:ai):V×St→Prop
 | (v,σ)=>k v σ
theorem dx.holds {r:VS} {k:ai} (h:dx r k):r.Holds (sJ k):=by
 obtain⟨v,σ,rfl,hk⟩:=h.h
 exact hk
def hY (p:Prop) [Decidable p] (k:V→Prop):Prop:=aa (decide p) (k (.bool true)) (k (.bool false))
theorem hY.y {p:Prop} [Decidable p] {k:V→Prop} (h:hY p k) (hp:p):k (.bool true):=aa.y h (decide_eq_true hp)
theorem hY.n {p:Prop} [Decidable p] {k:V→Prop} (h:hY p k) (hp:¬p):k (.bool false):=aa.z h (decide_eq_false hp)
theorem hY.of {p:Prop} [Decidable p] {k:V→Prop} (h:hY p k) {b:Bool} (hb:b=decide p):k (.bool b):=by
 subst hb
 by_cases hp:p
 ·rw[decide_eq_true hp];exact h.y hp
 ·rw[decide_eq_false hp];exact h.n hp
def Ph (op:BinOp) (kd:IntKind) (a:Int) (iK:IntKind) (b:Int) (k:V→Prop):Prop:=
 match op with
 | .shl=>0≤b∧k (.int kd (kd.wrap (a*2^min b.toNat kd.bits)))
 | .shr=>0≤b∧k (.int kd (a.fdiv (2^min b.toNat kd.bits)))
 | .quo=>(kd=iK∧b≠0)∧k (.int kd (kd.wrap (a.tdiv b)))
 | .rem=>(kd=iK∧b≠0)∧k (.int kd (a.tmod b))
 | .eql=>kd=iK∧hY (a=b) k
 | .neq=>kd=iK∧hY (a≠b) k
 | .lss=>kd=iK∧hY (a<b) k
 | .leq=>kd=iK∧hY (a≤b) k
 | .gtr=>kd=iK∧hY (a>b) k
 | .geq=>kd=iK∧hY (a≥b) k
 | op=>match mJ op kd a iK b with
  | some v=>k v
  | none=>False
theorem Ni {op:BinOp} {kd iK:IntKind} {a b:Int} {k:V→Prop} (h:Ph op kd a iK b k):∃v,mJ op kd a iK b=some v∧k v:=by
 cases op<;>first
  | (have h':0≤b∧_:=h
     refine⟨_,?_,h'.2⟩
     show(if b<0 then none else some _)=_
     rw[if_neg (by omega)])
  | (have h':(kd=iK∧b≠0)∧_:=h
     obtain⟨⟨rfl,hb⟩,hk⟩:=h'
     refine⟨_,?_,hk⟩
     show(if kd≠kd then none else if b=0 then none else some _)=_
     rw[if_neg (by simp),if_neg hb])
  | (have h':kd=iK∧hY (a=b) k:=h
     obtain⟨rfl,hk⟩:=h'
     exact⟨.bool (a==b),by show(if kd≠kd then none else some _)=_;rw[if_neg (by simp)],hk.of (by rw[Bool.eq_iff_iff];simp)⟩)
  | (have h':kd=iK∧hY (a≠b) k:=h
     obtain⟨rfl,hk⟩:=h'
     exact⟨.bool (a != b),by show(if kd≠kd then none else some _)=_;rw[if_neg (by simp)],hk.of (by rw[Bool.eq_iff_iff];simp)⟩)
  | (have h':kd=iK∧hY (a<b) k:=h
     obtain⟨rfl,hk⟩:=h'
     exact⟨.bool (decide (a<b)),by show(if kd≠kd then none else some _)=_;rw[if_neg (by simp)],hk.of rfl⟩)
  | (have h':kd=iK∧hY (a≤b) k:=h
     obtain⟨rfl,hk⟩:=h'
     exact⟨.bool (decide (a≤b)),by show(if kd≠kd then none else some _)=_;rw[if_neg (by simp)],hk.of rfl⟩)
  | (have h':kd=iK∧hY (a>b) k:=h
     obtain⟨rfl,hk⟩:=h'
     exact⟨.bool (decide (a>b)),by show(if kd≠kd then none else some _)=_;rw[if_neg (by simp)],hk.of rfl⟩)
  | (have h':kd=iK∧hY (a≥b) k:=h
     obtain⟨rfl,hk⟩:=h'
     exact⟨.bool (decide (a≥b)),by show(if kd≠kd then none else some _)=_;rw[if_neg (by simp)],hk.of rfl⟩)
  | (revert h
     unfold Ph
     dsimp only
     cases mJ _ kd a iK b with
     | none=>exact fun h=>h.elim
     | some v=>exact fun h=>⟨v,rfl,h⟩)
def Pj (op:BinOp) (x y:List UInt8) (k:V→Prop):Prop:=
 match op with
 | .add=>x.length+y.length≤9223372036854775807∧k (.str (x++y))
 | .eql=>hY (x=y) k
 | .neq=>hY (x≠y) k
 | op=>match mL op x y with
  | some v=>k v
  | none=>False
theorem Nj {op:BinOp} {x y:List UInt8} {k:V→Prop} (h:Pj op x y k):∃v,mL op x y=some v∧k v:=by
 cases op<;>first
  | (have h':x.length+y.length≤9223372036854775807∧_:=h
     exact⟨_,if_pos h'.1,h'.2⟩)
  | (have h':hY (x=y) k:=h
     exact⟨.bool (x==y),rfl,h'.of (by rw[Bool.eq_iff_iff];simp)⟩)
  | (have h':hY (x≠y) k:=h
     exact⟨.bool (!(x==y)),rfl,h'.of (by rw[Bool.eq_iff_iff];simp)⟩)
  | (revert h
     unfold Pj
     dsimp only
     cases mL _ x y with
     | none=>exact fun h=>h.elim
     | some v=>exact fun h=>⟨v,rfl,h⟩)
noncomputable def va (nX:TypeId→V→V→Prop→Prop→Prop) (P:Program) (xs ys:List V) (z:Prop) (fs:List Field):Prop→Prop:=
 List.rec (motive:=fun _=>Prop→Prop) (fun y=>y)
  (fun f _ ih y=>match f.name== "_",dX P f.type xs f.offset,dX P f.type ys f.offset with
   | false,some a,some b=>nX f.type a b (ih y) z
   | _,_,_=>False) fs
noncomputable def pA (P:Program) (nX:TypeId→V→V→Prop→Prop→Prop) (t:TypeId) (fs:List Field) (x v:V) (y z:Prop):Prop:=
 match P.stoodInHeld t with
 | true=>False
 | false=>match x with
  | .agg xs=>match v with
   | .agg ys=>va nX P xs ys z fs y
   | _=>False
  | _=>False
noncomputable def DK (P:Program) (nX:TypeId→V→V→Prop→Prop→Prop) (t:TypeId) (x v:V) (y z:Prop):Option TypeDesc→Prop
 | some .bool=>match x with
  | .bool a=>match v with
   | .bool b=>aa (a==b) y z
   | _=>False
  | _=>False
 | some (.int _)=>match x with
  | .int k a=>match v with
   | .int k' b=>k=k'∧aa (decide (a=b)) y z
   | _=>False
  | _=>False
 | some .string=>match x with
  | .str a=>match v with
   | .str b=>aa (decide (a=b)) y z
   | _=>False
  | _=>False
 | some (.struct fs)=>pA P nX t fs.toList x v y z
 | _=>False
noncomputable def rD (P:Program) (d:Nat):TypeId→V→V→Prop→Prop→Prop:=
 Nat.rec (motive:=fun _=>TypeId→V→V→Prop→Prop→Prop) (fun _ _ _ _ _=>False) (fun _ ih t x v y z=>DK P ih t x v y z (P.underlying t)) d
def jS (b:Option Bool) (y z:Prop):Prop:=(b=some true∧y)∨(b=some false∧z)
theorem jS.of {b:Bool} {y z:Prop} (h:aa b y z):jS (some b) y z:=by
 cases b with
 | true=>exact .inl ⟨rfl,h⟩
 | false=>exact .inr ⟨rfl,h⟩
theorem mo {nX:TypeId→V→V→Prop→Prop→Prop} {eq:TypeId→V→V→Option Bool} (h:∀t x v y z,nX t x v y z→jS (eq t x v) y z) {xs ys:List V} {z:Prop}:∀ {fs:List Field} {y:Prop},va nX P xs ys z fs y→jS (pc P eq xs ys fs) y z
 | [],y,hy=>.inl ⟨rfl,hy⟩
 | f::fs,y,hy=>by
  have yI:(match f.name== "_",dX P f.type xs f.offset,dX P f.type ys f.offset with
   | false,some a,some b=>nX f.type a b (va nX P xs ys z fs y) z
   | _,_,_=>False):=hy
  show jS (match f.name== "_",dX P f.type xs f.offset,dX P f.type ys f.offset with
   | false,some a,some b=>match eq f.type a b with
    | some true=>pc P eq xs ys fs
    | some false=>some false
    | none=>none
   | _,_,_=>none) y z
  revert yI
  cases f.name== "_" with
  | true=>exact fun h=>h.elim
  | false=>cases dX P f.type xs f.offset with
   | none=>exact fun h=>h.elim
   | some a=>cases dX P f.type ys f.offset with
    | none=>exact fun h=>h.elim
    | some b=>
     intro yI
     dsimp only
     rcases h _ _ _ _ _ yI with ⟨e,hr⟩ | ⟨e,hr⟩
     ·rw[e];exact mo h hr
     ·rw[e];exact .inr ⟨rfl,hr⟩
theorem og:∀(d:Nat) (t:TypeId) (x v:V) (y z:Prop),rD P d t x v y z→jS (kO P d t x v) y z
 | 0,_,_,_,_,_,h=>h.elim
 | d+1,t,x,v,y,z,h=>by
  have h':DK P (rD P d) t x v y z (P.underlying t):=h
  show jS (vS P (kO P d) t x v (P.underlying t)) y z
  revert h'
  cases P.underlying t with
  | none=>exact fun h=>h.elim
  | some u=>cases u with
   | bool=>cases x with
    | bool a=>cases v with
     | bool b=>exact fun h=>.of h
     | _=>exact fun h=>h.elim
    | _=>exact fun h=>h.elim
   | int i=>cases x with
    | int k a=>cases v with
     | int k' b=>
      intro h0
      obtain⟨rfl,h1⟩:=(show k=k'∧aa (decide (a=b)) y z from h0)
      show jS (if k=k then some (a==b) else none) y z
      rw[if_pos rfl,show(a==b)=decide (a=b) by rw[Bool.eq_iff_iff];simp]
      exact .of h1
     | _=>exact fun h=>h.elim
    | _=>exact fun h=>h.elim
   | string=>cases x with
    | str a=>cases v with
     | str b=>
      intro h
      show jS (some (a==b)) y z
      rw[show(a==b)=decide (a=b) by rw[Bool.eq_iff_iff];simp]
      exact .of h
     | _=>exact fun h=>h.elim
    | _=>exact fun h=>h.elim
   | struct fs=>
    intro h
    have h':pA P (rD P d) t fs.toList x v y z:=h
    show jS (iT P (kO P d) t fs.toList x v) y z
    unfold pA at h'
    unfold iT
    cases hs:P.stoodInHeld t with
    | true=>rw[hs] at h';exact h'.elim
    | false=>
     rw[hs] at h'
     cases x with
     | agg xs=>cases v with
      | agg ys=>exact mo (fun t x v y z=>og d t x v y z) h'
      | _=>exact h'.elim
     | _=>exact h'.elim
   | _=>exact fun h=>h.elim
noncomputable def xF (P:Program) (nX:TypeId→V→V→Prop→Prop→Prop) (e:TypeId) (sz:Nat) (xs ys:List V) (z:Prop) (n:Nat):Nat→Prop→Prop:=
 Nat.rec (motive:=fun _=>Nat→Prop→Prop) (fun _ y=>y)
  (fun _ ih i y=>match dX P e xs (Nat.mul i sz),dX P e ys (Nat.mul i sz) with
   | some a,some b=>nX e a b (ih (Nat.succ i) y) z
   | _,_=>False) n
theorem rE {nX:TypeId→V→V→Prop→Prop→Prop} {eq:TypeId→V→V→Option Bool} (h:∀t x v y z,nX t x v y z→jS (eq t x v) y z) {e:TypeId} {sz:Nat} {xs ys:List V} {z:Prop}:∀ {n i:Nat} {y:Prop},xF P nX e sz xs ys z n i y→jS (q3 P eq e sz xs ys n i) y z
 | 0,_,y,hy=>.inl ⟨rfl,hy⟩
 | n+1,i,y,hy=>by
  have yI:(match dX P e xs (Nat.mul i sz),dX P e ys (Nat.mul i sz) with
   | some a,some b=>nX e a b (xF P nX e sz xs ys z n (Nat.succ i) y) z
   | _,_=>False):=hy
  show jS (match dX P e xs (Nat.mul i sz),dX P e ys (Nat.mul i sz) with
   | some a,some b=>match eq e a b with
    | some true=>q3 P eq e sz xs ys n (Nat.succ i)
    | some false=>some false
    | none=>none
   | _,_=>none) y z
  revert yI
  cases dX P e xs (Nat.mul i sz) with
  | none=>exact fun h=>h.elim
  | some a=>cases dX P e ys (Nat.mul i sz) with
   | none=>exact fun h=>h.elim
   | some b=>
    intro yI
    dsimp only
    rcases h _ _ _ _ _ yI with ⟨e',hr⟩ | ⟨e',hr⟩
    ·rw[e'];exact rE h hr
    ·rw[e'];exact .inr ⟨rfl,hr⟩
noncomputable def qm (P:Program) (σ:St) (t:TypeId) (xs ys:List V) (y z:V) (k:ai):Prop:=
 match P.underlying t with
 | some (.struct fs)=>match P.eqGuardType P.depth t with
  | false=>pA P (rD P eY) t fs.toList (.agg xs) (.agg ys) (k y σ) (k z σ)
  | true=>False
 | some (.array n e)=>match P.eqGuardType P.depth t,bQ P e with
  | false,some sz=>xF P (rD P eY) e sz xs ys (k z σ) n 0 (k y σ)
  | _,_=>False
 | _=>False
theorem qn {σ:St} {t:TypeId} {lit:Bool} {xs ys:List V} {y z:V} {k:ai} (h:qm P σ t xs ys y z k):jS (evalEq P σ t lit (.agg xs) (.agg ys)) (k y σ) (k z σ):=by
 unfold qm at h
 unfold evalEq vT
 split at h
 ·rename_i fs hu
  rw[hu]
  dsimp only
  split at h
  ·rename_i hg
   rw[hg]
   dsimp only
   unfold pA at h
   unfold iT
   cases hs:P.stoodInHeld t with
   | true=>rw[hs] at h;exact h.elim
   | false=>rw[hs] at h;exact mo (fun t x v y z=>og _ t x v y z) h
  ·exact h.elim
 ·rename_i n e hu
  rw[hu]
  dsimp only
  unfold ku
  split at h
  ·rename_i sz hg hz
   rw[hg,hz]
   exact rE (fun t x v y z=>og _ t x v y z) h
  ·exact h.elim
 ·exact h.elim
def SS (a b:Nat):Bool:=FloatKind.f64.format.order a b==some .eq
def BL (a b:Nat):Bool:=FloatKind.f64.format.order a b==some .lt
def yJ (a b:Nat):Bool:=FloatKind.f64.format.order a b==some .gt||FloatKind.f64.format.order a b==some .eq
def Xg (op:BinOp) (k:FloatKind) (a:Nat) (k':FloatKind) (b:Nat) (c:V→Prop):Prop:=
 match k,k',op with
 | .f64,.f64,.eql=>aa (SS a b) (c (.bool true)) (c (.bool false))
 | .f64,.f64,.neq=>aa (FloatKind.f64.format.order a b != some .eq) (c (.bool true)) (c (.bool false))
 | .f64,.f64,.lss=>aa (BL a b) (c (.bool true)) (c (.bool false))
 | .f64,.f64,.geq=>aa (yJ a b) (c (.bool true)) (c (.bool false))
 | _,_,_=>False
theorem Nk {op:BinOp} {k k':FloatKind} {a b:Nat} {c:V→Prop} (h:Xg op k a k' b c):∃v,q4 op k a k' b=some v∧c v:=by
 cases k<;>cases k'<;>cases op<;>first | exact h.elim | skip
 ·refine⟨_,rfl,?_⟩
  cases he:SS a b
  ·have:=aa.z h he;unfold SS at he;rw[he];exact this
  ·have:=aa.y h he;unfold SS at he;rw[he];exact this
 ·refine⟨_,rfl,?_⟩
  cases he:FloatKind.f64.format.order a b != some .eq
  ·exact aa.z h he
  ·exact aa.y h he
 ·refine⟨_,rfl,?_⟩
  cases he:BL a b
  ·have:=aa.z h he;unfold BL at he;rw[he];exact this
  ·have:=aa.y h he;unfold BL at he;rw[he];exact this
 ·refine⟨_,rfl,?_⟩
  cases he:yJ a b
  ·have:=aa.z h he;unfold yJ at he;rw[he];exact this
  ·have:=aa.y h he;unfold yJ at he;rw[he];exact this
noncomputable def Pk (P:Program) (σ:St) (op:BinOp) (t:TypeId) (lit:Bool) (x y:V) (k:ai):Prop:=
 match x,y with
 | .dQ kd a,.dQ iK b=>Xg op kd a iK b fun v=>k v σ
 | .int kd a,.int iK b=>Ph op kd a iK b fun v=>k v σ
 | .str a,.str b=>Pj op a b fun v=>k v σ
 | .agg xs,.agg ys=>match op with
  | .eql=>qm P σ t xs ys (.bool true) (.bool false) k
  | .neq=>qm P σ t xs ys (.bool false) (.bool true) k
  | _=>False
 | x,y=>dx (vV P σ op t lit x y) k
theorem Ku {σ:St} {op:BinOp} {t:TypeId} {lit:Bool} {x y:V} {k:ai} (h:Pk P σ op t lit x y k):(vV P σ op t lit x y).Holds (sJ k):=by
 unfold Pk at h
 split at h
 ·rename_i kd a iK b
  obtain⟨v,hv,hk⟩:=Nk h
  show(aV σ "binOp" (q4 op kd a iK b)).Holds _
  rw[hv];exact hk
 ·rename_i kd a iK b
  obtain⟨v,hv,hk⟩:=Ni h
  show(aV σ "binOp" (mJ op kd a iK b)).Holds _
  rw[hv];exact hk
 ·rename_i a b
  obtain⟨v,hv,hk⟩:=Nj h
  show(aV σ "binOp" (mL op a b)).Holds _
  rw[hv];exact hk
 ·rename_i xs ys
  split at h
  ·show(aV σ "binOp" ((evalEq P σ t lit (.agg xs) (.agg ys)).map .bool)).Holds _
   rcases qn (lit:=lit) h with ⟨e,hk⟩ | ⟨e,hk⟩
   ·rw[e];exact hk
   ·rw[e];exact hk
  ·show(aV σ "binOp" ((evalEq P σ t lit (.agg xs) (.agg ys)).map fun b=>.bool !b)).Holds _
   rcases qn (lit:=lit) h with ⟨e,hk⟩ | ⟨e,hk⟩
   ·rw[e];exact hk
   ·rw[e];exact hk
  ·exact h.elim
 ·exact h.holds
noncomputable def Kv (P:Program) (t:TypeId) (n:Nat) (esz:Nat) (i:Int) (k:Prop):Prop:=
 match gU P t with
 | some e=>match bQ P e with
  | some sz=>match Nat.beq sz esz&& !Nat.beq sz 0 with
   | true=>(0≤i∧i<n)∧k
   | false=>False
  | none=>False
 | none=>False
theorem yK {t:TypeId} {n esz:Nat} {i:Int} {k:Prop} (h:Kv P t n esz i k):∃e sz,gU P t=some e∧bQ P e=some sz∧(0≤i∧i<n∧sz=esz∧sz≠0)∧k:=by
 unfold Kv at h
 cases he:gU P t with
 | none=>rw[he] at h;exact h.elim
 | some e=>
  rw[he] at h
  dsimp only at h
  cases bl:bQ P e with
  | none=>rw[bl] at h;exact h.elim
  | some sz=>
   rw[bl] at h
   dsimp only at h
   cases hb:Nat.beq sz esz&& !Nat.beq sz 0 with
   | false=>rw[hb] at h;exact h.elim
   | true=>
    rw[hb] at h
    rw[Bool.and_eq_true] at hb
    have h2:sz≠0:=fun e=>by subst e;simp at hb
    exact⟨e,sz,rfl,bl,⟨h.1.1,h.1.2,Nat.eq_of_beq_eq_true hb.1,h2⟩,h.2⟩
noncomputable def sK (P:Program) (σ:St) (t:TypeId) (x ix:V) (k:ai):Prop:=
 match x,ix with
 | .arr n f esz _ _,.int _ i=>Kv P t n esz i (k (.aQ (f i.toNat).cells 0) σ)
 | .own b n esz,.int _ i=>Kv P t n esz i (k (.fF b i.toNat esz 0) σ)
 | x,ix=>dx (jI P σ t x ix) k
theorem xG {σ:St} {t:TypeId} {x ix:V} {k:ai} (h:sK P σ t x ix k):dx (jI P σ t x ix) k:=by
 unfold sK at h
 split at h
 ·obtain⟨e,sz,he,bl,hc,hk⟩:=yK h
  refine dx.mk' (v:=_) (σ:=_) ?_ hk
  show jY ..=_
  unfold jY
  rw[he];dsimp only;rw[bl];dsimp only;rw[if_pos hc]
 ·obtain⟨e,sz,he,bl,hc,hk⟩:=yK h
  refine dx.mk' (v:=_) (σ:=_) ?_ hk
  show jZ ..=_
  unfold jZ
  rw[he];dsimp only;rw[bl];dsimp only;rw[if_pos hc]
 ·exact h
noncomputable def bu (s:List UInt8) (i:Int):Int:=
 match nth s i.toNat with
 | some c=>c.toNat
 | none=>0
noncomputable def vb (P:Program) (σ:St) (t:TypeId) (s:List UInt8) (i:Int) (k:ai):Prop:=
 match P.underlying t with
 | some .string=>(0≤i∧i<(len s:Nat))∧k (.int .u8 (bu s i)) σ
 | _=>False
theorem yL {σ:St} {t:TypeId} {s:List UInt8} {i:Int} {k:ai} (h:vb P σ t s i k):dx (l5 P σ t s i) k:=by
 unfold vb at h
 unfold l5
 split at h
 ·rename_i hu
  obtain⟨⟨h1,h2⟩,hk⟩:=h
  rw[aO] at h2
  have hn:nth s i.toNat=some (s[i.toNat]'(by omega)):=by rw[dG];exact List.getElem?_eq_getElem _
  unfold bu at hk
  rw[hn] at hk
  rw[hu]
  dsimp only
  rw[if_pos h1,hn]
  exact hk
 ·exact h.elim
noncomputable def DL (P:Program) (σ:St) (t:TypeId) (x ix:V) (k:ai):Prop:=
 match x,ix with
 | .str s,.int _ i=>vb P σ t s i k
 | x,ix=>dx (o0 P σ t x ix) k
theorem DM {σ:St} {t:TypeId} {x ix:V} {k:ai} (h:DL P σ t x ix k):dx (o0 P σ t x ix) k:=by
 unfold DL at h
 split at h
 ·exact yL h
 ·exact h
def Cz (x:Option V) (k:V→Prop):Prop:=
 match x with
 | some v=>k v
 | none=>False
theorem Cz.h {x:Option V} {k:V→Prop} (h:Cz x k):∃v,x=some v∧k v:=by
 cases x with
 | none=>exact h.elim
 | some v=>exact⟨v,rfl,h⟩
noncomputable def DN (P:Program) (σ:St) (t:TypeId) (i esz off:Nat) (k:ai):Option b9→Prop
 | some (.row n f z _)=>match Nat.beq z esz with
  | true=>i<n∧(match se P t,bQ P t with
   | some true,some sz=>Cz (J4 (f i).cells off sz) fun v=>k v σ
   | some false,_=>Cz (nth (f i).cells off) fun v=>k v σ
   | _,_=>False)
  | false=>False
 | _=>False
noncomputable def Kw (P:Program) (σ:St) (t:TypeId) (v:V) (k:ai):Prop:=
 match v with
 | .fF b i esz off=>DN P σ t i esz off k (σ.heap.get b)
 | v=>dx (ph P σ t v) k
theorem Gy {σ:St} {t:TypeId} {v:V} {k:ai} (h:Kw P σ t v k):dx (ph P σ t v) k:=by
 unfold Kw at h
 split at h
 ·rename_i b i esz off
  unfold DN at h
  split at h
  ·rename_i n f z p hb
   split at h
   ·rename_i hz
    have hz:=Nat.eq_of_beq_eq_true hz
    obtain⟨hi,h⟩:=h
    have he:σ.jl b i esz=some (f i).cells:=by
     unfold St.jl
     rw[hb]
     exact if_pos ⟨hi,hz⟩
    show dx (aV σ "load" (et P σ t (.fF b i esz off))) k
    unfold et
    split at h
    ·rename_i sz gm bl
     obtain⟨u,hu,hk⟩:=h.h
     rw[gm,bl]
     dsimp only
     rw[he,Option.bind_some,hu]
     exact hk
    ·rename_i gm
     obtain⟨u,hu,hk⟩:=h.h
     rw[gm]
     dsimp only
     rw[he,Option.bind_some,hu]
     exact hk
    ·exact h.elim
   ·exact h.elim
  ·exact h.elim
 ·exact h
noncomputable def BM (P:Program) (σ:St) (t:TypeId) (v:V) (b i esz off:Nat) (k:ai):Option b9→Prop
 | some (.row n f z p)=>match bQ P t with
  | some sz=>match Nat.beq (len v.cells) sz&&(Nat.beq z esz&&(Nat.ble (Nat.add off (len v.cells)) esz&&iM V.scalar v.cells)) with
   | true=>i<n∧k dg (σ.set b (.row n (eV f i (rb (f i) esz off v)) z p))
   | false=>False
  | none=>False
 | _=>False
noncomputable def DO (P:Program) (σ:St) (t:TypeId) (v u:V) (k:ai):Prop:=
 match u with
 | .fF b i esz off=>BM P σ t v b i esz off k (σ.heap.get b)
 | u=>dx (oZ P σ t v u) k
theorem DP {σ:St} {t:TypeId} {v u:V} {k:ai} (h:DO P σ t v u k):dx (oZ P σ t v u) k:=by
 unfold DO at h
 split at h
 ·rename_i b i esz off
  unfold BM at h
  split at h
  ·rename_i n f z p hb
   split at h
   ·rename_i sz bl
    split at h
    ·rename_i hc
     rw[Bool.and_eq_true,Bool.and_eq_true] at hc
     obtain⟨c1,c2,c3⟩:=hc
     have c1:=Nat.eq_of_beq_eq_true c1
     have c2:=Nat.eq_of_beq_eq_true c2
     subst c2
     obtain⟨hi,hk⟩:=h
     refine dx.mk' (v:=_) (σ:=_) ?_ hk
     unfold oZ
     dsimp only
     rw[bl]
     dsimp only
     rw[if_pos c1]
     have:σ.jW b i z off v=some (σ.set b (.row n (eV f i (rb (f i) z off v)) z p)):=by
      unfold St.jW
      rw[hb]
      dsimp only
      rw[if_pos ⟨hi,rfl⟩,c3]
     rw[this];rfl
    ·exact h.elim
   ·exact h.elim
  ·exact h.elim
 ·exact h
def qN (d:Int):Option V→Option Int
 | none=>some d
 | some (.int _ i)=>some i
 | _=>none
noncomputable def BN (σ:St) (n:Nat) (f:Nat→V) (esz:Nat) (ex:Bool) (mx:Bool) (k:ai):Option Int→Option Int→Option Int→Prop
 | some l,some h,some m=>(0≤l∧l≤h∧h≤m∧m≤n)∧k (.arr (h.toNat-l.toNat) (fun i=>f (Nat.add l.toNat i)) esz ((mx||(ex&&Nat.beq h.toNat n))&&Nat.beq h.toNat m.toNat) false) σ
 | _,_,_=>False
def BO (σ:St) (s:List UInt8) (k:ai):Option Int→Option Int→Prop
 | some l,some h=>(0≤l∧l≤h∧h≤(len s:Nat))∧k (.str (cR l.toNat (cV s h.toNat))) σ
 | _,_=>False
noncomputable def pB (P:Program) (a:Act) (σ:St) (t:TypeId) (lo hi mx:Option Operand) (v:V) (k:ai):Prop:=
 match v with
 | .arr n f esz ex _=>match P.underlying t with
  | some (.slice e)=>match bQ P e with
   | some sz=>match Nat.beq sz esz&&(hi.isSome|| !mx.isSome) with
    | true=>match iU a lo,iU a hi,iU a mx with
     | some l,some h,some m=>BN σ n f esz ex m.isSome k (qN 0 l) (qN n h) (qN n m)
     | _,_,_=>False
    | false=>False
   | none=>False
  | _=>False
 | .str s=>match P.underlying t,mx with
  | some .string,none=>match iU a lo,iU a hi with
   | some l,some h=>BO σ s k (qN 0 l) (qN (len s) h)
   | _,_=>False
  | _,_=>False
 | v=>dx (fH P a σ t lo hi mx v) k
theorem w8 {a:Act} {x:Option Operand} {v:Option V} (h:iU a x=some v):v.isSome=x.isSome:=by
 cases x with
 | none=>cases h;rfl
 | some x=>
  have h':(a.eval x).map some=some v:=h
  rw[Option.map_eq_some_iff] at h'
  obtain⟨u,_,rfl⟩:=h';rfl
theorem iy {lo hi:Nat} {k:IntKind} {i:Int} (h1:(lo:Int)≤i) (h2:i≤hi):asNat lo hi (.int k i)=some i.toNat:=if_pos ⟨h1,h2⟩
theorem w9 {n:Nat} {l hh m:Option V} {L H M:Int} (e1:qN 0 l=some L) (e2:qN n hh=some H) (e3:qN n m=some M) (c:(hh.isSome|| !m.isSome)=true) (b1:0≤L) (b2:L≤H) (b3:H≤M) (b4:M≤n):
  bounds n n l hh m=some (L.toNat,H.toNat,M.toNat):=by
 have hl:∀ {d:Int} {o:Option V} {I:Int},qN d o=some I→(o=none∧I=d)∨∃k,o=some (.int k I):=by
  intro d o I h
  unfold qN at h
  split at h
  ·exact .inl ⟨rfl,(Option.some.inj h).symm⟩
  ·rename_i k i;cases h;exact .inr ⟨k,rfl⟩
  ·cases h
 rcases hl e3 with ⟨rfl,rfl⟩ | ⟨k3,rfl⟩
 ·rcases hl e2 with ⟨rfl,rfl⟩ | ⟨k2,rfl⟩
  ·rcases hl e1 with ⟨rfl,rfl⟩ | ⟨k1,rfl⟩
   ·rfl
   ·unfold bounds
    dsimp only
    rw[iy (by omega) (by omega)];rfl
  ·rcases hl e1 with ⟨rfl,rfl⟩ | ⟨k1,rfl⟩
   ·unfold bounds
    dsimp only
    rw[iy (by omega) (by omega)];rfl
   ·unfold bounds
    dsimp only
    rw[iy (by omega) (by omega)]
    dsimp only
    rw[iy (by omega) (by omega)];rfl
 ·rcases hl e2 with ⟨rfl,rfl⟩ | ⟨k2,rfl⟩
  ·simp at c
  ·rcases hl e1 with ⟨rfl,rfl⟩ | ⟨k1,rfl⟩
   ·unfold bounds
    dsimp only
    rw[iy (by omega) (by omega)]
    dsimp only
    rw[iy (by omega) (by omega)];rfl
   ·unfold bounds
    dsimp only
    rw[iy (by omega) (by omega)]
    dsimp only
    rw[iy (by omega) (by omega)]
    dsimp only
    rw[iy (by omega) (by omega)]
theorem DQ {a:Act} {σ:St} {t:TypeId} {lo hi mx:Option Operand} {v:V} {k:ai} (h:pB P a σ t lo hi mx v k):dx (fH P a σ t lo hi mx v) k:=by
 unfold pB at h
 split at h
 ·rename_i n f esz ex nn
  split at h
  ·rename_i e hu
   split at h
   ·rename_i sz bl
    split at h
    ·rename_i hc
     rw[Bool.and_eq_true] at hc
     obtain⟨c1,c2⟩:=hc
     have c1:=Nat.eq_of_beq_eq_true c1
     subst c1
     split at h
     ·rename_i l hh m h1 h2 h3
      have s2:=w8 h2
      have s3:=w8 h3
      unfold BN at h
      split at h
      ·rename_i L H M e1 e2 e3
       obtain⟨⟨b1,b2,b3,b4⟩,hk⟩:=h
       refine dx.mk' (v:=_) (σ:=_) ?_ hk
       unfold fH
       rw[h1,h2,h3]
       dsimp only
       have ha:jX P t=none:=by unfold jX;rw[hu]
       rw[ha]
       dsimp only
       have DI:=w9 e1 e2 e3 (by rw[s2,s3];exact c2) b1 b2 b3 b4
       unfold nL
       rw[hu]
       dsimp only
       rw[bl,DI]
       dsimp only
       rw[if_neg (by simp)]
       rfl
      ·exact h.elim
     ·exact h.elim
    ·exact h.elim
   ·exact h.elim
  ·exact h.elim
 ·rename_i s
  split at h
  ·rename_i hu
   split at h
   ·rename_i l hh h1 h2
    unfold BO at h
    split at h
    ·rename_i L H e1 e2
     obtain⟨⟨b1,b2,b3⟩,hk⟩:=h
     refine dx.mk' (v:=_) (σ:=_) ?_ hk
     unfold fH
     rw[h1,h2,show iU a none=some none from rfl]
     dsimp only
     have ha:jX P t=none:=by unfold jX;rw[hu]
     rw[ha]
     dsimp only
     have DI:bounds (len s) (len s) l hh none=some (L.toNat,H.toNat,len s):=by
      have:=w9 (n:=len s) (m:=none) (M:=(len s:Nat)) e1 e2 rfl (by simp) b1 b2 b3 (Int.le_refl _)
      rw[this,Int.toNat_natCast]
     unfold nL
     rw[hu]
     dsimp only
     rw[DI,if_neg (by simp)]
     rfl
    ·exact h.elim
   ·exact h.elim
  ·exact h.elim
 ·exact h
noncomputable def sL (σ:St) (id sz dp m:Nat) (g:Nat→V) (k:ai):V→Prop
 | .aj=>aa (decide (m=0)) (k .aj σ) (m*dp≤1099511627776∧k (.own id m sz) (σ.new id (.row m g sz true)))
 | .arr n f esz true _=>match Nat.beq n 0&&Nat.beq sz esz with
  | true=>aa (decide (m=0)) (k (.arr n f esz true false) σ) (m*dp≤1099511627776∧k (.own id m sz) (σ.new id (.row m g sz true)))
  | false=>False
 | .slice b off n cap true esz=>match Nat.beq n 0&&(Nat.beq cap 0&&Nat.beq sz esz),σ.cells b off 0 with
  | true,some []=>aa (decide (m=0)) (k (.slice b off n cap true esz) σ) (m*dp≤1099511627776∧k (.own id m sz) (σ.new id (.row m g sz true)))
  | _,_=>False
 | _=>False
theorem xH {σ:St} {id sz dp m:Nat} {g:Nat→V} {k:ai} {s:V} (h:sL σ id sz dp m g k s):∃v σ',jc σ id sz dp m g s=some (v,σ')∧k v σ':=by
 unfold sL at h
 split at h
 ·by_cases hm:m=0
  ·exact⟨_,_,if_pos hm,aa.y h (decide_eq_true hm)⟩
  ·obtain⟨h1,h2⟩:=aa.z h (decide_eq_false hm)
   exact⟨_,_,by unfold jc;dsimp only;rw[if_neg hm,if_pos h1],h2⟩
 ·rename_i n f esz nn
  split at h
  ·rename_i hc
   rw[Bool.and_eq_true] at hc
   have c1:=Nat.eq_of_beq_eq_true hc.1
   have c2:=Nat.eq_of_beq_eq_true hc.2
   subst c1 c2
   by_cases hm:m=0
   ·exact⟨_,_,by unfold jc;dsimp only;rw[if_neg (by simp),if_pos hm],aa.y h (decide_eq_true hm)⟩
   ·obtain⟨h1,h2⟩:=aa.z h (decide_eq_false hm)
    exact⟨_,_,by unfold jc;dsimp only;rw[if_neg (by simp),if_neg hm,if_pos h1],h2⟩
  ·exact h.elim
 ·rename_i b off n cap esz
  split at h
  ·rename_i hc dI
   rw[Bool.and_eq_true,Bool.and_eq_true] at hc
   have c1:=Nat.eq_of_beq_eq_true hc.1
   have c2:=Nat.eq_of_beq_eq_true hc.2.1
   have c3:=Nat.eq_of_beq_eq_true hc.2.2
   subst c1 c2 c3
   by_cases hm:m=0
   ·exact⟨_,_,by unfold jc;dsimp only;rw[dI];dsimp only;rw[if_neg (by simp),if_pos hm],aa.y h (decide_eq_true hm)⟩
   ·obtain⟨h1,h2⟩:=aa.z h (decide_eq_false hm)
    exact⟨_,_,by unfold jc;dsimp only;rw[dI];dsimp only;rw[if_neg (by simp),if_neg hm,if_pos h1],h2⟩
  ·exact h.elim
 ·exact h.elim
noncomputable def G0 (P:Program) (σ:St) (id:Nat) (t t':TypeId) (m:Nat) (g:Nat→V) (esz:Nat) (s:V) (k:ai):Prop:=
 match intType P t' with
 | true=>False
 | false=>match P.underlying t with
  | some (.slice e)=>match bQ P e,jy P e,gY P e with
   | some sz,some dp,some z=>match Nat.beq sz 0||(Nat.beq dp 0||(!Nat.beq (len z.cells) sz|| !Nat.beq sz esz)) with
    | true=>False
    | false=>sL σ id sz dp m g k s
   | _,_,_=>False
  | _=>False
noncomputable def yM (σ:St) (id sz dp b n:Nat) (k:ai):Option (Nat×(Nat→V)×List V)→Option b9→Prop
 | some (m,g,new),some (.row n' f esz p)=>match Nat.beq esz sz&&(Nat.blt 0 m&&iM V.scalar new) with
  | true=>(n'=n∧(n+m)*dp≤1099511627776)∧k (.own id (n+m) sz) ((σ.kill b).new id (.row (n+m) (cw n f g) sz p))
  | false=>False
 | _,_=>False
noncomputable def sM (P:Program) (σ:St) (id:Nat) (t t':TypeId) (b n esz:Nat) (x:V) (k:ai):Prop:=
 match intType P t' with
 | true=>False
 | false=>match P.underlying t with
  | some (.slice e)=>match bQ P e,jy P e,gY P e with
   | some sz,some dp,some z=>match Nat.beq sz 0||(Nat.beq dp 0||(!Nat.beq (len z.cells) sz|| !Nat.beq sz esz)) with
    | true=>False
    | false=>yM σ id sz dp b n k (oneOf σ sz x) (σ.heap.get b)
   | _,_,_=>False
  | _=>False
theorem xI {σ:St} {id:Nat} {t t':TypeId} {tl:List TypeId} {b n esz:Nat} {x:V} {k:ai} (hx:∀m g e a c,x≠.arr m g e a c) (h:sM P σ id t t' b n esz x k):
  dx (ic P σ id .append (t::t'::tl) (some [.own b n esz,x])) k:=by
 unfold sM at h
 split at h
 ·exact h.elim
 ·rename_i hi
  split at h
  ·rename_i e hu
   split at h
   ·rename_i sz dp z h1 h2 h3
    split at h
    ·exact h.elim
    ·rename_i hc
     rw[Bool.or_eq_false_iff,Bool.or_eq_false_iff,Bool.or_eq_false_iff] at hc
     obtain⟨c1,c2,c3,c4⟩:=hc
     unfold yM at h
     split at h
     ·rename_i m g new n' f sC p afg hb
      split at h
      ·rename_i hs
       rw[Bool.and_eq_true,Bool.and_eq_true] at hs
       have yD:=Nat.eq_of_beq_eq_true hs.1
       have Nf:=hs.2.1
       rw[Nat.blt_eq] at Nf
       obtain⟨⟨rfl,dY⟩,hk⟩:=h
       refine dx.mk' (v:=_) (σ:=_) ?_ hk
       show bL.of "builtin" (match intType P t' with
        | true=>kP P σ id t t' (.own b n' esz) x
        | false=>jH P σ id t (.own b n' esz) x)=_
       rw[hi]
       have he:jH P σ id t (.own b n' esz) x=nN P σ id t b n' esz x:=by
        cases x with
        | arr m g e a c=>exact absurd rfl (hx m g e a c)
        | _=>rfl
       dsimp only
       rw[he]
       unfold nN
       rw[hu]
       dsimp only
       rw[h1,h2,h3]
       dsimp only
       have d:¬(sz=0∨dp=0∨len z.cells≠sz∨sz≠esz):=by
        rw[not_or,not_or,not_or]
        refine⟨fun e=>?_,fun e=>?_,fun e=>?_,fun e=>?_⟩
        ·subst e;simp at c1
        ·subst e;simp at c2
        ·simp only[Bool.not_eq_false'] at c3;exact e (Nat.eq_of_beq_eq_true c3)
        ·simp only[Bool.not_eq_false'] at c4;exact e (Nat.eq_of_beq_eq_true c4)
       rw[if_neg d,afg]
       dsimp only
       unfold uA
       rw[hb]
       dsimp only
       rw[if_pos ⟨rfl,yD,by omega,dY,hs.2.2⟩]
       rfl
      ·exact h.elim
     ·exact h.elim
   ·exact h.elim
  ·exact h.elim
noncomputable def xJ (P:Program) (σ:St) (id:Nat) (b:Builtin) (tys:List TypeId) (vs:Option (List V)) (k:ai):Prop:=
 match b,tys,vs with
 | .append,t::t'::_,some [s,.arr m g esz _ _]=>G0 P σ id t t' m g esz s k
 | .append,t::t'::_,some [.own b n esz,x]=>sM P σ id t t' b n esz x k
 | b,tys,vs=>dx (ic P σ id b tys vs) k
theorem z7 {σ:St} {id:Nat} {b:Builtin} {tys:List TypeId} {vs:Option (List V)} {k:ai} (h:xJ P σ id b tys vs k):dx (ic P σ id b tys vs) k:=by
 unfold xJ at h
 split at h
 ·rename_i t t' tl s m g esz ex nn
  unfold G0 at h
  split at h
  ·exact h.elim
  ·rename_i hi
   split at h
   ·rename_i e hu
    split at h
    ·rename_i sz dp z h1 h2 h3
     split at h
     ·exact h.elim
     ·rename_i hc
      rw[Bool.or_eq_false_iff,Bool.or_eq_false_iff,Bool.or_eq_false_iff] at hc
      obtain⟨c1,c2,c3,c4⟩:=hc
      obtain⟨v,σ',hr,hk⟩:=xH h
      refine dx.mk' (v:=v) (σ:=σ') ?_ hk
      show bL.of "builtin" (match intType P t' with
       | true=>kP P σ id t t' s (.arr m g esz ex nn)
       | false=>jH P σ id t s (.arr m g esz ex nn))=_
      rw[hi]
      show bL.of "builtin" (nM P σ id t m g esz s)=_
      unfold nM
      rw[hu]
      dsimp only
      rw[h1,h2,h3]
      dsimp only
      have d:¬(sz=0∨dp=0∨len z.cells≠sz∨sz≠esz):=by
       rw[not_or,not_or,not_or]
       refine⟨fun e=>?_,fun e=>?_,fun e=>?_,fun e=>?_⟩
       ·subst e;simp at c1
       ·subst e;simp at c2
       ·simp only[Bool.not_eq_false'] at c3;exact e (Nat.eq_of_beq_eq_true c3)
       ·simp only[Bool.not_eq_false'] at c4;exact e (Nat.eq_of_beq_eq_true c4)
      rw[if_neg d,hr];rfl
    ·exact h.elim
   ·exact h.elim
 ·rename_i bN
  exact xI (fun m g e a c he=>bN m g e a c he) h
 ·exact h
noncomputable def G1 (σ:St) (n:Nat) (k:ai):Option b9→Prop
 | some (.row n' f z _)=>match Nat.beq z 1 with
  | true=>n'=n∧∃s,ez (aw (cj n' f))=some s∧k (.str s) σ
  | false=>False
 | _=>False
def oh (b:Nat):Int:=match (FloatKind.f64.decode b).toInt .zero with | some n=>n | none=>0
def BP (b:Nat) (k:IntKind):Prop:=(FloatKind.f64.decode b).toInt .zero=some (oh b)∧k.min≤oh b∧oh b≤k.max
noncomputable def Kx (P:Program) (σ:St) (id:Nat) (src dst:TypeId) (v:V) (k:ai):Prop:=
 match v with
 | .dQ .f64 b=>match P.underlying src,P.underlying dst with
  | some (.float _),some (.int kd)=>BP b kd∧k (.int kd (oh b)) σ
  | _,_=>False
 | .str s=>match P.underlying src,P.underlying dst with
  | some .string,some (.slice e)=>match P.underlying e with
   | some (.int .u8)=>match bQ P e,jy P e with
    | some 1,some 1=>len s≤1099511627776∧k (.own id (len s) 1) (σ.new id (.row (len s) (dE s) 1 false))
    | _,_=>False
   | _=>False
  | some .string,some .string=>k (.str s) σ
  | _,_=>False
 | .own b n _=>match P.underlying src,P.underlying dst with
  | some (.slice e),some .string=>match P.underlying e with
   | some (.int .u8)=>G1 σ n k (σ.heap.get b)
   | _=>False
  | _,_=>False
 | v=>dx (dh P σ id src dst v) k
theorem Gz {σ:St} {id:Nat} {src dst:TypeId} {v:V} {k:ai} (h:Kx P σ id src dst v k):dx (dh P σ id src dst v) k:=by
 unfold Kx at h
 split at h
 ·rename_i b
  split at h
  ·rename_i q kd hs hd
   refine dx.mk' (v:=_) (σ:=_) ?_ h.2
   unfold dh evalConv
   rw[hs,hd]
   dsimp only
   rw[h.1.1]
   dsimp only
   rw[if_pos h.1.2]
   rfl
  ·exact h.elim
 ·rename_i s
  split at h
  ·rename_i e hs hd
   split at h
   ·rename_i he
    split at h
    ·rename_i h1 h2
     refine dx.mk' (v:=_) (σ:=_) ?_ h.2
     unfold dh evalConv
     rw[hs,hd]
     dsimp only
     rw[he]
     dsimp only
     rw[if_pos ⟨h1,h2,h.1⟩]
     rfl
    ·exact h.elim
   ·exact h.elim
  ·rename_i hs hd
   refine dx.mk' (v:=_) (σ:=_) ?_ h
   unfold dh evalConv
   rw[hs,hd]
   rfl
  ·exact h.elim
 ·rename_i b n esz
  split at h
  ·rename_i e hs hd
   split at h
   ·rename_i he
    unfold G1 at h
    split at h
    ·rename_i n' f z p hb
     split at h
     ·rename_i hz
      obtain⟨rfl,s,h1,hk⟩:=h
      refine dx.mk' (v:=_) (σ:=_) ?_ hk
      unfold dh evalConv
      rw[hs,hd]
      dsimp only
      rw[he]
      dsimp only
      rw[hb]
      dsimp only
      rw[if_pos ⟨rfl,Nat.eq_of_beq_eq_true hz⟩,h1]
      rfl
     ·exact h.elim
    ·exact h.elim
   ·exact h.elim
  ·exact h.elim
 ·exact h
noncomputable def xa (σ:St) (id sz dp:Nat) (z:List V) (n m:Int) (k:ai):Prop:=
 match !Nat.beq sz 0&&(Nat.beq (len z) sz&&iM V.scalar z) with
 | true=>(0≤n∧n≤m∧m.toNat*dp≤1099511627776∧m≤1099511627776)∧k (.slice id 0 n.toNat m.toNat true sz) (newRow σ id (m.toNat*sz) z .leaf true)
 | false=>False
noncomputable def sN (P:Program) (σ:St) (id:Nat) (t:TypeId) (v u:V) (k:ai):Prop:=
 match v,u with
 | .int _ n,.int _ m=>match gU P t with
  | some e=>match bQ P e,jy P e,gY P e with
   | some sz,some dp,some z=>xa σ id sz dp z.cells n m k
   | _,_,_=>False
  | none=>False
 | v,u=>dx (gI P σ id t v u) k
theorem xK {σ:St} {id:Nat} {t:TypeId} {v u:V} {k:ai} (h:sN P σ id t v u k):dx (gI P σ id t v u) k:=by
 unfold sN at h
 split at h
 ·rename_i k1 n k2 m
  split at h
  ·rename_i e he
   split at h
   ·rename_i sz dp z h1 h2 h3
    unfold xa at h
    split at h
    ·rename_i hb
     rw[Bool.and_eq_true,Bool.and_eq_true] at hb
     obtain⟨b1,b2,b3⟩:=hb
     obtain⟨⟨c1,c2,c3,c4⟩,hk⟩:=h
     refine dx.mk' (v:=_) (σ:=_) ?_ hk
     unfold gI
     dsimp only
     rw[he]
     dsimp only
     rw[h1,h2,h3]
     dsimp only
     unfold l4
     rw[if_pos ⟨c1,c2,c3,c4,fun e=>by subst e;simp at b1,Nat.eq_of_beq_eq_true b2,b3⟩]
    ·exact h.elim
   ·exact h.elim
  ·exact h.elim
 ·exact h
noncomputable def SU (a:Act) (σ:St) (x y:Operand) (k:ai):V→Prop
 | .bool b=>aa b (fL (a.eval x) fun v=>k v σ) (fL (a.eval y) fun v=>k v σ)
 | _=>False
theorem GA {a:Act} {σ:St} {x y:Operand} {k:ai} {v:V} (h:SU a σ x y k v):(nO a σ x y v).Holds (sJ k):=by
 cases v with
 | bool b=>
  have h':aa b (fL (a.eval x) fun v=>k v σ) (fL (a.eval y) fun v=>k v σ):=h
  have go:∀o:Option V,fL o (fun v=>k v σ)→(aV σ "pick" o:VS).Holds (sJ k):=by
   intro o ho
   cases o with
   | none=>exact ho.elim
   | some v=>exact ho
  cases b with
  | true=>exact go _ (aa.y h' rfl)
  | false=>exact go _ (aa.z h' rfl)
 | _=>exact h.elim
noncomputable def Xh (P:Program) (o:Op) (a:Act) (σ:St) (id:Nat) (k:ai):Prop:=
 match o with
 | .load t x=>fL (a.eval x) fun v=>Kw P σ t v k
 | .pick c x y=>fL (a.eval c) fun v=>SU a σ x y k v
 | .store t x y=>ml (a.eval y) (a.eval x) fun v p=>DO P σ t v p k
 | .binOp op t x y _=>ml (a.eval x) (a.eval y) fun v u=>Pk P σ op t (isConst x||isConst y) v u k
 | .convert s d x=>fL (a.eval x) fun v=>Kx P σ id s d v k
 | .makeSlice t l c=>ml (a.eval l) (a.eval c) fun v u=>sN P σ id t v u k
 | .slice t x lo hi mx=>fL (a.eval x) fun v=>pB P a σ t lo hi mx v k
 | .indexAddr t x ix=>ml (a.eval x) (a.eval ix) fun v u=>sK P σ t v u k
 | .index t x ix=>ml (a.eval x) (a.eval ix) fun v u=>DL P σ t v u k
 | .box _ x=>fL (a.eval x) fun v=>dx (yc σ id v) k
 | .field t x f=>fL (a.eval x) fun v=>dx (re P σ t f v) k
 | .fieldAddr t x f=>fL (a.eval x) fun v=>dx (kQ P σ t f v) k
 | .build t ps=>dx (mO P σ t (a.parts ps.toList)) k
 | .buildSlice t n ps=>dx (fV P σ id t n (a.parts ps.toList)) k
 | .alloc e=>dx (o4 P σ id e) k
 | .typeAssert x _ t ok=>fL (a.eval x) fun v=>dx (xw P σ t ok v) k
 | .makeInterface t x=>fL (a.eval x) fun v=>dx (ib P σ t v) k
 | o=>((mH P o).f a σ id).Holds (sJ k)
theorem Nl {o:Op} {a:Act} {σ:St} {id:Nat} {k:ai} (h:Xh P o a σ id k):((mH P o).f a σ id).Holds (sJ k):=by
 cases o with
 | convert s d x=>exact gC (fL.mono h fun _ hv=>(Gz hv).holds)
 | slice t x lo hi mx=>exact gC (fL.mono h fun _ hv=>(DQ hv).holds)
 | box e x=>exact gC (fL.mono h fun _ hv=>hv.holds)
 | field t x f=>exact gC (fL.mono h fun _ hv=>hv.holds)
 | fieldAddr t x f=>exact gC (fL.mono h fun _ hv=>hv.holds)
 | typeAssert x _ t ok=>exact gC (fL.mono h fun _ hv=>hv.holds)
 | makeInterface t x=>exact gC (fL.mono h fun _ hv=>hv.holds)
 | load t x=>exact gC (fL.mono h fun _ hv=>(Gy hv).holds)
 | pick c x y=>exact gC (fL.mono h fun _ hv=>GA hv)
 | store t x y=>exact mn (ml.mono h fun _ _ hv=>(DP hv).holds)
 | makeSlice t l c=>exact mn (ml.mono h fun _ _ hv=>(xK hv).holds)
 | indexAddr t x ix=>exact mn (ml.mono h fun _ _ hv=>(xG hv).holds)
 | index t x ix=>exact mn (ml.mono h fun _ _ hv=>(DM hv).holds)
 | binOp op t x y _=>exact mn (ml.mono h fun _ _ hv=>Ku hv)
 | build t ps=>exact dx.holds h
 | buildSlice t n ps=>exact dx.holds h
 | alloc e=>exact dx.holds h
 | _=>exact h
abbrev wg:=V→Act→St→Prop
def kC (k:wg):V×Act×St→Prop
 | (v,a,σ)=>k v a σ
theorem bL.Holds.fI {a:Act} {r:VS} {k:wg} (h:r.Holds (sJ fun v σ=>k v a σ)):(r.bind (fI a)).Holds (kC k):=
 bL.Holds.fQ (h.mono fun⟨_,_⟩ hx=>hx)
noncomputable def Pl {α:Type} (l:List α):(List α→Prop)→Prop:=
 List.rec (motive:=fun _=>(List α→Prop)→Prop) (fun k=>k []) (fun x _ ih k=>ih fun l=>k (x::l)) l
theorem Uj {α:Type} (l:List α) (k:List α→Prop):Pl l k=k l:=by
 induction l generalizing k with
 | nil=>rfl
 | cons x l ih=>exact ih _
noncomputable def Ky {α:Type} (l:List (List α)):(List (List α)→Prop)→Prop:=
 List.rec (motive:=fun _=>(List (List α)→Prop)→Prop) (fun k=>k []) (fun x _ ih k=>Pl x fun x=>ih fun l=>k (x::l)) l
theorem Uk {α:Type} (l:List (List α)) (k:List (List α)→Prop):Ky l k=k l:=by
 induction l generalizing k with
 | nil=>rfl
 | cons x l ih=>
  show Pl x (fun x=>Ky l fun l=>k (x::l))=_
  rw[Uj,ih]
noncomputable def z8 (dst:Option Tmp) (k:Act→Prop) (a:Act) (v:V):Prop:=
 match dst with
 | some d=>match a with
  | ⟨t,s,ds⟩=>match Nat.blt d s with
   | true=>Ky (t.put d v) fun t=>k ⟨t,s,ds⟩
   | false=>False
 | none=>k a
def Aa (k:Act→St→Prop):Act×St→Prop
 | (a,σ)=>k a σ
theorem oQ {dst:Option Tmp} {a:Act} {v:V} {σ:St} {k:Act→St→Prop} (h:z8 dst (fun a=>k a σ) a v):(qG σ (a.put dst v)).Holds (Aa k):=by
 cases dst with
 | none=>exact h
 | some d=>
  obtain⟨t,s,ds⟩:=a
  have h':match Nat.blt d s with
   | true=>Ky (t.put d v) fun t=>k ⟨t,s,ds⟩ σ
   | false=>False:=h
  show(qG σ (match Nat.blt d s with
   | true=>some ⟨t.put d v,s,ds⟩
   | false=>none)).Holds (Aa k)
  revert h'
  cases Nat.blt d s with
  | true=>intro h;rw[Uk] at h;exact h
  | false=>exact fun h=>h.elim
def Kz (b:Nat) (c:Bool) (k:Prop):Prop:=
 match b with
 | 0=>k
 | _+1=>aa c k False
def DR (Q:ai) (σ:St):Option (List V)→Prop
 | some l=>Q (so l) σ
 | none=>False
end
end Go.Ev
end
section
namespace Go.Ev
open Go Go.RowKit
def start:St:={heap:=.leaf,next:=0}
def DS:Out×St→Bool
 | (.val (.bool b),_)=>b
 | _=>false
end Go.Ev
end
section
namespace Go.Ev
open Go Go.RowKit
theorem DT {P:Program} {w:World} {r:Reach} {base:Nat} {t:TypeId} {v:Value} (h:Cell.okWide P w r base t v):v.oneCell'=true:=by
 unfold Cell.okWide at h
 split at h<;>first
  | rfl
  | (unfold Cell.ok at h;split at h<;>first | rfl | exact h.elim)
def qo (P:Program) (t:TypeId):Bool:=
 match P.underlying t with
 | some (.int .i64)=>true
 | _=>false
def mq (P:Program) (t:TypeId):Bool×List Bool:=
 match P.underlying t with
 | some (.struct _) | some (.array _ _)=>(true,(List.range (P.cellsOf t)).map fun i=>match P.cellTypes P.depth t with
  | some ts=>match ts[i%ts.length]? with
   | some u=>qo P u
   | none=>false
  | none=>false)
 | _=>(false,[qo P t])
def DU (f:Bool) (x:Value):Prop:=x.oneCell'=true∧(f=true→∃n,x=.int .i64 n)
def mW:List Bool→List Value→Prop
 | [],[]=>True
 | f::fs,x::xs=>DU f x∧mW fs xs
 | _,_=>False
theorem mW.of:∀ {fs:List Bool} {xs:List Value},xs.length=fs.length→(∀(i:Nat) f x,fs[i]? =some f→xs[i]? =some x→DU f x)→mW fs xs
 | [],[],_,_=>trivial
 | f::fs,x::xs,hl,h=>⟨h 0 f x rfl rfl,mW.of (by simpa using hl) fun i f x hf hx=>h (i+1) f x (by simpa using hf) (by simpa using hx)⟩
theorem yN {P:Program} {w:World} {r:Reach} {base:Nat} {t:TypeId} {v:Value} (h:Cell.okWide P w r base t v):DU (qo P t) v:=by
 refine⟨DT h,fun hf=>?_⟩
 unfold qo at hf
 split at hf
 ·rename_i hu
  simp only[Cell.okWide,hu] at h
  cases v<;>simp_all [Cell.ok]
 ·cases hf
theorem Nn {P:Program} {w:World} {r:Reach} {base:Nat} {t:TypeId} {cs:List Value} (hs:cs.length=P.cellsOf t) (h:Row.okWide P w r base t ⟨cs⟩):
  mW ((List.range (P.cellsOf t)).map fun i=>match P.cellTypes P.depth t with
  | some ts=>match ts[i%ts.length]? with
   | some u=>qo P u
   | none=>false
  | none=>false) cs:=by
 obtain⟨ts,hts,_,hc⟩:=h
 refine .of (by simp [hs]) fun i f x hf hx=>?_
 have hi:=(List.getElem?_eq_some_iff.1 hx).1
 obtain⟨u,hu,cT⟩:=hc i x (by simpa using hx)
 rw[hs] at hi
 simp only[List.getElem?_map,List.getElem?_range hi,Option.map_some,Option.some.injEq,hts,hu] at hf
 subst hf
 exact yN cT
theorem qO {P:Program} {w:World} {r:Reach} {base:Nat} {t:TypeId} {v:Value} (h:Value.okWide P w r base t v):
  (∃cs,v=.agg ⟨cs⟩∧(mq P t).1=true∧mW (mq P t).2 cs∧Row.okWide P w r base t ⟨cs⟩)∨((mq P t).1=false∧mW (mq P t).2 [v]∧v.oneCell'=true∧Cell.okWide P w r base t v):=by
 unfold Value.okWide at h
 unfold mq
 split at h
 ·rename_i fs hu
  obtain⟨⟨cs⟩,rfl,hs,hr⟩:=h
  refine .inl ⟨cs,rfl,by rw[hu],?_,hr⟩
  rw[hu];exact Nn hs hr
 ·rename_i n e hu
  obtain⟨⟨cs⟩,rfl,hs,hr⟩:=h
  refine .inl ⟨cs,rfl,by rw[hu],?_,hr⟩
  rw[hu];exact Nn hs hr
 ·rename_i h1 h2
  have e:(match P.underlying t with
   | some (.struct _) | some (.array _ _)=>(true,(List.range (P.cellsOf t)).map fun i=>match P.cellTypes P.depth t with
    | some ts=>match ts[i%ts.length]? with
     | some u=>qo P u
     | none=>false
    | none=>false)
   | _=>(false,[qo P t]))=(false,[qo P t]):=by
   split
   ·rename_i fs hu;exact absurd hu (h1 fs)
   ·rename_i n e hu;exact absurd hu (h2 n e)
   ·rfl
  rw[e]
  exact .inr ⟨rfl,⟨yN h,trivial⟩,DT h,h⟩
def asInt:Value→Value
 | .int .i64 n=>.int .i64 n
 | _=>.int .i64 0
abbrev SX (cs:List Value) (h:∀x∈cs,x.oneCell'=true) (l:List (Nat×Nat×Value):=[]):Env:=⟨fun i=>if i<mM then cs.getD i (.bool true) else asInt (cs.getD (i-mM) (.bool true)),fun i=>by
 by_cases hi:i<mM
 ·rw[if_pos hi,List.getD_eq_getElem?_getD]
  cases hi:cs[i]? with
  | none=>rfl
  | some x=>exact h x (List.mem_of_getElem? hi)
 ·rw[if_neg hi]
  unfold asInt
  split<;>rfl,fun i hi=>by
 rw[if_neg (Nat.not_lt.2 hi)]
 unfold asInt
 split
 ·exact⟨_,rfl⟩
 ·exact⟨0,rfl⟩,l⟩
noncomputable def ab0 (k:Nat):Bool→V
 | true=>.any (Nat.add mM k)
 | false=>.any k
noncomputable def Pm:Nat→List Bool→List V
 | _,[]=>[]
 | k,f::fs=>ab0 k f::Pm (Nat.add k 1) fs
noncomputable def Ab:List (Bool×List Bool)→Nat→List V
 | [],_=>[]
 | (true,fs)::l,k=>.agg (Pm k fs)::Ab l (Nat.add k (len fs))
 | (false,fs)::l,k=>app (Pm k fs) (Ab l (Nat.add k (len fs)))
theorem ud {H:Type} {enc:TypeId×Value→H} {P:Program} (hl:laidOutB P=true) {W W':World} (hb:Below W.heap.size W W'):∀ {ts:List TypeId} {vs:List Value} {ds:List (DataW H)} {ps:List MemPlace},
  (∀t∈ts,P.readableRec t=true∧t<P.types.size)→DataW.TrodAll enc P W 0 (fun _=>true) true ts vs ds ps→(∀x∈ps,x.block<W.heap.size)→DataW.TrodAll enc P W' 0 (fun b=>decide (b<W.heap.size)) true ts vs ds ps
 | [],[],[],_,_,h,_=>h
 | t::ts,v::vs,d::ds,ps,ht,h,bI=>by
  obtain⟨p,q,h0,h1,rfl⟩:=h
  refine⟨p,q,Below.trod hl (ht t (by simp)).1 (ht t (by simp)).2 h0 hb fun x hx=>bI x (by simp [hx]),ud hl hb (fun t h=>ht t (by simp [h])) h1 fun x hx=>bI x (by simp [hx]),rfl⟩
end Go.Ev
end
