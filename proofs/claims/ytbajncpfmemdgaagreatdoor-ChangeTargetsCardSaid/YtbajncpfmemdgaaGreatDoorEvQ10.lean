/- Proved: parts of the way: Wp, Ends, Args. -/
import Derived.Test.YtbajncpfmemdgaaGreatDoorEvQ09
import Derived.Below
import Derived.ProofKit
import Derived.Carry
import Derived.WideShapes
section
namespace Go.Ev
open Go
abbrev ah:=V→St→Prop
abbrev cp:=Ex→Act→St→Prop
def lS (Q:ah):Out×St→Prop
 | (.val v,σ)=>Q v σ
 | _=>False
def kq (Q:cp):Out×St→Prop
 | (.exit e a,σ)=>Q e a σ
 | _=>False
def dz (r:VS) (k:ah):Prop:=
 match r with
 | .ok (v,σ)=>k v σ
 | _=>False
theorem dz.h {r:VS} {k:ah} (h:dz r k):∃v σ',r=.ok (v,σ')∧k v σ':=by
 unfold dz at h
 split at h
 ·exact⟨_,_,rfl,h⟩
 ·exact h.elim
def aa (b:Bool) (Y Z:Prop):Prop:=
 match b with
 | true=>Y
 | false=>Z
theorem aa.y {b:Bool} {Y Z:Prop} (h:aa b Y Z) (e:b=true):Y:=by subst e;exact h
theorem aa.z {b:Bool} {Y Z:Prop} (h:aa b Y Z) (e:b=false):Z:=by subst e;exact h
theorem aa.mk {b:Bool} {Y Z:Prop} (y:b=true→Y) (z:b=false→Z):aa b Y Z:=by cases b<;>first | exact y rfl | exact z rfl
theorem dz.mk' {r:VS} {k:ah} {v:V} {σ:St} (h:r=.ok (v,σ)) (hk:k v σ):dz r k:=by subst h;exact hk
section
variable {P:Program}
def jg (Y:Act→St→Prop) (Q:cp):cp
 | .normal=>Y
 | e=>Q e
def zh (y z:Prop):Option V→Prop
 | some (.bool b)=>aa b y z
 | _=>False
def pT (id:Nat) (Q:cp):cp
 | .exit i=>if i=id then Q .normal else Q (.exit i)
 | e=>Q e
def fY (x:Option V) (k:V→Prop):Prop:=
 match x with
 | some v=>k v
 | none=>False
def kZ (x y:Option V) (k:V→V→Prop):Prop:=
 match x with
 | some v=>match y with
  | some u=>k v u
  | none=>False
 | none=>False
theorem gJ {w:String} {x:Option V} {f:V→VS} {p:V×St→Prop} (h:fY x fun v=>(f v).ar p):(eH w x f).ar p:=by
 cases x with
 | none=>exact h.elim
 | some v=>exact h
theorem kN {w:String} {x y:Option V} {f:V→V→VS} {p:V×St→Prop} (h:kZ x y fun v u=>(f v u).ar p):(m6 w x y f).ar p:=by
 cases x with
 | none=>exact h.elim
 | some v=>cases y with
  | none=>exact h.elim
  | some u=>exact h
theorem fY.mono {x:Option V} {k k':V→Prop} (h:fY x k) (hk:∀v,k v→k' v):fY x k':=by
 cases x with
 | none=>exact h
 | some v=>exact hk v h
theorem kZ.mono {x y:Option V} {k k':V→V→Prop} (h:kZ x y k) (hk:∀v u,k v u→k' v u):kZ x y k':=by
 cases x with
 | none=>exact h
 | some v=>cases y with
  | none=>exact h
  | some u=>exact hk v u h
def tj (k:ah):V×St→Prop
 | (v,σ)=>k v σ
theorem dz.holds {r:VS} {k:ah} (h:dz r k):r.ar (tj k):=by
 obtain⟨v,σ,rfl,hk⟩:=h.h
 exact hk
def ig (p:Prop) [Decidable p] (k:V→Prop):Prop:=aa (decide p) (k (.bool true)) (k (.bool false))
theorem ig.y {p:Prop} [Decidable p] {k:V→Prop} (h:ig p k) (hp:p):k (.bool true):=aa.y h (decide_eq_true hp)
theorem ig.n {p:Prop} [Decidable p] {k:V→Prop} (h:ig p k) (hp:¬p):k (.bool false):=aa.z h (decide_eq_false hp)
theorem ig.of {p:Prop} [Decidable p] {k:V→Prop} (h:ig p k) {b:Bool} (hb:b=decide p):k (.bool b):=by
 subst hb
 by_cases hp:p
 ·rw[decide_eq_true hp];exact h.y hp
 ·rw[decide_eq_false hp];exact h.n hp
def PZ (op:BinOp) (kd:IntKind) (a:Int) (iQ:IntKind) (b:Int) (k:V→Prop):Prop:=
 match op with
 | .shl=>0≤b∧k (.int kd (kd.wrap (a*2^min b.toNat kd.bits)))
 | .shr=>0≤b∧k (.int kd (a.fdiv (2^min b.toNat kd.bits)))
 | .quo=>(kd=iQ∧b≠0)∧k (.int kd (kd.wrap (a.tdiv b)))
 | .rem=>(kd=iQ∧b≠0)∧k (.int kd (a.tmod b))
 | .eql=>kd=iQ∧ig (a=b) k
 | .neq=>kd=iQ∧ig (a≠b) k
 | .lss=>kd=iQ∧ig (a<b) k
 | .leq=>kd=iQ∧ig (a≤b) k
 | .gtr=>kd=iQ∧ig (a>b) k
 | .geq=>kd=iQ∧ig (a≥b) k
 | op=>match nd op kd a iQ b with
  | some v=>k v
  | none=>False
theorem NZ {op:BinOp} {kd iQ:IntKind} {a b:Int} {k:V→Prop} (h:PZ op kd a iQ b k):∃v,nd op kd a iQ b=some v∧k v:=by
 cases op<;>first
  | (have h':0≤b∧_:=h
     refine⟨_,?_,h'.2⟩
     show(if b<0 then none else some _)=_
     rw[if_neg (by omega)])
  | (have h':(kd=iQ∧b≠0)∧_:=h
     obtain⟨⟨rfl,hb⟩,hk⟩:=h'
     refine⟨_,?_,hk⟩
     show(if kd≠kd then none else if b=0 then none else some _)=_
     rw[if_neg (by simp),if_neg hb])
  | (have h':kd=iQ∧ig (a=b) k:=h
     obtain⟨rfl,hk⟩:=h'
     exact⟨.bool (a==b),by show(if kd≠kd then none else some _)=_;rw[if_neg (by simp)],hk.of (by rw[Bool.eq_iff_iff];simp)⟩)
  | (have h':kd=iQ∧ig (a≠b) k:=h
     obtain⟨rfl,hk⟩:=h'
     exact⟨.bool (a != b),by show(if kd≠kd then none else some _)=_;rw[if_neg (by simp)],hk.of (by rw[Bool.eq_iff_iff];simp)⟩)
  | (have h':kd=iQ∧ig (a<b) k:=h
     obtain⟨rfl,hk⟩:=h'
     exact⟨.bool (decide (a<b)),by show(if kd≠kd then none else some _)=_;rw[if_neg (by simp)],hk.of rfl⟩)
  | (have h':kd=iQ∧ig (a≤b) k:=h
     obtain⟨rfl,hk⟩:=h'
     exact⟨.bool (decide (a≤b)),by show(if kd≠kd then none else some _)=_;rw[if_neg (by simp)],hk.of rfl⟩)
  | (have h':kd=iQ∧ig (a>b) k:=h
     obtain⟨rfl,hk⟩:=h'
     exact⟨.bool (decide (a>b)),by show(if kd≠kd then none else some _)=_;rw[if_neg (by simp)],hk.of rfl⟩)
  | (have h':kd=iQ∧ig (a≥b) k:=h
     obtain⟨rfl,hk⟩:=h'
     exact⟨.bool (decide (a≥b)),by show(if kd≠kd then none else some _)=_;rw[if_neg (by simp)],hk.of rfl⟩)
  | (revert h
     unfold PZ
     dsimp only
     cases nd _ kd a iQ b with
     | none=>exact fun h=>h.elim
     | some v=>exact fun h=>⟨v,rfl,h⟩)
def P0 (op:BinOp) (x y:List UInt8) (k:V→Prop):Prop:=
 match op with
 | .add=>x.length+y.length≤9223372036854775807∧k (.str (x++y))
 | .eql=>ig (x=y) k
 | .neq=>ig (x≠y) k
 | op=>match ng op x y with
  | some v=>k v
  | none=>False
theorem N0 {op:BinOp} {x y:List UInt8} {k:V→Prop} (h:P0 op x y k):∃v,ng op x y=some v∧k v:=by
 cases op<;>first
  | (have h':x.length+y.length≤9223372036854775807∧_:=h
     exact⟨_,if_pos h'.1,h'.2⟩)
  | (have h':ig (x=y) k:=h
     exact⟨.bool (x==y),rfl,h'.of (by rw[Bool.eq_iff_iff];simp)⟩)
  | (have h':ig (x≠y) k:=h
     exact⟨.bool (!(x==y)),rfl,h'.of (by rw[Bool.eq_iff_iff];simp)⟩)
  | (revert h
     unfold P0
     dsimp only
     cases ng _ x y with
     | none=>exact fun h=>h.elim
     | some v=>exact fun h=>⟨v,rfl,h⟩)
noncomputable def vP (oh:TypeId→V→V→Prop→Prop→Prop) (P:Program) (xs ys:List V) (z:Prop) (fs:List Field):Prop→Prop:=
 List.rec (motive:=fun _=>Prop→Prop) (fun y=>y)
  (fun f _ ih y=>match f.name== "_",dT P f.type xs f.offset,dT P f.type ys f.offset with
   | false,some a,some b=>oh f.type a b (ih y) z
   | _,_,_=>False) fs
noncomputable def pU (P:Program) (oh:TypeId→V→V→Prop→Prop→Prop) (t:TypeId) (fs:List Field) (x v:V) (y z:Prop):Prop:=
 match P.stoodInHeld t with
 | true=>False
 | false=>match x with
  | .agg xs=>match v with
   | .agg ys=>vP oh P xs ys z fs y
   | _=>False
  | _=>False
noncomputable def EA (P:Program) (oh:TypeId→V→V→Prop→Prop→Prop) (t:TypeId) (x v:V) (y z:Prop):Option TypeDesc→Prop
 | some .bool=>match x with
  | .bool a=>match v with
   | .bool b=>aa (a==b) y z
   | _=>False
  | _=>False
 | some (.int _)=>match x with
  | .int k a=>match v with
   | .int k' b=>k=k'∧aa (decide (a=b)) y z
   | _=>False
  | _=>False
 | some .string=>match x with
  | .str a=>match v with
   | .str b=>aa (decide (a=b)) y z
   | _=>False
  | _=>False
 | some (.struct fs)=>pU P oh t fs.toList x v y z
 | _=>False
noncomputable def sh (P:Program) (d:Nat):TypeId→V→V→Prop→Prop→Prop:=
 Nat.rec (motive:=fun _=>TypeId→V→V→Prop→Prop→Prop) (fun _ _ _ _ _=>False) (fun _ ih t x v y z=>EA P ih t x v y z (P.underlying t)) d
def j1 (b:Option Bool) (y z:Prop):Prop:=(b=some true∧y)∨(b=some false∧z)
theorem j1.of {b:Bool} {y z:Prop} (h:aa b y z):j1 (some b) y z:=by
 cases b with
 | true=>exact .inl ⟨rfl,h⟩
 | false=>exact .inr ⟨rfl,h⟩
theorem mR {oh:TypeId→V→V→Prop→Prop→Prop} {eq:TypeId→V→V→Option Bool} (h:∀t x v y z,oh t x v y z→j1 (eq t x v) y z) {xs ys:List V} {z:Prop}:∀ {fs:List Field} {y:Prop},vP oh P xs ys z fs y→j1 (pt P eq xs ys fs) y z
 | [],y,hy=>.inl ⟨rfl,hy⟩
 | f::fs,y,hy=>by
  have vO:(match f.name== "_",dT P f.type xs f.offset,dT P f.type ys f.offset with
   | false,some a,some b=>oh f.type a b (vP oh P xs ys z fs y) z
   | _,_,_=>False):=hy
  show j1 (match f.name== "_",dT P f.type xs f.offset,dT P f.type ys f.offset with
   | false,some a,some b=>match eq f.type a b with
    | some true=>pt P eq xs ys fs
    | some false=>some false
    | none=>none
   | _,_,_=>none) y z
  revert vO
  cases f.name== "_" with
  | true=>exact fun h=>h.elim
  | false=>cases dT P f.type xs f.offset with
   | none=>exact fun h=>h.elim
   | some a=>cases dT P f.type ys f.offset with
    | none=>exact fun h=>h.elim
    | some b=>
     intro vO
     dsimp only
     rcases h _ _ _ _ _ vO with ⟨e,hr⟩ | ⟨e,hr⟩
     ·rw[e];exact mR h hr
     ·rw[e];exact .inr ⟨rfl,hr⟩
theorem oC:∀(d:Nat) (t:TypeId) (x v:V) (y z:Prop),sh P d t x v y z→j1 (ir P d t x v) y z
 | 0,_,_,_,_,_,h=>h.elim
 | d+1,t,x,v,y,z,h=>by
  have h':EA P (sh P d) t x v y z (P.underlying t):=h
  show j1 (fR P (ir P d) t x v (P.underlying t)) y z
  revert h'
  cases P.underlying t with
  | none=>exact fun h=>h.elim
  | some u=>cases u with
   | bool=>cases x with
    | bool a=>cases v with
     | bool b=>exact fun h=>.of h
     | _=>exact fun h=>h.elim
    | _=>exact fun h=>h.elim
   | int i=>cases x with
    | int k a=>cases v with
     | int k' b=>
      intro h0
      obtain⟨rfl,h1⟩:=(show k=k'∧aa (decide (a=b)) y z from h0)
      show j1 (if k=k then some (a==b) else none) y z
      rw[if_pos rfl,show(a==b)=decide (a=b) by rw[Bool.eq_iff_iff];simp]
      exact .of h1
     | _=>exact fun h=>h.elim
    | _=>exact fun h=>h.elim
   | string=>cases x with
    | str a=>cases v with
     | str b=>
      intro h
      show j1 (some (a==b)) y z
      rw[show(a==b)=decide (a=b) by rw[Bool.eq_iff_iff];simp]
      exact .of h
     | _=>exact fun h=>h.elim
    | _=>exact fun h=>h.elim
   | struct fs=>
    intro h
    have h':pU P (sh P d) t fs.toList x v y z:=h
    show j1 (gZ P (ir P d) t fs.toList x v) y z
    unfold pU at h'
    unfold gZ
    cases hs:P.stoodInHeld t with
    | true=>rw[hs] at h';exact h'.elim
    | false=>
     rw[hs] at h'
     cases x with
     | agg xs=>cases v with
      | agg ys=>exact mR (fun t x v y z=>oC d t x v y z) h'
      | _=>exact h'.elim
     | _=>exact h'.elim
   | _=>exact fun h=>h.elim
noncomputable def x8 (P:Program) (oh:TypeId→V→V→Prop→Prop→Prop) (e:TypeId) (sz:Nat) (xs ys:List V) (z:Prop) (n:Nat):Nat→Prop→Prop:=
 Nat.rec (motive:=fun _=>Nat→Prop→Prop) (fun _ y=>y)
  (fun _ ih i y=>match dT P e xs (Nat.mul i sz),dT P e ys (Nat.mul i sz) with
   | some a,some b=>oh e a b (ih (Nat.succ i) y) z
   | _,_=>False) n
theorem si {oh:TypeId→V→V→Prop→Prop→Prop} {eq:TypeId→V→V→Option Bool} (h:∀t x v y z,oh t x v y z→j1 (eq t x v) y z) {e:TypeId} {sz:Nat} {xs ys:List V} {z:Prop}:∀ {n i:Nat} {y:Prop},x8 P oh e sz xs ys z n i y→j1 (rC P eq e sz xs ys n i) y z
 | 0,_,y,hy=>.inl ⟨rfl,hy⟩
 | n+1,i,y,hy=>by
  have vO:(match dT P e xs (Nat.mul i sz),dT P e ys (Nat.mul i sz) with
   | some a,some b=>oh e a b (x8 P oh e sz xs ys z n (Nat.succ i) y) z
   | _,_=>False):=hy
  show j1 (match dT P e xs (Nat.mul i sz),dT P e ys (Nat.mul i sz) with
   | some a,some b=>match eq e a b with
    | some true=>rC P eq e sz xs ys n (Nat.succ i)
    | some false=>some false
    | none=>none
   | _,_=>none) y z
  revert vO
  cases dT P e xs (Nat.mul i sz) with
  | none=>exact fun h=>h.elim
  | some a=>cases dT P e ys (Nat.mul i sz) with
   | none=>exact fun h=>h.elim
   | some b=>
    intro vO
    dsimp only
    rcases h _ _ _ _ _ vO with ⟨e',hr⟩ | ⟨e',hr⟩
    ·rw[e'];exact si h hr
    ·rw[e'];exact .inr ⟨rfl,hr⟩
noncomputable def qI (P:Program) (σ:St) (t:TypeId) (xs ys:List V) (y z:V) (k:ah):Prop:=
 match P.underlying t with
 | some (.struct fs)=>match P.eqGuardType P.depth t with
  | false=>pU P (sh P cD) t fs.toList (.agg xs) (.agg ys) (k y σ) (k z σ)
  | true=>False
 | some (.array n e)=>match P.eqGuardType P.depth t,bV P e with
  | false,some sz=>x8 P (sh P cD) e sz xs ys (k z σ) n 0 (k y σ)
  | _,_=>False
 | _=>False
theorem qJ {σ:St} {t:TypeId} {lit:Bool} {xs ys:List V} {y z:V} {k:ah} (h:qI P σ t xs ys y z k):j1 (evalEq P σ t lit (.agg xs) (.agg ys)) (k y σ) (k z σ):=by
 unfold qI at h
 unfold evalEq wC
 split at h
 ·rename_i fs hu
  rw[hu]
  dsimp only
  split at h
  ·rename_i hg
   rw[hg]
   dsimp only
   unfold pU at h
   unfold gZ
   cases hs:P.stoodInHeld t with
   | true=>rw[hs] at h;exact h.elim
   | false=>rw[hs] at h;exact mR (fun t x v y z=>oC _ t x v y z) h
  ·exact h.elim
 ·rename_i n e hu
  rw[hu]
  dsimp only
  unfold kH
  split at h
  ·rename_i sz hg hz
   rw[hg,hz]
   exact si (fun t x v y z=>oC _ t x v y z) h
  ·exact h.elim
 ·exact h.elim
def TH (a b:Nat):Bool:=FloatKind.f64.format.order a b==some .eq
def Cg (a b:Nat):Bool:=FloatKind.f64.format.order a b==some .lt
def zi (a b:Nat):Bool:=FloatKind.f64.format.order a b==some .gt||FloatKind.f64.format.order a b==some .eq
def X5 (op:BinOp) (k:FloatKind) (a:Nat) (k':FloatKind) (b:Nat) (c:V→Prop):Prop:=
 match k,k',op with
 | .f64,.f64,.eql=>aa (TH a b) (c (.bool true)) (c (.bool false))
 | .f64,.f64,.neq=>aa (FloatKind.f64.format.order a b != some .eq) (c (.bool true)) (c (.bool false))
 | .f64,.f64,.lss=>aa (Cg a b) (c (.bool true)) (c (.bool false))
 | .f64,.f64,.geq=>aa (zi a b) (c (.bool true)) (c (.bool false))
 | _,_,_=>False
theorem N1 {op:BinOp} {k k':FloatKind} {a b:Nat} {c:V→Prop} (h:X5 op k a k' b c):∃v,rD op k a k' b=some v∧c v:=by
 cases k<;>cases k'<;>cases op<;>first | exact h.elim | skip
 ·refine⟨_,rfl,?_⟩
  cases he:TH a b
  ·have:=aa.z h he;unfold TH at he;rw[he];exact this
  ·have:=aa.y h he;unfold TH at he;rw[he];exact this
 ·refine⟨_,rfl,?_⟩
  cases he:FloatKind.f64.format.order a b != some .eq
  ·exact aa.z h he
  ·exact aa.y h he
 ·refine⟨_,rfl,?_⟩
  cases he:Cg a b
  ·have:=aa.z h he;unfold Cg at he;rw[he];exact this
  ·have:=aa.y h he;unfold Cg at he;rw[he];exact this
 ·refine⟨_,rfl,?_⟩
  cases he:zi a b
  ·have:=aa.z h he;unfold zi at he;rw[he];exact this
  ·have:=aa.y h he;unfold zi at he;rw[he];exact this
noncomputable def P1 (P:Program) (σ:St) (op:BinOp) (t:TypeId) (lit:Bool) (x y:V) (k:ah):Prop:=
 match x,y with
 | .dO kd a,.dO iQ b=>X5 op kd a iQ b fun v=>k v σ
 | .int kd a,.int iQ b=>PZ op kd a iQ b fun v=>k v σ
 | .str a,.str b=>P0 op a b fun v=>k v σ
 | .agg xs,.agg ys=>match op with
  | .eql=>qI P σ t xs ys (.bool true) (.bool false) k
  | .neq=>qI P σ t xs ys (.bool false) (.bool true) k
  | _=>False
 | x,y=>dz (wF P σ op t lit x y) k
theorem K8 {σ:St} {op:BinOp} {t:TypeId} {lit:Bool} {x y:V} {k:ah} (h:P1 P σ op t lit x y k):(wF P σ op t lit x y).ar (tj k):=by
 unfold P1 at h
 split at h
 ·rename_i kd a iQ b
  obtain⟨v,hv,hk⟩:=N1 h
  show(aQ σ "binOp" (rD op kd a iQ b)).ar _
  rw[hv];exact hk
 ·rename_i kd a iQ b
  obtain⟨v,hv,hk⟩:=NZ h
  show(aQ σ "binOp" (nd op kd a iQ b)).ar _
  rw[hv];exact hk
 ·rename_i a b
  obtain⟨v,hv,hk⟩:=N0 h
  show(aQ σ "binOp" (ng op a b)).ar _
  rw[hv];exact hk
 ·rename_i xs ys
  split at h
  ·show(aQ σ "binOp" ((evalEq P σ t lit (.agg xs) (.agg ys)).map .bool)).ar _
   rcases qJ (lit:=lit) h with ⟨e,hk⟩ | ⟨e,hk⟩
   ·rw[e];exact hk
   ·rw[e];exact hk
  ·show(aQ σ "binOp" ((evalEq P σ t lit (.agg xs) (.agg ys)).map fun b=>.bool !b)).ar _
   rcases qJ (lit:=lit) h with ⟨e,hk⟩ | ⟨e,hk⟩
   ·rw[e];exact hk
   ·rw[e];exact hk
  ·exact h.elim
 ·exact h.holds
noncomputable def K9 (P:Program) (t:TypeId) (n:Nat) (esz:Nat) (i:Int) (k:Prop):Prop:=
 match hG P t with
 | some e=>match bV P e with
  | some sz=>match Nat.beq sz esz&& !Nat.beq sz 0 with
   | true=>(0≤i∧i<n)∧k
   | false=>False
  | none=>False
 | none=>False
theorem zj {t:TypeId} {n esz:Nat} {i:Int} {k:Prop} (h:K9 P t n esz i k):∃e sz,hG P t=some e∧bV P e=some sz∧(0≤i∧i<n∧sz=esz∧sz≠0)∧k:=by
 unfold K9 at h
 cases he:hG P t with
 | none=>rw[he] at h;exact h.elim
 | some e=>
  rw[he] at h
  dsimp only at h
  cases bk:bV P e with
  | none=>rw[bk] at h;exact h.elim
  | some sz=>
   rw[bk] at h
   dsimp only at h
   cases hb:Nat.beq sz esz&& !Nat.beq sz 0 with
   | false=>rw[hb] at h;exact h.elim
   | true=>
    rw[hb] at h
    rw[Bool.and_eq_true] at hb
    have h2:sz≠0:=fun e=>by subst e;simp at hb
    exact⟨e,sz,rfl,bk,⟨h.1.1,h.1.2,Nat.eq_of_beq_eq_true hb.1,h2⟩,h.2⟩
noncomputable def tk (P:Program) (σ:St) (t:TypeId) (x ix:V) (k:ah):Prop:=
 match x,ix with
 | .arr n f esz _ _,.int _ i=>K9 P t n esz i (k (.aU (f i.toNat).cells 0) σ)
 | .own b n esz,.int _ i=>K9 P t n esz i (k (.fH b i.toNat esz 0) σ)
 | x,ix=>dz (jU P σ t x ix) k
theorem x9 {σ:St} {t:TypeId} {x ix:V} {k:ah} (h:tk P σ t x ix k):dz (jU P σ t x ix) k:=by
 unfold tk at h
 split at h
 ·obtain⟨e,sz,he,bk,hc,hk⟩:=zj h
  refine dz.mk' (v:=_) (σ:=_) ?_ hk
  show j7 ..=_
  unfold j7
  rw[he];dsimp only;rw[bk];dsimp only;rw[if_pos hc]
 ·obtain⟨e,sz,he,bk,hc,hk⟩:=zj h
  refine dz.mk' (v:=_) (σ:=_) ?_ hk
  show j8 ..=_
  unfold j8
  rw[he];dsimp only;rw[bk];dsimp only;rw[if_pos hc]
 ·exact h
noncomputable def bF (s:List UInt8) (i:Int):Int:=
 match nth s i.toNat with
 | some c=>c.toNat
 | none=>0
noncomputable def vQ (P:Program) (σ:St) (t:TypeId) (s:List UInt8) (i:Int) (k:ah):Prop:=
 match P.underlying t with
 | some .string=>(0≤i∧i<(len s:Nat))∧k (.int .u8 (bF s i)) σ
 | _=>False
theorem zk {σ:St} {t:TypeId} {s:List UInt8} {i:Int} {k:ah} (h:vQ P σ t s i k):dz (mw P σ t s i) k:=by
 unfold vQ at h
 unfold mw
 split at h
 ·rename_i hu
  obtain⟨⟨h1,h2⟩,hk⟩:=h
  rw[aP] at h2
  have hn:nth s i.toNat=some (s[i.toNat]'(by omega)):=by rw[ea];exact List.getElem?_eq_getElem _
  unfold bF at hk
  rw[hn] at hk
  rw[hu]
  dsimp only
  rw[if_pos h1,hn]
  exact hk
 ·exact h.elim
noncomputable def EB (P:Program) (σ:St) (t:TypeId) (x ix:V) (k:ah):Prop:=
 match x,ix with
 | .str s,.int _ i=>vQ P σ t s i k
 | x,ix=>dz (pj P σ t x ix) k
theorem EC {σ:St} {t:TypeId} {x ix:V} {k:ah} (h:EB P σ t x ix k):dz (pj P σ t x ix) k:=by
 unfold EB at h
 split at h
 ·exact zk h
 ·exact h
def C9 (x:Option V) (k:V→Prop):Prop:=
 match x with
 | some v=>k v
 | none=>False
theorem C9.h {x:Option V} {k:V→Prop} (h:C9 x k):∃v,x=some v∧k v:=by
 cases x with
 | none=>exact h.elim
 | some v=>exact⟨v,rfl,h⟩
noncomputable def ED (P:Program) (σ:St) (t:TypeId) (i esz off:Nat) (k:ah):Option bU→Prop
 | some (.row n f z _)=>match Nat.beq z esz with
  | true=>i<n∧(match sH P t,bV P t with
   | some true,some sz=>C9 (KD (f i).cells off sz) fun v=>k v σ
   | some false,_=>C9 (nth (f i).cells off) fun v=>k v σ
   | _,_=>False)
  | false=>False
 | _=>False
noncomputable def La (P:Program) (σ:St) (t:TypeId) (v:V) (k:ah):Prop:=
 match v with
 | .fH b i esz off=>ED P σ t i esz off k (σ.heap.get b)
 | v=>dz (pA P σ t v) k
theorem Hb {σ:St} {t:TypeId} {v:V} {k:ah} (h:La P σ t v k):dz (pA P σ t v) k:=by
 unfold La at h
 split at h
 ·rename_i b i esz off
  unfold ED at h
  split at h
  ·rename_i n f z p hb
   split at h
   ·rename_i hz
    have hz:=Nat.eq_of_beq_eq_true hz
    obtain⟨hi,h⟩:=h
    have he:σ.jy b i esz=some (f i).cells:=by
     unfold St.jy
     rw[hb]
     exact if_pos ⟨hi,hz⟩
    show dz (aQ σ "load" (eC P σ t (.fH b i esz off))) k
    unfold eC
    split at h
    ·rename_i sz gy bk
     obtain⟨u,hu,hk⟩:=h.h
     rw[gy,bk]
     dsimp only
     rw[he,Option.bind_some,hu]
     exact hk
    ·rename_i gy
     obtain⟨u,hu,hk⟩:=h.h
     rw[gy]
     dsimp only
     rw[he,Option.bind_some,hu]
     exact hk
    ·exact h.elim
   ·exact h.elim
  ·exact h.elim
 ·exact h
noncomputable def Ch (P:Program) (σ:St) (t:TypeId) (v:V) (b i esz off:Nat) (k:ah):Option bU→Prop
 | some (.row n f z p)=>match bV P t with
  | some sz=>match Nat.beq (len v.cells) sz&&(Nat.beq z esz&&(Nat.ble (Nat.add off (len v.cells)) esz&&hY V.scalar v.cells)) with
   | true=>i<n∧k cI (σ.set b (.row n (e9 f i (rF (f i) esz off v)) z p))
   | false=>False
  | none=>False
 | _=>False
noncomputable def EE (P:Program) (σ:St) (t:TypeId) (v u:V) (k:ah):Prop:=
 match u with
 | .fH b i esz off=>Ch P σ t v b i esz off k (σ.heap.get b)
 | u=>dz (ph P σ t v u) k
theorem EF {σ:St} {t:TypeId} {v u:V} {k:ah} (h:EE P σ t v u k):dz (ph P σ t v u) k:=by
 unfold EE at h
 split at h
 ·rename_i b i esz off
  unfold Ch at h
  split at h
  ·rename_i n f z p hb
   split at h
   ·rename_i sz bk
    split at h
    ·rename_i hc
     rw[Bool.and_eq_true,Bool.and_eq_true] at hc
     obtain⟨c1,c2,c3⟩:=hc
     have c1:=Nat.eq_of_beq_eq_true c1
     have c2:=Nat.eq_of_beq_eq_true c2
     subst c2
     obtain⟨hi,hk⟩:=h
     refine dz.mk' (v:=_) (σ:=_) ?_ hk
     unfold ph
     dsimp only
     rw[bk]
     dsimp only
     rw[if_pos c1]
     have:σ.j5 b i z off v=some (σ.set b (.row n (e9 f i (rF (f i) z off v)) z p)):=by
      unfold St.j5
      rw[hb]
      dsimp only
      rw[if_pos ⟨hi,rfl⟩,c3]
     rw[this];rfl
    ·exact h.elim
   ·exact h.elim
  ·exact h.elim
 ·exact h
def rf (d:Int):Option V→Option Int
 | none=>some d
 | some (.int _ i)=>some i
 | _=>none
noncomputable def Ci (σ:St) (n:Nat) (f:Nat→V) (esz:Nat) (ex:Bool) (mx:Bool) (k:ah):Option Int→Option Int→Option Int→Prop
 | some l,some h,some m=>(0≤l∧l≤h∧h≤m∧m≤n)∧k (.arr (h.toNat-l.toNat) (fun i=>f (Nat.add l.toNat i)) esz ((mx||(ex&&Nat.beq h.toNat n))&&Nat.beq h.toNat m.toNat) false) σ
 | _,_,_=>False
def Cj (σ:St) (s:List UInt8) (k:ah):Option Int→Option Int→Prop
 | some l,some h=>(0≤l∧l≤h∧h≤(len s:Nat))∧k (.str (c9 l.toNat (cU s h.toNat))) σ
 | _,_=>False
noncomputable def pV (P:Program) (a:Act) (σ:St) (t:TypeId) (lo hi mx:Option Operand) (v:V) (k:ah):Prop:=
 match v with
 | .arr n f esz ex _=>match P.underlying t with
  | some (.slice e)=>match bV P e with
   | some sz=>match Nat.beq sz esz&&(hi.isSome|| !mx.isSome) with
    | true=>match iZ a lo,iZ a hi,iZ a mx with
     | some l,some h,some m=>Ci σ n f esz ex m.isSome k (rf 0 l) (rf n h) (rf n m)
     | _,_,_=>False
    | false=>False
   | none=>False
  | _=>False
 | .str s=>match P.underlying t,mx with
  | some .string,none=>match iZ a lo,iZ a hi with
   | some l,some h=>Cj σ s k (rf 0 l) (rf (len s) h)
   | _,_=>False
  | _,_=>False
 | v=>dz (fS P a σ t lo hi mx v) k
theorem xx {a:Act} {x:Option Operand} {v:Option V} (h:iZ a x=some v):v.isSome=x.isSome:=by
 cases x with
 | none=>cases h;rfl
 | some x=>
  have h':(a.eval x).map some=some v:=h
  rw[Option.map_eq_some_iff] at h'
  obtain⟨u,_,rfl⟩:=h';rfl
theorem iG {lo hi:Nat} {k:IntKind} {i:Int} (h1:(lo:Int)≤i) (h2:i≤hi):asNat lo hi (.int k i)=some i.toNat:=if_pos ⟨h1,h2⟩
theorem xy {n:Nat} {l hh m:Option V} {L H M:Int} (e1:rf 0 l=some L) (e2:rf n hh=some H) (e3:rf n m=some M) (c:(hh.isSome|| !m.isSome)=true) (b1:0≤L) (b2:L≤H) (b3:H≤M) (b4:M≤n):
  bounds n n l hh m=some (L.toNat,H.toNat,M.toNat):=by
 have hl:∀ {d:Int} {o:Option V} {I:Int},rf d o=some I→(o=none∧I=d)∨∃k,o=some (.int k I):=by
  intro d o I h
  unfold rf at h
  split at h
  ·exact .inl ⟨rfl,(Option.some.inj h).symm⟩
  ·rename_i k i;cases h;exact .inr ⟨k,rfl⟩
  ·cases h
 rcases hl e3 with ⟨rfl,rfl⟩ | ⟨k3,rfl⟩
 ·rcases hl e2 with ⟨rfl,rfl⟩ | ⟨k2,rfl⟩
  ·rcases hl e1 with ⟨rfl,rfl⟩ | ⟨k1,rfl⟩
   ·rfl
   ·unfold bounds
    dsimp only
    rw[iG (by omega) (by omega)];rfl
  ·rcases hl e1 with ⟨rfl,rfl⟩ | ⟨k1,rfl⟩
   ·unfold bounds
    dsimp only
    rw[iG (by omega) (by omega)];rfl
   ·unfold bounds
    dsimp only
    rw[iG (by omega) (by omega)]
    dsimp only
    rw[iG (by omega) (by omega)];rfl
 ·rcases hl e2 with ⟨rfl,rfl⟩ | ⟨k2,rfl⟩
  ·simp at c
  ·rcases hl e1 with ⟨rfl,rfl⟩ | ⟨k1,rfl⟩
   ·unfold bounds
    dsimp only
    rw[iG (by omega) (by omega)]
    dsimp only
    rw[iG (by omega) (by omega)];rfl
   ·unfold bounds
    dsimp only
    rw[iG (by omega) (by omega)]
    dsimp only
    rw[iG (by omega) (by omega)]
    dsimp only
    rw[iG (by omega) (by omega)]
theorem EG {a:Act} {σ:St} {t:TypeId} {lo hi mx:Option Operand} {v:V} {k:ah} (h:pV P a σ t lo hi mx v k):dz (fS P a σ t lo hi mx v) k:=by
 unfold pV at h
 split at h
 ·rename_i n f esz ex nn
  split at h
  ·rename_i e hu
   split at h
   ·rename_i sz bk
    split at h
    ·rename_i hc
     rw[Bool.and_eq_true] at hc
     obtain⟨c1,c2⟩:=hc
     have c1:=Nat.eq_of_beq_eq_true c1
     subst c1
     split at h
     ·rename_i l hh m h1 h2 h3
      have s2:=xx h2
      have s3:=xx h3
      unfold Ci at h
      split at h
      ·rename_i L H M e1 e2 e3
       obtain⟨⟨b1,b2,b3,b4⟩,hk⟩:=h
       refine dz.mk' (v:=_) (σ:=_) ?_ hk
       unfold fS
       rw[h1,h2,h3]
       dsimp only
       have ha:j6 P t=none:=by unfold j6;rw[hu]
       rw[ha]
       dsimp only
       have Ey:=xy e1 e2 e3 (by rw[s2,s3];exact c2) b1 b2 b3 b4
       unfold nZ
       rw[hu]
       dsimp only
       rw[bk,Ey]
       dsimp only
       rw[if_neg (by simp)]
       rfl
      ·exact h.elim
     ·exact h.elim
    ·exact h.elim
   ·exact h.elim
  ·exact h.elim
 ·rename_i s
  split at h
  ·rename_i hu
   split at h
   ·rename_i l hh h1 h2
    unfold Cj at h
    split at h
    ·rename_i L H e1 e2
     obtain⟨⟨b1,b2,b3⟩,hk⟩:=h
     refine dz.mk' (v:=_) (σ:=_) ?_ hk
     unfold fS
     rw[h1,h2,show iZ a none=some none from rfl]
     dsimp only
     have ha:j6 P t=none:=by unfold j6;rw[hu]
     rw[ha]
     dsimp only
     have Ey:bounds (len s) (len s) l hh none=some (L.toNat,H.toNat,len s):=by
      have:=xy (n:=len s) (m:=none) (M:=(len s:Nat)) e1 e2 rfl (by simp) b1 b2 b3 (Int.le_refl _)
      rw[this,Int.toNat_natCast]
     unfold nZ
     rw[hu]
     dsimp only
     rw[Ey,if_neg (by simp)]
     rfl
    ·exact h.elim
   ·exact h.elim
  ·exact h.elim
 ·exact h
noncomputable def tm (σ:St) (id sz dy m:Nat) (g:Nat→V) (k:ah):V→Prop
 | .ak=>aa (decide (m=0)) (k .ak σ) (m*dy≤1099511627776∧k (.own id m sz) (σ.new id (.row m g sz true)))
 | .arr n f esz true _=>match Nat.beq n 0&&Nat.beq sz esz with
  | true=>aa (decide (m=0)) (k (.arr n f esz true false) σ) (m*dy≤1099511627776∧k (.own id m sz) (σ.new id (.row m g sz true)))
  | false=>False
 | .slice b off n cap true esz=>match Nat.beq n 0&&(Nat.beq cap 0&&Nat.beq sz esz),σ.cells b off 0 with
  | true,some []=>aa (decide (m=0)) (k (.slice b off n cap true esz) σ) (m*dy≤1099511627776∧k (.own id m sz) (σ.new id (.row m g sz true)))
  | _,_=>False
 | _=>False
theorem ya {σ:St} {id sz dy m:Nat} {g:Nat→V} {k:ah} {s:V} (h:tm σ id sz dy m g k s):∃v σ',jl σ id sz dy m g s=some (v,σ')∧k v σ':=by
 unfold tm at h
 split at h
 ·by_cases hm:m=0
  ·exact⟨_,_,if_pos hm,aa.y h (decide_eq_true hm)⟩
  ·obtain⟨h1,h2⟩:=aa.z h (decide_eq_false hm)
   exact⟨_,_,by unfold jl;dsimp only;rw[if_neg hm,if_pos h1],h2⟩
 ·rename_i n f esz nn
  split at h
  ·rename_i hc
   rw[Bool.and_eq_true] at hc
   have c1:=Nat.eq_of_beq_eq_true hc.1
   have c2:=Nat.eq_of_beq_eq_true hc.2
   subst c1 c2
   by_cases hm:m=0
   ·exact⟨_,_,by unfold jl;dsimp only;rw[if_neg (by simp),if_pos hm],aa.y h (decide_eq_true hm)⟩
   ·obtain⟨h1,h2⟩:=aa.z h (decide_eq_false hm)
    exact⟨_,_,by unfold jl;dsimp only;rw[if_neg (by simp),if_neg hm,if_pos h1],h2⟩
  ·exact h.elim
 ·rename_i b off n cap esz
  split at h
  ·rename_i hc dH
   rw[Bool.and_eq_true,Bool.and_eq_true] at hc
   have c1:=Nat.eq_of_beq_eq_true hc.1
   have c2:=Nat.eq_of_beq_eq_true hc.2.1
   have c3:=Nat.eq_of_beq_eq_true hc.2.2
   subst c1 c2 c3
   by_cases hm:m=0
   ·exact⟨_,_,by unfold jl;dsimp only;rw[dH];dsimp only;rw[if_neg (by simp),if_pos hm],aa.y h (decide_eq_true hm)⟩
   ·obtain⟨h1,h2⟩:=aa.z h (decide_eq_false hm)
    exact⟨_,_,by unfold jl;dsimp only;rw[dH];dsimp only;rw[if_neg (by simp),if_neg hm,if_pos h1],h2⟩
  ·exact h.elim
 ·exact h.elim
noncomputable def HK (P:Program) (σ:St) (id:Nat) (t t':TypeId) (m:Nat) (g:Nat→V) (esz:Nat) (s:V) (k:ah):Prop:=
 match intType P t' with
 | true=>False
 | false=>match P.underlying t with
  | some (.slice e)=>match bV P e,jL P e,gF P e with
   | some sz,some dy,some z=>match Nat.beq sz 0||(Nat.beq dy 0||(!Nat.beq (len z.cells) sz|| !Nat.beq sz esz)) with
    | true=>False
    | false=>tm σ id sz dy m g k s
   | _,_,_=>False
  | _=>False
noncomputable def zl (σ:St) (id sz dy b n:Nat) (k:ah):Option (Nat×(Nat→V)×List V)→Option bU→Prop
 | some (m,g,new),some (.row n' f esz p)=>match Nat.beq esz sz&&(Nat.blt 0 m&&hY V.scalar new) with
  | true=>(n'=n∧(n+m)*dy≤1099511627776)∧k (.own id (n+m) sz) ((σ.kill b).new id (.row (n+m) (dL n f g) sz p))
  | false=>False
 | _,_=>False
noncomputable def tn (P:Program) (σ:St) (id:Nat) (t t':TypeId) (b n esz:Nat) (x:V) (k:ah):Prop:=
 match intType P t' with
 | true=>False
 | false=>match P.underlying t with
  | some (.slice e)=>match bV P e,jL P e,gF P e with
   | some sz,some dy,some z=>match Nat.beq sz 0||(Nat.beq dy 0||(!Nat.beq (len z.cells) sz|| !Nat.beq sz esz)) with
    | true=>False
    | false=>zl σ id sz dy b n k (oneOf σ sz x) (σ.heap.get b)
   | _,_,_=>False
  | _=>False
theorem yb {σ:St} {id:Nat} {t t':TypeId} {tl:List TypeId} {b n esz:Nat} {x:V} {k:ah} (hx:∀m g e a c,x≠.arr m g e a c) (h:tn P σ id t t' b n esz x k):
  dz (iw P σ id .append (t::t'::tl) (some [.own b n esz,x])) k:=by
 unfold tn at h
 split at h
 ·exact h.elim
 ·rename_i hi
  split at h
  ·rename_i e hu
   split at h
   ·rename_i sz dy z h1 h2 h3
    split at h
    ·exact h.elim
    ·rename_i hc
     rw[Bool.or_eq_false_iff,Bool.or_eq_false_iff,Bool.or_eq_false_iff] at hc
     obtain⟨c1,c2,c3,c4⟩:=hc
     unfold zl at h
     split at h
     ·rename_i m g new n' f tc p X6 hb
      split at h
      ·rename_i hs
       rw[Bool.and_eq_true,Bool.and_eq_true] at hs
       have y9:=Nat.eq_of_beq_eq_true hs.1
       have NT:=hs.2.1
       rw[Nat.blt_eq] at NT
       obtain⟨⟨rfl,ek⟩,hk⟩:=h
       refine dz.mk' (v:=_) (σ:=_) ?_ hk
       show bw.of "builtin" (match intType P t' with
        | true=>k7 P σ id t t' (.own b n' esz) x
        | false=>jT P σ id t (.own b n' esz) x)=_
       rw[hi]
       have he:jT P σ id t (.own b n' esz) x=n3 P σ id t b n' esz x:=by
        cases x with
        | arr m g e a c=>exact absurd rfl (hx m g e a c)
        | _=>rfl
       dsimp only
       rw[he]
       unfold n3
       rw[hu]
       dsimp only
       rw[h1,h2,h3]
       dsimp only
       have d:¬(sz=0∨dy=0∨len z.cells≠sz∨sz≠esz):=by
        rw[not_or,not_or,not_or]
        refine⟨fun e=>?_,fun e=>?_,fun e=>?_,fun e=>?_⟩
        ·subst e;simp at c1
        ·subst e;simp at c2
        ·simp only[Bool.not_eq_false'] at c3;exact e (Nat.eq_of_beq_eq_true c3)
        ·simp only[Bool.not_eq_false'] at c4;exact e (Nat.eq_of_beq_eq_true c4)
       rw[if_neg d,X6]
       dsimp only
       unfold u6
       rw[hb]
       dsimp only
       rw[if_pos ⟨rfl,y9,by omega,ek,hs.2.2⟩]
       rfl
      ·exact h.elim
     ·exact h.elim
   ·exact h.elim
  ·exact h.elim
noncomputable def yc (P:Program) (σ:St) (id:Nat) (b:Builtin) (tys:List TypeId) (vs:Option (List V)) (k:ah):Prop:=
 match b,tys,vs with
 | .append,t::t'::_,some [s,.arr m g esz _ _]=>HK P σ id t t' m g esz s k
 | .append,t::t'::_,some [.own b n esz,x]=>tn P σ id t t' b n esz x k
 | b,tys,vs=>dz (iw P σ id b tys vs) k
theorem AD {σ:St} {id:Nat} {b:Builtin} {tys:List TypeId} {vs:Option (List V)} {k:ah} (h:yc P σ id b tys vs k):dz (iw P σ id b tys vs) k:=by
 unfold yc at h
 split at h
 ·rename_i t t' tl s m g esz ex nn
  unfold HK at h
  split at h
  ·exact h.elim
  ·rename_i hi
   split at h
   ·rename_i e hu
    split at h
    ·rename_i sz dy z h1 h2 h3
     split at h
     ·exact h.elim
     ·rename_i hc
      rw[Bool.or_eq_false_iff,Bool.or_eq_false_iff,Bool.or_eq_false_iff] at hc
      obtain⟨c1,c2,c3,c4⟩:=hc
      obtain⟨v,σ',hr,hk⟩:=ya h
      refine dz.mk' (v:=v) (σ:=σ') ?_ hk
      show bw.of "builtin" (match intType P t' with
       | true=>k7 P σ id t t' s (.arr m g esz ex nn)
       | false=>jT P σ id t s (.arr m g esz ex nn))=_
      rw[hi]
      show bw.of "builtin" (n0 P σ id t m g esz s)=_
      unfold n0
      rw[hu]
      dsimp only
      rw[h1,h2,h3]
      dsimp only
      have d:¬(sz=0∨dy=0∨len z.cells≠sz∨sz≠esz):=by
       rw[not_or,not_or,not_or]
       refine⟨fun e=>?_,fun e=>?_,fun e=>?_,fun e=>?_⟩
       ·subst e;simp at c1
       ·subst e;simp at c2
       ·simp only[Bool.not_eq_false'] at c3;exact e (Nat.eq_of_beq_eq_true c3)
       ·simp only[Bool.not_eq_false'] at c4;exact e (Nat.eq_of_beq_eq_true c4)
      rw[if_neg d,hr];rfl
    ·exact h.elim
   ·exact h.elim
 ·rename_i bS
  exact yb (fun m g e a c he=>bS m g e a c he) h
 ·exact h
noncomputable def HL (σ:St) (n:Nat) (k:ah):Option bU→Prop
 | some (.row n' f z _)=>match Nat.beq z 1 with
  | true=>n'=n∧∃s,eI (ax (cn n' f))=some s∧k (.str s) σ
  | false=>False
 | _=>False
def oD (b:Nat):Int:=match (FloatKind.f64.decode b).toInt .zero with | some n=>n | none=>0
def Ck (b:Nat) (k:IntKind):Prop:=(FloatKind.f64.decode b).toInt .zero=some (oD b)∧k.min≤oD b∧oD b≤k.max
noncomputable def Lb (P:Program) (σ:St) (id:Nat) (src dst:TypeId) (v:V) (k:ah):Prop:=
 match v with
 | .dO .f64 b=>match P.underlying src,P.underlying dst with
  | some (.float _),some (.int kd)=>Ck b kd∧k (.int kd (oD b)) σ
  | _,_=>False
 | .str s=>match P.underlying src,P.underlying dst with
  | some .string,some (.slice e)=>match P.underlying e with
   | some (.int .u8)=>match bV P e,jL P e with
    | some 1,some 1=>len s≤1099511627776∧k (.own id (len s) 1) (σ.new id (.row (len s) (dM s) 1 false))
    | _,_=>False
   | _=>False
  | some .string,some .string=>k (.str s) σ
  | _,_=>False
 | .own b n _=>match P.underlying src,P.underlying dst with
  | some (.slice e),some .string=>match P.underlying e with
   | some (.int .u8)=>HL σ n k (σ.heap.get b)
   | _=>False
  | _,_=>False
 | v=>dz (dw P σ id src dst v) k
theorem Hc {σ:St} {id:Nat} {src dst:TypeId} {v:V} {k:ah} (h:Lb P σ id src dst v k):dz (dw P σ id src dst v) k:=by
 unfold Lb at h
 split at h
 ·rename_i b
  split at h
  ·rename_i q kd hs hd
   refine dz.mk' (v:=_) (σ:=_) ?_ h.2
   unfold dw evalConv
   rw[hs,hd]
   dsimp only
   rw[h.1.1]
   dsimp only
   rw[if_pos h.1.2]
   rfl
  ·exact h.elim
 ·rename_i s
  split at h
  ·rename_i e hs hd
   split at h
   ·rename_i he
    split at h
    ·rename_i h1 h2
     refine dz.mk' (v:=_) (σ:=_) ?_ h.2
     unfold dw evalConv
     rw[hs,hd]
     dsimp only
     rw[he]
     dsimp only
     rw[if_pos ⟨h1,h2,h.1⟩]
     rfl
    ·exact h.elim
   ·exact h.elim
  ·rename_i hs hd
   refine dz.mk' (v:=_) (σ:=_) ?_ h
   unfold dw evalConv
   rw[hs,hd]
   rfl
  ·exact h.elim
 ·rename_i b n esz
  split at h
  ·rename_i e hs hd
   split at h
   ·rename_i he
    unfold HL at h
    split at h
    ·rename_i n' f z p hb
     split at h
     ·rename_i hz
      obtain⟨rfl,s,h1,hk⟩:=h
      refine dz.mk' (v:=_) (σ:=_) ?_ hk
      unfold dw evalConv
      rw[hs,hd]
      dsimp only
      rw[he]
      dsimp only
      rw[hb]
      dsimp only
      rw[if_pos ⟨rfl,Nat.eq_of_beq_eq_true hz⟩,h1]
      rfl
     ·exact h.elim
    ·exact h.elim
   ·exact h.elim
  ·exact h.elim
 ·exact h
noncomputable def xz (σ:St) (id sz dy:Nat) (z:List V) (n m:Int) (k:ah):Prop:=
 match !Nat.beq sz 0&&(Nat.beq (len z) sz&&hY V.scalar z) with
 | true=>(0≤n∧n≤m∧m.toNat*dy≤1099511627776∧m≤1099511627776)∧k (.slice id 0 n.toNat m.toNat true sz) (newRow σ id (m.toNat*sz) z .leaf true)
 | false=>False
noncomputable def tp (P:Program) (σ:St) (id:Nat) (t:TypeId) (v u:V) (k:ah):Prop:=
 match v,u with
 | .int _ n,.int _ m=>match hG P t with
  | some e=>match bV P e,jL P e,gF P e with
   | some sz,some dy,some z=>xz σ id sz dy z.cells n m k
   | _,_,_=>False
  | none=>False
 | v,u=>dz (gQ P σ id t v u) k
theorem yd {σ:St} {id:Nat} {t:TypeId} {v u:V} {k:ah} (h:tp P σ id t v u k):dz (gQ P σ id t v u) k:=by
 unfold tp at h
 split at h
 ·rename_i k1 n k2 m
  split at h
  ·rename_i e he
   split at h
   ·rename_i sz dy z h1 h2 h3
    unfold xz at h
    split at h
    ·rename_i hb
     rw[Bool.and_eq_true,Bool.and_eq_true] at hb
     obtain⟨b1,b2,b3⟩:=hb
     obtain⟨⟨c1,c2,c3,c4⟩,hk⟩:=h
     refine dz.mk' (v:=_) (σ:=_) ?_ hk
     unfold gQ
     dsimp only
     rw[he]
     dsimp only
     rw[h1,h2,h3]
     dsimp only
     unfold mu
     rw[if_pos ⟨c1,c2,c3,c4,fun e=>by subst e;simp at b1,Nat.eq_of_beq_eq_true b2,b3⟩]
    ·exact h.elim
   ·exact h.elim
  ·exact h.elim
 ·exact h
noncomputable def TJ (a:Act) (σ:St) (x y:Operand) (k:ah):V→Prop
 | .bool b=>aa b (fY (a.eval x) fun v=>k v σ) (fY (a.eval y) fun v=>k v σ)
 | _=>False
theorem Hd {a:Act} {σ:St} {x y:Operand} {k:ah} {v:V} (h:TJ a σ x y k v):(n4 a σ x y v).ar (tj k):=by
 cases v with
 | bool b=>
  have h':aa b (fY (a.eval x) fun v=>k v σ) (fY (a.eval y) fun v=>k v σ):=h
  have go:∀o:Option V,fY o (fun v=>k v σ)→(aQ σ "pick" o:VS).ar (tj k):=by
   intro o ho
   cases o with
   | none=>exact ho.elim
   | some v=>exact ho
  cases b with
  | true=>exact go _ (aa.y h' rfl)
  | false=>exact go _ (aa.z h' rfl)
 | _=>exact h.elim
noncomputable def X7 (P:Program) (o:Op) (a:Act) (σ:St) (id:Nat) (k:ah):Prop:=
 match o with
 | .load t x=>fY (a.eval x) fun v=>La P σ t v k
 | .pick c x y=>fY (a.eval c) fun v=>TJ a σ x y k v
 | .store t x y=>kZ (a.eval y) (a.eval x) fun v p=>EE P σ t v p k
 | .binOp op t x y _=>kZ (a.eval x) (a.eval y) fun v u=>P1 P σ op t (isConst x||isConst y) v u k
 | .convert s d x=>fY (a.eval x) fun v=>Lb P σ id s d v k
 | .makeSlice t l c=>kZ (a.eval l) (a.eval c) fun v u=>tp P σ id t v u k
 | .slice t x lo hi mx=>fY (a.eval x) fun v=>pV P a σ t lo hi mx v k
 | .indexAddr t x ix=>kZ (a.eval x) (a.eval ix) fun v u=>tk P σ t v u k
 | .index t x ix=>kZ (a.eval x) (a.eval ix) fun v u=>EB P σ t v u k
 | .lookup t x kx ok=>kZ (a.eval x) (a.eval kx) fun v u=>dz (gv P σ t ok v u) k
 | .box _ x=>fY (a.eval x) fun v=>dz (yB σ id v) k
 | .field t x f=>fY (a.eval x) fun v=>dz (rG P σ t f v) k
 | .fieldAddr t x f=>fY (a.eval x) fun v=>dz (k8 P σ t f v) k
 | .build t ps=>dz (nj P σ t (a.parts ps.toList)) k
 | .buildSlice t n ps=>dz (gk P σ id t n (a.parts ps.toList)) k
 | .alloc e=>dz (pk P σ id e) k
 | .typeAssert x _ t ok=>fY (a.eval x) fun v=>dz (xR P σ t ok v) k
 | .makeInterface t x=>fY (a.eval x) fun v=>dz (iu P σ t v) k
 | o=>((m7 P o).f a σ id).ar (tj k)
theorem N2 {o:Op} {a:Act} {σ:St} {id:Nat} {k:ah} (h:X7 P o a σ id k):((m7 P o).f a σ id).ar (tj k):=by
 cases o with
 | convert s d x=>exact gJ (fY.mono h fun _ hv=>(Hc hv).holds)
 | slice t x lo hi mx=>exact gJ (fY.mono h fun _ hv=>(EG hv).holds)
 | box e x=>exact gJ (fY.mono h fun _ hv=>hv.holds)
 | field t x f=>exact gJ (fY.mono h fun _ hv=>hv.holds)
 | fieldAddr t x f=>exact gJ (fY.mono h fun _ hv=>hv.holds)
 | typeAssert x _ t ok=>exact gJ (fY.mono h fun _ hv=>hv.holds)
 | makeInterface t x=>exact gJ (fY.mono h fun _ hv=>hv.holds)
 | load t x=>exact gJ (fY.mono h fun _ hv=>(Hb hv).holds)
 | pick c x y=>exact gJ (fY.mono h fun _ hv=>Hd hv)
 | store t x y=>exact kN (kZ.mono h fun _ _ hv=>(EF hv).holds)
 | makeSlice t l c=>exact kN (kZ.mono h fun _ _ hv=>(yd hv).holds)
 | indexAddr t x ix=>exact kN (kZ.mono h fun _ _ hv=>(x9 hv).holds)
 | index t x ix=>exact kN (kZ.mono h fun _ _ hv=>(EC hv).holds)
 | lookup t x kx ok=>exact kN (kZ.mono h fun _ _ hv=>hv.holds)
 | binOp op t x y _=>exact kN (kZ.mono h fun _ _ hv=>K8 hv)
 | build t ps=>exact dz.holds h
 | buildSlice t n ps=>exact dz.holds h
 | alloc e=>exact dz.holds h
 | _=>exact h
abbrev wQ:=V→Act→St→Prop
def kO (k:wQ):V×Act×St→Prop
 | (v,a,σ)=>k v a σ
theorem bw.ar.fT {a:Act} {r:VS} {k:wQ} (h:r.ar (tj fun v σ=>k v a σ)):(r.bind (fT a)).ar (kO k):=
 bw.ar.dk (h.mono fun⟨_,_⟩ hx=>hx)
noncomputable def P2 {α:Type} (l:List α):(List α→Prop)→Prop:=
 List.rec (motive:=fun _=>(List α→Prop)→Prop) (fun k=>k []) (fun x _ ih k=>ih fun l=>k (x::l)) l
theorem U4 {α:Type} (l:List α) (k:List α→Prop):P2 l k=k l:=by
 induction l generalizing k with
 | nil=>rfl
 | cons x l ih=>exact ih _
noncomputable def Lc {α:Type} (l:List (List α)):(List (List α)→Prop)→Prop:=
 List.rec (motive:=fun _=>(List (List α)→Prop)→Prop) (fun k=>k []) (fun x _ ih k=>P2 x fun x=>ih fun l=>k (x::l)) l
theorem U5 {α:Type} (l:List (List α)) (k:List (List α)→Prop):Lc l k=k l:=by
 induction l generalizing k with
 | nil=>rfl
 | cons x l ih=>
  show P2 x (fun x=>Lc l fun l=>k (x::l))=_
  rw[U4,ih]
noncomputable def AE (dst:Option Tmp) (k:Act→Prop) (a:Act) (v:V):Prop:=
 match dst with
 | some d=>match a with
  | ⟨t,s,ds⟩=>match Nat.blt d s with
   | true=>Lc (t.put d v) fun t=>k ⟨t,s,ds⟩
   | false=>False
 | none=>k a
def AF (k:Act→St→Prop):Act×St→Prop
 | (a,σ)=>k a σ
theorem o6 {dst:Option Tmp} {a:Act} {v:V} {σ:St} {k:Act→St→Prop} (h:AE dst (fun a=>k a σ) a v):(qY σ (a.put dst v)).ar (AF k):=by
 cases dst with
 | none=>exact h
 | some d=>
  obtain⟨t,s,ds⟩:=a
  have h':match Nat.blt d s with
   | true=>Lc (t.put d v) fun t=>k ⟨t,s,ds⟩ σ
   | false=>False:=h
  show(qY σ (match Nat.blt d s with
   | true=>some ⟨t.put d v,s,ds⟩
   | false=>none)).ar (AF k)
  revert h'
  cases Nat.blt d s with
  | true=>intro h;rw[U5] at h;exact h
  | false=>exact fun h=>h.elim
def Ld (b:Nat) (c:Bool) (k:Prop):Prop:=
 match b with
 | 0=>k
 | _+1=>aa c k False
def AG (Q:ah) (σ:St):Option (List V)→Prop
 | some l=>Q (sR l) σ
 | none=>False
end
end Go.Ev
end
section
namespace Go.Ev
open Go Go.RowKit
def start:St:={heap:=.leaf,next:=0}
def ye:Out×St→Bool
 | (.val (.bool b),_)=>b
 | _=>false
end Go.Ev
end
section
namespace Go.Ev
open Go Go.RowKit
theorem EH {P:Program} {w:World} {r:Reach} {base:Nat} {t:TypeId} {v:Value} (h:Cell.okWide P w r base t v):v.oneCell'=true:=by
 unfold Cell.okWide at h
 split at h<;>first
  | rfl
  | (unfold Cell.ok at h;split at h<;>first | rfl | exact h.elim)
def qK (P:Program) (t:TypeId):Bool:=
 match P.underlying t with
 | some (.int .i64)=>true
 | _=>false
def jO (P:Program) (t:TypeId):Bool×List Bool:=
 match P.underlying t with
 | some (.struct _) | some (.array _ _)=>(true,(List.range (P.cellsOf t)).map fun i=>match P.cellTypes P.depth t with
  | some ts=>match ts[i%ts.length]? with
   | some u=>qK P u
   | none=>false
  | none=>false)
 | _=>(false,[qK P t])
def vR (f:Bool) (x:Value):Prop:=x.oneCell'=true∧(f=true→∃n,x=.int .i64 n)
def fG:List Bool→List Value→Prop
 | [],[]=>True
 | f::fs,x::xs=>vR f x∧fG fs xs
 | _,_=>False
theorem fG.of:∀ {fs:List Bool} {xs:List Value},xs.length=fs.length→(∀(i:Nat) f x,fs[i]? =some f→xs[i]? =some x→vR f x)→fG fs xs
 | [],[],_,_=>trivial
 | f::fs,x::xs,hl,h=>⟨h 0 f x rfl rfl,fG.of (by simpa using hl) fun i f x hf hx=>h (i+1) f x (by simpa using hf) (by simpa using hx)⟩
theorem fG.length:∀ {fs:List Bool} {xs:List Value},fG fs xs→xs.length=fs.length
 | [],[],_=>rfl
 | f::fs,x::xs,h=>by simpa using fG.length h.2
theorem fG.get:∀ {fs:List Bool} {xs:List Value},fG fs xs→∀(i:Nat) f x,fs[i]? =some f→xs[i]? =some x→vR f x
 | f::fs,x::xs,h,0,g,y,hg,hy=>by cases hg;cases hy;exact h.1
 | f::fs,x::xs,h,i+1,g,y,hg,hy=>fG.get h.2 i g y (by simpa using hg) (by simpa using hy)
theorem fG.one {fs:List Bool} {xs:List Value} (h:fG fs xs):∀x∈xs,x.oneCell'=true:=fun x hx=>by
 obtain⟨i,hi,rfl⟩:=List.getElem_of_mem hx
 have hl:=h.length
 exact(h.get i fs[i] xs[i] (by simp) (by simp)).1
theorem zm {P:Program} {w:World} {r:Reach} {base:Nat} {t:TypeId} {v:Value} (h:Cell.okWide P w r base t v):vR (qK P t) v:=by
 refine⟨EH h,fun hf=>?_⟩
 unfold qK at hf
 split at hf
 ·rename_i hu
  simp only[Cell.okWide,hu] at h
  cases v<;>simp_all [Cell.ok]
 ·cases hf
theorem N3 {P:Program} {w:World} {r:Reach} {base:Nat} {t:TypeId} {cs:List Value} (hs:cs.length=P.cellsOf t) (h:Row.okWide P w r base t ⟨cs⟩):
  fG ((List.range (P.cellsOf t)).map fun i=>match P.cellTypes P.depth t with
  | some ts=>match ts[i%ts.length]? with
   | some u=>qK P u
   | none=>false
  | none=>false) cs:=by
 obtain⟨ts,hts,_,hc⟩:=h
 refine .of (by simp [hs]) fun i f x hf hx=>?_
 have hi:=(List.getElem?_eq_some_iff.1 hx).1
 obtain⟨u,hu,cE⟩:=hc i x (by simpa using hx)
 rw[hs] at hi
 simp only[List.getElem?_map,List.getElem?_range hi,Option.map_some,Option.some.injEq,hts,hu] at hf
 subst hf
 exact zm cE
theorem nX {P:Program} {w:World} {r:Reach} {base:Nat} {t:TypeId} {v:Value} (h:Value.okWide P w r base t v):
  (∃cs,v=.agg ⟨cs⟩∧(jO P t).1=true∧fG (jO P t).2 cs∧Row.okWide P w r base t ⟨cs⟩)∨((jO P t).1=false∧fG (jO P t).2 [v]∧v.oneCell'=true∧Cell.okWide P w r base t v):=by
 unfold Value.okWide at h
 unfold jO
 split at h
 ·rename_i fs hu
  obtain⟨⟨cs⟩,rfl,hs,hr⟩:=h
  refine .inl ⟨cs,rfl,by rw[hu],?_,hr⟩
  rw[hu];exact N3 hs hr
 ·rename_i n e hu
  obtain⟨⟨cs⟩,rfl,hs,hr⟩:=h
  refine .inl ⟨cs,rfl,by rw[hu],?_,hr⟩
  rw[hu];exact N3 hs hr
 ·rename_i h1 h2
  have e:(match P.underlying t with
   | some (.struct _) | some (.array _ _)=>(true,(List.range (P.cellsOf t)).map fun i=>match P.cellTypes P.depth t with
    | some ts=>match ts[i%ts.length]? with
     | some u=>qK P u
     | none=>false
    | none=>false)
   | _=>(false,[qK P t]))=(false,[qK P t]):=by
   split
   ·rename_i fs hu;exact absurd hu (h1 fs)
   ·rename_i n e hu;exact absurd hu (h2 n e)
   ·rfl
  rw[e]
  exact .inr ⟨rfl,⟨zm h,trivial⟩,EH h,h⟩
def asInt:Value→Value
 | .int .i64 n=>.int .i64 n
 | _=>.int .i64 0
abbrev o7 (cs:List Value) (h:∀x∈cs,x.oneCell'=true) (l:List (Nat×Nat×Value):=[]):Env:=⟨fun i=>if i<eh then cs.getD i (.bool true) else asInt (cs.getD (i-eh) (.bool true)),fun i=>by
 by_cases hi:i<eh
 ·rw[if_pos hi,List.getD_eq_getElem?_getD]
  cases hi:cs[i]? with
  | none=>rfl
  | some x=>exact h x (List.mem_of_getElem? hi)
 ·rw[if_neg hi]
  unfold asInt
  split<;>rfl,fun i hi=>by
 rw[if_neg (Nat.not_lt.2 hi)]
 unfold asInt
 split
 ·exact⟨_,rfl⟩
 ·exact⟨0,rfl⟩,l⟩
noncomputable def TK (k:Nat):Bool→V
 | true=>.any (Nat.add eh k)
 | false=>.any k
noncomputable def AH:Nat→List Bool→List V
 | _,[]=>[]
 | k,f::fs=>TK k f::AH (Nat.add k 1) fs
noncomputable def sj:List (Bool×List Bool)→Nat→List V
 | [],_=>[]
 | (true,fs)::l,k=>.agg (AH k fs)::sj l (Nat.add k (len fs))
 | (false,fs)::l,k=>app (AH k fs) (sj l (Nat.add k (len fs)))
def jH:List Value→List Value
 | []=>[]
 | v::l=>v.cells.toList++jH l
theorem N4 {ρ:aA} {all:List Value} (h:∀x∈all,x.oneCell'=true) (hs:all.length≤eh) {k:Nat} {x:Value} (hx:all[k]? =some x) {f:Bool} (hf:vR f x):@au (o7 all h) ρ (TK k f) x:=by
 letI:=o7 all h
 have hk:=(List.getElem?_eq_some_iff.1 hx).1
 cases f with
 | false=>
  have e:x=Env.val k:=by
   show x=if k<eh then all.getD k (.bool true) else _
   rw[if_pos (Nat.lt_of_lt_of_le hk hs),List.getD_eq_getElem?_getD,hx];rfl
  rw[e];exact .any k
 | true=>
  obtain⟨n,hn⟩:=hf.2 rfl
  have e:x=Env.val (eh+k):=by
   show x=if eh+k<eh then _ else asInt (all.getD (eh+k-eh) (.bool true))
   rw[if_neg (by omega),show eh+k-eh=k by omega,List.getD_eq_getElem?_getD,hx,hn];rfl
  rw[e];exact .any (eh+k)
theorem yf {ρ:aA} {all:List Value} (h:∀x∈all,x.oneCell'=true) (hs:all.length≤eh):∀ {fs:List Bool} {cs:List Value} {k:Nat},fG fs cs→(∀i x,cs[i]? =some x→all[k+i]? =some x)→@ay (o7 all h) ρ (AH k fs) cs
 | [],[],_,_,_=>@ay.nil (o7 all h) ρ
 | f::fs,x::xs,k,hc,hk=>@ay.cons (o7 all h) ρ _ _ _ _ (N4 h hs (hk 0 x rfl) hc.1) (yf h hs (k:=k+1) hc.2 fun i y hy=>by rw[←hk (i+1) y (by simpa using hy)];congr 1;omega)
inductive Typed (P:Program) (w:World) (r:Reach) (base:Nat):List TypeId→List Value→Prop
 | nil:Typed P w r base [] []
 | cons {t:TypeId} {v:Value} {ts:List TypeId} {vs:List Value} (h:Value.okWide P w r base t v) (hl:Typed P w r base ts vs):Typed P w r base (t::ts) (v::vs)
theorem Typed.of {P:Program} {w:World} {r:Reach} {base:Nat}:∀ {ts:List TypeId} {vs:List Value},vs.length=ts.length→(∀(j:Nat) t v,ts[j]? =some t→vs[j]? =some v→Value.okWide P w r base t v)→Typed P w r base ts vs
 | [],[],_,_=>.nil
 | t::ts,v::vs,hl,h=>.cons (h 0 t v rfl rfl) (Typed.of (by simpa using hl) fun j t v ht hv=>h (j+1) t v (by simpa using ht) (by simpa using hv))
theorem Cl {v:Value} (hv:v.oneCell'=true):v.cells.toList=[v]:=by
 cases v<;>first | rfl | cases hv
theorem Typed.one {P:Program} {w:World} {r:Reach} {base:Nat} {ts:List TypeId} {vs:List Value} (h:Typed P w r base ts vs):∀x∈jH vs,x.oneCell'=true:=by
 induction h with
 | nil=>intro x hx;simp [jH] at hx
 | @cons t v ts vs h hl ih=>
  intro x hx
  rcases(List.mem_append (s:=v.cells.toList) (t:=jH vs)).1 hx with hx | hx
  ·rcases nX h with ⟨cs,rfl,_,hc,_⟩ | ⟨_,_,hv,_⟩
   ·exact hc.one x hx
   ·rw[Cl hv] at hx
    rw[List.mem_singleton.1 hx];exact hv
  ·exact ih x hx
theorem Typed.AH {P:Program} {w:World} {r:Reach} {base:Nat} {ρ:aA} {ts:List TypeId} {vs:List Value} (h:Typed P w r base ts vs) {all:List Value} (ha:∀x∈all,x.oneCell'=true) (hs:all.length≤eh) {k:Nat}
  (hk:∀i x,(jH vs)[i]? =some x→all[k+i]? =some x):@ay (o7 all ha) ρ (sj (ts.map (jO P)) k) vs:=by
 letI:=o7 all ha
 induction h generalizing k with
 | nil=>exact .nil
 | @cons t v ts vs h hl ih=>
  rw[List.map_cons]
  rcases nX h with ⟨cs,rfl,h1,hc,_⟩ | ⟨h1,hc,hv,_⟩
  ·generalize jO P t=q at h1 hc
   obtain⟨q1,fs⟩:=q
   dsimp only at h1 hc
   subst h1
   have hlen:=hc.length
   refine .cons (.agg (yf ha hs hc fun i x hx=>hk i x ?_)) (ih fun i x hx=>?_)
   ·have hi:=(List.getElem?_eq_some_iff.1 hx).1
    show(cs++jH vs)[i]? =_
    rw[List.getElem?_append_left hi];exact hx
   ·rw[←hk (fs.length+i) x ?_]
    ·congr 1
     show k+len fs+i=_
     rw[aP];omega
    ·show(cs++jH vs)[fs.length+i]? =_
     rw[List.getElem?_append_right (by omega),←hx]
     congr 1;omega
  ·generalize jO P t=q at h1 hc
   obtain⟨q1,fs⟩:=q
   dsimp only at h1 hc
   subst h1
   have hlen:=hc.length
   have X6:fs.length=1:=by simpa using hlen.symm
   have e:=Cl hv
   show ay ρ (app (Ev.AH k fs) (sj (ts.map (jO P)) (Nat.add k (len fs)))) (v::vs)
   rw[fi]
   refine ay.append (a':=[v]) (yf ha hs hc fun i x hx=>hk i x ?_) (ih fun i x hx=>?_)
   ·have hi:=(List.getElem?_eq_some_iff.1 hx).1
    show(v.cells.toList++jH vs)[i]? =_
    rw[e,List.getElem?_append_left hi];exact hx
   ·rw[←hk (i+1) x ?_]
    ·congr 1
     show k+len fs+i=_
     rw[aP];omega
    ·show(v.cells.toList++jH vs)[i+1]? =_
     rw[e];simpa using hx
theorem uL {H:Type} {enc:TypeId×Value→H} {P:Program} (hl:laidOutB P=true) {W W':World} (hb:Below W.heap.size W W'):∀ {ts:List TypeId} {vs:List Value} {ds:List (DataW H)} {ps:List MemPlace},
  (∀t∈ts,P.readableRec t=true∧t<P.types.size)→DataW.TrodAll enc P W 0 (fun _=>true) true ts vs ds ps→(∀x∈ps,x.block<W.heap.size)→DataW.TrodAll enc P W' 0 (fun b=>decide (b<W.heap.size)) true ts vs ds ps
 | [],[],[],_,_,h,_=>h
 | t::ts,v::vs,d::ds,ps,ht,h,bE=>by
  obtain⟨p,q,h0,h1,rfl⟩:=h
  refine⟨p,q,Below.trod hl (ht t (by simp)).1 (ht t (by simp)).2 h0 hb fun x hx=>bE x (by simp [hx]),uL hl hb (fun t h=>ht t (by simp [h])) h1 fun x hx=>bE x (by simp [hx]),rfl⟩
noncomputable def VS.st:VS→St
 | .ok x=>x.2
 | _=>start
noncomputable def VS.v:VS→V
 | .ok x=>x.1
 | _=>cI
noncomputable def Run.st:Run→St
 | .ok x=>x.2
 | _=>start
noncomputable def Run.v:Run→V
 | .ok (.val v,_)=>v
 | _=>cI
end Go.Ev
end
