/- Proved: parts of the way: Core. -/
import GoSem.Dispatch
import GoSem.Machine.Frame
import Derived.Lib.Bytealg
namespace Go.Ev
noncomputable def nth {α:Type} (l:List α):Nat→Option α:=
 List.rec (motive:=fun _=>Nat→Option α) (fun _=>none) (fun a _ ih n=>Nat.rec (some a) (fun m _=>ih m) n) l
theorem ea {α:Type} (l:List α) (n:Nat):nth l n=l[n]? :=by
 induction l generalizing n with
 | nil=>rfl
 | cons a l ih=>cases n with
  | zero=>rfl
  | succ n=>exact ih n
noncomputable def len {α:Type} (l:List α):Nat:=List.rec (motive:=fun _=>Nat) 0 (fun _ _ n=>Nat.succ n) l
theorem aP {α:Type} (l:List α):len l=l.length:=by
 induction l with
 | nil=>rfl
 | cons a l ih=>exact congrArg Nat.succ ih
noncomputable def app {α:Type} (l r:List α):List α:=List.rec (motive:=fun _=>List α) r (fun a _ t=>a::t) l
theorem fi {α:Type} (l r:List α):app l r=l++r:=by
 induction l with
 | nil=>rfl
 | cons a l ih=>exact congrArg (a::·) ih
noncomputable def hY {α:Type} (p:α→Bool) (l:List α):Bool:=List.rec (motive:=fun _=>Bool) true (fun a _ b=>Bool.rec false b (p a)) l
theorem pr {α:Type} (p:α→Bool) (l:List α):hY p l=l.all p:=by
 induction l with
 | nil=>rfl
 | cons a l ih=>
  show(Bool.rec false (hY p l) (p a):Bool)=_
  rw[ih,List.all_cons];cases p a<;>rfl
noncomputable def cU {α:Type} (l:List α):Nat→List α:=
 List.rec (motive:=fun _=>Nat→List α) (fun _=>[]) (fun a _ ih n=>Nat.rec [] (fun m _=>a::ih m) n) l
theorem dW {α:Type} (l:List α) (n:Nat):cU l n=l.take n:=by
 induction l generalizing n with
 | nil=>cases n<;>rfl
 | cons a l ih=>cases n with
  | zero=>rfl
  | succ n=>exact congrArg (a::·) (ih n)
noncomputable def c9 {α:Type} (n:Nat):List α→List α:=
 Nat.rec (motive:=fun _=>List α→List α) (fun l=>l) (fun _ ih l=>List.rec [] (fun _ t _=>ih t) l) n
theorem er {α:Type} (n:Nat) (l:List α):c9 n l=l.drop n:=by
 induction n generalizing l with
 | zero=>cases l<;>rfl
 | succ n ih=>cases l with
  | nil=>rfl
  | cons a l=>exact ih l
noncomputable def mapOf {α β:Type} (f:α→β) (l:List α):List β:=List.rec (motive:=fun _=>List β) [] (fun a _ t=>f a::t) l
theorem Dy {α β:Type} (f:α→β) (l:List α):mapOf f l=l.map f:=by
 induction l with
 | nil=>rfl
 | cons a l ih=>exact congrArg (f a::·) ih
noncomputable def getD {β:Type} (d:β) (l:List β):Nat→β:=
 List.rec (motive:=fun _=>Nat→β) (fun _=>d) (fun a _ ih n=>Nat.rec a (fun m _=>ih m) n) l
noncomputable def lJ {β:Type} (d:β) (f:β→β) (n:Nat):List β→List β:=
 Nat.rec (motive:=fun _=>List β→List β) (fun l=>List.rec [f d] (fun a t _=>f a::t) l) (fun _ ih l=>List.rec (d::ih []) (fun a t _=>a::ih t) l) n
theorem getD_nil {β:Type} (d:β) (n:Nat):getD d [] n=d:=rfl
theorem gO {β:Type} (d:β) (f:β→β) (n m:Nat) (l:List β):getD d (lJ d f n l) m=if m=n then f (getD d l n) else getD d l m:=by
 induction n generalizing l m with
 | zero=>
  cases l with
  | nil=>cases m with
   | zero=>rfl
   | succ m=>rfl
  | cons a l=>cases m with
   | zero=>rfl
   | succ m=>rfl
 | succ n ih=>
  cases l with
  | nil=>cases m with
   | zero=>rfl
   | succ m=>
    show getD d (lJ d f n []) m=_
    rw[ih]
    by_cases h:m=n
    ·subst h;simp [getD_nil]
    ·rw[if_neg h,if_neg (by omega)];rfl
  | cons a l=>cases m with
   | zero=>rfl
   | succ m=>
    show getD d (lJ d f n l) m=_
    rw[ih]
    by_cases h:m=n
    ·subst h;rw[if_pos rfl,if_pos rfl];rfl
    ·rw[if_neg h,if_neg (by omega)];rfl
abbrev bK (α:Type):=List (List (Option α))
noncomputable def bK.get {α:Type} (t:bK α) (n:Nat):Option α:=getD none (getD [] t (Nat.div n 8)) (Nat.mod n 8)
noncomputable def bK.put {α:Type} (t:bK α) (n:Nat) (v:α):bK α:=lJ [] (lJ none (fun _=>some v) (Nat.mod n 8)) (Nat.div n 8) t
theorem bK.get_nil {α:Type} (n:Nat):bK.get ([]:bK α) n=none:=rfl
theorem bK.b9 {α:Type} (t:bK α) (n m:Nat) (v:α):(t.put n v).get m=if m=n then some v else t.get m:=by
 show getD none (getD [] (lJ [] (lJ none (fun _=>some v) (n%8)) (n/8) t) (m/8)) (m%8)=if m=n then some v else getD none (getD [] t (m/8)) (m%8)
 rw[gO]
 by_cases h:m=n
 ·subst h;rw[if_pos rfl,if_pos rfl,gO,if_pos rfl]
 ·rw[if_neg h]
  by_cases h1:m/8=n/8
  ·rw[if_pos h1,gO,if_neg (by omega),h1]
  ·rw[if_neg h1]
noncomputable def rep {α:Type} (x:α) (n:Nat):List α:=Nat.rec (motive:=fun _=>List α) [] (fun _ ih=>x::ih) n
theorem Dz {α:Type} (x d:α) (n m:Nat):getD d (rep x n) m=x∨getD d (rep x n) m=d:=by
 induction n generalizing m with
 | zero=>exact .inr rfl
 | succ n ih=>cases m with
  | zero=>exact .inl rfl
  | succ m=>exact ih m
noncomputable def bK.blank {α:Type} (n:Nat):bK α:=rep (rep none 8) (Nat.add (Nat.div n 8) 1)
theorem bK.Na {α:Type} (n m:Nat):(bK.blank n:bK α).get m=none:=by
 unfold bK.get bK.blank
 rcases Dz (rep (none:Option α) 8) [] (Nat.add (Nat.div n 8) 1) (Nat.div m 8) with h | h
 ·rw[h]
  rcases Dz (none:Option α) none 8 (Nat.mod m 8) with h | h<;>exact h
 ·rw[h];rfl
noncomputable def bK.KB {α:Type} (l:List α):bK α→Nat→bK α:=
 List.rec (motive:=fun _=>bK α→Nat→bK α) (fun t _=>t) (fun v _ ih t n=>ih (t.put n v) (Nat.add n 1)) l
theorem bK.Po {α:Type} (l:List α) (t:bK α) (n m:Nat):(bK.KB l t n).get m=if n≤m∧m<n+l.length then l[m-n]? else t.get m:=by
 induction l generalizing t n with
 | nil=>rw[if_neg (by simp)];rfl
 | cons v l ih=>
  show(bK.KB l (t.put n v) (n+1)).get m=_
  rw[ih,bK.b9]
  by_cases h1:n+1≤m∧m<n+1+l.length
  ·rw[if_pos h1,if_pos (by simp;omega),show m-n=(m-(n+1))+1 by omega,List.getElem?_cons_succ]
  ·rw[if_neg h1]
   by_cases h2:m=n
   ·subst h2;rw[if_pos rfl,if_pos (by simp),Nat.sub_self];rfl
   ·rw[if_neg h2,if_neg (by simp;omega)]
abbrev Trie (α:Type):=List (List (List (List (Option α))))
namespace Trie
variable {α:Type}
abbrev leaf:Trie α:=[]
noncomputable def get (t:Trie α) (n:Nat):Option α:=
 getD none (getD [] (getD [] (getD [] t (Nat.div n 512)) (Nat.mod (Nat.div n 64) 8)) (Nat.mod (Nat.div n 8) 8)) (Nat.mod n 8)
noncomputable def put (t:Trie α) (n:Nat) (o:Option α):Trie α:=
 lJ [] (lJ [] (lJ [] (lJ none (fun _=>o) (Nat.mod n 8)) (Nat.mod (Nat.div n 8) 8)) (Nat.mod (Nat.div n 64) 8)) (Nat.div n 512) t
theorem fw (n:Nat):(leaf:Trie α).get n=none:=rfl
theorem b9 (t:Trie α) (n m:Nat) (o:Option α):(t.put n o).get m=if m=n then o else t.get m:=by
 show getD none (getD [] (getD [] (getD [] (lJ [] (lJ [] (lJ [] (lJ none (fun _=>o) (n%8)) (n/8%8)) (n/64%8)) (n/512) t) (m/512)) (m/64%8)) (m/8%8)) (m%8)=
  if m=n then o else getD none (getD [] (getD [] (getD [] t (m/512)) (m/64%8)) (m/8%8)) (m%8)
 rw[gO]
 by_cases h:m=n
 ·subst h;rw[if_pos rfl,if_pos rfl,gO,if_pos rfl,gO,if_pos rfl,gO,if_pos rfl]
 ·rw[if_neg h]
  by_cases h1:m/512=n/512
  ·rw[if_pos h1,gO]
   by_cases h2:m/64%8=n/64%8
   ·rw[if_pos h2,gO]
    by_cases h3:m/8%8=n/8%8
    ·rw[if_pos h3,gO,if_neg (by omega),h1,h2,h3]
    ·rw[if_neg h3,h1,h2]
   ·rw[if_neg h2,h1]
  ·rw[if_neg h1]
end Trie
inductive V where
 | int (k:IntKind) (n:Int)
 | bool (b:Bool)
 | str (s:List UInt8)
 | dA
 | ptr (b off:Nat)
 | ak
 | slice (b off len cap:Nat) (exact:Bool) (esz:Nat)
 | dc
 | map (b:Nat)
 | func (fn:Fn) (first captured:List V)
 | cR
 | iface (t:TypeId) (v:V)
 | bh
 | agg (cs:List V)
 | tuple (cs:List V)
 | any (i:Nat)
 | dO (k:FloatKind) (b:Nat)
 | bX (es:List V) (esz:Nat) (ex:Bool)
 | aU (cs:List V) (off:Nat)
 | arr (n:Nat) (f:Nat→V) (esz:Nat) (ex nn:Bool)
 | own (b n esz:Nat)
 | fH (b i esz off:Nat)
 deriving Inhabited
def cn (n:Nat) (f:Nat→V):List V:=(List.range n).map f
theorem bg (n:Nat) (f:Nat→V):(cn n f).length=n:=by simp [cn]
theorem dB {n:Nat} {f:Nat→V} {i:Nat} (h:i<n):(cn n f)[i]? =some (f i):=by simp [cn,h]
def V.cells:V→List V
 | .agg cs=>cs
 | v=>[v]
def V.scalar:V→Bool
 | .agg _ | .tuple _=>false
 | _=>true
mutual
def V.ofValue:Value→Option V
 | .int k n=>some (.int k n)
 | .float k b=>some (.dO k b)
 | .bool b=>some (.bool b)
 | .string s=>some (.str s.data.toList)
 | .pointer none=>some .dA
 | .slice none 0 0=>some .ak
 | .map none=>some .dc
 | .nilFunc=>some .cR
 | .nilIface=>some .bh
 | .iface t v=>(V.ofValue v).map (.iface t)
 | .agg ⟨cs⟩=>(V.ofValues cs).map .agg
 | .tuple ⟨cs⟩=>(V.ofValues cs).map .tuple
 | _=>none
def V.ofValues:List Value→Option (List V)
 | []=>some []
 | v::l=>match V.ofValue v,V.ofValues l with
  | some x,some xs=>some (x::xs)
  | _,_=>none
end
mutual
noncomputable def V.beq:V→V→Bool
 | .int k n,.int k' n'=>decide (k=k')&&n==n'
 | .bool b,.bool b'=>b==b'
 | .str s,.str s'=>s==s'
 | .dA,.dA=>true
 | .ptr b o,.ptr b' o'=>b==b'&&o==o'
 | .ak,.ak=>true
 | .slice b o l c e z,.slice b' o' l' c' e' z'=>b==b'&&o==o'&&l==l'&&c==c'&&e==e'&&z==z'
 | .dc,.dc=>true
 | .map b,.map b'=>b==b'
 | .func f x y,.func f' x' y'=>decide (f=f')&&V.fJ x x'&&V.fJ y y'
 | .cR,.cR=>true
 | .iface t v,.iface t' v'=>t==t'&&V.beq v v'
 | .bh,.bh=>true
 | .agg x,.agg y=>V.fJ x y
 | .tuple x,.tuple y=>V.fJ x y
 | .any i,.any j=>i==j
 | .dO k b,.dO k' b'=>decide (k=k')&&b==b'
 | .bX x z e,.bX y z' e'=>V.fJ x y&&z==z'&&e==e'
 | .aU x o,.aU y o'=>V.fJ x y&&o==o'
 | .own b n z,.own b' n' z'=>b==b'&&n==n'&&z==z'
 | .arr n f z e o,.arr n' f' z' e' o'=>@decide (n=n'∧f=f'∧z=z'∧e=e'∧o=o') (Classical.propDecidable _)
 | _,_=>false
noncomputable def V.fJ:List V→List V→Bool
 | [],[]=>true
 | x::xs,y::ys=>V.beq x y&&V.fJ xs ys
 | _,_=>false
end
noncomputable def ax (es:List V):List V:=List.rec (motive:=fun _=>List V) [] (fun v _ ih=>app v.cells ih) es
theorem ca (v:V) (es:List V):ax (v::es)=v.cells++ax es:=fi _ _
theorem xN (a b:List V):ax (a++b)=ax a++ax b:=by
 induction a with
 | nil=>rfl
 | cons v a ih=>rw[List.cons_append,ca,ca,ih,List.append_assoc]
theorem cV {es:List V} {esz:Nat} (h:∀v∈es,v.cells.length=esz):(ax es).length=es.length*esz:=by
 induction es with
 | nil=>simp [ax]
 | cons v es ih=>
  rw[ca,List.length_append,ih fun v hv=>h v (List.mem_cons_of_mem _ hv),h v List.mem_cons_self,List.length_cons,Nat.add_mul,Nat.one_mul,Nat.add_comm]
def V.mr:V→Bool
 | .int _ _ | .bool _ | .str _=>true
 | _=>false
noncomputable def V.flat:V→Bool
 | .agg cs=>hY V.mr cs
 | v=>V.mr v
inductive bU where
 | cells (n:Nat) (zero:List V) (t:Trie V) (plain ro:Bool)
 | row (n:Nat) (f:Nat→V) (esz:Nat) (plain:Bool)
 | map (es:List (V×V×Nat)) (clock:Nat)
 | iter (m:Option Nat) (since:Nat) (seen:List Nat) (last:Nat)
 | akg (s:List UInt8) (pos:Nat)
 | loop (st:LoopState) (pending:Option Code) (fn:FuncId) (tmps:bK V) (size:Nat) (params:List Tmp) (assign body:Code) (defers:Nat)
 | deferred
structure St where
 heap:Trie bU
 next:Nat
noncomputable def Pp (n id:Nat):Nat:=Bool.rec n (Nat.add id 1) (Nat.ble n id)
noncomputable def St.new (σ:St) (id:Nat) (b:bU):St:=match σ with | ⟨h,n⟩=>⟨h.put id (some b),Pp n id⟩
noncomputable def St.set (σ:St) (id:Nat) (b:bU):St:=match σ with | ⟨h,n⟩=>⟨h.put id (some b),n⟩
noncomputable def St.kill (σ:St) (id:Nat):St:=match σ with | ⟨h,n⟩=>⟨h.put id none,n⟩
noncomputable def cellOf (n:Nat) (zero:List V) (t:Trie V) (i:Nat):Option V:=
 match Nat.blt i n with
 | true=>match t.get i with
  | some v=>some v
  | none=>nth zero (Nat.mod i (len zero))
 | false=>none
noncomputable def St.cell (σ:St) (b off:Nat):Option V:=
 match σ.heap.get b with
 | some (.cells n z t _ _)=>cellOf n z t off
 | _=>none
def lD {α:Type}:Option α→Option (List α)→Option (List α)
 | some v,some l=>some (v::l)
 | _,_=>none
noncomputable def cellsOf (n:Nat) (z:List V) (t:Trie V) (k:Nat):Nat→Option (List V):=
 Nat.rec (motive:=fun _=>Nat→Option (List V)) (fun _=>some []) (fun _ ih off=>lD (cellOf n z t off) (ih (Nat.add off 1))) k
noncomputable def St.cells (σ:St) (b off k:Nat):Option (List V):=
 match σ.heap.get b with
 | some (.cells n z t _ _)=>cellsOf n z t k off
 | _=>none
noncomputable def ai (l:List V):Trie V→Nat→Trie V:=
 List.rec (motive:=fun _=>Trie V→Nat→Trie V) (fun t _=>t) (fun v _ ih t off=>ih (t.put off (some v)) (Nat.add off 1)) l
noncomputable def Hl (σ:St) (b off:Nat) (vs:List V) (n:Nat) (z:List V) (t:Trie V) (p:Bool):Option St:=
 match Nat.ble (Nat.add off (len vs)) n&&hY V.scalar vs with
 | true=>some (σ.set b (.cells n z (ai vs t off) p false))
 | false=>none
noncomputable def St.store (σ:St) (b off:Nat) (vs:List V):Option St:=
 match σ.heap.get b with
 | some (.cells n z t p false)=>Hl σ b off vs n z t p
 | _=>none
section
variable (P:Program)
def bV (t:TypeId):Option Nat:=(P.info? t).map (·.size)
def jL (t:TypeId):Option Nat:=(P.info? t).map (·.bytes)
def gF (t:TypeId):Option V:=((P.info? t).bind (·.zero)).bind V.ofValue
def sH (t:TypeId):Option Bool:=
 match P.underlying t with
 | some (.struct _) | some (.array _ _)=>some true
 | some _=>some false
 | none=>none
end
structure Act where
 tmps:bK V
 size:Nat
 defers:List (Option (Fn×List V)×Nat×List V)
inductive Ex where
 | normal
 | exit (id:Nat)
 | goto (l:Nat)
 | ret
def cI:V:=.tuple []
noncomputable def Act.put (a:Act) (dst:Option Tmp) (v:V):Option Act:=
 match dst with
 | some d=>match a with
  | ⟨t,s,ds⟩=>match Nat.blt d s with
   | true=>some ⟨t.put d v,s,ds⟩
   | false=>none
 | none=>some a
noncomputable def Act.eval (a:Act):Operand→Option V
 | .tmp t=>a.tmps.get t
 | .const v=>V.ofValue v
 | .global _=>none
 | .func f=>some (.func (.func f) [] [])
noncomputable def Act.bQ (a:Act) (l:List Operand):Option (List V):=
 List.rec (motive:=fun _=>Option (List V)) (some []) (fun x _ ih=>lD (a.eval x) ih) l
def nd (op:BinOp) (k:IntKind) (a:Int) (k':IntKind) (b:Int):Option V:=
 match op with
 | .shl=>if b<0 then none else some (.int k (k.wrap (a*2^min b.toNat k.bits)))
 | .shr=>if b<0 then none else some (.int k (a.fdiv (2^min b.toNat k.bits)))
 | _=>if k≠k' then none else
  match op with
  | .add=>some (.int k (k.wrap (a+b)))
  | .sub=>some (.int k (k.wrap (a-b)))
  | .mul=>some (.int k (k.wrap (a*b)))
  | .quo=>if b=0 then none else some (.int k (k.wrap (a.tdiv b)))
  | .rem=>if b=0 then none else some (.int k (a.tmod b))
  | .and=>some (.int k (k.wrap (BitVec.ofInt k.bits a&&& BitVec.ofInt k.bits b).toNat))
  | .or=>some (.int k (k.wrap (BitVec.ofInt k.bits a||| BitVec.ofInt k.bits b).toNat))
  | .xor=>some (.int k (k.wrap (BitVec.ofInt k.bits a ^^^ BitVec.ofInt k.bits b).toNat))
  | .andNot=>some (.int k (k.wrap (BitVec.ofInt k.bits a&&& ~~~ BitVec.ofInt k.bits b).toNat))
  | .eql=>some (.bool (a==b))
  | .neq=>some (.bool (a != b))
  | .lss=>some (.bool (a<b))
  | .leq=>some (.bool (a≤b))
  | .gtr=>some (.bool (a>b))
  | .geq=>some (.bool (a≥b))
  | _=>none
def ng (op:BinOp) (x y:List UInt8):Option V:=
 match op with
 | .add=>if x.length+y.length≤9223372036854775807 then some (.str (x++y)) else none
 | .eql=>some (.bool (x==y))
 | .neq=>some (.bool !(x==y))
 | .lss=>some (.bool (Op.bytesLess x y))
 | .leq=>some (.bool (Op.bytesLess x y||x==y))
 | .gtr=>some (.bool !(Op.bytesLess x y||x==y))
 | .geq=>some (.bool !(Op.bytesLess x y))
 | _=>none
def cD:Nat:=20
noncomputable def dT (P:Program) (t:TypeId) (cs:List V) (off:Nat):Option V:=
 match sH P t,bV P t with
 | some true,some n=>match Nat.ble (Nat.add off n) (len cs) with
  | true=>some (.agg (cU (c9 off cs) n))
  | false=>none
 | some false,_=>nth cs off
 | _,_=>none
noncomputable def pt (P:Program) (eq:TypeId→V→V→Option Bool) (xs ys:List V) (fs:List Field):Option Bool:=
 List.rec (motive:=fun _=>Option Bool) (some true)
  (fun f _ ih=>match f.name== "_",dT P f.type xs f.offset,dT P f.type ys f.offset with
   | false,some a,some b=>match eq f.type a b with
    | some true=>ih
    | some false=>some false
    | none=>none
   | _,_,_=>none) fs
noncomputable def gZ (P:Program) (eq:TypeId→V→V→Option Bool) (t:TypeId) (fs:List Field) (x y:V):Option Bool:=
 match P.stoodInHeld t with
 | true=>none
 | false=>match x with
  | .agg xs=>match y with
   | .agg ys=>pt P eq xs ys fs
   | _=>none
  | _=>none
def eh:Nat:=1000000
noncomputable def KC (i j:Nat):Option Bool:=
 match Nat.beq i j&&Nat.ble eh i with
 | true=>some true
 | false=>none
theorem yz {i j:Nat} {b:Bool} (h:KC i j=some b):b=true∧j=i∧eh≤i:=by
 unfold KC at h
 split at h
 ·rename_i hb
  rw[Bool.and_eq_true] at hb
  cases h
  exact⟨rfl,(Nat.eq_of_beq_eq_true hb.1).symm,Nat.le_of_ble_eq_true hb.2⟩
 ·cases h
noncomputable def fR (P:Program) (eq:TypeId→V→V→Option Bool) (t:TypeId) (x y:V):Option TypeDesc→Option Bool
 | some .bool=>match x with
  | .bool a=>match y with
   | .bool b=>some (a==b)
   | _=>none
  | _=>none
 | some (.int _)=>match x with
  | .int k a=>match y with
   | .int k' b=>if k=k' then some (a==b) else none
   | _=>none
  | .any i=>match y with
   | .any j=>KC i j
   | _=>none
  | _=>none
 | some .string=>match x with
  | .str a=>match y with
   | .str b=>some (a==b)
   | _=>none
  | _=>none
 | some (.struct fs)=>gZ P eq t fs.toList x y
 | _=>none
noncomputable def ir (P:Program) (d:Nat):TypeId→V→V→Option Bool:=
 Nat.rec (motive:=fun _=>TypeId→V→V→Option Bool) (fun _ _ _=>none) (fun _ ih t x y=>fR P ih t x y (P.underlying t)) d
noncomputable def rC (P:Program) (eq:TypeId→V→V→Option Bool) (e:TypeId) (sz:Nat) (xs ys:List V) (n:Nat):Nat→Option Bool:=
 Nat.rec (motive:=fun _=>Nat→Option Bool) (fun _=>some true)
  (fun _ ih i=>match dT P e xs (Nat.mul i sz),dT P e ys (Nat.mul i sz) with
   | some a,some b=>match eq e a b with
    | some true=>ih (Nat.succ i)
    | some false=>some false
    | none=>none
   | _,_=>none) n
noncomputable def kH (P:Program) (t e:TypeId) (n:Nat) (x y:V):Option Bool:=
 match P.eqGuardType P.depth t with
 | true=>none
 | false=>match bV P e with
  | some sz=>match x with
   | .agg xs=>match y with
    | .agg ys=>rC P (ir P cD) e sz xs ys n 0
    | _=>none
   | _=>none
  | none=>none
noncomputable def ptrEq (P:Program) (σ:St) (e b o b' o':Nat):Option Bool:=
 match bV P e with
 | some (_+1)=>match Nat.beq b b' with
  | true=>match σ.heap.get b with
   | some (.cells ..)=>some (o==o')
   | _=>none
  | false=>match σ.heap.get b,σ.heap.get b' with
   | some (.cells _ _ _ true _),some (.cells _ _ _ true _)=>some false
   | _,_=>none
 | _=>none
noncomputable def Aa (P:Program) (tx:TypeId) (vx:V) (ty:TypeId) (vy:V):Option Bool:=
 match Nat.beq tx ty with
 | false=>some false
 | true=>match (P.info? tx).map (·.comparable) with
  | some true=>ir P cD tx vx vy
  | _=>none
noncomputable def wC (P:Program) (σ:St) (t:TypeId) (lit:Bool) (x y:V):Option TypeDesc→Option Bool
 | some .bool=>match x with
  | .bool a=>match y with
   | .bool b=>some (a==b)
   | _=>none
  | _=>none
 | some (.pointer e)=>match x with
  | .dA=>match y with
   | .dA=>some true
   | .ptr _ _=>some false
   | _=>none
  | .ptr b o=>match y with
   | .dA=>some false
   | .ptr b' o'=>ptrEq P σ e b o b' o'
   | _=>none
  | _=>none
 | some (.interface _)=>match x with
  | .bh=>match y with
   | .bh=>match lit with
    | true=>some true
    | false=>none
   | .iface _ _=>some false
   | _=>none
  | .iface tx vx=>match y with
   | .bh=>some false
   | .iface ty vy=>Aa P tx vx ty vy
   | _=>none
  | _=>none
 | some (.struct fs)=>match P.eqGuardType P.depth t with
  | false=>gZ P (ir P cD) t fs.toList x y
  | true=>none
 | some (.array n e)=>kH P t e n x y
 | some (.slice _)=>match x with
  | .ak=>match y with
   | .ak=>some true
   | .slice ..=>some false
   | .own ..=>some false
   | _=>none
  | .slice ..=>match y with
   | .ak=>some false
   | _=>none
  | .own ..=>match y with
   | .ak=>some false
   | _=>none
  | .arr _ _ _ _ true=>match y with
   | .ak=>some false
   | _=>none
  | _=>none
 | some (.map _ _)=>match x with
  | .dc=>match y with
   | .dc=>some true
   | .map _=>some false
   | _=>none
  | .map _=>match y with
   | .dc=>some false
   | _=>none
  | _=>none
 | some (.func _ _ _)=>match x with
  | .cR=>match y with
   | .cR=>some true
   | .func ..=>some false
   | _=>none
  | .func ..=>match y with
   | .cR=>some false
   | _=>none
  | _=>none
 | _=>none
noncomputable def evalEq (P:Program) (σ:St) (t:TypeId) (lit:Bool) (x y:V):Option Bool:=wC P σ t lit x y (P.underlying t)
def isConst:Operand→Bool
 | .const _=>true
 | _=>false
def rD (op:BinOp) (k:FloatKind) (a:Nat) (k':FloatKind) (b:Nat):Option V:=
 if k≠k' then none else
  match op with
  | .eql=>some (.bool (k.format.order a b==some .eq))
  | .neq=>some (.bool (k.format.order a b != some .eq))
  | .lss=>some (.bool (k.format.order a b==some .lt))
  | .leq=>some (.bool (k.format.order a b==some .lt||k.format.order a b==some .eq))
  | .gtr=>some (.bool (k.format.order a b==some .gt))
  | .geq=>some (.bool (k.format.order a b==some .gt||k.format.order a b==some .eq))
  | _=>none
noncomputable def evalBin (P:Program) (σ:St) (op:BinOp) (t:TypeId) (lit:Bool) (x y:V):Option V:=
 match x,y with
 | .int k a,.int k' b=>nd op k a k' b
 | .str a,.str b=>ng op a b
 | .dO k a,.dO k' b=>rD op k a k' b
 | _,_=>match op with
  | .eql=>(evalEq P σ t lit x y).map .bool
  | .neq=>(evalEq P σ t lit x y).map fun b=>.bool !b
  | _=>none
def DA (op:UnOp) (x:V):Option V:=
 match op,x with
 | .neg,.int k n=>some (.int k (k.wrap (0-n)))
 | .xor,.int k n=>some (.int k (k.wrap (BitVec.ofInt k.bits (if k.signed then -1 else k.max) ^^^ BitVec.ofInt k.bits n).toNat))
 | .not,.bool b=>some (.bool !b)
 | _,_=>none
def l0 (P:Program) (s:TypeId) (f:Nat):Option Field:=
 match P.underlying s with
 | some (.struct fs)=>fs[f]?
 | _=>none
noncomputable def nh (cs vs:List V):Option (Nat×Nat)→Option (List V)
 | none=>none
 | some (off,size)=>match Nat.beq (len vs) size&&Nat.ble (Nat.add off size) (len cs) with
  | true=>some (app (cU cs off) (app vs (c9 (Nat.add off size) cs)))
  | false=>none
noncomputable def sI (place:Nat→Option (Nat×Nat)) (l:List (Nat×V)):List V→Option (List V):=
 List.rec (motive:=fun _=>List V→Option (List V)) (fun cs=>some cs)
  (fun p _ ih cs=>match nh cs p.2.cells (place p.1) with
   | some l3=>ih l3
   | none=>none) l
noncomputable def wD (a:Act) (p:Nat×Operand):Option (Nat×V):=
 match a.eval p.2 with
 | some v=>some (p.1,v)
 | none=>none
noncomputable def Act.parts (a:Act) (l:List (Nat×Operand)):Option (List (Nat×V)):=
 List.rec (motive:=fun _=>Option (List (Nat×V))) (some []) (fun p _ ih=>lD (wD a p) ih) l
def asNat (lo hi:Nat):V→Option Nat
 | .int _ n=>if (lo:Int)≤n∧n≤(hi:Int) then some n.toNat else none
 | _=>none
def bounds (len cap:Nat) (lo hi mx:Option V):Option (Nat×Nat×Nat):=
 match (match mx with | some v=>asNat 0 cap v | none=>some cap) with
 | none=>none
 | some m=>match (match hi,mx with | some v,_=>asNat 0 m v | none,none=>some len | none,some _=>none) with
  | none=>none
  | some h=>match (match lo with | some v=>asNat 0 h v | none=>some 0) with
   | none=>none
   | some l=>some (l,h,m)
noncomputable def iZ (a:Act):Option Operand→Option (Option V)
 | none=>some none
 | some x=>(a.eval x).map some
noncomputable def nZ (P:Program) (t:TypeId) (x:V) (lo hi mx:Option V):Option V:=
 match P.underlying t,x with
 | some .string,.str s=>if mx.isSome then none else
  match bounds (len s) (len s) lo hi none with
  | some (l,h,_)=>some (.str (c9 l (cU s h)))
  | none=>none
 | some (.slice e),.ak=>match bV P e,bounds 0 0 lo hi mx with
  | some _,some _=>some .ak
  | _,_=>none
 | some (.slice e),.slice b off len cap ex esz=>
  match bV P e,bounds len cap lo hi mx with
  | some sz,some (l,h,m)=>if sz≠esz then none else
   (match (ex||mx.isNone|| !(Nat.beq cap 0)) with
    | true=>some (.slice b (if (ex||mx.isSome)&&m==l then off else off+l*esz) (h-l) (m-l) (ex||mx.isSome) esz)
    | false=>none)
  | _,_=>none
 | some (.slice e),.bX es esz ex=>
  match bV P e,bounds (len es) (len es) lo hi mx with
  | some sz,some (l,h,m)=>if sz≠esz then none else some (.bX (cU (c9 l es) (h-l)) esz ((mx.isSome||(ex&&Nat.beq h (len es)))&&Nat.beq h m))
  | _,_=>none
 | some (.slice e),.arr n f esz ex _=>
  match bV P e,bounds n n lo hi mx with
  | some sz,some (l,h,m)=>if sz≠esz then none else some (.arr (h-l) (fun i=>f (Nat.add l i)) esz ((mx.isSome||(ex&&Nat.beq h n))&&Nat.beq h m) false)
  | _,_=>none
 | _,_=>none
noncomputable def Nb (P:Program) (ok:TypeId→V→Bool) (cs:List V) (fs:List Field):Bool:=
 List.rec (motive:=fun _=>Bool) true
  (fun f _ ih=>match f.name== "_",dT P f.type cs f.offset with
   | false,some a=>match ok f.type a with
    | true=>ih
    | false=>false
   | _,_=>false) fs
noncomputable def yA (P:Program) (ok:TypeId→V→Bool) (x:V):Option TypeDesc→Bool
 | some .bool=>true
 | some (.int _)=>true
 | some .string=>true
 | some (.struct fs)=>match x with
  | .agg cs=>Nb P ok cs fs.toList
  | _=>false
 | _=>false
noncomputable def nK (P:Program) (d:Nat):TypeId→V→Bool:=
 Nat.rec (motive:=fun _=>TypeId→V→Bool) (fun _ _=>false) (fun _ ih t x=>yA P ih x (P.underlying t)) d
noncomputable def ni (P:Program) (t:TypeId) (k:V) (es:List (V×V×Nat)):Nat→Option (Option (Nat×V×V)):=
 List.rec (motive:=fun _=>Nat→Option (Option (Nat×V×V))) (fun _=>some none)
  (fun e _ ih i=>match ir P cD t k e.1 with
   | some true=>some (some (i,e.1,e.2.1))
   | some false=>ih (Nat.succ i)
   | none=>none) es
noncomputable def xO (k v:V) (es:List (V×V×Nat)):Nat→List (V×V×Nat):=
 List.rec (motive:=fun _=>Nat→List (V×V×Nat)) (fun _=>[]) (fun e r ih i=>Nat.rec ((k,v,e.2.2)::r) (fun m _=>e::ih m) i) es
noncomputable def u4 (es:List (V×V×Nat)):Nat→List (V×V×Nat):=
 List.rec (motive:=fun _=>Nat→List (V×V×Nat)) (fun _=>[]) (fun e r ih i=>Nat.rec r (fun m _=>e::ih m) i) es
def u5 (P:Program) (t:TypeId):Option (TypeId×TypeId):=
 match P.underlying t with
 | some (.map k e)=>some (k,e)
 | _=>none
noncomputable def jv (σ:St) (sz:Nat):V→Option (Nat×List V)
 | .ak=>some (0,[])
 | .slice b off len _ _ _=>(σ.cells b off (len*sz)).map fun l=>(len,l)
 | .str l=>if sz=1 then some (len l,mapOf (fun c=>V.int .u8 c.toNat) l) else none
 | .bX es esz _=>if sz=esz then some (len es,ax es) else none
 | _=>none
noncomputable def grown (σ:St) (id sz n:Nat) (cs:List V) (p:Bool):V×St:=
 (.slice id 0 n n false sz,σ.new id (.cells (n*sz) [] (ai cs .leaf 0) p false))
noncomputable def pw (σ:St) (b:Nat):Option Bool:=
 match σ.heap.get b with
 | some (.cells _ _ _ p false)=>some p
 | _=>none
noncomputable def oQ (σ:St) (id sz:Nat) (b:Nat) (ex:Bool) (n:Nat) (new old:List V):Option (V×St):=
 match ex with
 | true=>some (grown σ id sz n (app old new) true)
 | false=>match pw σ b,hY V.scalar new with
  | some p,true=>some (grown (σ.kill b) id sz n (app old new) p)
  | _,_=>none
noncomputable def g9 (σ:St) (id sz dy n:Nat) (new:List V):V→Option (V×St)
 | .ak=>if n=0 then some (.ak,σ) else
  if n*dy≤1099511627776 then some (grown σ id sz n new true) else none
 | .slice b off len cap ex esz=>
  if sz≠esz then none else
  if n=0 then some (.slice b off len cap ex esz,σ) else
  if len+n≤cap then(σ.store b (off+len*sz) new).map fun σ'=>(.slice b off (len+n) cap ex esz,σ')
  else if (len+n)*dy≤1099511627776 then(σ.cells b off (len*sz)).bind (oQ σ id sz b ex (len+n) new) else none
 | .bX es esz true=>
  if sz≠esz then none else
  if n=0 then some (.bX es esz true,σ) else
  if (len es+n)*dy≤1099511627776 then some (grown σ id sz (len es+n) (app (ax es) new) true) else none
 | _=>none
noncomputable def dL (n:Nat) (f g:Nat→V) (j:Nat):V:=Bool.rec (g (Nat.sub j n)) (f j) (Nat.blt j n)
noncomputable def jl (σ:St) (id sz dy m:Nat) (g:Nat→V):V→Option (V×St)
 | .ak=>if m=0 then some (.ak,σ) else
  if m*dy≤1099511627776 then some (.own id m sz,σ.new id (.row m g sz true)) else none
 | .arr n f esz true _=>if n≠0∨sz≠esz then none else
  if m=0 then some (.arr n f esz true false,σ) else
  if m*dy≤1099511627776 then some (.own id m sz,σ.new id (.row m g sz true)) else none
 | .slice b off n cap true esz=>match σ.cells b off 0 with
  | some []=>if n≠0∨cap≠0∨sz≠esz then none else
   if m=0 then some (.slice b off n cap true esz,σ) else
   if m*dy≤1099511627776 then some (.own id m sz,σ.new id (.row m g sz true)) else none
  | _=>none
 | _=>none
noncomputable def jx (P:Program) (σ:St) (id:Nat) (t:TypeId) (s x:V):Option (V×St):=
 match P.underlying t with
 | some (.slice e)=>match bV P e,jL P e,gF P e with
  | some sz,some dy,some z=>if sz=0∨dy=0∨len z.cells≠sz then none else
   match jv σ sz x with
   | none=>none
   | some (n,new)=>g9 σ id sz dy n new s
  | _,_,_=>none
 | _=>none
noncomputable def n0 (P:Program) (σ:St) (id:Nat) (t:TypeId) (m:Nat) (g:Nat→V) (esz:Nat) (s:V):Option (V×St):=
 match P.underlying t with
 | some (.slice e)=>match bV P e,jL P e,gF P e with
  | some sz,some dy,some z=>if sz=0∨dy=0∨len z.cells≠sz∨sz≠esz then none else jl σ id sz dy m g s
  | _,_,_=>none
 | _=>none
noncomputable def u6 (σ:St) (id sz dy b n m:Nat) (g:Nat→V) (new:List V):Option bU→Option (V×St)
 | some (.row n' f esz p)=>if n'=n∧esz=sz∧m≠0∧(n+m)*dy≤1099511627776∧hY V.scalar new=true then some (.own id (n+m) sz,(σ.kill b).new id (.row (n+m) (dL n f g) sz p)) else none
 | _=>none
noncomputable def sJ (es:List V) (j:Nat):V:=match nth es j with | some v=>v | none=>cI
noncomputable def oneOf (σ:St) (sz:Nat):V→Option (Nat×(Nat→V)×List V)
 | .slice bx off n _ _ _=>match Nat.beq n 1,σ.cells bx off (1*sz) with
  | true,some new=>some (1,fun _=>.agg new,new)
  | _,_=>none
 | .bX es esz _=>match Nat.beq esz sz&&Nat.blt 0 (len es) with
  | true=>some (len es,sJ es,ax es)
  | false=>none
 | _=>none
noncomputable def n3 (P:Program) (σ:St) (id:Nat) (t:TypeId) (b n esz:Nat) (x:V):Option (V×St):=
 match P.underlying t with
 | some (.slice e)=>match bV P e,jL P e,gF P e with
  | some sz,some dy,some z=>if sz=0∨dy=0∨len z.cells≠sz∨sz≠esz then none else
   match oneOf σ sz x with
   | some (m,g,new)=>u6 σ id sz dy b n m g new (σ.heap.get b)
   | none=>none
  | _,_,_=>none
 | _=>none
noncomputable def jT (P:Program) (σ:St) (id:Nat) (t:TypeId) (s x:V):Option (V×St):=
 match x with
 | .arr m g esz _ _=>n0 P σ id t m g esz s
 | x=>match s with
  | .own b k esz=>n3 P σ id t b k esz x
  | s=>jx P σ id t s x
noncomputable def Ab (σ:St) (x:V) (n sz:Nat):Option (List V):=
 match x with
 | .ak=>if n=0 then some [] else none
 | .slice b off _ _ _ _=>σ.cells b off (n*sz)
 | .str l=>if sz=1 then some (mapOf (fun c=>V.int .u8 c.toNat) (cU l n)) else none
 | .bX es esz _=>if sz=esz∧n≤len es then some (cU (ax es) (n*sz)) else none
 | _=>none
noncomputable def DB:V→Option Nat
 | .ak=>some 0
 | .slice _ _ n _ _ _=>some n
 | .str l=>some (len l)
 | .bX es _ _=>some (len es)
 | _=>none
inductive bw (α:Type) where
 | ok (a:α)
 | fail (gz:String:= "")
 | pick (n:Nat) (k:Nat→bw α)
 | tr (C:(α→Prop)→Prop) (hm:∀p q:α→Prop,(∀a,p a→q a)→C p→C q) (he:∀p,C p→∃a,p a)
def bw.ar {α:Type} (p:α→Prop):bw α→Prop
 | .ok a=>p a
 | .fail _=>False
 | .pick n k=>0<n∧∀i,i<n→(k i).ar p
 | .tr C _ _=>C p
theorem bw.ar.exists {α:Type} {p:α→Prop} {r:bw α} (h:r.ar p):∃a,p a:=by
 induction r with
 | ok a=>exact⟨a,h⟩
 | fail w=>exact h.elim
 | pick n k ih=>exact ih 0 (h.2 0 h.1)
 | tr C hm he=>exact he p h
theorem bw.ar.mono {α:Type} {p q:α→Prop} {r:bw α} (h:r.ar p) (uC:∀a,p a→q a):r.ar q:=by
 induction r with
 | ok a=>exact uC _ h
 | fail w=>exact h
 | pick n k ih=>exact⟨h.1,fun i hi=>ih i (h.2 i hi)⟩
 | tr C hm he=>exact hm p q uC h
noncomputable def bw.bind {α β:Type} (r:bw α) (f:α→bw β):bw β:=
 bw.rec (motive:=fun _=>bw β) f (fun w=>.fail w) (fun n _ ih=>.pick n ih)
  (fun C hm he=>.tr (fun q=>C fun x=>(f x).ar q) (fun _ _ h=>hm _ _ fun _ ha=>bw.ar.mono ha h) fun _ h=>let ⟨_,ha⟩:=he _ h;bw.ar.exists ha) r
def bw.of {α:Type} (gz:String):Option α→bw α
 | some a=>.ok a
 | none=>.fail gz
def bw.rE:Nat→(Nat→Bool)→Bool
 | 0,_=>true
 | n+1,p=>bw.rE n p&&p n
def bw.check {α:Type} (p:α→Bool):bw α→Bool
 | .ok a=>p a
 | .fail _=>false
 | .pick n k=>Nat.blt 0 n&&bw.rE n fun i=>(k i).check p
 | .tr _ _ _=>false
abbrev Entries:=List (V×V×Nat)
def candidates (es:Entries) (since:Nat) (seen:List Nat):List (Option (V×V×Nat)):=
 let left:=es.filter fun e=> !seen.contains e.2.2
 let old:=left.filter fun e=>decide (e.2.2<since)
 let new:=left.filter fun e=>decide (e.2.2≥since)
 (if old.isEmpty then [none] else [])++(old++new).map some
noncomputable def qt (σ:St) (r m since:Nat) (seen:List Nat) (clock:Nat):Option (Option (V×V×Nat))→bw (V×St)
 | some (some (k,v,b))=>.ok (.tuple [.bool true,k,v],σ.set r (.iter (some m) since (seen++[b]) clock))
 | some none=>.ok (.tuple [.bool false],σ)
 | none=>.fail "next"
noncomputable def BV (σ:St) (r m since:Nat) (seen:List Nat) (clock:Nat) (CU:List (Option (V×V×Nat))):bw (V×St):=
 if CU.length≤1 then qt σ r m since seen clock CU[0]?
 else .pick CU.length fun i=>qt σ r m since seen clock CU[i]?
def Hm (es:Entries) (seen:List Nat) (last:Nat):Bool:= !seen.isEmpty&& !es.isEmpty&&es.all fun e=>decide (e.2.2≥last)
noncomputable def Nc (σ:St) (r:Nat):Option bU→bw (V×St)
 | some (.iter none _ _ _)=>.ok (.tuple [.bool false],σ)
 | some (.iter (some m) since seen last)=>
  match σ.heap.get m with
  | some (.map es clock)=>match Hm es seen last with
   | true=>.fail "next: all gone"
   | false=>BV σ r m since seen clock (candidates es since seen)
  | _=>.fail "next: no map"
 | _=>.fail "next: no iterator"
noncomputable def evalNext (σ:St) (it:V) (isString:Bool):bw (V×St):=
 match it,isString with
 | .ptr r 0,false=>Nc σ r (σ.heap.get r)
 | _,_=>.fail "next: no iterator"
noncomputable def u7 (σ:St) (it:V):Option V:=
 match it with
 | .ptr r 0=>match σ.heap.get r with
  | some (.iter (some m) _ seen last)=>match seen.getLast?,σ.heap.get m with
   | some wE,some (.map es clock)=>if clock != last then none else
    match es.find? fun e=>e.2.2==wE with
    | some e=>some (.tuple [e.1,e.2.1])
    | none=>none
   | _,_=>none
  | _=>none
 | _=>none
noncomputable def u9 (σ:St):V→Option V
 | .dc=>some (.int .i64 0)
 | .map r=>match σ.heap.get r with
  | some (.map es _)=>some (.int .i64 (len es))
  | _=>none
 | _=>none
noncomputable def eT (P:Program) (σ:St) (t:TypeId) (x:V):Option V:=
 match P.underlying t with
 | some .string=>match x with
  | .str s=>some (.int .i64 (len s))
  | _=>none
 | some (.array n _)=>some (.int .i64 n)
 | some (.slice _)=>match x with
  | .ak=>some (.int .i64 0)
  | .slice _ _ n _ _ _=>some (.int .i64 n)
  | .bX es _ _=>some (.int .i64 (len es))
  | .arr n _ _ _ _=>some (.int .i64 n)
  | .own _ n _=>some (.int .i64 n)
  | _=>none
 | some (.map _ _)=>u9 σ x
 | _=>none
noncomputable def Nd (σ:St) (n:Nat) (l:List V):V→Option (V×St)
 | .ak=>some (.int .i64 n,σ)
 | .slice b off _ cap ex _=>match ex|| !(Nat.beq cap 0) with
  | true=>(σ.store b off l).map fun σ'=>(.int .i64 n,σ')
  | false=>none
 | _=>none
noncomputable def xP (P:Program) (σ:St) (t:TypeId) (d x:V):Option (V×St):=
 match P.underlying t with
 | some (.slice e)=>match bV P e,DB x,DB d with
  | some sz,some n,some m=>if sz=0 then none else
   match Ab σ x (min n m) sz with
   | none=>none
   | some l=>Nd σ (min n m) l d
  | _,_,_=>none
 | _=>none
noncomputable def DC (P:Program) (σ:St) (r:Nat) (t:TypeId) (k:V):Option bU→Option (V×St)
 | some (.map es clock)=>match ni P t k es 0 with
  | some (some (i,_,_))=>some (.tuple [],σ.set r (.map (u4 es i) clock))
  | some none=>some (.tuple [],σ.set r (.map es clock))
  | none=>none
 | _=>none
noncomputable def sK (P:Program) (σ:St) (t:TypeId) (m k:V):Option (V×St):=
 match u5 P t with
 | some (kt,_)=>match nK P cD kt k with
  | true=>match m with
   | .dc=>some (.tuple [],σ)
   | .map r=>DC P σ r kt k (σ.heap.get r)
   | _=>none
  | false=>none
 | none=>none
def intType (P:Program) (t:TypeId):Bool:=
 match P.underlying t with
 | some (.int _)=>true
 | some _=>false
 | none=>true
noncomputable def l4 (sz n:Nat) (z:List V):List V:=(List.range (n*sz)).map fun i=>z.getD (i%sz) cI
noncomputable def k7 (P:Program) (σ:St) (id:Nat) (t t':TypeId) (s x:V):Option (V×St):=
 match P.underlying t,P.underlying t' with
 | some (.slice e),some (.int _)=>match s,x with
  | .ak,.int .i64 n=>match bV P e,jL P e,gF P e with
   | some sz,some dy,some z=>if sz=0∨dy=0∨len z.cells≠sz∨n<1∨1099511627776<n.toNat*dy then none else some (grown σ id sz n.toNat (l4 sz n.toNat z.cells) true)
   | _,_,_=>none
  | _,_=>none
 | _,_=>none
noncomputable def Ac (P:Program) (t:TypeId) (x:V):Option V:=
 match P.underlying t,x with
 | some (.slice _),.ak=>some (.int .i64 0)
 | some (.slice _),.slice _ _ _ c true _=>some (.int .i64 c)
 | _,_=>none
noncomputable def Hn (σ:St) (sz:Nat) (z:List V):V→Option (V×St)
 | .ak=>some (.tuple [],σ)
 | .slice b off n cap ex _=>match Nat.beq n 0,ex|| !(Nat.beq cap 0) with
  | true,_=>some (.tuple [],σ)
  | false,true=>(σ.store b off (l4 sz n z)).map fun σ'=>(.tuple [],σ')
  | false,false=>none
 | _=>none
noncomputable def evalClear (P:Program) (σ:St) (t:TypeId) (d:V):Option (V×St):=
 match P.underlying t with
 | some (.slice e)=>match gF P e with
  | some z=>if len z.cells=0 then none else Hn σ (len z.cells) z.cells d
  | none=>none
 | _=>none
noncomputable def gP (P:Program) (σ:St) (id:Nat) (b:Builtin) (tys:List TypeId) (args:List V):Option (V×St):=
 match b,tys,args with
 | .len,t::_,[x]=>(eT P σ t x).map (·,σ)
 | .append,t::t'::_,[s,x]=>match intType P t' with
  | true=>k7 P σ id t t' s x
  | false=>jT P σ id t s x
 | .copy,t::_,[d,x]=>xP P σ t d x
 | .delete,t::_,[m,k]=>sK P σ t m k
 | .max,_,[.int k x,.int _ y]=>some (.int k (if y>x then y else x),σ)
 | .min,_,[.int k x,.int _ y]=>some (.int k (if y<x then y else x),σ)
 | .cap,t::_,[x]=>(Ac P t x).map (·,σ)
 | .clear,t::_,[x]=>evalClear P σ t x
 | _,_,_=>none
noncomputable def St.jy (σ:St) (b i esz:Nat):Option (List V):=
 match σ.heap.get b with
 | some (.row n f z _)=>if i<n∧z=esz then some (f i).cells else none
 | _=>none
noncomputable def KD (cs:List V) (off n:Nat):Option V:=
 match Nat.ble (Nat.add off n) (len cs) with
 | true=>some (.agg (cU (c9 off cs) n))
 | false=>none
noncomputable def eC (P:Program) (σ:St) (t:TypeId) (x:V):Option V:=
 match x,sH P t,bV P t with
 | .ptr b off,some true,some n=>(σ.cells b off n).map .agg
 | .ptr b off,some false,_=>σ.cell b off
 | .aU cs off,some true,some n=>match Nat.ble (Nat.add off n) (len cs) with
  | true=>some (.agg (cU (c9 off cs) n))
  | false=>none
 | .aU cs off,some false,_=>nth cs off
 | .fH b i esz off,some true,some n=>(σ.jy b i esz).bind fun cs=>KD cs off n
 | .fH b i esz off,some false,_=>(σ.jy b i esz).bind fun cs=>nth cs off
 | _,_,_=>none
def eI:List V→Option (List UInt8)
 | []=>some []
 | .int .u8 n::l=>(eI l).map (UInt8.ofNat n.toNat::·)
 | _=>none
noncomputable def aw (s:List UInt8) (i:Nat):Int:=match nth s i with | some c=>c.toNat | none=>0
noncomputable def dM (s:List UInt8) (i:Nat):V:=.int .u8 (aw s i)
noncomputable def evalConv (P:Program) (σ:St) (id:Nat) (src dst:TypeId) (x:V):Option (V×St):=
 match P.underlying src,P.underlying dst,x with
 | some (.int _),some (.int k),.int _ n=>some (.int k (k.wrap n),σ)
 | some (.int _),some (.float k),.int _ n=>some (.dO k (k.nearest n),σ)
 | some (.float _),some (.int k),.dO s b=>match (s.decode b).toInt .zero with
  | some n=>if k.min≤n∧n≤k.max then some (.int k n,σ) else none
  | none=>none
 | some .string,some .string,.str s=>some (.str s,σ)
 | some .string,some (.slice e),.str s=>match P.underlying e with
  | some (.int .u8)=>if bV P e=some 1∧jL P e=some 1∧len s≤1099511627776 then
    some (.own id (len s) 1,σ.new id (.row (len s) (dM s) 1 false)) else none
  | _=>none
 | some (.slice e),some .string,.ak=>match P.underlying e with
  | some (.int .u8)=>some (.str [],σ)
  | _=>none
 | some (.slice e),some .string,.slice b off len _ _ _=>match P.underlying e with
  | some (.int .u8)=>match σ.cells b off len with
   | some l=>(eI l).map fun s=>(.str s,σ)
   | none=>none
  | _=>none
 | some (.slice e),some .string,.bX es esz _=>match P.underlying e with
  | some (.int .u8)=>match Nat.beq esz 1 with
   | true=>(eI (ax es)).map fun s=>(.str s,σ)
   | false=>none
  | _=>none
 | some (.slice e),some .string,.own b n _=>match P.underlying e with
  | some (.int .u8)=>match σ.heap.get b with
   | some (.row n' f z _)=>if n'=n∧z=1 then(eI (ax (cn n' f))).map fun s=>(.str s,σ) else none
   | _=>none
  | _=>none
 | _,_,_=>none
def sL (P:Program) (x:V) (asserted:TypeId) (ok:Bool):Option V:=
 let holds (v:V):Option V:=some (if ok then .tuple [v,.bool true] else v)
 let CV:Option V:=if ok then(gF P asserted).map fun z=>.tuple [z,.bool false] else none
 match P.underlying asserted,x with
 | some (.interface _),.bh=>CV
 | some (.interface want),.iface t _=>match P.info? t with
  | some i=>match Instr.missingMethod want i.methods with
   | none=>holds x
   | some _=>CV
  | none=>none
 | some _,.bh=>CV
 | some _,.iface t v=>if t=asserted then holds v else CV
 | _,_=>none
noncomputable def places (P:Program) (fs:List Field):Option (List (Nat×Nat)):=
 match fs with
 | []=>some []
 | f::l=>match bV P f.type,places P l with
  | some n,some r=>some ((f.offset,n)::r)
  | _,_=>none
noncomputable def va (P:Program) (t:TypeId) (ps:List (Nat×V)):Option V:=
 match gF P t,P.underlying t with
 | some z,some (.struct fs)=>match places P fs.toList with
  | some pl=>(sI (nth pl) ps z.cells).map .agg
  | none=>none
 | some z,some (.array _ e)=>match bV P e with
  | some n=>(sI (fun i=>some (i*n,n)) ps z.cells).map .agg
  | none=>none
 | _,_=>none
inductive Ext where
 | DD | toBits | Nf | KE
def xQ (n:String):Option Ext:=
 if n== "math.Float64frombits" then some .DD
 else if n== "math.Float64bits" then some .toBits
 else if n== "internal/bytealg.abigen_runtime_cmpstring" then some .Nf
 else if n== "math.archTrunc" then some .KE
 else none
def oR (P:Program):Operand→Option Ext
 | .func f=>match P.funcs[f]? with
  | some fn=>match fn.body with
   | none=>if fn.origin== "" then xQ fn.name else none
   | some _=>none
  | none=>none
 | _=>none
def ja (b:Nat):Nat:=FloatKind.f64.encode ((FloatKind.f64.decode b).integral .zero)
noncomputable def sM:Ext→List V→Option V
 | .DD,[.int .u64 n]=>some (.dO .f64 n.toNat)
 | .toBits,[.dO .f64 b]=>some (.int .u64 b)
 | .Nf,[.str a,.str b]=>some (.int .i64 (Lib.compareBytes a b))
 | .KE,[.dO .f64 b]=>if (FloatKind.f64.decode b).isNaN then none else some (.dO .f64 (ja b))
 | _,_=>none
abbrev VS:=bw (V×St)
noncomputable def aQ (σ:St) (gz:String):Option V→VS
 | some v=>.ok (v,σ)
 | none=>.fail gz
noncomputable def eH (gz:String) (x:Option V) (k:V→VS):VS:=
 match x with
 | some v=>k v
 | none=>.fail gz
noncomputable def n4 (a:Act) (σ:St) (x y:Operand):V→VS
 | .bool b=>aQ σ "pick" (a.eval (if b then x else y))
 | _=>.fail "pick"
noncomputable def newRow (σ:St) (id n:Nat) (z:List V) (t:Trie V) (plain:Bool):St:=σ.new id (.cells n z t plain false)
noncomputable def yB (σ:St) (id:Nat) (v:V):VS:=
 match hY V.scalar v.cells with
 | true=>.ok (.ptr id 0,newRow σ id (len v.cells) [] (ai v.cells .leaf 0) true)
 | false=>.fail "box"
noncomputable def nj (P:Program) (σ:St) (t:TypeId):Option (List (Nat×V))→VS
 | some l=>aQ σ "build" (va P t l)
 | none=>.fail "build operand"
noncomputable def hG (P:Program) (t:TypeId):Option TypeId:=
 match P.underlying t with
 | some (.slice e)=>some e
 | _=>none
noncomputable def oS (sz n:Nat) (z:List V) (l:List (Nat×V)):Option (List V):=
 sI (fun i=>some (i*sz,sz)) l ((List.range (n*sz)).map fun i=>z.getD (i%sz) cI)
noncomputable def lE (σ:St) (id sz n:Nat) (l:List (Nat×V)) (z:List V):VS:=
 if sz=0∨n*sz>65536∨len z≠sz then .fail "buildSlice" else
 match oS sz n z l with
 | some cs=>match hY V.scalar cs with
  | true=>.ok (.slice id 0 n n true sz,newRow σ id (n*sz) [] (ai cs .leaf 0) true)
  | false=>.fail "buildSlice"
 | none=>.fail "buildSlice"
noncomputable def oT (σ:St) (sz n:Nat) (l:List (Nat×V)) (z:List V):VS:=
 if sz≠1∨n>65536∨len z≠1 then .fail "buildSlice" else
 match oS 1 n z l with
 | some cs=>match hY V.scalar cs with
  | true=>.ok (.bX cs 1 true,σ)
  | false=>.fail "buildSlice"
 | none=>.fail "buildSlice"
def isByte (P:Program) (e:TypeId):Bool:=
 match P.underlying e with
 | some (.int .u8)=>true
 | _=>false
noncomputable def gk (P:Program) (σ:St) (id:Nat) (t:TypeId) (n:Nat):Option (List (Nat×V))→VS
 | some l=>match hG P t with
  | some e=>match bV P e,gF P e with
   | some sz,some z=>match isByte P e with
    | true=>oT σ sz n l z.cells
    | false=>lE σ id sz n l z.cells
   | _,_=>.fail "buildSlice type"
  | none=>.fail "buildSlice type"
 | none=>.fail "buildSlice operand"
noncomputable def BW (_:St) (gz:String):Option St→VS
 | some σ'=>.ok (cI,σ')
 | none=>.fail gz
noncomputable def e9 (f:Nat→V) (i:Nat) (v:V) (j:Nat):V:=Bool.rec (f j) v (Nat.beq j i)
noncomputable def rF (u:V) (esz off:Nat) (v:V):V:=
 match Nat.beq (len v.cells) esz with
 | true=>v
 | false=>.agg (app (cU u.cells off) (app v.cells (c9 (Nat.add off (len v.cells)) u.cells)))
noncomputable def St.j5 (σ:St) (b i esz off:Nat) (v:V):Option St:=
 match σ.heap.get b with
 | some (.row n f z p)=>if i<n∧z=esz then
  match Nat.ble (Nat.add off (len v.cells)) esz&&hY V.scalar v.cells with
  | true=>some (σ.set b (.row n (e9 f i (rF (f i) esz off v)) z p))
  | false=>none
  else none
 | _=>none
noncomputable def ph (P:Program) (σ:St) (t:TypeId) (v:V):V→VS
 | .fH b i esz off=>match bV P t with
  | some n=>if len v.cells=n then BW σ "store" (σ.j5 b i esz off v) else .fail "store size"
  | none=>.fail "store type"
 | .ptr b off=>match bV P t with
  | some n=>if len v.cells=n then BW σ "store" (σ.store b off v.cells) else .fail "store size"
  | none=>.fail "store type"
 | _=>.fail "store address"
noncomputable def oU (σ:St):V→VS
 | .ptr b o=>.ok (.ptr b o,σ)
 | .aU cs o=>.ok (.aU cs o,σ)
 | .fH b i z o=>.ok (.fH b i z o,σ)
 | .func (.method _) _ _=>.fail "nilCheck method"
 | .func f x y=>.ok (.func f x y,σ)
 | .iface t v=>.ok (.iface t v,σ)
 | _=>.fail "nilCheck"
noncomputable def iu (P:Program) (σ:St) (t:TypeId) (v:V):VS:=
 match P.underlying t with
 | some (.interface _)=>.fail "makeInterface"
 | some _=>.ok (.iface t v,σ)
 | none=>.fail "makeInterface"
noncomputable def jz (σ:St) (fn:Fn):Option (List V)→Option (List V)→VS
 | some x,some y=>match fn with
  | .yield _=>.fail "makeFunc"
  | _=>.ok (.func fn x y,σ)
 | _,_=>.fail "makeFunc"
noncomputable def jm (P:Program) (a:Act) (σ:St) (id:Nat) (t:TypeId):Option Operand→VS
 | none=>.ok (.map id,σ.new id (.map [] 0))
 | some x=>match a.eval x,P.underlying t with
  | some (.int _ _),some (.map _ _)=>.ok (.map id,σ.new id (.map [] 0))
  | _,_=>.fail "makeMap"
noncomputable def mu (σ:St) (id sz dy:Nat) (z:List V) (n m:Int):VS:=
 if 0≤n∧n≤m∧m.toNat*dy≤1099511627776∧m≤1099511627776∧sz≠0∧len z=sz∧hY V.scalar z=true then
  .ok (.slice id 0 n.toNat m.toNat true sz,newRow σ id (m.toNat*sz) z .leaf true)
 else .fail "makeSlice"
noncomputable def gQ (P:Program) (σ:St) (id:Nat) (t:TypeId) (n m:V):VS:=
 match n,m with
 | .int _ n,.int _ m=>match hG P t with
  | some e=>match bV P e,jL P e,gF P e with
   | some sz,some dy,some z=>mu σ id sz dy z.cells n m
   | _,_,_=>.fail "makeSlice type"
  | none=>.fail "makeSlice type"
 | _,_=>.fail "makeSlice operand"
noncomputable def j6 (P:Program) (t:TypeId):Option (Nat×TypeId):=
 match P.underlying t with
 | some (.array n e)=>some (n,e)
 | _=>none
noncomputable def kI (P:Program) (σ:St) (n:Nat) (e:TypeId) (lo hi mx:Option V):V→Option V
 | .ptr b off=>match bV P e,bounds n n lo hi mx,σ.heap.get b with
  | some sz,some (l,h,m),some (.cells N _ _ _ _)=>match Nat.ble (Nat.add off (Nat.mul n sz)) N with
   | true=>some (.slice b (match Nat.beq m l with | true=>off | false=>Nat.add off (Nat.mul l sz)) (h-l) (m-l) true sz)
   | false=>none
  | _,_,_=>none
 | _=>none
noncomputable def fS (P:Program) (a:Act) (σ:St) (t:TypeId) (lo hi mx:Option Operand) (v:V):VS:=
 match iZ a lo,iZ a hi,iZ a mx with
 | some l,some h,some m=>match j6 P t with
  | some (n,e)=>aQ σ "slice" (kI P σ n e l h m v)
  | none=>aQ σ "slice" (nZ P t v l h m)
 | _,_,_=>.fail "slice operand"
noncomputable def k8 (P:Program) (σ:St) (s:TypeId) (f:Nat):V→VS
 | .ptr b off=>match l0 P s f with
  | some fd=>match bV P fd.type with
   | some (_+1)=>.ok (.ptr b (off+fd.offset),σ)
   | _=>.fail "fieldAddr"
  | none=>.fail "fieldAddr"
 | .aU cs off=>match l0 P s f with
  | some fd=>match bV P fd.type with
   | some (_+1)=>.ok (.aU cs (off+fd.offset),σ)
   | _=>.fail "fieldAddr"
  | none=>.fail "fieldAddr"
 | .fH b i esz off=>match l0 P s f with
  | some fd=>match bV P fd.type with
   | some (_+1)=>.ok (.fH b i esz (off+fd.offset),σ)
   | _=>.fail "fieldAddr"
  | none=>.fail "fieldAddr"
 | _=>.fail "fieldAddr operand"
noncomputable def rG (P:Program) (σ:St) (t:TypeId) (f:Nat):V→VS
 | .agg cs=>match l0 P t f with
  | some fd=>aQ σ "field" (dT P fd.type cs fd.offset)
  | none=>.fail "field"
 | _=>.fail "field operand"
noncomputable def px (P:Program) (σ:St) (t:TypeId) (b off len esz:Nat) (i:Int):VS:=
 match hG P t with
 | some e=>match bV P e with
  | some sz=>if 0≤i∧i<len∧sz=esz then .ok (.ptr b (off+i.toNat*sz),σ) else .fail "indexAddr"
  | none=>.fail "indexAddr"
 | none=>.fail "indexAddr"
noncomputable def py (P:Program) (σ:St) (t:TypeId) (b off:Nat) (i:Int):VS:=
 match j6 P t with
 | some (len,e)=>match bV P e with
  | some sz=>if 0≤i∧i<len then .ok (.ptr b (off+i.toNat*sz),σ) else .fail "indexAddr"
  | none=>.fail "indexAddr"
 | none=>.fail "indexAddr"
noncomputable def pz (P:Program) (σ:St) (t:TypeId) (es:List V) (esz:Nat) (i:Int):VS:=
 match hG P t with
 | some e=>match bV P e with
  | some sz=>if 0≤i∧i<len es∧sz=esz∧sz≠0 then match nth es i.toNat with
    | some v=>.ok (.aU v.cells 0,σ)
    | none=>.fail "indexAddr"
   else .fail "indexAddr"
  | none=>.fail "indexAddr"
 | none=>.fail "indexAddr"
noncomputable def j7 (P:Program) (σ:St) (t:TypeId) (n:Nat) (f:Nat→V) (esz:Nat) (i:Int):VS:=
 match hG P t with
 | some e=>match bV P e with
  | some sz=>if 0≤i∧i<n∧sz=esz∧sz≠0 then .ok (.aU (f i.toNat).cells 0,σ) else .fail "indexAddr"
  | none=>.fail "indexAddr"
 | none=>.fail "indexAddr"
noncomputable def j8 (P:Program) (σ:St) (t:TypeId) (b n esz:Nat) (i:Int):VS:=
 match hG P t with
 | some e=>match bV P e with
  | some sz=>if 0≤i∧i<n∧sz=esz∧sz≠0 then .ok (.fH b i.toNat esz 0,σ) else .fail "indexAddr"
  | none=>.fail "indexAddr"
 | none=>.fail "indexAddr"
noncomputable def jU (P:Program) (σ:St) (t:TypeId) (x ix:V):VS:=
 match x,ix with
 | .own b n esz,.int _ i=>j8 P σ t b n esz i
 | .arr n f esz _ _,.int _ i=>j7 P σ t n f esz i
 | .slice b off len _ _ esz,.int _ i=>px P σ t b off len esz i
 | .bX es esz _,.int _ i=>pz P σ t es esz i
 | .ptr b off,.int _ i=>py P σ t b off i
 | _,_=>.fail "indexAddr operand"
noncomputable def mw (P:Program) (σ:St) (t:TypeId) (s:List UInt8) (i:Int):VS:=
 match P.underlying t with
 | some .string=>if 0≤i then match nth s i.toNat with
   | some c=>.ok (.int .u8 c.toNat,σ)
   | none=>.fail "index"
  else .fail "index"
 | _=>.fail "index"
noncomputable def sN (P:Program) (σ:St) (t:TypeId) (cs:List V) (i:Int):VS:=
 match j6 P t with
 | some (len,e)=>match bV P e with
  | some sz=>if 0≤i∧i<len then aQ σ "index" (dT P e cs (i.toNat*sz)) else .fail "index"
  | none=>.fail "index"
 | none=>.fail "index"
noncomputable def pj (P:Program) (σ:St) (t:TypeId) (x ix:V):VS:=
 match x,ix with
 | .str s,.int _ i=>mw P σ t s i
 | .agg cs,.int _ i=>sN P σ t cs i
 | _,_=>.fail "index operand"
noncomputable def entriesOf (σ:St):V→Option (List (V×V×Nat))
 | .dc=>some []
 | .map r=>match σ.heap.get r with
  | some (.map es _)=>some es
  | _=>none
 | _=>none
noncomputable def yC (ok:Bool) (v:V) (b:Bool):V:=if ok then .tuple [v,.bool b] else v
noncomputable def gv (P:Program) (σ:St) (t:TypeId) (ok:Bool) (m k:V):VS:=
 match u5 P t,entriesOf σ m with
 | some (kt,e),some es=>match nK P cD kt k with
  | true=>match ni P kt k es 0 with
   | some (some (_,_,v))=>.ok (yC ok v true,σ)
   | some none=>match gF P e with
    | some z=>.ok (yC ok z false,σ)
    | none=>.fail "lookup: zero"
   | none=>.fail "lookup: key"
  | false=>.fail "lookup: key"
 | _,_=>.fail "lookup"
noncomputable def uD (P:Program) (σ:St) (r:Nat) (t:TypeId) (k v:V) (es:List (V×V×Nat)) (clock:Nat):VS:=
 match ni P t k es 0 with
 | some (some (i,k',_))=>match V.beq k' k&&V.flat k with
  | true=>.ok (cI,σ.set r (.map (xO k v es i) clock))
  | false=>.fail "mapUpdate: key"
 | some none=>.ok (cI,σ.set r (.map (app es [(k,v,clock)]) (Nat.succ clock)))
 | none=>.fail "mapUpdate"
noncomputable def nL (P:Program) (σ:St) (t:TypeId) (m k v:V):VS:=
 match m,u5 P t with
 | .map r,some (kt,_)=>match nK P cD kt k,σ.heap.get r with
  | true,some (.map es clock)=>uD P σ r kt k v es clock
  | _,_=>.fail "mapUpdate: no map"
 | _,_=>.fail "mapUpdate operand"
noncomputable def Ad (P:Program) (σ:St) (id:Nat) (t:TypeId) (x:V):VS:=
 match x,u5 P t with
 | .dc,some _=>.ok (.ptr id 0,σ.new id (.iter none 0 [] 0))
 | .map m,some _=>match σ.heap.get m with
  | some (.map _ clock)=>.ok (.ptr id 0,σ.new id (.iter (some m) clock [] clock))
  | _=>.fail "range"
 | _,_=>.fail "range"
noncomputable def qu (σ:St) (i:Nat):V→VS
 | .tuple vs=>aQ σ "extract" (nth vs i)
 | _=>.fail "extract"
noncomputable def pk (P:Program) (σ:St) (id:Nat) (e:TypeId):VS:=
 match gF P e with
 | some z=>match hY V.scalar z.cells with
  | true=>.ok (.ptr id 0,newRow σ id (len z.cells) [] (ai z.cells .leaf 0) true)
  | false=>.fail "alloc"
 | none=>.fail "alloc"
noncomputable def pA (P:Program) (σ:St) (t:TypeId) (v:V):VS:=aQ σ "load" (eC P σ t v)
noncomputable def Xd (σ:St) (op:UnOp) (v:V):VS:=aQ σ "unOp" (DA op v)
noncomputable def wF (P:Program) (σ:St) (op:BinOp) (t:TypeId) (lit:Bool) (v u:V):VS:=aQ σ "binOp" (evalBin P σ op t lit v u)
noncomputable def dw (P:Program) (σ:St) (id:Nat) (s d:TypeId) (v:V):VS:=.of "convert" (evalConv P σ id s d v)
noncomputable def xR (P:Program) (σ:St) (t:TypeId) (ok:Bool) (v:V):VS:=aQ σ "typeAssert" (sL P v t ok)
noncomputable def UR (σ:St) (v:V):VS:=aQ σ "entry" (u7 σ v)
noncomputable def iw (P:Program) (σ:St) (id:Nat) (b:Builtin) (tys:List TypeId):Option (List V)→VS
 | some vs=>.of "builtin" (gP P σ id b tys vs)
 | none=>.fail "builtin operand"
noncomputable def m6 (gz:String) (x y:Option V) (k:V→V→VS):VS:=
 match x with
 | some v=>match y with
  | some u=>k v u
  | none=>.fail gz
 | none=>.fail gz
noncomputable def CW (σ:St) (e:Ext):Option (List V)→VS
 | some vs=>aQ σ "extern" (sM e vs)
 | none=>.fail "extern operand"
noncomputable def pn (P:Program) (a:Act) (σ:St) (id:Nat) (c:Call):VS:=
 match c.callee with
 | .builtin b=>iw P σ id b c.argTypes.toList (a.bQ c.args.toList)
 | _=>.fail "operation: call"
structure OpC where
 f:Act→St→Nat→VS
noncomputable def m7 (P:Program) (o:Op):OpC:=
 match o with
 | .move x=>⟨fun a σ _=>aQ σ "move" (a.eval x)⟩
 | .assign x=>⟨fun a σ _=>aQ σ "assign" (a.eval x)⟩
 | .pick c x y=>⟨fun a σ _=>eH "pick operand" (a.eval c) (n4 a σ x y)⟩
 | .alloc e=>⟨fun _ σ id=>pk P σ id e⟩
 | .box _ x=>⟨fun a σ id=>eH "box operand" (a.eval x) (yB σ id)⟩
 | .build t ps=>⟨fun a σ _=>nj P σ t (a.parts ps.toList)⟩
 | .buildSlice t n ps=>⟨fun a σ id=>gk P σ id t n (a.parts ps.toList)⟩
 | .load t x=>⟨fun a σ _=>eH "load operand" (a.eval x) (pA P σ t)⟩
 | .store t x y=>⟨fun a σ _=>m6 "store operand" (a.eval y) (a.eval x) (ph P σ t)⟩
 | .nilCheck x=>⟨fun a σ _=>eH "nilCheck operand" (a.eval x) (oU σ)⟩
 | .binOp op t x y _=>⟨fun a σ _=>m6 "binOp operand" (a.eval x) (a.eval y) (wF P σ op t (isConst x||isConst y))⟩
 | .unOp op _ x=>⟨fun a σ _=>eH "unOp operand" (a.eval x) (Xd σ op)⟩
 | .convert s d x=>⟨fun a σ id=>eH "convert operand" (a.eval x) (dw P σ id s d)⟩
 | .makeInterface t x=>⟨fun a σ _=>eH "makeInterface operand" (a.eval x) (iu P σ t)⟩
 | .makeFunc fn f c=>⟨fun a σ _=>jz σ fn (a.bQ f.toList) (a.bQ c.toList)⟩
 | .makeMap t h=>⟨fun a σ id=>jm P a σ id t h⟩
 | .makeSlice t l c=>⟨fun a σ id=>m6 "makeSlice operand" (a.eval l) (a.eval c) (gQ P σ id t)⟩
 | .slice t x lo hi mx=>⟨fun a σ _=>eH "slice operand" (a.eval x) (fS P a σ t lo hi mx)⟩
 | .fieldAddr s x f=>⟨fun a σ _=>eH "fieldAddr operand" (a.eval x) (k8 P σ s f)⟩
 | .field t x f=>⟨fun a σ _=>eH "field operand" (a.eval x) (rG P σ t f)⟩
 | .indexAddr t x ix=>⟨fun a σ _=>m6 "indexAddr operand" (a.eval x) (a.eval ix) (jU P σ t)⟩
 | .index t x ix=>⟨fun a σ _=>m6 "index operand" (a.eval x) (a.eval ix) (pj P σ t)⟩
 | .lookup t x k ok=>⟨fun a σ _=>m6 "lookup operand" (a.eval x) (a.eval k) (gv P σ t ok)⟩
 | .mapUpdate t x k v=>⟨fun a σ _=>m6 "mapUpdate operand" (a.eval x) (a.eval k) fun m kv=>eH "mapUpdate operand" (a.eval v) (nL P σ t m kv)⟩
 | .insert t x k v=>⟨fun a σ _=>m6 "insert operand" (a.eval x) (a.eval k) fun m kv=>eH "insert operand" (a.eval v) (nL P σ t m kv)⟩
 | .range t x=>⟨fun a σ id=>eH "range operand" (a.eval x) (Ad P σ id t)⟩
 | .next it s=>⟨fun a σ _=>eH "next operand" (a.eval it) fun v=>evalNext σ v s⟩
 | .entry it=>⟨fun a σ _=>eH "entry operand" (a.eval it) (UR σ)⟩
 | .typeAssert x _ t ok=>⟨fun a σ _=>eH "typeAssert operand" (a.eval x) (xR P σ t ok)⟩
 | .extract x i=>⟨fun a σ _=>eH "extract operand" (a.eval x) (qu σ i)⟩
 | .call c=>⟨fun a σ id=>pn P a σ id c⟩
 | _=>⟨fun _ _ _=>.fail "operation"⟩
end Go.Ev
