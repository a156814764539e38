/- Proved: parts of the way: Core. -/
import GoSem.Dispatch
import GoSem.Machine.Frame
import Derived.Lib.Bytealg
set_option linter.unusedVariables false
set_option linter.unusedSimpArgs false
namespace Go.Ev
noncomputable def nth {α:Type} (l:List α):Nat→Option α:=
 List.rec (motive:=fun _=>Nat→Option α) (fun _=>none) (fun a _ ih n=>Nat.rec (some a) (fun m _=>ih m) n) l
theorem dA {α:Type} (l:List α) (n:Nat):nth l n=l[n]? :=by
 induction l generalizing n with
 | nil=>rfl
 | cons a l ih=>cases n with
  | zero=>rfl
  | succ n=>exact ih n
noncomputable def len {α:Type} (l:List α):Nat:=List.rec (motive:=fun _=>Nat) 0 (fun _ _ n=>Nat.succ n) l
theorem bc {α:Type} (l:List α):len l=l.length:=by
 induction l with
 | nil=>rfl
 | cons a l ih=>exact congrArg Nat.succ ih
noncomputable def app {α:Type} (l r:List α):List α:=List.rec (motive:=fun _=>List α) r (fun a _ t=>a::t) l
theorem gI {α:Type} (l r:List α):app l r=l++r:=by
 induction l with
 | nil=>rfl
 | cons a l ih=>exact congrArg (a::·) ih
noncomputable def gJ {α:Type} (p:α→Bool) (l:List α):Bool:=List.rec (motive:=fun _=>Bool) true (fun a _ b=>Bool.rec false b (p a)) l
theorem rp {α:Type} (p:α→Bool) (l:List α):gJ p l=l.all p:=by
 induction l with
 | nil=>rfl
 | cons a l ih=>
  show(Bool.rec false (gJ p l) (p a):Bool)=_
  rw[ih,List.all_cons];cases p a<;>rfl
noncomputable def dB {α:Type} (l:List α):Nat→List α:=
 List.rec (motive:=fun _=>Nat→List α) (fun _=>[]) (fun a _ ih n=>Nat.rec [] (fun m _=>a::ih m) n) l
theorem eP {α:Type} (l:List α) (n:Nat):dB l n=l.take n:=by
 induction l generalizing n with
 | nil=>cases n<;>rfl
 | cons a l ih=>cases n with
  | zero=>rfl
  | succ n=>exact congrArg (a::·) (ih n)
noncomputable def dq {α:Type} (n:Nat):List α→List α:=
 Nat.rec (motive:=fun _=>List α→List α) (fun l=>l) (fun _ ih l=>List.rec [] (fun _ t _=>ih t) l) n
theorem ew {α:Type} (n:Nat) (l:List α):dq n l=l.drop n:=by
 induction n generalizing l with
 | zero=>cases l<;>rfl
 | succ n ih=>cases l with
  | nil=>rfl
  | cons a l=>exact ih l
noncomputable def mapOf {α β:Type} (f:α→β) (l:List α):List β:=List.rec (motive:=fun _=>List β) [] (fun a _ t=>f a::t) l
theorem Lx {α β:Type} (f:α→β) (l:List α):mapOf f l=l.map f:=by
 induction l with
 | nil=>rfl
 | cons a l ih=>exact congrArg (f a::·) ih
noncomputable def getD {β:Type} (d:β) (l:List β):Nat→β:=
 List.rec (motive:=fun _=>Nat→β) (fun _=>d) (fun a _ ih n=>Nat.rec a (fun m _=>ih m) n) l
noncomputable def kC {β:Type} (d:β) (f:β→β) (n:Nat):List β→List β:=
 Nat.rec (motive:=fun _=>List β→List β) (fun l=>List.rec [f d] (fun a t _=>f a::t) l) (fun _ ih l=>List.rec (d::ih []) (fun a t _=>a::ih t) l) n
theorem getD_nil {β:Type} (d:β) (n:Nat):getD d [] n=d:=rfl
theorem gh {β:Type} (d:β) (f:β→β) (n m:Nat) (l:List β):getD d (kC d f n l) m=if m=n then f (getD d l n) else getD d l m:=by
 induction n generalizing l m with
 | zero=>
  cases l with
  | nil=>cases m with
   | zero=>rfl
   | succ m=>rfl
  | cons a l=>cases m with
   | zero=>rfl
   | succ m=>rfl
 | succ n ih=>
  cases l with
  | nil=>cases m with
   | zero=>rfl
   | succ m=>
    show getD d (kC d f n []) m=_
    rw[ih]
    by_cases h:m=n
    ·subst h;simp [getD_nil]
    ·rw[if_neg h,if_neg (by omega)];rfl
  | cons a l=>cases m with
   | zero=>rfl
   | succ m=>
    show getD d (kC d f n l) m=_
    rw[ih]
    by_cases h:m=n
    ·subst h;rw[if_pos rfl,if_pos rfl];rfl
    ·rw[if_neg h,if_neg (by omega)];rfl
abbrev bF (α:Type):=List (List (Option α))
noncomputable def bF.get {α:Type} (t:bF α) (n:Nat):Option α:=getD none (getD [] t (Nat.div n 8)) (Nat.mod n 8)
noncomputable def bF.put {α:Type} (t:bF α) (n:Nat) (v:α):bF α:=kC [] (kC none (fun _=>some v) (Nat.mod n 8)) (Nat.div n 8) t
theorem bF.get_nil {α:Type} (n:Nat):bF.get ([]:bF α) n=none:=rfl
theorem bF.bP {α:Type} (t:bF α) (n m:Nat) (v:α):(t.put n v).get m=if m=n then some v else t.get m:=by
 show getD none (getD [] (kC [] (kC none (fun _=>some v) (n%8)) (n/8) t) (m/8)) (m%8)=if m=n then some v else getD none (getD [] t (m/8)) (m%8)
 rw[gh]
 by_cases h:m=n
 ·subst h;rw[if_pos rfl,if_pos rfl,gh,if_pos rfl]
 ·rw[if_neg h]
  by_cases h1:m/8=n/8
  ·rw[if_pos h1,gh,if_neg (by omega),h1]
  ·rw[if_neg h1]
noncomputable def rep {α:Type} (x:α) (n:Nat):List α:=Nat.rec (motive:=fun _=>List α) [] (fun _ ih=>x::ih) n
theorem Bw {α:Type} (x d:α) (n m:Nat):getD d (rep x n) m=x∨getD d (rep x n) m=d:=by
 induction n generalizing m with
 | zero=>exact .inr rfl
 | succ n ih=>cases m with
  | zero=>exact .inl rfl
  | succ m=>exact ih m
noncomputable def bF.blank {α:Type} (n:Nat):bF α:=rep (rep none 8) (Nat.add (Nat.div n 8) 1)
theorem bF.Jv {α:Type} (n m:Nat):(bF.blank n:bF α).get m=none:=by
 unfold bF.get bF.blank
 rcases Bw (rep (none:Option α) 8) [] (Nat.add (Nat.div n 8) 1) (Nat.div m 8) with h | h
 ·rw[h]
  rcases Bw (none:Option α) none 8 (Nat.mod m 8) with h | h<;>exact h
 ·rw[h];rfl
noncomputable def bF.G1 {α:Type} (l:List α):bF α→Nat→bF α:=
 List.rec (motive:=fun _=>bF α→Nat→bF α) (fun t _=>t) (fun v _ ih t n=>ih (t.put n v) (Nat.add n 1)) l
theorem bF.Ly {α:Type} (l:List α) (t:bF α) (n m:Nat):(bF.G1 l t n).get m=if n≤m∧m<n+l.length then l[m-n]? else t.get m:=by
 induction l generalizing t n with
 | nil=>rw[if_neg (by simp)];rfl
 | cons v l ih=>
  show(bF.G1 l (t.put n v) (n+1)).get m=_
  rw[ih,bF.bP]
  by_cases h1:n+1≤m∧m<n+1+l.length
  ·rw[if_pos h1,if_pos (by simp;omega),show m-n=(m-(n+1))+1 by omega,List.getElem?_cons_succ]
  ·rw[if_neg h1]
   by_cases h2:m=n
   ·subst h2;rw[if_pos rfl,if_pos (by simp),Nat.sub_self];rfl
   ·rw[if_neg h2,if_neg (by simp;omega)]
abbrev Trie (α:Type):=List (List (List (List (Option α))))
namespace Trie
variable {α:Type}
abbrev leaf:Trie α:=[]
noncomputable def get (t:Trie α) (n:Nat):Option α:=
 getD none (getD [] (getD [] (getD [] t (Nat.div n 512)) (Nat.mod (Nat.div n 64) 8)) (Nat.mod (Nat.div n 8) 8)) (Nat.mod n 8)
noncomputable def put (t:Trie α) (n:Nat) (o:Option α):Trie α:=
 kC [] (kC [] (kC [] (kC none (fun _=>o) (Nat.mod n 8)) (Nat.mod (Nat.div n 8) 8)) (Nat.mod (Nat.div n 64) 8)) (Nat.div n 512) t
theorem eK (n:Nat):(leaf:Trie α).get n=none:=rfl
theorem bP (t:Trie α) (n m:Nat) (o:Option α):(t.put n o).get m=if m=n then o else t.get m:=by
 show getD none (getD [] (getD [] (getD [] (kC [] (kC [] (kC [] (kC none (fun _=>o) (n%8)) (n/8%8)) (n/64%8)) (n/512) t) (m/512)) (m/64%8)) (m/8%8)) (m%8)=
  if m=n then o else getD none (getD [] (getD [] (getD [] t (m/512)) (m/64%8)) (m/8%8)) (m%8)
 rw[gh]
 by_cases h:m=n
 ·subst h;rw[if_pos rfl,if_pos rfl,gh,if_pos rfl,gh,if_pos rfl,gh,if_pos rfl]
 ·rw[if_neg h]
  by_cases h1:m/512=n/512
  ·rw[if_pos h1,gh]
   by_cases h2:m/64%8=n/64%8
   ·rw[if_pos h2,gh]
    by_cases h3:m/8%8=n/8%8
    ·rw[if_pos h3,gh,if_neg (by omega),h1,h2,h3]
    ·rw[if_neg h3,h1,h2]
   ·rw[if_neg h2,h1]
  ·rw[if_neg h1]
end Trie
inductive V where
 | int (k:IntKind) (n:Int)
 | bool (b:Bool)
 | str (s:List UInt8)
 | dr
 | ptr (b off:Nat)
 | ai
 | slice (b off len cap:Nat) (exact:Bool) (esz:Nat)
 | dC
 | map (b:Nat)
 | func (fn:Fn) (first captured:List V)
 | cH
 | iface (t:TypeId) (v:V)
 | aV
 | agg (cs:List V)
 | tuple (cs:List V)
 | any (i:Nat)
 | dM (k:FloatKind) (b:Nat)
 | bk (es:List V) (esz:Nat) (ex:Bool)
 | aM (cs:List V) (off:Nat)
 | arr (n:Nat) (f:Nat→V) (esz:Nat) (ex nn:Bool)
 | own (b n esz:Nat)
 | fy (b i esz off:Nat)
 deriving Inhabited
def b9 (n:Nat) (f:Nat→V):List V:=(List.range n).map f
theorem aS (n:Nat) (f:Nat→V):(b9 n f).length=n:=by simp [b9]
theorem dg {n:Nat} {f:Nat→V} {i:Nat} (h:i<n):(b9 n f)[i]? =some (f i):=by simp [b9,h]
def V.cells:V→List V
 | .agg cs=>cs
 | v=>[v]
def V.scalar:V→Bool
 | .agg _ | .tuple _=>false
 | _=>true
mutual
def V.ofValue:Value→Option V
 | .int k n=>some (.int k n)
 | .float k b=>some (.dM k b)
 | .bool b=>some (.bool b)
 | .string s=>some (.str s.data.toList)
 | .pointer none=>some .dr
 | .slice none 0 0=>some .ai
 | .map none=>some .dC
 | .nilFunc=>some .cH
 | .nilIface=>some .aV
 | .iface t v=>(V.ofValue v).map (.iface t)
 | .agg ⟨cs⟩=>(V.ofValues cs).map .agg
 | .tuple ⟨cs⟩=>(V.ofValues cs).map .tuple
 | _=>none
def V.ofValues:List Value→Option (List V)
 | []=>some []
 | v::l=>match V.ofValue v,V.ofValues l with
  | some x,some xs=>some (x::xs)
  | _,_=>none
end
mutual
noncomputable def V.beq:V→V→Bool
 | .int k n,.int k' n'=>decide (k=k')&&n==n'
 | .bool b,.bool b'=>b==b'
 | .str s,.str s'=>s==s'
 | .dr,.dr=>true
 | .ptr b o,.ptr b' o'=>b==b'&&o==o'
 | .ai,.ai=>true
 | .slice b o l c e z,.slice b' o' l' c' e' z'=>b==b'&&o==o'&&l==l'&&c==c'&&e==e'&&z==z'
 | .dC,.dC=>true
 | .map b,.map b'=>b==b'
 | .func f x y,.func f' x' y'=>decide (f=f')&&V.gD x x'&&V.gD y y'
 | .cH,.cH=>true
 | .iface t v,.iface t' v'=>t==t'&&V.beq v v'
 | .aV,.aV=>true
 | .agg x,.agg y=>V.gD x y
 | .tuple x,.tuple y=>V.gD x y
 | .any i,.any j=>i==j
 | .dM k b,.dM k' b'=>decide (k=k')&&b==b'
 | .bk x z e,.bk y z' e'=>V.gD x y&&z==z'&&e==e'
 | .aM x o,.aM y o'=>V.gD x y&&o==o'
 | .own b n z,.own b' n' z'=>b==b'&&n==n'&&z==z'
 | .arr n f z e o,.arr n' f' z' e' o'=>@decide (n=n'∧f=f'∧z=z'∧e=e'∧o=o') (Classical.propDecidable _)
 | _,_=>false
noncomputable def V.gD:List V→List V→Bool
 | [],[]=>true
 | x::xs,y::ys=>V.beq x y&&V.gD xs ys
 | _,_=>false
end
noncomputable def ar (es:List V):List V:=List.rec (motive:=fun _=>List V) [] (fun v _ ih=>app v.cells ih) es
theorem bS (v:V) (es:List V):ar (v::es)=v.cells++ar es:=gI _ _
theorem wP (a b:List V):ar (a++b)=ar a++ar b:=by
 induction a with
 | nil=>rfl
 | cons v a ih=>rw[List.cons_append,bS,bS,ih,List.append_assoc]
theorem cX {es:List V} {esz:Nat} (h:∀v∈es,v.cells.length=esz):(ar es).length=es.length*esz:=by
 induction es with
 | nil=>simp [ar]
 | cons v es ih=>
  rw[bS,List.length_append,ih fun v hv=>h v (List.mem_cons_of_mem _ hv),h v List.mem_cons_self,List.length_cons,Nat.add_mul,Nat.one_mul,Nat.add_comm]
def V.Ou:V→Bool
 | .int _ _ | .bool _ | .str _=>true
 | _=>false
noncomputable def V.flat:V→Bool
 | .agg cs=>gJ V.Ou cs
 | v=>V.Ou v
inductive bV where
 | cells (n:Nat) (zero:List V) (t:Trie V) (plain ro:Bool)
 | row (n:Nat) (f:Nat→V) (esz:Nat) (plain:Bool)
 | map (es:List (V×V×Nat)) (clock:Nat)
 | iter (m:Option Nat) (since:Nat) (seen:List Nat) (last:Nat)
 | adJ (s:List UInt8) (pos:Nat)
 | loop (st:LoopState) (pending:Option Code) (fn:FuncId) (tmps:bF V) (size:Nat) (params:List Tmp) (assign body:Code) (defers:Nat)
 | deferred
structure St where
 heap:Trie bV
 next:Nat
noncomputable def Lz (n id:Nat):Nat:=Bool.rec n (Nat.add id 1) (Nat.ble n id)
noncomputable def St.new (σ:St) (id:Nat) (b:bV):St:=match σ with | ⟨h,n⟩=>⟨h.put id (some b),Lz n id⟩
noncomputable def St.set (σ:St) (id:Nat) (b:bV):St:=match σ with | ⟨h,n⟩=>⟨h.put id (some b),n⟩
noncomputable def St.kill (σ:St) (id:Nat):St:=match σ with | ⟨h,n⟩=>⟨h.put id none,n⟩
noncomputable def cellOf (n:Nat) (zero:List V) (t:Trie V) (i:Nat):Option V:=
 match Nat.blt i n with
 | true=>match t.get i with
  | some v=>some v
  | none=>nth zero (Nat.mod i (len zero))
 | false=>none
noncomputable def St.cell (σ:St) (b off:Nat):Option V:=
 match σ.heap.get b with
 | some (.cells n z t _ _)=>cellOf n z t off
 | _=>none
def kr {α:Type}:Option α→Option (List α)→Option (List α)
 | some v,some l=>some (v::l)
 | _,_=>none
noncomputable def cellsOf (n:Nat) (z:List V) (t:Trie V) (k:Nat):Nat→Option (List V):=
 Nat.rec (motive:=fun _=>Nat→Option (List V)) (fun _=>some []) (fun _ ih off=>kr (cellOf n z t off) (ih (Nat.add off 1))) k
noncomputable def St.cells (σ:St) (b off k:Nat):Option (List V):=
 match σ.heap.get b with
 | some (.cells n z t _ _)=>cellsOf n z t k off
 | _=>none
noncomputable def an (l:List V):Trie V→Nat→Trie V:=
 List.rec (motive:=fun _=>Trie V→Nat→Trie V) (fun t _=>t) (fun v _ ih t off=>ih (t.put off (some v)) (Nat.add off 1)) l
noncomputable def Ej (σ:St) (b off:Nat) (vs:List V) (n:Nat) (z:List V) (t:Trie V) (p:Bool):Option St:=
 match Nat.ble (Nat.add off (len vs)) n&&gJ V.scalar vs with
 | true=>some (σ.set b (.cells n z (an vs t off) p false))
 | false=>none
noncomputable def St.store (σ:St) (b off:Nat) (vs:List V):Option St:=
 match σ.heap.get b with
 | some (.cells n z t p false)=>Ej σ b off vs n z t p
 | _=>none
section
variable (P:Program)
def bN (t:TypeId):Option Nat:=(P.info? t).map (·.size)
def iX (t:TypeId):Option Nat:=(P.info? t).map (·.bytes)
def gy (t:TypeId):Option V:=((P.info? t).bind (·.zero)).bind V.ofValue
def rq (t:TypeId):Option Bool:=
 match P.underlying t with
 | some (.struct _) | some (.array _ _)=>some true
 | some _=>some false
 | none=>none
end
structure Act where
 tmps:bF V
 size:Nat
 defers:List (Option (Fn×List V)×Nat×List V)
inductive Ex where
 | normal
 | exit (id:Nat)
 | goto (l:Nat)
 | ret
def cO:V:=.tuple []
noncomputable def Act.put (a:Act) (dst:Option Tmp) (v:V):Option Act:=
 match dst with
 | some d=>match a with
  | ⟨t,s,ds⟩=>match Nat.blt d s with
   | true=>some ⟨t.put d v,s,ds⟩
   | false=>none
 | none=>some a
noncomputable def Act.eval (a:Act):Operand→Option V
 | .tmp t=>a.tmps.get t
 | .const v=>V.ofValue v
 | .global _=>none
 | .func f=>some (.func (.func f) [] [])
noncomputable def Act.bO (a:Act) (l:List Operand):Option (List V):=
 List.rec (motive:=fun _=>Option (List V)) (some []) (fun x _ ih=>kr (a.eval x) ih) l
def mg (op:BinOp) (k:IntKind) (a:Int) (k':IntKind) (b:Int):Option V:=
 match op with
 | .shl=>if b<0 then none else some (.int k (k.wrap (a*2^min b.toNat k.bits)))
 | .shr=>if b<0 then none else some (.int k (a.fdiv (2^min b.toNat k.bits)))
 | _=>if k≠k' then none else
  match op with
  | .add=>some (.int k (k.wrap (a+b)))
  | .sub=>some (.int k (k.wrap (a-b)))
  | .mul=>some (.int k (k.wrap (a*b)))
  | .quo=>if b=0 then none else some (.int k (k.wrap (a.tdiv b)))
  | .rem=>if b=0 then none else some (.int k (a.tmod b))
  | .and=>some (.int k (k.wrap (BitVec.ofInt k.bits a&&& BitVec.ofInt k.bits b).toNat))
  | .or=>some (.int k (k.wrap (BitVec.ofInt k.bits a||| BitVec.ofInt k.bits b).toNat))
  | .xor=>some (.int k (k.wrap (BitVec.ofInt k.bits a ^^^ BitVec.ofInt k.bits b).toNat))
  | .andNot=>some (.int k (k.wrap (BitVec.ofInt k.bits a&&& ~~~ BitVec.ofInt k.bits b).toNat))
  | .eql=>some (.bool (a==b))
  | .neq=>some (.bool (a != b))
  | .lss=>some (.bool (a<b))
  | .leq=>some (.bool (a≤b))
  | .gtr=>some (.bool (a>b))
  | .geq=>some (.bool (a≥b))
  | _=>none
def mh (op:BinOp) (x y:List UInt8):Option V:=
 match op with
 | .add=>if x.length+y.length≤9223372036854775807 then some (.str (x++y)) else none
 | .eql=>some (.bool (x==y))
 | .neq=>some (.bool !(x==y))
 | .lss=>some (.bool (Op.bytesLess x y))
 | .leq=>some (.bool (Op.bytesLess x y||x==y))
 | .gtr=>some (.bool !(Op.bytesLess x y||x==y))
 | .geq=>some (.bool !(Op.bytesLess x y))
 | _=>none
def eQ:Nat:=20
noncomputable def dV (P:Program) (t:TypeId) (cs:List V) (off:Nat):Option V:=
 match rq P t,bN P t with
 | some true,some n=>match Nat.ble (Nat.add off n) (len cs) with
  | true=>some (.agg (dB (dq off cs) n))
  | false=>none
 | some false,_=>nth cs off
 | _,_=>none
noncomputable def oA (P:Program) (eq:TypeId→V→V→Option Bool) (xs ys:List V) (fs:List Field):Option Bool:=
 List.rec (motive:=fun _=>Option Bool) (some true)
  (fun f _ ih=>match f.name== "_",dV P f.type xs f.offset,dV P f.type ys f.offset with
   | false,some a,some b=>match eq f.type a b with
    | some true=>ih
    | some false=>some false
    | none=>none
   | _,_,_=>none) fs
noncomputable def hY (P:Program) (eq:TypeId→V→V→Option Bool) (t:TypeId) (fs:List Field) (x y:V):Option Bool:=
 match P.stoodInHeld t with
 | true=>none
 | false=>match x with
  | .agg xs=>match y with
   | .agg ys=>oA P eq xs ys fs
   | _=>none
  | _=>none
def ee:Nat:=1000000
noncomputable def G2 (i j:Nat):Option Bool:=
 match Nat.beq i j&&Nat.ble ee i with
 | true=>some true
 | false=>none
theorem G3 {i j:Nat} {b:Bool} (h:G2 i j=some b):b=true∧j=i∧ee≤i:=by
 unfold G2 at h
 split at h
 ·rename_i hb
  rw[Bool.and_eq_true] at hb
  cases h
  exact⟨rfl,(Nat.eq_of_beq_eq_true hb.1).symm,Nat.le_of_ble_eq_true hb.2⟩
 ·cases h
noncomputable def uZ (P:Program) (eq:TypeId→V→V→Option Bool) (t:TypeId) (x y:V):Option TypeDesc→Option Bool
 | some .bool=>match x with
  | .bool a=>match y with
   | .bool b=>some (a==b)
   | _=>none
  | _=>none
 | some (.int _)=>match x with
  | .int k a=>match y with
   | .int k' b=>if k=k' then some (a==b) else none
   | _=>none
  | .any i=>match y with
   | .any j=>G2 i j
   | _=>none
  | _=>none
 | some .string=>match x with
  | .str a=>match y with
   | .str b=>some (a==b)
   | _=>none
  | _=>none
 | some (.struct fs)=>hY P eq t fs.toList x y
 | _=>none
noncomputable def j9 (P:Program) (d:Nat):TypeId→V→V→Option Bool:=
 Nat.rec (motive:=fun _=>TypeId→V→V→Option Bool) (fun _ _ _=>none) (fun _ ih t x y=>uZ P ih t x y (P.underlying t)) d
noncomputable def qw (P:Program) (eq:TypeId→V→V→Option Bool) (e:TypeId) (sz:Nat) (xs ys:List V) (n:Nat):Nat→Option Bool:=
 Nat.rec (motive:=fun _=>Nat→Option Bool) (fun _=>some true)
  (fun _ ih i=>match dV P e xs (Nat.mul i sz),dV P e ys (Nat.mul i sz) with
   | some a,some b=>match eq e a b with
    | some true=>ih (Nat.succ i)
    | some false=>some false
    | none=>none
   | _,_=>none) n
noncomputable def jO (P:Program) (t e:TypeId) (n:Nat) (x y:V):Option Bool:=
 match P.eqGuardType P.depth t with
 | true=>none
 | false=>match bN P e with
  | some sz=>match x with
   | .agg xs=>match y with
    | .agg ys=>qw P (j9 P eQ) e sz xs ys n 0
    | _=>none
   | _=>none
  | none=>none
noncomputable def ptrEq (P:Program) (σ:St) (e b o b' o':Nat):Option Bool:=
 match bN P e with
 | some (_+1)=>match Nat.beq b b' with
  | true=>match σ.heap.get b with
   | some (.cells ..)=>some (o==o')
   | _=>none
  | false=>match σ.heap.get b,σ.heap.get b' with
   | some (.cells _ _ _ true _),some (.cells _ _ _ true _)=>some false
   | _,_=>none
 | _=>none
noncomputable def yS (P:Program) (tx:TypeId) (vx:V) (ty:TypeId) (vy:V):Option Bool:=
 match Nat.beq tx ty with
 | false=>some false
 | true=>match (P.info? tx).map (·.comparable) with
  | some true=>j9 P eQ tx vx vy
  | _=>none
noncomputable def u1 (P:Program) (σ:St) (t:TypeId) (lit:Bool) (x y:V):Option TypeDesc→Option Bool
 | some .bool=>match x with
  | .bool a=>match y with
   | .bool b=>some (a==b)
   | _=>none
  | _=>none
 | some (.pointer e)=>match x with
  | .dr=>match y with
   | .dr=>some true
   | .ptr _ _=>some false
   | _=>none
  | .ptr b o=>match y with
   | .dr=>some false
   | .ptr b' o'=>ptrEq P σ e b o b' o'
   | _=>none
  | _=>none
 | some (.interface _)=>match x with
  | .aV=>match y with
   | .aV=>match lit with
    | true=>some true
    | false=>none
   | .iface _ _=>some false
   | _=>none
  | .iface tx vx=>match y with
   | .aV=>some false
   | .iface ty vy=>yS P tx vx ty vy
   | _=>none
  | _=>none
 | some (.struct fs)=>match P.eqGuardType P.depth t with
  | false=>hY P (j9 P eQ) t fs.toList x y
  | true=>none
 | some (.array n e)=>jO P t e n x y
 | some (.slice _)=>match x with
  | .ai=>match y with
   | .ai=>some true
   | .slice ..=>some false
   | .own ..=>some false
   | _=>none
  | .slice ..=>match y with
   | .ai=>some false
   | _=>none
  | .own ..=>match y with
   | .ai=>some false
   | _=>none
  | .arr _ _ _ _ true=>match y with
   | .ai=>some false
   | _=>none
  | _=>none
 | some (.map _ _)=>match x with
  | .dC=>match y with
   | .dC=>some true
   | .map _=>some false
   | _=>none
  | .map _=>match y with
   | .dC=>some false
   | _=>none
  | _=>none
 | some (.func _ _ _)=>match x with
  | .cH=>match y with
   | .cH=>some true
   | .func ..=>some false
   | _=>none
  | .func ..=>match y with
   | .cH=>some false
   | _=>none
  | _=>none
 | _=>none
noncomputable def evalEq (P:Program) (σ:St) (t:TypeId) (lit:Bool) (x y:V):Option Bool:=u1 P σ t lit x y (P.underlying t)
def isConst:Operand→Bool
 | .const _=>true
 | _=>false
def qx (op:BinOp) (k:FloatKind) (a:Nat) (k':FloatKind) (b:Nat):Option V:=
 if k≠k' then none else
  match op with
  | .eql=>some (.bool (k.format.order a b==some .eq))
  | .neq=>some (.bool (k.format.order a b != some .eq))
  | .lss=>some (.bool (k.format.order a b==some .lt))
  | .leq=>some (.bool (k.format.order a b==some .lt||k.format.order a b==some .eq))
  | .gtr=>some (.bool (k.format.order a b==some .gt))
  | .geq=>some (.bool (k.format.order a b==some .gt||k.format.order a b==some .eq))
  | _=>none
noncomputable def evalBin (P:Program) (σ:St) (op:BinOp) (t:TypeId) (lit:Bool) (x y:V):Option V:=
 match x,y with
 | .int k a,.int k' b=>mg op k a k' b
 | .str a,.str b=>mh op a b
 | .dM k a,.dM k' b=>qx op k a k' b
 | _,_=>match op with
  | .eql=>(evalEq P σ t lit x y).map .bool
  | .neq=>(evalEq P σ t lit x y).map fun b=>.bool !b
  | _=>none
def Bx (op:UnOp) (x:V):Option V:=
 match op,x with
 | .neg,.int k n=>some (.int k (k.wrap (0-n)))
 | .xor,.int k n=>some (.int k (k.wrap (BitVec.ofInt k.bits (if k.signed then -1 else k.max) ^^^ BitVec.ofInt k.bits n).toNat))
 | .not,.bool b=>some (.bool !b)
 | _,_=>none
def kX (P:Program) (s:TypeId) (f:Nat):Option Field:=
 match P.underlying s with
 | some (.struct fs)=>fs[f]?
 | _=>none
noncomputable def mi (cs vs:List V):Option (Nat×Nat)→Option (List V)
 | none=>none
 | some (off,size)=>match Nat.beq (len vs) size&&Nat.ble (Nat.add off size) (len cs) with
  | true=>some (app (dB cs off) (app vs (dq (Nat.add off size) cs)))
  | false=>none
noncomputable def rr (place:Nat→Option (Nat×Nat)) (l:List (Nat×V)):List V→Option (List V):=
 List.rec (motive:=fun _=>List V→Option (List V)) (fun cs=>some cs)
  (fun p _ ih cs=>match mi cs p.2.cells (place p.1) with
   | some lz=>ih lz
   | none=>none) l
noncomputable def u3 (a:Act) (p:Nat×Operand):Option (Nat×V):=
 match a.eval p.2 with
 | some v=>some (p.1,v)
 | none=>none
noncomputable def Act.parts (a:Act) (l:List (Nat×Operand)):Option (List (Nat×V)):=
 List.rec (motive:=fun _=>Option (List (Nat×V))) (some []) (fun p _ ih=>kr (u3 a p) ih) l
def asNat (lo hi:Nat):V→Option Nat
 | .int _ n=>if (lo:Int)≤n∧n≤(hi:Int) then some n.toNat else none
 | _=>none
def bounds (len cap:Nat) (lo hi mx:Option V):Option (Nat×Nat×Nat):=
 match (match mx with | some v=>asNat 0 cap v | none=>some cap) with
 | none=>none
 | some m=>match (match hi,mx with | some v,_=>asNat 0 m v | none,none=>some len | none,some _=>none) with
  | none=>none
  | some h=>match (match lo with | some v=>asNat 0 h v | none=>some 0) with
   | none=>none
   | some l=>some (l,h,m)
noncomputable def hZ (a:Act):Option Operand→Option (Option V)
 | none=>some none
 | some x=>(a.eval x).map some
noncomputable def ng (P:Program) (t:TypeId) (x:V) (lo hi mx:Option V):Option V:=
 match P.underlying t,x with
 | some .string,.str s=>if mx.isSome then none else
  match bounds (len s) (len s) lo hi none with
  | some (l,h,_)=>some (.str (dq l (dB s h)))
  | none=>none
 | some (.slice e),.ai=>match bN P e,bounds 0 0 lo hi mx with
  | some _,some _=>some .ai
  | _,_=>none
 | some (.slice e),.slice b off len cap ex esz=>
  match bN P e,bounds len cap lo hi mx with
  | some sz,some (l,h,m)=>if sz≠esz then none else
   (match (ex||mx.isNone|| !(Nat.beq cap 0)) with
    | true=>some (.slice b (if (ex||mx.isSome)&&m==l then off else off+l*esz) (h-l) (m-l) (ex||mx.isSome) esz)
    | false=>none)
  | _,_=>none
 | some (.slice e),.bk es esz ex=>
  match bN P e,bounds (len es) (len es) lo hi mx with
  | some sz,some (l,h,m)=>if sz≠esz then none else some (.bk (dB (dq l es) (h-l)) esz ((mx.isSome||(ex&&Nat.beq h (len es)))&&Nat.beq h m))
  | _,_=>none
 | some (.slice e),.arr n f esz ex _=>
  match bN P e,bounds n n lo hi mx with
  | some sz,some (l,h,m)=>if sz≠esz then none else some (.arr (h-l) (fun i=>f (Nat.add l i)) esz ((mx.isSome||(ex&&Nat.beq h n))&&Nat.beq h m) false)
  | _,_=>none
 | _,_=>none
noncomputable def iE (σ:St) (sz:Nat):V→Option (Nat×List V)
 | .ai=>some (0,[])
 | .slice b off len _ _ _=>(σ.cells b off (len*sz)).map fun l=>(len,l)
 | .str l=>if sz=1 then some (len l,mapOf (fun c=>V.int .u8 c.toNat) l) else none
 | .bk es esz _=>if sz=esz then some (len es,ar es) else none
 | _=>none
noncomputable def grown (σ:St) (id sz n:Nat) (cs:List V) (p:Bool):V×St:=
 (.slice id 0 n n false sz,σ.new id (.cells (n*sz) [] (an cs .leaf 0) p false))
noncomputable def oB (σ:St) (b:Nat):Option Bool:=
 match σ.heap.get b with
 | some (.cells _ _ _ p false)=>some p
 | _=>none
noncomputable def nT (σ:St) (id sz:Nat) (b:Nat) (ex:Bool) (n:Nat) (new old:List V):Option (V×St):=
 match ex with
 | true=>some (grown σ id sz n (app old new) true)
 | false=>match oB σ b,gJ V.scalar new with
  | some p,true=>some (grown (σ.kill b) id sz n (app old new) p)
  | _,_=>none
noncomputable def gr (σ:St) (id sz dc n:Nat) (new:List V):V→Option (V×St)
 | .ai=>if n=0 then some (.ai,σ) else
  if n*dc≤1099511627776 then some (grown σ id sz n new true) else none
 | .slice b off len cap ex esz=>
  if sz≠esz then none else
  if n=0 then some (.slice b off len cap ex esz,σ) else
  if len+n≤cap then(σ.store b (off+len*sz) new).map fun σ'=>(.slice b off (len+n) cap ex esz,σ')
  else if (len+n)*dc≤1099511627776 then(σ.cells b off (len*sz)).bind (nT σ id sz b ex (len+n) new) else none
 | .bk es esz true=>
  if sz≠esz then none else
  if n=0 then some (.bk es esz true,σ) else
  if (len es+n)*dc≤1099511627776 then some (grown σ id sz (len es+n) (app (ar es) new) true) else none
 | _=>none
noncomputable def dY (n:Nat) (f g:Nat→V) (j:Nat):V:=Bool.rec (g (Nat.sub j n)) (f j) (Nat.blt j n)
noncomputable def iw (σ:St) (id sz dc m:Nat) (g:Nat→V):V→Option (V×St)
 | .ai=>if m=0 then some (.ai,σ) else
  if m*dc≤1099511627776 then some (.own id m sz,σ.new id (.row m g sz true)) else none
 | .arr n f esz true _=>if n≠0∨sz≠esz then none else
  if m=0 then some (.arr n f esz true false,σ) else
  if m*dc≤1099511627776 then some (.own id m sz,σ.new id (.row m g sz true)) else none
 | .slice b off n cap true esz=>match σ.cells b off 0 with
  | some []=>if n≠0∨cap≠0∨sz≠esz then none else
   if m=0 then some (.slice b off n cap true esz,σ) else
   if m*dc≤1099511627776 then some (.own id m sz,σ.new id (.row m g sz true)) else none
  | _=>none
 | _=>none
noncomputable def iF (P:Program) (σ:St) (id:Nat) (t:TypeId) (s x:V):Option (V×St):=
 match P.underlying t with
 | some (.slice e)=>match bN P e,iX P e,gy P e with
  | some sz,some dc,some z=>if sz=0∨dc=0∨len z.cells≠sz then none else
   match iE σ sz x with
   | none=>none
   | some (n,new)=>gr σ id sz dc n new s
  | _,_,_=>none
 | _=>none
noncomputable def nh (P:Program) (σ:St) (id:Nat) (t:TypeId) (m:Nat) (g:Nat→V) (esz:Nat) (s:V):Option (V×St):=
 match P.underlying t with
 | some (.slice e)=>match bN P e,iX P e,gy P e with
  | some sz,some dc,some z=>if sz=0∨dc=0∨len z.cells≠sz∨sz≠esz then none else iw σ id sz dc m g s
  | _,_,_=>none
 | _=>none
noncomputable def sZ (σ:St) (id sz dc b n m:Nat) (g:Nat→V) (new:List V):Option bV→Option (V×St)
 | some (.row n' f esz p)=>if n'=n∧esz=sz∧m≠0∧(n+m)*dc≤1099511627776∧gJ V.scalar new=true then some (.own id (n+m) sz,(σ.kill b).new id (.row (n+m) (dY n f g) sz p)) else none
 | _=>none
noncomputable def kD (es:List V) (j:Nat):V:=match nth es j with | some v=>v | none=>cO
noncomputable def oneOf (σ:St) (sz:Nat):V→Option (Nat×(Nat→V)×List V)
 | .slice bx off n _ _ _=>match Nat.beq n 1,σ.cells bx off (1*sz) with
  | true,some new=>some (1,fun _=>.agg new,new)
  | _,_=>none
 | .bk es esz _=>match Nat.beq esz sz&&Nat.blt 0 (len es) with
  | true=>some (len es,kD es,ar es)
  | false=>none
 | _=>none
noncomputable def ni (P:Program) (σ:St) (id:Nat) (t:TypeId) (b n esz:Nat) (x:V):Option (V×St):=
 match P.underlying t with
 | some (.slice e)=>match bN P e,iX P e,gy P e with
  | some sz,some dc,some z=>if sz=0∨dc=0∨len z.cells≠sz∨sz≠esz then none else
   match oneOf σ sz x with
   | some (m,g,new)=>sZ σ id sz dc b n m g new (σ.heap.get b)
   | none=>none
  | _,_,_=>none
 | _=>none
noncomputable def jf (P:Program) (σ:St) (id:Nat) (t:TypeId) (s x:V):Option (V×St):=
 match x with
 | .arr m g esz _ _=>nh P σ id t m g esz s
 | x=>match s with
  | .own b k esz=>ni P σ id t b k esz x
  | s=>iF P σ id t s x
inductive bA (α:Type) where
 | ok (a:α)
 | fail (fW:String:= "")
 | pick (n:Nat) (k:Nat→bA α)
 | tr (C:(α→Prop)→Prop) (hm:∀p q:α→Prop,(∀a,p a→q a)→C p→C q) (he:∀p,C p→∃a,p a)
def bA.Holds {α:Type} (p:α→Prop):bA α→Prop
 | .ok a=>p a
 | .fail _=>False
 | .pick n k=>0<n∧∀i,i<n→(k i).Holds p
 | .tr C _ _=>C p
theorem bA.Holds.exists {α:Type} {p:α→Prop} {r:bA α} (h:r.Holds p):∃a,p a:=by
 induction r with
 | ok a=>exact⟨a,h⟩
 | fail w=>exact h.elim
 | pick n k ih=>exact ih 0 (h.2 0 h.1)
 | tr C hm he=>exact he p h
theorem bA.Holds.mono {α:Type} {p q:α→Prop} {r:bA α} (h:r.Holds p) (sN:∀a,p a→q a):r.Holds q:=by
 induction r with
 | ok a=>exact sN _ h
 | fail w=>exact h
 | pick n k ih=>exact⟨h.1,fun i hi=>ih i (h.2 i hi)⟩
 | tr C hm he=>exact hm p q sN h
noncomputable def bA.bind {α β:Type} (r:bA α) (f:α→bA β):bA β:=
 bA.rec (motive:=fun _=>bA β) f (fun w=>.fail w) (fun n _ ih=>.pick n ih)
  (fun C hm he=>.tr (fun q=>C fun x=>(f x).Holds q) (fun _ _ h=>hm _ _ fun _ ha=>bA.Holds.mono ha h) fun _ h=>let ⟨_,ha⟩:=he _ h;bA.Holds.exists ha) r
def bA.of {α:Type} (fW:String):Option α→bA α
 | some a=>.ok a
 | none=>.fail fW
def bA.qy:Nat→(Nat→Bool)→Bool
 | 0,_=>true
 | n+1,p=>bA.qy n p&&p n
def bA.check {α:Type} (p:α→Bool):bA α→Bool
 | .ok a=>p a
 | .fail _=>false
 | .pick n k=>Nat.blt 0 n&&bA.qy n fun i=>(k i).check p
 | .tr _ _ _=>false
noncomputable def s0 (σ:St):V→Option V
 | .dC=>some (.int .i64 0)
 | .map r=>match σ.heap.get r with
  | some (.map es _)=>some (.int .i64 (len es))
  | _=>none
 | _=>none
noncomputable def eD (P:Program) (σ:St) (t:TypeId) (x:V):Option V:=
 match P.underlying t with
 | some .string=>match x with
  | .str s=>some (.int .i64 (len s))
  | _=>none
 | some (.array n _)=>some (.int .i64 n)
 | some (.slice _)=>match x with
  | .ai=>some (.int .i64 0)
  | .slice _ _ n _ _ _=>some (.int .i64 n)
  | .bk es _ _=>some (.int .i64 (len es))
  | .arr n _ _ _ _=>some (.int .i64 n)
  | .own _ n _=>some (.int .i64 n)
  | _=>none
 | some (.map _ _)=>s0 σ x
 | _=>none
def intType (P:Program) (t:TypeId):Bool:=
 match P.underlying t with
 | some (.int _)=>true
 | some _=>false
 | none=>true
noncomputable def kY (sz n:Nat) (z:List V):List V:=(List.range (n*sz)).map fun i=>z.getD (i%sz) cO
noncomputable def ka (P:Program) (σ:St) (id:Nat) (t t':TypeId) (s x:V):Option (V×St):=
 match P.underlying t,P.underlying t' with
 | some (.slice e),some (.int _)=>match s,x with
  | .ai,.int .i64 n=>match bN P e,iX P e,gy P e with
   | some sz,some dc,some z=>if sz=0∨dc=0∨len z.cells≠sz∨n<1∨1099511627776<n.toNat*dc then none else some (grown σ id sz n.toNat (kY sz n.toNat z.cells) true)
   | _,_,_=>none
  | _,_=>none
 | _,_=>none
noncomputable def Ek (σ:St) (sz:Nat) (z:List V):V→Option (V×St)
 | .ai=>some (.tuple [],σ)
 | .slice b off n cap ex _=>match Nat.beq n 0,ex|| !(Nat.beq cap 0) with
  | true,_=>some (.tuple [],σ)
  | false,true=>(σ.store b off (kY sz n z)).map fun σ'=>(.tuple [],σ')
  | false,false=>none
 | _=>none
noncomputable def evalClear (P:Program) (σ:St) (t:TypeId) (d:V):Option (V×St):=
 match P.underlying t with
 | some (.slice e)=>match gy P e with
  | some z=>if len z.cells=0 then none else Ek σ (len z.cells) z.cells d
  | none=>none
 | _=>none
noncomputable def gk (P:Program) (σ:St) (id:Nat) (b:Builtin) (tys:List TypeId) (args:List V):Option (V×St):=
 match b,tys,args with
 | .len,t::_,[x]=>(eD P σ t x).map (·,σ)
 | .append,t::t'::_,[s,x]=>match intType P t' with
  | true=>ka P σ id t t' s x
  | false=>jf P σ id t s x
 | .max,_,[.int k x,.int _ y]=>some (.int k (if y>x then y else x),σ)
 | .min,_,[.int k x,.int _ y]=>some (.int k (if y<x then y else x),σ)
 | .clear,t::_,[x]=>evalClear P σ t x
 | _,_,_=>none
noncomputable def St.iG (σ:St) (b i esz:Nat):Option (List V):=
 match σ.heap.get b with
 | some (.row n f z _)=>if i<n∧z=esz then some (f i).cells else none
 | _=>none
noncomputable def G4 (cs:List V) (off n:Nat):Option V:=
 match Nat.ble (Nat.add off n) (len cs) with
 | true=>some (.agg (dB (dq off cs) n))
 | false=>none
noncomputable def eg (P:Program) (σ:St) (t:TypeId) (x:V):Option V:=
 match x,rq P t,bN P t with
 | .ptr b off,some true,some n=>(σ.cells b off n).map .agg
 | .ptr b off,some false,_=>σ.cell b off
 | .aM cs off,some true,some n=>match Nat.ble (Nat.add off n) (len cs) with
  | true=>some (.agg (dB (dq off cs) n))
  | false=>none
 | .aM cs off,some false,_=>nth cs off
 | .fy b i esz off,some true,some n=>(σ.iG b i esz).bind fun cs=>G4 cs off n
 | .fy b i esz off,some false,_=>(σ.iG b i esz).bind fun cs=>nth cs off
 | _,_,_=>none
def eL:List V→Option (List UInt8)
 | []=>some []
 | .int .u8 n::l=>(eL l).map (UInt8.ofNat n.toNat::·)
 | _=>none
noncomputable def aH (s:List UInt8) (i:Nat):Int:=match nth s i with | some c=>c.toNat | none=>0
noncomputable def dx (s:List UInt8) (i:Nat):V:=.int .u8 (aH s i)
noncomputable def evalConv (P:Program) (σ:St) (id:Nat) (src dst:TypeId) (x:V):Option (V×St):=
 match P.underlying src,P.underlying dst,x with
 | some (.int _),some (.int k),.int _ n=>some (.int k (k.wrap n),σ)
 | some (.int _),some (.float k),.int _ n=>some (.dM k (k.nearest n),σ)
 | some (.float _),some (.int k),.dM s b=>match (s.decode b).toInt .zero with
  | some n=>if k.min≤n∧n≤k.max then some (.int k n,σ) else none
  | none=>none
 | some .string,some .string,.str s=>some (.str s,σ)
 | some .string,some (.slice e),.str s=>match P.underlying e with
  | some (.int .u8)=>if bN P e=some 1∧iX P e=some 1∧len s≤1099511627776 then
    some (.own id (len s) 1,σ.new id (.row (len s) (dx s) 1 false)) else none
  | _=>none
 | some (.slice e),some .string,.ai=>match P.underlying e with
  | some (.int .u8)=>some (.str [],σ)
  | _=>none
 | some (.slice e),some .string,.slice b off len _ _ _=>match P.underlying e with
  | some (.int .u8)=>match σ.cells b off len with
   | some l=>(eL l).map fun s=>(.str s,σ)
   | none=>none
  | _=>none
 | some (.slice e),some .string,.bk es esz _=>match P.underlying e with
  | some (.int .u8)=>match Nat.beq esz 1 with
   | true=>(eL (ar es)).map fun s=>(.str s,σ)
   | false=>none
  | _=>none
 | some (.slice e),some .string,.own b n _=>match P.underlying e with
  | some (.int .u8)=>match σ.heap.get b with
   | some (.row n' f z _)=>if n'=n∧z=1 then(eL (ar (b9 n' f))).map fun s=>(.str s,σ) else none
   | _=>none
  | _=>none
 | _,_,_=>none
def ru (P:Program) (x:V) (asserted:TypeId) (ok:Bool):Option V:=
 let holds (v:V):Option V:=some (if ok then .tuple [v,.bool true] else v)
 let Ba:Option V:=if ok then(gy P asserted).map fun z=>.tuple [z,.bool false] else none
 match P.underlying asserted,x with
 | some (.interface _),.aV=>Ba
 | some (.interface want),.iface t _=>match P.info? t with
  | some i=>match Instr.missingMethod want i.methods with
   | none=>holds x
   | some _=>Ba
  | none=>none
 | some _,.aV=>Ba
 | some _,.iface t v=>if t=asserted then holds v else Ba
 | _,_=>none
noncomputable def places (P:Program) (fs:List Field):Option (List (Nat×Nat)):=
 match fs with
 | []=>some []
 | f::l=>match bN P f.type,places P l with
  | some n,some r=>some ((f.offset,n)::r)
  | _,_=>none
noncomputable def s5 (P:Program) (t:TypeId) (ps:List (Nat×V)):Option V:=
 match gy P t,P.underlying t with
 | some z,some (.struct fs)=>match places P fs.toList with
  | some pl=>(rr (nth pl) ps z.cells).map .agg
  | none=>none
 | some z,some (.array _ e)=>match bN P e with
  | some n=>(rr (fun i=>some (i*n,n)) ps z.cells).map .agg
  | none=>none
 | _,_=>none
inductive Ext where
 | Bz | toBits | Jw | G5
def wQ (n:String):Option Ext:=
 if n== "math.Float64frombits" then some .Bz
 else if n== "math.Float64bits" then some .toBits
 else if n== "internal/bytealg.abigen_runtime_cmpstring" then some .Jw
 else if n== "math.archTrunc" then some .G5
 else none
def nU (P:Program):Operand→Option Ext
 | .func f=>match P.funcs[f]? with
  | some fn=>match fn.body with
   | none=>if fn.origin== "" then wQ fn.name else none
   | some _=>none
  | none=>none
 | _=>none
def ia (b:Nat):Nat:=FloatKind.f64.encode ((FloatKind.f64.decode b).integral .zero)
noncomputable def rv:Ext→List V→Option V
 | .Bz,[.int .u64 n]=>some (.dM .f64 n.toNat)
 | .toBits,[.dM .f64 b]=>some (.int .u64 b)
 | .Jw,[.str a,.str b]=>some (.int .i64 (Lib.compareBytes a b))
 | .G5,[.dM .f64 b]=>if (FloatKind.f64.decode b).isNaN then none else some (.dM .f64 (ia b))
 | _,_=>none
abbrev VS:=bA (V×St)
noncomputable def aJ (σ:St) (fW:String):Option V→VS
 | some v=>.ok (v,σ)
 | none=>.fail fW
noncomputable def eV (fW:String) (x:Option V) (k:V→VS):VS:=
 match x with
 | some v=>k v
 | none=>.fail fW
noncomputable def nj (a:Act) (σ:St) (x y:Operand):V→VS
 | .bool b=>aJ σ "pick" (a.eval (if b then x else y))
 | _=>.fail "pick"
noncomputable def newRow (σ:St) (id n:Nat) (z:List V) (t:Trie V) (plain:Bool):St:=σ.new id (.cells n z t plain false)
noncomputable def xC (σ:St) (id:Nat) (v:V):VS:=
 match gJ V.scalar v.cells with
 | true=>.ok (.ptr id 0,newRow σ id (len v.cells) [] (an v.cells .leaf 0) true)
 | false=>.fail "box"
noncomputable def mj (P:Program) (σ:St) (t:TypeId):Option (List (Nat×V))→VS
 | some l=>aJ σ "build" (s5 P t l)
 | none=>.fail "build operand"
noncomputable def gu (P:Program) (t:TypeId):Option TypeId:=
 match P.underlying t with
 | some (.slice e)=>some e
 | _=>none
noncomputable def nV (sz n:Nat) (z:List V) (l:List (Nat×V)):Option (List V):=
 rr (fun i=>some (i*sz,sz)) l ((List.range (n*sz)).map fun i=>z.getD (i%sz) cO)
noncomputable def kt (σ:St) (id sz n:Nat) (l:List (Nat×V)) (z:List V):VS:=
 if sz=0∨n*sz>65536∨len z≠sz then .fail "buildSlice" else
 match nV sz n z l with
 | some cs=>match gJ V.scalar cs with
  | true=>.ok (.slice id 0 n n true sz,newRow σ id (n*sz) [] (an cs .leaf 0) true)
  | false=>.fail "buildSlice"
 | none=>.fail "buildSlice"
noncomputable def nW (σ:St) (sz n:Nat) (l:List (Nat×V)) (z:List V):VS:=
 if sz≠1∨n>65536∨len z≠1 then .fail "buildSlice" else
 match nV 1 n z l with
 | some cs=>match gJ V.scalar cs with
  | true=>.ok (.bk cs 1 true,σ)
  | false=>.fail "buildSlice"
 | none=>.fail "buildSlice"
def isByte (P:Program) (e:TypeId):Bool:=
 match P.underlying e with
 | some (.int .u8)=>true
 | _=>false
noncomputable def fJ (P:Program) (σ:St) (id:Nat) (t:TypeId) (n:Nat):Option (List (Nat×V))→VS
 | some l=>match gu P t with
  | some e=>match bN P e,gy P e with
   | some sz,some z=>match isByte P e with
    | true=>nW σ sz n l z.cells
    | false=>kt σ id sz n l z.cells
   | _,_=>.fail "buildSlice type"
  | none=>.fail "buildSlice type"
 | none=>.fail "buildSlice operand"
noncomputable def Ab (_:St) (fW:String):Option St→VS
 | some σ'=>.ok (cO,σ')
 | none=>.fail fW
noncomputable def fq (f:Nat→V) (i:Nat) (v:V) (j:Nat):V:=Bool.rec (f j) v (Nat.beq j i)
noncomputable def qz (u:V) (esz off:Nat) (v:V):V:=
 match Nat.beq (len v.cells) esz with
 | true=>v
 | false=>.agg (app (dB u.cells off) (app v.cells (dq (Nat.add off (len v.cells)) u.cells)))
noncomputable def St.js (σ:St) (b i esz off:Nat) (v:V):Option St:=
 match σ.heap.get b with
 | some (.row n f z p)=>if i<n∧z=esz then
  match Nat.ble (Nat.add off (len v.cells)) esz&&gJ V.scalar v.cells with
  | true=>some (σ.set b (.row n (fq f i (qz (f i) esz off v)) z p))
  | false=>none
  else none
 | _=>none
noncomputable def oh (P:Program) (σ:St) (t:TypeId) (v:V):V→VS
 | .fy b i esz off=>match bN P t with
  | some n=>if len v.cells=n then Ab σ "store" (σ.js b i esz off v) else .fail "store size"
  | none=>.fail "store type"
 | .ptr b off=>match bN P t with
  | some n=>if len v.cells=n then Ab σ "store" (σ.store b off v.cells) else .fail "store size"
  | none=>.fail "store type"
 | _=>.fail "store address"
noncomputable def nX (σ:St):V→VS
 | .ptr b o=>.ok (.ptr b o,σ)
 | .aM cs o=>.ok (.aM cs o,σ)
 | .fy b i z o=>.ok (.fy b i z o,σ)
 | .func (.method _) _ _=>.fail "nilCheck method"
 | .func f x y=>.ok (.func f x y,σ)
 | .iface t v=>.ok (.iface t v,σ)
 | _=>.fail "nilCheck"
noncomputable def gK (P:Program) (σ:St) (t:TypeId) (v:V):VS:=
 match P.underlying t with
 | some (.interface _)=>.fail "makeInterface"
 | some _=>.ok (.iface t v,σ)
 | none=>.fail "makeInterface"
noncomputable def iH (σ:St) (fn:Fn):Option (List V)→Option (List V)→VS
 | some x,some y=>match fn with
  | .yield _=>.fail "makeFunc"
  | _=>.ok (.func fn x y,σ)
 | _,_=>.fail "makeFunc"
noncomputable def lA (σ:St) (id sz dc:Nat) (z:List V) (n m:Int):VS:=
 if 0≤n∧n≤m∧m.toNat*dc≤1099511627776∧m≤1099511627776∧sz≠0∧len z=sz∧gJ V.scalar z=true then
  .ok (.slice id 0 n.toNat m.toNat true sz,newRow σ id (m.toNat*sz) z .leaf true)
 else .fail "makeSlice"
noncomputable def gl (P:Program) (σ:St) (id:Nat) (t:TypeId) (n m:V):VS:=
 match n,m with
 | .int _ n,.int _ m=>match gu P t with
  | some e=>match bN P e,iX P e,gy P e with
   | some sz,some dc,some z=>lA σ id sz dc z.cells n m
   | _,_,_=>.fail "makeSlice type"
  | none=>.fail "makeSlice type"
 | _,_=>.fail "makeSlice operand"
noncomputable def jt (P:Program) (t:TypeId):Option (Nat×TypeId):=
 match P.underlying t with
 | some (.array n e)=>some (n,e)
 | _=>none
noncomputable def jP (P:Program) (σ:St) (n:Nat) (e:TypeId) (lo hi mx:Option V):V→Option V
 | .ptr b off=>match bN P e,bounds n n lo hi mx,σ.heap.get b with
  | some sz,some (l,h,m),some (.cells N _ _ _ _)=>match Nat.ble (Nat.add off (Nat.mul n sz)) N with
   | true=>some (.slice b (match Nat.beq m l with | true=>off | false=>Nat.add off (Nat.mul l sz)) (h-l) (m-l) true sz)
   | false=>none
  | _,_,_=>none
 | _=>none
noncomputable def fA (P:Program) (a:Act) (σ:St) (t:TypeId) (lo hi mx:Option Operand) (v:V):VS:=
 match hZ a lo,hZ a hi,hZ a mx with
 | some l,some h,some m=>match jt P t with
  | some (n,e)=>aJ σ "slice" (jP P σ n e l h m v)
  | none=>aJ σ "slice" (ng P t v l h m)
 | _,_,_=>.fail "slice operand"
noncomputable def kb (P:Program) (σ:St) (s:TypeId) (f:Nat):V→VS
 | .ptr b off=>match kX P s f with
  | some fd=>match bN P fd.type with
   | some (_+1)=>.ok (.ptr b (off+fd.offset),σ)
   | _=>.fail "fieldAddr"
  | none=>.fail "fieldAddr"
 | .aM cs off=>match kX P s f with
  | some fd=>match bN P fd.type with
   | some (_+1)=>.ok (.aM cs (off+fd.offset),σ)
   | _=>.fail "fieldAddr"
  | none=>.fail "fieldAddr"
 | .fy b i esz off=>match kX P s f with
  | some fd=>match bN P fd.type with
   | some (_+1)=>.ok (.fy b i esz (off+fd.offset),σ)
   | _=>.fail "fieldAddr"
  | none=>.fail "fieldAddr"
 | _=>.fail "fieldAddr operand"
noncomputable def qA (P:Program) (σ:St) (t:TypeId) (f:Nat):V→VS
 | .agg cs=>match kX P t f with
  | some fd=>aJ σ "field" (dV P fd.type cs fd.offset)
  | none=>.fail "field"
 | _=>.fail "field operand"
noncomputable def oC (P:Program) (σ:St) (t:TypeId) (b off len esz:Nat) (i:Int):VS:=
 match gu P t with
 | some e=>match bN P e with
  | some sz=>if 0≤i∧i<len∧sz=esz then .ok (.ptr b (off+i.toNat*sz),σ) else .fail "indexAddr"
  | none=>.fail "indexAddr"
 | none=>.fail "indexAddr"
noncomputable def oD (P:Program) (σ:St) (t:TypeId) (b off:Nat) (i:Int):VS:=
 match jt P t with
 | some (len,e)=>match bN P e with
  | some sz=>if 0≤i∧i<len then .ok (.ptr b (off+i.toNat*sz),σ) else .fail "indexAddr"
  | none=>.fail "indexAddr"
 | none=>.fail "indexAddr"
noncomputable def oE (P:Program) (σ:St) (t:TypeId) (es:List V) (esz:Nat) (i:Int):VS:=
 match gu P t with
 | some e=>match bN P e with
  | some sz=>if 0≤i∧i<len es∧sz=esz∧sz≠0 then match nth es i.toNat with
    | some v=>.ok (.aM v.cells 0,σ)
    | none=>.fail "indexAddr"
   else .fail "indexAddr"
  | none=>.fail "indexAddr"
 | none=>.fail "indexAddr"
noncomputable def ju (P:Program) (σ:St) (t:TypeId) (n:Nat) (f:Nat→V) (esz:Nat) (i:Int):VS:=
 match gu P t with
 | some e=>match bN P e with
  | some sz=>if 0≤i∧i<n∧sz=esz∧sz≠0 then .ok (.aM (f i.toNat).cells 0,σ) else .fail "indexAddr"
  | none=>.fail "indexAddr"
 | none=>.fail "indexAddr"
noncomputable def jv (P:Program) (σ:St) (t:TypeId) (b n esz:Nat) (i:Int):VS:=
 match gu P t with
 | some e=>match bN P e with
  | some sz=>if 0≤i∧i<n∧sz=esz∧sz≠0 then .ok (.fy b i.toNat esz 0,σ) else .fail "indexAddr"
  | none=>.fail "indexAddr"
 | none=>.fail "indexAddr"
noncomputable def jg (P:Program) (σ:St) (t:TypeId) (x ix:V):VS:=
 match x,ix with
 | .own b n esz,.int _ i=>jv P σ t b n esz i
 | .arr n f esz _ _,.int _ i=>ju P σ t n f esz i
 | .slice b off len _ _ esz,.int _ i=>oC P σ t b off len esz i
 | .bk es esz _,.int _ i=>oE P σ t es esz i
 | .ptr b off,.int _ i=>oD P σ t b off i
 | _,_=>.fail "indexAddr operand"
noncomputable def lB (P:Program) (σ:St) (t:TypeId) (s:List UInt8) (i:Int):VS:=
 match P.underlying t with
 | some .string=>if 0≤i then match nth s i.toNat with
   | some c=>.ok (.int .u8 c.toNat,σ)
   | none=>.fail "index"
  else .fail "index"
 | _=>.fail "index"
noncomputable def ry (P:Program) (σ:St) (t:TypeId) (cs:List V) (i:Int):VS:=
 match jt P t with
 | some (len,e)=>match bN P e with
  | some sz=>if 0≤i∧i<len then aJ σ "index" (dV P e cs (i.toNat*sz)) else .fail "index"
  | none=>.fail "index"
 | none=>.fail "index"
noncomputable def om (P:Program) (σ:St) (t:TypeId) (x ix:V):VS:=
 match x,ix with
 | .str s,.int _ i=>lB P σ t s i
 | .agg cs,.int _ i=>ry P σ t cs i
 | _,_=>.fail "index operand"
noncomputable def ph (σ:St) (i:Nat):V→VS
 | .tuple vs=>aJ σ "extract" (nth vs i)
 | _=>.fail "extract"
noncomputable def oo (P:Program) (σ:St) (id:Nat) (e:TypeId):VS:=
 match gy P e with
 | some z=>match gJ V.scalar z.cells with
  | true=>.ok (.ptr id 0,newRow σ id (len z.cells) [] (an z.cells .leaf 0) true)
  | false=>.fail "alloc"
 | none=>.fail "alloc"
noncomputable def oF (P:Program) (σ:St) (t:TypeId) (v:V):VS:=aJ σ "load" (eg P σ t v)
noncomputable def RD (σ:St) (op:UnOp) (v:V):VS:=aJ σ "unOp" (Bx op v)
noncomputable def u4 (P:Program) (σ:St) (op:BinOp) (t:TypeId) (lit:Bool) (v u:V):VS:=aJ σ "binOp" (evalBin P σ op t lit v u)
noncomputable def c7 (P:Program) (σ:St) (id:Nat) (s d:TypeId) (v:V):VS:=.of "convert" (evalConv P σ id s d v)
noncomputable def wR (P:Program) (σ:St) (t:TypeId) (ok:Bool) (v:V):VS:=aJ σ "typeAssert" (ru P v t ok)
noncomputable def gL (P:Program) (σ:St) (id:Nat) (b:Builtin) (tys:List TypeId):Option (List V)→VS
 | some vs=>.of "builtin" (gk P σ id b tys vs)
 | none=>.fail "builtin operand"
noncomputable def pj (fW:String) (x y:Option V) (k:V→V→VS):VS:=
 match x with
 | some v=>match y with
  | some u=>k v u
  | none=>.fail fW
 | none=>.fail fW
noncomputable def Bb (σ:St) (e:Ext):Option (List V)→VS
 | some vs=>aJ σ "extern" (rv e vs)
 | none=>.fail "extern operand"
noncomputable def oq (P:Program) (a:Act) (σ:St) (id:Nat) (c:Call):VS:=
 match c.callee with
 | .builtin b=>gL P σ id b c.argTypes.toList (a.bO c.args.toList)
 | _=>.fail "operation: call"
structure X6 where
 f:Act→St→Nat→VS
noncomputable def me (P:Program) (o:Op):X6:=
 match o with
 | .move x=>⟨fun a σ _=>aJ σ "move" (a.eval x)⟩
 | .assign x=>⟨fun a σ _=>aJ σ "assign" (a.eval x)⟩
 | .pick c x y=>⟨fun a σ _=>eV "pick operand" (a.eval c) (nj a σ x y)⟩
 | .alloc e=>⟨fun _ σ id=>oo P σ id e⟩
 | .box _ x=>⟨fun a σ id=>eV "box operand" (a.eval x) (xC σ id)⟩
 | .build t ps=>⟨fun a σ _=>mj P σ t (a.parts ps.toList)⟩
 | .buildSlice t n ps=>⟨fun a σ id=>fJ P σ id t n (a.parts ps.toList)⟩
 | .load t x=>⟨fun a σ _=>eV "load operand" (a.eval x) (oF P σ t)⟩
 | .store t x y=>⟨fun a σ _=>pj "store operand" (a.eval y) (a.eval x) (oh P σ t)⟩
 | .nilCheck x=>⟨fun a σ _=>eV "nilCheck operand" (a.eval x) (nX σ)⟩
 | .binOp op t x y _=>⟨fun a σ _=>pj "binOp operand" (a.eval x) (a.eval y) (u4 P σ op t (isConst x||isConst y))⟩
 | .unOp op _ x=>⟨fun a σ _=>eV "unOp operand" (a.eval x) (RD σ op)⟩
 | .convert s d x=>⟨fun a σ id=>eV "convert operand" (a.eval x) (c7 P σ id s d)⟩
 | .makeInterface t x=>⟨fun a σ _=>eV "makeInterface operand" (a.eval x) (gK P σ t)⟩
 | .makeFunc fn f c=>⟨fun a σ _=>iH σ fn (a.bO f.toList) (a.bO c.toList)⟩
 | .makeSlice t l c=>⟨fun a σ id=>pj "makeSlice operand" (a.eval l) (a.eval c) (gl P σ id t)⟩
 | .slice t x lo hi mx=>⟨fun a σ _=>eV "slice operand" (a.eval x) (fA P a σ t lo hi mx)⟩
 | .fieldAddr s x f=>⟨fun a σ _=>eV "fieldAddr operand" (a.eval x) (kb P σ s f)⟩
 | .field t x f=>⟨fun a σ _=>eV "field operand" (a.eval x) (qA P σ t f)⟩
 | .indexAddr t x ix=>⟨fun a σ _=>pj "indexAddr operand" (a.eval x) (a.eval ix) (jg P σ t)⟩
 | .index t x ix=>⟨fun a σ _=>pj "index operand" (a.eval x) (a.eval ix) (om P σ t)⟩
 | .typeAssert x _ t ok=>⟨fun a σ _=>eV "typeAssert operand" (a.eval x) (wR P σ t ok)⟩
 | .extract x i=>⟨fun a σ _=>eV "extract operand" (a.eval x) (ph σ i)⟩
 | .call c=>⟨fun a σ id=>oq P a σ id c⟩
 | _=>⟨fun _ _ _=>.fail "operation"⟩
end Go.Ev
