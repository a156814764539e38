/- Proved: parts of the way: Run, Rel. -/
import Derived.Test.YtbajncpfmemdgaaGreatDoorEvQ00
import Derived.RangeFuncLeaves
import Derived.Laws.IdiomCopy
import Derived.Laws.Cells
set_option linter.unusedVariables false
set_option linter.unusedSimpArgs false
section
namespace Go.Ev
def bt:Op→Bool
 | .store .. | .mapUpdate .. | .insert .. | .assign _=>true
 | .call {callee:=.builtin b,..}=>match b with
  | .len | .max | .min=>false
  | _=>true
 | .call _ | .defer _ | .next .. | .range .. | .entry ..=>true
 | _=>false
def nP:Op→Bool
 | .load ..=>true
 | _=>false
def uD (P:Program) (s d:TypeId):Bool:=
 match P.underlying s,P.underlying d with
 | some (.int _),some (.int _)=>true
 | some (.int _),some (.float _)=>true
 | some (.float _),some (.int _)=>true
 | some .string,some .string=>true
 | _,_=>false
def rf (P:Program) (t:TypeId):Bool:=
 match P.underlying t with
 | some (.int _)=>true
 | some .string=>true
 | some .bool=>true
 | _=>false
def sk (P:Program):Option TypeId→Bool
 | some t=>match P.underlying t with
  | some .string=>true
  | some (.slice _)=>true
  | some (.array _ _)=>true
  | _=>false
 | none=>false
def nw (P:Program) (s d:TypeId):Bool:=
 match P.underlying s,P.underlying d with
 | some (.slice _),some .string=>true
 | _,_=>false
def ee (P:Program):Op→Bool
 | .lookup ..=>true
 | .convert s d _=> !uD P s d
 | .slice t ..=>match P.underlying t with | some (.array ..)=>true | _=>false
 | .binOp op t _ _ _=>match op with | .eql | .neq=> !rf P t | _=>false
 | .call {callee:=.builtin .len,args:=_,argTypes:=tys}=> !sk P tys[0]?
 | _=>false
def sm (P:Program):Op→Bool
 | .load ..=>true
 | .convert s d _=>nw P s d
 | _=>false
def yd (w:List Nat) (o:Oper):Nat:=o.after.toList.foldl (fun s e=>match Region.binds .any e with
 | true=>Nat.lor s (Nat.lor (2^e.on) (w.getD e.on 0))
 | false=>s) 0
def waits (ops:List Oper) (acc:List Nat):List Nat:=
 match ops with
 | []=>acc
 | o::r=>waits r (acc++[yd acc o])
def T9 (ops:List Oper):List Nat:=(List.range ops.length).filter fun i=>match ops[i]? with
 | some o=>bt o.op
 | none=>false
def Br (n:Nat) (w:List Nat) (done:List Nat):List Nat→List Nat
 | []=>done++(List.range n).filter fun i=> !done.contains i
 | e::es=>Br n w (done++((List.range n).filter fun i=>(w.getD e 0).testBit i&& !done.contains i)++[e]) es
structure Item where
 i:Nat
 back:Nat
def J6 (w:Nat) (es:List Nat):Nat:=(es.filter fun e=>w.testBit e).length
def uE (w es:List Nat) (J7:Nat):List Nat→List Item
 | []=>[]
 | i::l=>match es.contains i with
  | true=>{i,back:=0}::uE w es (J7+1) l
  | false=>{i,back:=J7-J6 (w.getD i 0) es}::uE w es J7 l
def C2 (a b:Nat):Bool:=Nat.beq (Nat.lor a b) b
def uF (w back:Nat) (effs:List Nat):Bool:=
 match effs.drop back with
 | []=>true
 | f::_=>w.testBit f
def dB (P:Program) (ops:List Oper) (w:List Nat):Nat→List Nat→List Item→Bool
 | done,_,[]=>(List.range ops.length).all done.testBit
 | done,effs,it::l=>
  match ops[it.i]? with
  | none=>false
  | some o=> !done.testBit it.i&&C2 (w.getD it.i 0) done&&
   match bt o.op with
   | true=>C2 done (w.getD it.i 0)&&dB P ops w (Nat.lor done (2^it.i)) (it.i::effs) l
   | false=>uF (w.getD it.i 0) it.back effs&&(Nat.beq it.back 0||sm P o.op|| !ee P o.op)&&dB P ops w (Nat.lor done (2^it.i)) effs l
def Bs (ops:List Oper) (w:List Nat):Bool:=(List.range ops.length).all fun i=>match ops[i]? with
 | some o=>Nat.beq (w.getD i 0) (yd w o)
 | none=>false
def MI (o:Op):List Tmp:=o.operands.toList.filterMap fun | .tmp t=>some t | _=>none
def looks (ops:List Oper) (o:Oper):List Tmp:=MI o.op++(match o.guard with
 | some (j,_)=>((ops[j]?).bind (·.dst)).toList
 | none=>[])
def Bt (wi i:Nat) (li:List Tmp) (j wj:Nat) (ej:Bool):Option Tmp→Bool
 | none=>true
 | some t=>(!(Nat.beq i j)&&(wi.testBit j||(ej&&wj.testBit i)))|| !li.contains t
def lJ:List (Option Tmp)→Bool
 | []=>true
 | none::l=>lJ l
 | some t::l=> !l.contains (some t)&&lJ l
def uG (ops:List Oper) (w:List Nat):Bool:=
 lJ (ops.map (·.dst))&&(List.range ops.length).all fun i=>match ops[i]? with
  | some o=>let li:=looks ops o
   (List.range ops.length).all fun j=>match ops[j]? with
    | some oj=>Bt (w.getD i 0) i li j (w.getD j 0) (bt oj.op) oj.dst
    | none=>false
  | none=>false
def pj (P:Program) (ops:List Oper):Option (List Item):=
 let w:=waits ops []
 let es:=T9 ops
 let l:=uE w es 0 (Br ops.length w [] es)
 match Nat.ble l.length ops.length&&Bs ops w&&uG ops w&&dB P ops w 0 [] l with
 | true=>some l
 | false=>none
noncomputable def ye (P:Program) (t:TypeId) (x v:V):Nat→List St→Bool
 | 0,_=>true
 | _+1,[]=>false
 | k+1,σ::r=>(match et P σ t x with | some u=>V.beq u v | none=>false)&&ye P t x v k r
inductive Task where
 | code (ro:Option Nat) (fn:FuncId) (c:Code) (a:Act)
 | inScope (ro:Option Nat) (fn:FuncId) (x cur:Code) (a:Act)
 | call (f:FuncId) (args:List V)
 | deferred (f:FuncId) (args:List V)
 | leave (fn:Func) (a:Act)
 | apply (f:V) (args:List V)
 | round (l:Nat) (args:List V)
inductive Out where
 | exit (e:Ex) (a:Act)
 | val (v:V)
abbrev Run:=bL (Out×St)
def sn (want:Bool):Option V→Option Bool
 | some (.bool b)=>some (b==want)
 | some (.any _)=>none
 | some _=>some false
 | none=>none
noncomputable def fW (ops:List Oper) (j:Nat):Option Tmp:=(nth ops j).bind (·.dst)
noncomputable def oK (size:Nat) (args:List V):Act:=⟨cC.J1 args (cC.blank size) 0,max size (len args),[]⟩
noncomputable def fj (P:Program) (a:Act) (σ:St):List ResultVar→Option (List V)
 | []=>some []
 | .tmp t::r=>match a.tmps.get t,fj P a σ r with
  | some v,some l=>some (v::l)
  | _,_=>none
 | .cell x t::r=>match a.tmps.get x,fj P a σ r with
  | some p,some l=>(et P σ t p).map (·::l)
  | _,_=>none
def so:List V→V
 | [v]=>v
 | l=>.tuple l
def xx (P:Program) (t:TypeId):Option Bool:=
 match P.underlying t with
 | some (.pointer _)=>some true
 | some _=>some false
 | none=>none
noncomputable def methodOf (P:Program) (t:TypeId) (v:V) (m:Method):Option (FuncId×V):=
 if m.path.isEmpty then match m.func,xx P t with
  | some (f,true),some true=>some (f,v)
  | some (f,false),some false=>some (f,v)
  | _,_=>none
 else none
noncomputable def o6 (P:Program) (t:TypeId) (v:V) (name:String):Option (FuncId×V):=
 ((P.info? t).bind fun i=>i.methods.find? (·.name==name)).bind (methodOf P t v)
abbrev vW:=bL (V×Act×St)
def valOf (a:Act):Out×St→vW
 | (.val v,σ)=>.ok (v,a,σ)
 | _=>.fail "call"
noncomputable def nQ (R:Task→St→Run) (a:Act) (σ:St):Option V→Option (List V)→vW
 | some fv,some vs=>(R (.apply fv vs) σ).bind (valOf a)
 | _,_=>.fail "call operand"
noncomputable def ny (R:Task→St→Run) (a:Act) (σ:St) (vs:List V):Option (FuncId×V)→vW
 | some (f,recv)=>(R (.call f (recv::vs)) σ).bind (valOf a)
 | none=>.fail "invoke: method"
noncomputable def oL (P:Program) (R:Task→St→Run) (a:Act) (σ:St) (name:String):Option V→Option (List V)→vW
 | some (.iface t v),some vs=>ny R a σ vs (o6 P t v name)
 | _,_=>.fail "invoke operand"
def fI (a:Act):V×St→vW
 | (v,σ)=>.ok (v,a,σ)
structure sq where
 f:(Task→St→Run)→Option Nat→Act→St→Nat→vW
noncomputable def vX (P:Program) (c:Call):sq:=
 match c.callee with
 | .value f=>match oG P f with
  | some e=>⟨fun _ _ a σ _=>(Cs σ e (a.bR c.args.toList)).bind (fI a)⟩
  | none=>⟨fun R _ a σ _=>nQ R a σ (a.eval f) (a.bR c.args.toList)⟩
 | .invoke x name=>⟨fun R _ a σ _=>oL P R a σ name (a.eval x) (a.bR c.args.toList)⟩
 | .builtin b=>⟨fun _ _ a σ id=>(ic P σ id b c.argTypes.toList (a.bR c.args.toList)).bind (fI a)⟩
noncomputable def rh (_:Call):sq:=⟨fun _ _ _ _ _=>.fail "defer"⟩
noncomputable def C3 (oc:OpC):sq:=⟨fun _ _ a σ id=>(oc.f a σ id).bind (fI a)⟩
noncomputable def jn (P:Program) (o:Op):sq:=
 match o with
 | .call c=>vX P c
 | .defer c=>rh c
 | _=>C3 (mH P o)
def qG (σ:St):Option Act→bL (Act×St)
 | some a=>.ok (a,σ)
 | none=>.fail "put"
noncomputable def l6 (dst:Option Tmp):V×Act×St→bL (Act×St)
 | (v,a,σ)=>qG σ (a.put dst v)
structure Sw where
 f:(Task→St→Run)→Option Nat→Act→St→Nat→bL (Act×St)
noncomputable def ri (oc:sq) (dst:Option Tmp) (R:Task→St→Run) (ro:Option Nat) (a:Act) (σ:St) (id:Nat):Option Bool→bL (Act×St)
 | some true=>(oc.f R ro a σ id).bind (l6 dst)
 | some false=>qG σ (a.put dst dg)
 | none=>.fail "guard"
noncomputable def yf (oc:sq) (dst:Option Tmp) (want:Bool):Option Tmp→Sw
 | some d=>⟨fun R ro a σ id=>ri oc dst R ro a σ id (sn want (a.tmps.get d))⟩
 | none=>⟨fun _ _ a σ _=>qG σ (a.put dst dg)⟩
noncomputable def jo (P:Program) (ops:List Oper) (o:Oper):Sw:=
 match o.guard with
 | none=>⟨fun R ro a σ id=>((jn P o.op).f R ro a σ id).bind (l6 o.dst)⟩
 | some (j,want)=>yf (jn P o.op) o.dst want (fW ops j)
structure yg where
 f:(Task→St→Run)→Option Nat→Act→St→Run
noncomputable def Sx (k:Act→St→Run):Act×St→Run
 | (a,σ)=>k a σ
noncomputable def J8 (P:Program) (ops:List Oper) (l:List Oper):yg:=
 List.rec (motive:=fun _=>yg) ⟨fun _ _ a σ=>.ok (.exit .normal a,σ)⟩
  (fun o _ ih=>⟨fun R ro a σ=>((jo P ops o).f R ro a σ σ.next).bind (Sx (ih.f R ro))⟩) l
noncomputable def ob (ops:List Oper) (o:Oper) (a:Act):Bool:=
 match o.guard with
 | none=>false
 | some (j,want)=>match fW ops j with
  | none=>true
  | some d=>match sn want (a.tmps.get d) with
   | some false=>true
   | _=>false
noncomputable def eH (P:Program) (off:Bool) (back:Nat) (snaps:List St) (a:Act) (v:Option V):Op→Bool
 | .load t x=>match off with
  | true=>Nat.ble (Nat.succ back) (len snaps)
  | false=>match a.eval x,v with
   | some (.aQ _ _),some _=>Nat.ble (Nat.succ back) (len snaps)
   | some p,some u=>ye P t p u back (cR 1 snaps)
   | _,_=>false
 | .convert s d x=>match nw P s d with
  | false=>true
  | true=>match Nat.ble (Nat.succ back) (len snaps) with
   | false=>false
   | true=>match off with
    | true=>true
    | false=>match a.eval x with
     | some (.br _ _ _)=>true
     | _=>false
 | _=>true
noncomputable def lK (eff:Bool) (σ:St) (snaps:List St):List St:=
 match eff with
 | true=>σ::snaps
 | false=>snaps
noncomputable def l7 (a:Act):Option Tmp→Option V
 | some d=>a.tmps.get d
 | none=>none
noncomputable def MJ (P:Program) (ops:List Oper) (o:Oper) (back:Nat) (Ws:Act) (snaps:List St) (k:List St→Act→St→Run):Act×St→Run
 | (a,σ)=>match Nat.beq back 0||eH P (ob ops o Ws) back snaps Ws (l7 a o.dst) o.op with
  | true=>k (lK (bt o.op) σ snaps) a σ
  | false=>.fail "a load and a write, in either order"
structure yh where
 f:(Task→St→Run)→Option Nat→Nat→List St→Act→St→Run
noncomputable def uH (P:Program) (ops:List Oper) (it:Item) (k:yh):Option Oper→yh
 | some o=>⟨fun R ro base snaps a σ=>((jo P ops o).f R ro a σ (Nat.add base it.i)).bind (MJ P ops o it.back a snaps (k.f R ro base))⟩
 | none=>⟨fun _ _ _ _ _ _=>.fail "drawn"⟩
noncomputable def l8 (P:Program) (ops:List Oper) (l:List Item):yh:=
 List.rec (motive:=fun _=>yh) ⟨fun _ _ _ _ a σ=>.ok (.exit .normal a,σ)⟩ (fun it _ ih=>uH P ops it ih (nth ops it.i)) l
noncomputable def ahead (n:Nat):St→St
 | ⟨h,m⟩=>⟨h,Nat.add m n⟩
noncomputable def vY (P:Program) (ops:List Oper) (draw:Bool):yg:=
 match draw with
 | false=>J8 P ops ops
 | true=>match pj P ops with
  | some l=>⟨fun R ro a σ=>(l8 P ops l).f R ro σ.next [ahead (len ops) σ] a (ahead (len ops) σ)⟩
  | none=>⟨fun _ _ _ _=>.fail "plan"⟩
noncomputable def OR (k:Act→St→Run):Out×St→Run
 | (.exit .normal a,σ)=>k a σ
 | r=>.ok r
def Wt (id:Nat):Out×St→Run
 | (.exit (.exit i) a,σ)=>.ok (.exit (if i=id then .normal else .exit i) a,σ)
 | r=>.ok r
noncomputable def Wu (R:Task→St→Run) (ro:Option Nat) (fn:FuncId) (x:Code):Out×St→Run
 | (.exit (.goto l) a,σ)=>match findLabel x l with
  | some rest=>R (.inScope ro fn x rest a) σ
  | none=>.ok (.exit (.goto l) a,σ)
 | r=>.ok r
noncomputable def J9 (y z:Act→St→Run) (a:Act) (σ:St):Option V→Run
 | some (.bool true)=>y a σ
 | some (.bool false)=>z a σ
 | _=>.fail "cond"
noncomputable def kx (P:Program) (fn:FuncId):Code→yg
 | .skip=>⟨fun _ _ a σ=>.ok (.exit .normal a,σ)⟩
 | .label _=>⟨fun _ _ a σ=>.ok (.exit .normal a,σ)⟩
 | .seq x y=>⟨fun R ro a σ=>((kx P fn x).f R ro a σ).bind (OR ((kx P fn y).f R ro))⟩
 | .cond x y z=>⟨fun R ro a σ=>J9 ((kx P fn y).f R ro) ((kx P fn z).f R ro) a σ (a.eval x)⟩
 | .block id x=>⟨fun R ro a σ=>((kx P fn x).f R ro a σ).bind (Wt id)⟩
 | .loop x=>⟨fun R ro a σ=>R (.code ro fn (.loop x) a) σ⟩
 | .exit id=>⟨fun _ _ a σ=>.ok (.exit (.exit id) a,σ)⟩
 | .goto l=>⟨fun _ _ a σ=>.ok (.exit (.goto l) a,σ)⟩
 | .ret=>⟨fun _ _ a σ=>.ok (.exit .ret a,σ)⟩
 | .region _ ops draw=>vY P ops.toList draw
 | .rangeFunc _ _ _ _=>⟨fun _ _ _ _=>.fail "range"⟩
 | .scope x=>⟨fun R ro a σ=>R (.inScope ro fn x x a) σ⟩
 | .refuse _=>⟨fun _ _ _ _=>.fail "refuse"⟩
noncomputable def C4 (R:Task→St→Run) (fn:Func):Out×St→Run
 | (.exit .normal a,σ)=>R (.leave fn a) σ
 | (.exit .ret a,σ)=>R (.leave fn a) σ
 | _=>.fail "call: left by a jump"
noncomputable def sr (R:Task→St→Run) (f:FuncId) (fn:Func) (args:List V) (σ:St) (K:Out×St→Run):Option Code→Run
 | some c=>match fn.name== "runtime.NumGoroutine" with
  | true=>.fail "NumGoroutine"
  | false=>(R (.code none f c (oK fn.ntmps args)) σ).bind K
 | none=>.fail ("no body: "++fn.name)
noncomputable def nR (R:Task→St→Run) (f:FuncId) (args:List V) (σ:St):Option Func→Run
 | some fn=>sr R f fn args σ (C4 R fn) fn.body
 | none=>.fail "no function"
noncomputable def zG (σ:St):Option (List V)→Run
 | some l=>.ok (.val (so l),σ)
 | none=>.fail "results"
noncomputable def qb (P:Program) (R:Task→St→Run) (fn:Func) (a:Act) (σ:St):List (Option (Fn×List V)×Nat×List V)→Run
 | []=>zG σ (fj P a σ fn.results.toList)
 | _=>.fail "leave: target"
noncomputable def uI (R:Task→St→Run) (vs:List V) (σ:St):V→Run
 | .func (.func g) first captured=>R (.call g (app first (app vs captured))) σ
 | _=>.fail "apply"
noncomputable def xy (P:Program) (R:Task→St→Run) (ro:Option Nat) (fn:FuncId) (a:Act) (σ:St):Code→Run
 | .loop x=>((kx P fn x).f R ro a σ).bind (OR fun a σ=>R (.code ro fn (.loop x) a) σ)
 | c=>(kx P fn c).f R ro a σ
noncomputable def step (P:Program) (R:Task→St→Run) (t:Task) (σ:St):Run:=
 match t with
 | .code ro fn c a=>xy P R ro fn a σ c
 | .inScope ro fn x cur a=>((kx P fn cur).f R ro a σ).bind (Wu R ro fn x)
 | .call f args=>nR R f args σ P.funcs[f]?
 | .deferred _ _=>.fail "deferred"
 | .leave fn a=>qb P R fn a σ a.defers
 | .apply f vs=>uI R vs σ f
 | .round _ _=>.fail "round"
end Go.Ev
end
section
namespace Go.Ev
structure Loc where
 c:Nat
 o:Nat
 N:Nat
structure Ren where
 at':Nat→Option Loc
 aW:Nat→Nat→Option Value
instance:CoeFun Ren (fun _=>Nat→Option Loc):=⟨Ren.at'⟩
class Env where
 val:Nat→Value
 one:∀i,(val i).oneCell'=true
 int:∀i,mM≤i→∃n,val i=.int .i64 n
 laid:List (Nat×Nat×Value)
inductive su (ρ:Ren):Fn→Fn→Prop
 | yield {l:Nat} {k:Loc} (h:ρ l=some k):su ρ (.yield l) (.yield k.c)
 | same {f:Fn} (h:∀l,f≠.yield l):su ρ f f
mutual
inductive au [Env] (ρ:Ren):V→Value→Prop
 | int (k:IntKind) (n:Int):au ρ (.int k n) (.int k n)
 | bool (b:Bool):au ρ (.bool b) (.bool b)
 | str (s:List UInt8):au ρ (.str s) (.string ⟨⟨s⟩⟩)
 | ed:au ρ .ed (.pointer none)
 | ptr {b off:Nat} {l:Loc} (h:ρ b=some l):au ρ (.ptr b off) (.pointer (some ⟨l.c,l.o+off,none⟩))
 | aj:au ρ .aj (.slice none 0 0)
 | slice {b off n cap esz:Nat} {ex:Bool} {l:Loc} {off' cap':Nat} (h:ρ b=some l) (hex:ex=true→cap'=cap∧off'=l.o+off)
   (cW:ex=false→cap≤cap'∧(off'=l.o+off∨(n=0∧cap=0))) (hN:off'+cap'*esz≤l.N) (hn:n≤cap):
   au ρ (.slice b off n cap ex esz) (.slice (some ⟨l.c,off',none⟩) n cap')
 | dH:au ρ .dH (.map none)
 | map {b:Nat} {l:Loc} (h:ρ b=some l):au ρ (.map b) (.map (some l.c))
 | func {f f':Fn} {x y:List V} {x' y':List Value} (hf:su ρ f f') (hx:aB ρ x x') (hy:aB ρ y y'):au ρ (.func f x y) (.func f' ⟨x'⟩ ⟨y'⟩)
 | dr:au ρ .dr .nilFunc
 | iface {t:TypeId} {v:V} {x:Value} (h:au ρ v x):au ρ (.iface t v) (.iface t x)
 | bd:au ρ .bd .nilIface
 | any (i:Nat):au ρ (.any i) (Env.val i)
 | dQ (k:FloatKind) (b:Nat):au ρ (.dQ k b) (.float k b)
 | br {es:List V} {esz c off cap:Nat} {ex:Bool} {xs:List Value} (hu:∀v∈es,v.cells.length=esz) (hx:aB ρ (aw es) xs) (hi:∀k x,xs[k]? =some x→ρ.aW c (off+k)=some x)
   (hc:es.length≤cap) (he:ex=true→cap=es.length):au ρ (.br es esz ex) (.slice (some ⟨c,off,none⟩) es.length cap)
 | dS {esz:Nat} {ex:Bool}:au ρ (.br [] esz ex) (.slice none 0 0)
 | du {esz cap:Nat} {ex:Bool} {a:Addr} (he:ex=true→cap=0):au ρ (.br [] esz ex) (.slice (some a) 0 cap)
 | aQ {cs:List V} {off c o:Nat} {xs:List Value} (hx:aB ρ cs xs) (hi:∀k x,xs[k]? =some x→ρ.aW c (o+k)=some x):au ρ (.aQ cs off) (.pointer (some ⟨c,o+off,none⟩))
 | arr {n:Nat} {f:Nat→V} {esz:Nat} {ex nn:Bool} {x:Value} (hn:nn=true→∃a k c,x=.slice (some a) k c) (h:au ρ (.br (cj n f) esz ex) x):au ρ (.arr n f esz ex nn) x
 | own {b n esz:Nat} {l:Loc} {cap:Nat} (h:ρ b=some l) (hc:n≤cap) (hN:l.o+cap*esz≤l.N):au ρ (.own b n esz) (.slice (some ⟨l.c,l.o,none⟩) n cap)
 | fF {b i esz off:Nat} {l:Loc} (h:ρ b=some l):au ρ (.fF b i esz off) (.pointer (some ⟨l.c,l.o+(i*esz+off),none⟩))
 | agg {x:List V} {x':List Value} (h:aB ρ x x'):au ρ (.agg x) (.agg ⟨x'⟩)
 | tuple {x:List V} {x':List Value} (h:aB ρ x x'):au ρ (.tuple x) (.tuple ⟨x'⟩)
inductive aB [Env] (ρ:Ren):List V→List Value→Prop
 | nil:aB ρ [] []
 | cons {v:V} {x:Value} {l:List V} {l':List Value} (h:au ρ v x) (hl:aB ρ l l'):aB ρ (v::l) (x::l')
end
structure Ren.le (ρ ρ':Ren):Prop where
 ap:∀b l,ρ b=some l→ρ' b=some l
 aW:∀c o x,ρ.aW c o=some x→ρ'.aW c o=some x
instance {ρ ρ':Ren}:CoeFun (ρ.le ρ') (fun _=>∀b l,ρ b=some l→ρ' b=some l):=⟨Ren.le.ap⟩
theorem Ren.le.refl (ρ:Ren):ρ.le ρ:=⟨fun _ _ h=>h,fun _ _ _ h=>h⟩
theorem Ren.le.trans {a b c:Ren} (h:a.le b) (h':b.le c):a.le c:=⟨fun _ _ x=>h' _ _ (h _ _ x),fun _ _ _ x=>h'.aW _ _ _ (h.aW _ _ _ x)⟩
theorem su.mono {ρ ρ':Ren} (eg:ρ.le ρ') {f f':Fn} (h:su ρ f f'):su ρ' f f':=by
 cases h with
 | yield h=>exact .yield (eg _ _ h)
 | same h=>exact .same h
mutual
theorem au.mono [Env] {ρ ρ':Ren} (eg:ρ.le ρ'):∀ {v:V} {x:Value},au ρ v x→au ρ' v x
 | _,_,.int k n=>.int k n
 | _,_,.bool b=>.bool b
 | _,_,.str s=>.str s
 | _,_,.ed=>.ed
 | _,_,.ptr h=>.ptr (eg _ _ h)
 | _,_,.aj=>.aj
 | _,_,.slice h a b c d=>.slice (eg _ _ h) a b c d
 | _,_,.dH=>.dH
 | _,_,.map h=>.map (eg _ _ h)
 | _,_,.func hf hx hy=>.func (hf.mono eg) (aB.mono eg hx) (aB.mono eg hy)
 | _,_,.dr=>.dr
 | _,_,.iface h=>.iface (au.mono eg h)
 | _,_,.bd=>.bd
 | _,_,.any i=>.any i
 | _,_,.dQ k b=>.dQ k b
 | _,_,.br hu hx hi hc he=>.br hu (aB.mono eg hx) (fun k x h=>eg.aW _ _ _ (hi k x h)) hc he
 | _,_,.dS=>.dS
 | _,_,.du he=>.du he
 | _,_,.arr hn h=>.arr hn (au.mono eg h)
 | _,_,.own h a b=>.own (eg _ _ h) a b
 | _,_,.fF h=>.fF (eg _ _ h)
 | _,_,.aQ hx hi=>.aQ (aB.mono eg hx) (fun k x h=>eg.aW _ _ _ (hi k x h))
 | _,_,.agg h=>.agg (aB.mono eg h)
 | _,_,.tuple h=>.tuple (aB.mono eg h)
theorem aB.mono [Env] {ρ ρ':Ren} (eg:ρ.le ρ'):∀ {l:List V} {l':List Value},aB ρ l l'→aB ρ' l l'
 | _,_,.nil=>.nil
 | _,_,.cons h hl=>.cons (au.mono eg h) (aB.mono eg hl)
end
section
variable {ρ:Ren}
theorem aB.length [Env] {l:List V} {l':List Value}:aB ρ l l'→l.length=l'.length
 | .nil=>rfl
 | .cons _ hl=>congrArg (·+1) hl.length
theorem aB.get [Env] {l:List V} {l':List Value} (h:aB ρ l l') (i:Nat) {v:V} (hv:l[i]? =some v):∃x,l'[i]? =some x∧au ρ v x:=by
 induction i generalizing l l' with
 | zero=>
  cases h with
  | nil=>simp at hv
  | cons h hl=>simp at hv;subst hv;exact⟨_,rfl,h⟩
 | succ i ih=>
  cases h with
  | nil=>simp at hv
  | cons h hl=>exact ih hl (by simpa using hv)
theorem aB.append [Env] {a b:List V} {a' b':List Value} (h:aB ρ a a') (k:aB ρ b b'):aB ρ (a++b) (a'++b'):=by
 induction a generalizing a' with
 | nil=>cases h;exact k
 | cons v a ih=>cases h with | cons h hl=>exact .cons h (ih hl)
theorem aB.take [Env] {a:List V} {a':List Value} (h:aB ρ a a') (n:Nat):aB ρ (a.take n) (a'.take n):=by
 induction n generalizing a a' with
 | zero=>simpa using aB.nil
 | succ n ih=>
  cases h with
  | nil=>exact .nil
  | cons h hl=>exact .cons h (ih hl)
theorem aB.drop [Env] {a:List V} {a':List Value} (h:aB ρ a a') (n:Nat):aB ρ (a.drop n) (a'.drop n):=by
 induction n generalizing a a' with
 | zero=>simpa using h
 | succ n ih=>
  cases h with
  | nil=>exact .nil
  | cons h hl=>exact ih hl
theorem aB.Wv [Env] {l:List V} {l':List Value} (hn:l.length=l'.length) (h:∀(i:Nat) (v:V) (x:Value),l[i]? =some v→l'[i]? =some x→au ρ v x):aB ρ l l':=by
 induction l generalizing l' with
 | nil=>cases l' with
  | nil=>exact .nil
  | cons a l'=>simp at hn
 | cons v l ih=>cases l' with
  | nil=>simp at hn
  | cons x l'=>exact .cons (h 0 v x rfl rfl) (ih (by simpa using hn) fun i v x hv hx=>h (i+1) v x (by simpa using hv) (by simpa using hx))
theorem au.fX [Env] {ρ:Ren} {v:V} {x:Value} (h:au ρ v x) {es:List V} {esz:Nat} {ex:Bool} (hv:v=.br es esz ex):∃a n cap,x=.slice a n cap:=by
 cases h<;>first
  | exact⟨_,_,_,rfl⟩
  | cases hv
theorem au.Ua [Env] {ρ:Ren} {v:V} {x:Value} (h:au ρ v x) {es:List V} {esz:Nat} {ex:Bool} (hv:v=.br es esz ex):∃a cap,x=.slice a es.length cap:=by
 cases h<;>first
  | (cases hv;exact⟨_,_,rfl⟩)
  | cases hv
theorem au.cells [Env] {v:V} {x:Value} (h:au ρ v x):aB ρ v.cells x.cells.toList:=by
 cases h with
 | agg h=>exact h
 | int k n=>exact .cons (.int k n) .nil
 | dQ k b=>exact .cons (.dQ k b) .nil
 | bool b=>exact .cons (.bool b) .nil
 | str s=>exact .cons (.str s) .nil
 | ed=>exact .cons .ed .nil
 | ptr h=>exact .cons (.ptr h) .nil
 | aj=>exact .cons .aj .nil
 | slice h a b c d=>exact .cons (.slice h a b c d) .nil
 | dH=>exact .cons .dH .nil
 | map h=>exact .cons (.map h) .nil
 | func a b c=>exact .cons (.func a b c) .nil
 | dr=>exact .cons .dr .nil
 | iface h=>exact .cons (.iface h) .nil
 | bd=>exact .cons .bd .nil
 | any i=>
  have h:=Env.one i
  have e:(Env.val i).cells.toList=[Env.val i]:=by
   generalize Env.val i=x at h⊢
   cases x<;>first | rfl | cases h
  rw[e]
  exact .cons (.any i) .nil
 | tuple h=>exact .cons (.tuple h) .nil
 | br hu hx hi hc he=>exact .cons (.br hu hx hi hc he) .nil
 | dS=>exact .cons .dS .nil
 | du he=>exact .cons (.du he) .nil
 | aQ hx hi=>exact .cons (.aQ hx hi) .nil
 | own h a b=>exact .cons (.own h a b) .nil
 | fF h=>exact .cons (.fF h) .nil
 | arr hn h=>
  obtain⟨a,n,cap,rfl⟩:=h.fX rfl
  exact .cons (.arr hn h) .nil
theorem au.mP [Env] {v:V} {x:Value} (h:au ρ v x) (hs:v.scalar=true):x.oneCell'=true:=by
 cases h<;>first
  | rfl
  | exact Env.one _
  | (rename_i h;obtain⟨a,n,cap,rfl⟩:=h.fX rfl;rfl)
  | simp [V.scalar] at hs
theorem aB.mP [Env] {l:List V} {l':List Value} (h:aB ρ l l') (hs:l.all V.scalar=true):∀x∈l',x.oneCell'=true:=by
 induction l generalizing l' with
 | nil=>cases h;intro x hx;simp at hx
 | cons v l ih=>
  cases h with
  | cons h hl=>
   simp only[List.all_cons,Bool.and_eq_true] at hs
   intro x hx
   rcases List.mem_cons.1 hx with rfl | hx
   ·exact h.mP hs.1
   ·exact ih hl hs.2 x hx
end
mutual
theorem nz [Env] (ρ:Ren):∀(x:Value) {v:V},V.ofValue x=some v→au ρ v x
 | .int k n,v,h=>by simp only[V.ofValue,Option.some.injEq] at h;subst h;exact .int k n
 | .bool b,v,h=>by simp only[V.ofValue,Option.some.injEq] at h;subst h;exact .bool b
 | .string s,v,h=>by
  simp only[V.ofValue,Option.some.injEq] at h;subst h
  exact .str s.data.toList
 | .pointer none,v,h=>by simp only[V.ofValue,Option.some.injEq] at h;subst h;exact .ed
 | .pointer (some _),v,h=>by simp [V.ofValue] at h
 | .slice none 0 0,v,h=>by simp only[V.ofValue,Option.some.injEq] at h;subst h;exact .aj
 | .slice none (_+1) _,v,h=>by simp [V.ofValue] at h
 | .slice none 0 (_+1),v,h=>by simp [V.ofValue] at h
 | .slice (some _) _ _,v,h=>by simp [V.ofValue] at h
 | .map none,v,h=>by simp only[V.ofValue,Option.some.injEq] at h;subst h;exact .dH
 | .map (some _),v,h=>by simp [V.ofValue] at h
 | .nilFunc,v,h=>by simp only[V.ofValue,Option.some.injEq] at h;subst h;exact .dr
 | .nilIface,v,h=>by simp only[V.ofValue,Option.some.injEq] at h;subst h;exact .bd
 | .iface t x,v,h=>by
  simp only[V.ofValue,Option.map_eq_some_iff] at h
  obtain⟨y,hy,rfl⟩:=h
  exact .iface (nz ρ x hy)
 | .agg ⟨cs⟩,v,h=>by
  simp only[V.ofValue,Option.map_eq_some_iff] at h
  obtain⟨y,hy,rfl⟩:=h
  exact .agg (pk ρ cs hy)
 | .tuple ⟨cs⟩,v,h=>by
  simp only[V.ofValue,Option.map_eq_some_iff] at h
  obtain⟨y,hy,rfl⟩:=h
  exact .tuple (pk ρ cs hy)
 | .float k b,v,h=>by simp only[V.ofValue,Option.some.injEq] at h;subst h;exact .dQ k b
 | .complex _ _ _,v,h=>by simp [V.ofValue] at h
 | .chan _,v,h=>by simp [V.ofValue] at h
 | .func _ _ _,v,h=>by simp [V.ofValue] at h
theorem pk [Env] (ρ:Ren):∀(l:List Value) {vs:List V},V.ofValues l=some vs→aB ρ vs l
 | [],vs,h=>by simp only[V.ofValues,Option.some.injEq] at h;subst h;exact .nil
 | x::l,vs,h=>by
  simp only[V.ofValues] at h
  cases hv:V.ofValue x with
  | none=>simp [hv] at h
  | some v=>
   cases hl:V.ofValues l with
   | none=>simp [hv,hl] at h
   | some r=>
    simp only[hv,hl,Option.some.injEq] at h
    subst h
    exact .cons (nz ρ x hv) (pk ρ l hl)
end
def j0 [Env] (ρ:Ren) (t:cC V) (a:Array Value):Prop:=∀i v,t.get i=some v→∃x,a[i]? =some x∧au ρ v x
inductive rj [Env] (ρ:Ren):Option (Fn×List V)×Nat×List V→Deferred→Prop
 | mark {d:Nat} {l:Loc} (h:ρ d=some l):rj ρ (none,d,[]) {target:=.collected l.c,args:=#[]}
 | call {f f':Fn} {x y:List V} {x' y':List Value} (n:Nat) (hf:su ρ f f') (hx:aB ρ x x') (hy:aB ρ y y'):
   rj ρ (some (f,x),n,y) {target:=.fn f' ⟨x'⟩,args:=⟨y'⟩}
inductive mQ [Env] (ρ:Ren):List (Option (Fn×List V)×Nat×List V)→List Deferred→Prop
 | nil:mQ ρ [] []
 | cons {d:Option (Fn×List V)×Nat×List V} {e:Deferred} {l:List (Option (Fn×List V)×Nat×List V)} {l':List Deferred} (h:rj ρ d e) (hl:mQ ρ l l'):mQ ρ (d::l) (e::l')
structure bO [Env] (ρ:Ren) (a:Act) (a':Go.Act):Prop where
 tmps:j0 ρ a.tmps a'.tmps
 size:a.size=a'.tmps.size
 defers:mQ ρ a.defers a'.defers
theorem j0.mono [Env] {ρ ρ':Ren} (eg:ρ.le ρ') {t:cC V} {a:Array Value} (h:j0 ρ t a):j0 ρ' t a:=
 fun i v hv=>let ⟨x,hx,hr⟩:=h i v hv;⟨x,hx,hr.mono eg⟩
theorem rj.mono [Env] {ρ ρ':Ren} (eg:ρ.le ρ') {d:Option (Fn×List V)×Nat×List V} {e:Deferred} (h:rj ρ d e):rj ρ' d e:=by
 cases h with
 | mark h=>exact .mark (eg _ _ h)
 | call n hf hx hy=>exact .call n (hf.mono eg) (hx.mono eg) (hy.mono eg)
theorem mQ.mono [Env] {ρ ρ':Ren} (eg:ρ.le ρ') {d:List (Option (Fn×List V)×Nat×List V)} {e:List Deferred} (h:mQ ρ d e):mQ ρ' d e:=by
 induction d generalizing e with
 | nil=>cases h;exact .nil
 | cons a d ih=>cases h with | cons h hl=>exact .cons (h.mono eg) (ih hl)
theorem bO.mono [Env] {ρ ρ':Ren} (eg:ρ.le ρ') {a:Act} {a':Go.Act} (h:bO ρ a a'):bO ρ' a a':=
 ⟨h.tmps.mono eg,h.size,h.defers.mono eg⟩
theorem j0.put [Env] {ρ:Ren} {t:cC V} {a:Array Value} (h:j0 ρ t a) {d:Nat} (hd:d<a.size) {v:V} {x:Value} (hv:au ρ v x):
  j0 ρ (t.put d v) (a.setIfInBounds d x):=by
 intro i u hu
 rw[cC.bY] at hu
 by_cases hi:i=d
 ·subst hi
  rw[if_pos rfl] at hu
  cases hu
  exact⟨x,by simp [hd],hv⟩
 ·rw[if_neg hi] at hu
  obtain⟨y,hy,hr⟩:=h i u hu
  exact⟨y,by rw[Array.getElem?_setIfInBounds_ne (by omega)];exact hy,hr⟩
theorem bO.put [Env] {ρ:Ren} {a bf:Act} {a':Go.Act} (h:bO ρ a a') {dst:Option Tmp} {v:V} {x:Value} (hv:au ρ v x) (hp:a.put dst v=some bf):
  bO ρ bf (a'.put dst x):=by
 cases dst with
 | none=>
  simp only[Act.put,Option.some.injEq] at hp
  subst hp;exact h
 | some d=>
  obtain⟨t,s,ds⟩:=a
  simp only[Act.put] at hp
  cases hb:Nat.blt d s with
  | false=>simp [hb] at hp
  | true=>
   simp only[hb,Option.some.injEq] at hp
   subst hp
   have hs:s=a'.tmps.size:=h.size
   have bI:d<a'.tmps.size:=by rw[←hs];rw[Nat.blt_eq] at hb;exact hb
   exact⟨h.tmps.put bI hv,by simp [Go.Act.put,hs],h.defers⟩
theorem bO.eval [Env] {ρ:Ren} {a:Act} {a':Go.Act} (h:bO ρ a a') (x:Operand) {v:V} (hv:a.eval x=some v):au ρ v (a'.eval x):=by
 cases x with
 | tmp t=>
  obtain⟨y,hy,hr⟩:=h.tmps t v hv
  simpa [Go.Act.eval,hy] using hr
 | const c=>exact nz ρ c hv
 | global g=>simp [Act.eval] at hv
 | func f=>
  simp only[Act.eval,Option.some.injEq] at hv
  subst hv
  exact .func (.same (by simp)) .nil .nil
theorem oM {α:Type} {x:Option α} {l:Option (List α)} {r:List α} (h:k8 x l=some r):∃v t,x=some v∧l=some t∧r=v::t:=by
 cases x with
 | none=>simp [k8] at h
 | some v=>cases l with
  | none=>simp [k8] at h
  | some t=>simp only[k8,Option.some.injEq] at h;exact⟨v,t,rfl,rfl,h.symm⟩
theorem bO.bR [Env] {ρ:Ren} {a:Act} {a':Go.Act} (h:bO ρ a a') (l:List Operand) {vs:List V} (hv:a.bR l=some vs):aB ρ vs (l.map a'.eval):=by
 induction l generalizing vs with
 | nil=>cases hv;exact .nil
 | cons x l ih=>
  obtain⟨v,t,h1,h2,rfl⟩:=oM (x:=a.eval x) (l:=a.bR l) hv
  exact .cons (h.eval x h1) (ih h2)
structure Ww [Env] (ρ:Ren) (e:V×V×Nat) (e':MapEntry):Prop where
 key:au ρ e.1 e'.key
 val:au ρ e.2.1 e'.val
 born:e.2.2=e'.born
inductive lL [Env] (ρ:Ren):List (V×V×Nat)→List MapEntry→Prop
 | nil:lL ρ [] []
 | cons {e:V×V×Nat} {e':MapEntry} {l:List (V×V×Nat)} {l':List MapEntry} (h:Ww ρ e e') (hl:lL ρ l l'):lL ρ (e::l) (e'::l')
theorem lL.mono [Env] {ρ ρ':Ren} (eg:ρ.le ρ') {l:List (V×V×Nat)} {l':List MapEntry} (h:lL ρ l l'):lL ρ' l l':=by
 induction l generalizing l' with
 | nil=>cases h;exact .nil
 | cons a d ih=>cases h with | cons h hl=>exact .cons ⟨h.key.mono eg,h.val.mono eg,h.born⟩ (ih hl)
inductive rk (ρ:Ren):Option Nat→Option Nat→Prop
 | none:rk ρ none none
 | some {m:Nat} {l:Loc} (h:ρ m=some l):rk ρ (some m) (some l.c)
inductive cI [Env] (ρ:Ren) (w:World) (l:Loc):b9→Prop
 | cells {n:Nat} {z:List V} {t:Trie V} {p ro:Bool} (hs:∃ty,w.shape? l.c=some (ty,l.N)) (hn:l.o+n≤l.N)
   (hv:∀i v,cellOf n z t i=some v→∃x,w.cell? ⟨l.c,l.o+i,none⟩=some x∧au ρ v x)
   (hf:ro=false→∀i,i<l.N→w.frozen? ⟨l.c,i,none⟩=false) (hp:p=true→∀i,w.frozen? ⟨l.c,i,none⟩=false):cI ρ w l (.cells n z t p ro)
 | row {n:Nat} {f:Nat→V} {esz:Nat} {p:Bool} (hs:∃ty,w.shape? l.c=some (ty,l.N)) (hn:l.o+n*esz≤l.N) (hu:∀i,i<n→(f i).cells.length=esz)
   (hv:∀i,i<n→∀k v,(f i).cells[k]? =some v→∃x,w.cell? ⟨l.c,l.o+(i*esz+k),none⟩=some x∧au ρ v x)
   (hf:∀i,i<l.N→w.frozen? ⟨l.c,i,none⟩=false) (hp:p=true→∀i,w.frozen? ⟨l.c,i,none⟩=false):cI ρ w l (.row n f esz p)
 | map {es:List (V×V×Nat)} {clock:Nat} {C5:Array MapEntry} (h:w.heap[l.c]? =some (.map C5 clock)) (he:lL ρ es C5.toList):cI ρ w l (.map es clock)
 | iter {m m':Option Nat} {since last:Nat} {seen:List Nat} (h:w.heap[l.c]? =some (.mapIter m' since ⟨seen⟩ last)) (ho:l.o=0) (hm:rk ρ m m'):cI ρ w l (.iter m since seen last)
 | loop {st:LoopState} {Wx:Option Code} {fn Wy:FuncId} {t:cC V} {t':Array Value} {size d:Nat} {ps:List Tmp} {akK bo:Code} {ld:Loc}
   (h:w.heap[l.c]? =some (.loop {state:=st,pending:=Wx,fn:=Wy,tmps:=t',params:=⟨ps⟩,assign:=akK,body:=bo,defers:=ld.c}))
   (ht:j0 ρ t t') (hs:size=t'.size) (hd:ρ d=some ld):cI ρ w l (.loop st Wx fn t size ps akK bo d)
 | deferred (h:w.heap[l.c]? =some (.deferred (some []))):cI ρ w l .deferred
def b9.xz (_:b9):Bool:=true
def Wr (ρ:Ren) (σ:St) (c:Nat):Prop:=∃b k l,σ.heap.get b=some k∧k.xz=true∧ρ b=some l∧l.c=c
structure R [Env] (ρ:Ren) (σ:St) (w:World):Prop where
 di:∀b k,σ.heap.get b=some k→∃l,ρ b=some l∧cI ρ w l k
 inj:∀b b' k k' l l',σ.heap.get b=some k→σ.heap.get b'=some k'→ρ b=some l→ρ b'=some l'→l.c=l'.c→b=b'
 fresh:∀b,σ.next≤b→ρ b=none
 valid:∀b l,ρ b=some l→l.c<w.heap.size
 aW:∀c o x,ρ.aW c o=some x→w.cell? ⟨c,o,none⟩=some x∧¬Wr ρ σ c
 laid:∀q∈Env.laid,ρ.aW q.1 q.2.1=some q.2.2
theorem R.vZ [Env] {ρ ρ':Ren} {σ:St} {w:World} (h:R ρ σ w) (hle:ρ.le ρ'):∀q∈Env.laid,ρ'.aW q.1 q.2.1=some q.2.2:=fun q hq=>hle.aW _ _ _ (h.laid q hq)
structure bn [Env] (ids:Nat→Prop) (ρ:Ren) (σ:St) (w:World) (ρ':Ren) (σ':St) (w':World):Prop where
 r:R ρ' σ' w'
 le:ρ.le ρ'
 next:σ.next≤σ'.next
 jz:∀b l,ρ' b=some l→ρ b=some l∨σ.next≤b∨ids b
 size:w.heap.size≤w'.heap.size
 os:w'.os=w.os
 tape:w'.tape=w.tape
 output:w'.output=w.output
 aV:∀c,c<w.heap.size→¬Wr ρ σ c→w'.heap[c]? =w.heap[c]?
 wr:∀c,c<w.heap.size→Wr ρ' σ' c→Wr ρ σ c
 jL:∀b k,σ'.heap.get b=some k→(∃k',σ.heap.get b=some k')∨σ.next≤b∨ids b
 iG:∀c o x,ρ'.aW c o=some x→ρ.aW c o=some x∨w.heap.size≤c∨Wr ρ σ c
theorem bn.refl [Env] {ids:Nat→Prop} {ρ:Ren} {σ:St} {w:World} (h:R ρ σ w):bn ids ρ σ w ρ σ w:=
 ⟨h,Ren.le.refl ρ,Nat.le_refl _,fun _ _ h=>.inl h,Nat.le_refl _,rfl,rfl,rfl,fun _ _ _=>rfl,fun _ _ h=>h,fun _ k h=>.inl ⟨k,h⟩,fun _ _ _ h=>.inl h⟩
theorem bn.trans [Env] {ids:Nat→Prop} {ρ ct bC:Ren} {σ aJ cc:St} {w bq fD:World} (h:bn ids ρ σ w ct aJ bq) (k:bn ids ct aJ bq bC cc fD):bn ids ρ σ w bC cc fD:=
 ⟨k.r,h.le.trans k.le,Nat.le_trans h.next k.next,
  fun b l hb=>by
   rcases k.jz b l hb with h1 | h1 | h1
   ·exact h.jz b l h1
   ·exact .inr (.inl (Nat.le_trans h.next h1))
   ·exact .inr (.inr h1),
  Nat.le_trans h.size k.size,k.os.trans h.os,k.tape.trans h.tape,k.output.trans h.output,
  fun c hc hn=>(k.aV c (Nat.lt_of_lt_of_le hc h.size) fun hw=>hn (h.wr c hc hw)).trans (h.aV c hc hn),
  fun c hc hw=>h.wr c hc (k.wr c (Nat.lt_of_lt_of_le hc h.size) hw),
  fun b q hb=>by
   rcases k.jL b q hb with ⟨q',h1⟩ | h1 | h1
   ·exact h.jL b q' h1
   ·exact .inr (.inl (Nat.le_trans h.next h1))
   ·exact .inr (.inr h1),
  fun c o x hx=>by
   rcases k.iG c o x hx with h1 | h1 | h1
   ·exact h.iG c o x h1
   ·exact .inr (.inl (Nat.le_trans h.size h1))
   ·by_cases hc:c<w.heap.size
    ·exact .inr (.inr (h.wr c hc h1))
    ·exact .inr (.inl (Nat.le_of_not_lt hc))⟩
theorem bn.weaken [Env] {ids Wz:Nat→Prop} {ρ ρ':Ren} {σ σ':St} {w w':World} (h:bn ids ρ σ w ρ' σ' w') (hi:∀b,ids b→Wz b):bn Wz ρ σ w ρ' σ' w':=
 {h with jz:=fun b l hb=>(h.jz b l hb).imp id (Or.imp id (hi b)),jL:=fun b k hb=>(h.jL b k hb).imp id (Or.imp id (hi b))}
end Go.Ev
end
