/- Proved: parts of the way: Run, Rel. -/
import Derived.Test.YtbajncpfmemdgaaGreatDoorEvQ00
import Derived.RangeFuncLeaves
import Derived.Laws.IdiomCopy
import Derived.Laws.Cells
set_option linter.unusedVariables false
set_option linter.unusedSimpArgs false
section
namespace Go.Ev
def bp:Op→Bool
 | .store .. | .mapUpdate .. | .insert .. | .assign _=>true
 | .call {callee:=.builtin b,..}=>match b with
  | .len | .max | .min=>false
  | _=>true
 | .call _ | .defer _ | .next .. | .range .. | .entry ..=>true
 | _=>false
def nk:Op→Bool
 | .load ..=>true
 | _=>false
def s6 (P:Program) (s d:TypeId):Bool:=
 match P.underlying s,P.underlying d with
 | some (.int _),some (.int _)=>true
 | some (.int _),some (.float _)=>true
 | some (.float _),some (.int _)=>true
 | some .string,some .string=>true
 | _,_=>false
def qB (P:Program) (t:TypeId):Bool:=
 match P.underlying t with
 | some (.int _)=>true
 | some .string=>true
 | some .bool=>true
 | _=>false
def rz (P:Program):Option TypeId→Bool
 | some t=>match P.underlying t with
  | some .string=>true
  | some (.slice _)=>true
  | some (.array _ _)=>true
  | _=>false
 | none=>false
def mO (P:Program) (s d:TypeId):Bool:=
 match P.underlying s,P.underlying d with
 | some (.slice _),some .string=>true
 | _,_=>false
def dZ (P:Program):Op→Bool
 | .lookup ..=>true
 | .convert s d _=> !s6 P s d
 | .slice t ..=>match P.underlying t with | some (.array ..)=>true | _=>false
 | .binOp op t _ _ _=>match op with | .eql | .neq=> !qB P t | _=>false
 | .call {callee:=.builtin .len,args:=_,argTypes:=tys}=> !rz P tys[0]?
 | _=>false
def rA (P:Program):Op→Bool
 | .load ..=>true
 | .convert s d _=>mO P s d
 | _=>false
def xD (w:List Nat) (o:Oper):Nat:=o.after.toList.foldl (fun s e=>match Region.binds .any e with
 | true=>Nat.lor s (Nat.lor (2^e.on) (w.getD e.on 0))
 | false=>s) 0
def waits (ops:List Oper) (acc:List Nat):List Nat:=
 match ops with
 | []=>acc
 | o::r=>waits r (acc++[xD acc o])
def PF (ops:List Oper):List Nat:=(List.range ops.length).filter fun i=>match ops[i]? with
 | some o=>bp o.op
 | none=>false
def Ac (n:Nat) (w:List Nat) (done:List Nat):List Nat→List Nat
 | []=>done++(List.range n).filter fun i=> !done.contains i
 | e::es=>Ac n w (done++((List.range n).filter fun i=>(w.getD e 0).testBit i&& !done.contains i)++[e]) es
structure Item where
 i:Nat
 back:Nat
def G6 (w:Nat) (es:List Nat):Nat:=(es.filter fun e=>w.testBit e).length
def s7 (w es:List Nat) (G7:Nat):List Nat→List Item
 | []=>[]
 | i::l=>match es.contains i with
  | true=>{i,back:=0}::s7 w es (G7+1) l
  | false=>{i,back:=G7-G6 (w.getD i 0) es}::s7 w es G7 l
def BA (a b:Nat):Bool:=Nat.beq (Nat.lor a b) b
def s8 (w back:Nat) (effs:List Nat):Bool:=
 match effs.drop back with
 | []=>true
 | f::_=>w.testBit f
def dt (P:Program) (ops:List Oper) (w:List Nat):Nat→List Nat→List Item→Bool
 | done,_,[]=>(List.range ops.length).all done.testBit
 | done,effs,it::l=>
  match ops[it.i]? with
  | none=>false
  | some o=> !done.testBit it.i&&BA (w.getD it.i 0) done&&
   match bp o.op with
   | true=>BA done (w.getD it.i 0)&&dt P ops w (Nat.lor done (2^it.i)) (it.i::effs) l
   | false=>s8 (w.getD it.i 0) it.back effs&&(Nat.beq it.back 0||rA P o.op|| !dZ P o.op)&&dt P ops w (Nat.lor done (2^it.i)) effs l
def Ad (ops:List Oper) (w:List Nat):Bool:=(List.range ops.length).all fun i=>match ops[i]? with
 | some o=>Nat.beq (w.getD i 0) (xD w o)
 | none=>false
def Jx (o:Op):List Tmp:=o.operands.toList.filterMap fun | .tmp t=>some t | _=>none
def looks (ops:List Oper) (o:Oper):List Tmp:=Jx o.op++(match o.guard with
 | some (j,_)=>((ops[j]?).bind (·.dst)).toList
 | none=>[])
def Ae (wi i:Nat) (li:List Tmp) (j wj:Nat) (ej:Bool):Option Tmp→Bool
 | none=>true
 | some t=>(!(Nat.beq i j)&&(wi.testBit j||(ej&&wj.testBit i)))|| !li.contains t
def kZ:List (Option Tmp)→Bool
 | []=>true
 | none::l=>kZ l
 | some t::l=> !l.contains (some t)&&kZ l
def s9 (ops:List Oper) (w:List Nat):Bool:=
 kZ (ops.map (·.dst))&&(List.range ops.length).all fun i=>match ops[i]? with
  | some o=>let li:=looks ops o
   (List.range ops.length).all fun j=>match ops[j]? with
    | some oj=>Ae (w.getD i 0) i li j (w.getD j 0) (bp oj.op) oj.dst
    | none=>false
  | none=>false
def kc (P:Program) (ops:List Oper):Option (List Item):=
 let w:=waits ops []
 let es:=PF ops
 let l:=s7 w es 0 (Ac ops.length w [] es)
 match Nat.ble l.length ops.length&&Ad ops w&&s9 ops w&&dt P ops w 0 [] l with
 | true=>some l
 | false=>none
noncomputable def xE (P:Program) (t:TypeId) (x v:V):Nat→List St→Bool
 | 0,_=>true
 | _+1,[]=>false
 | k+1,σ::r=>(match eg P σ t x with | some u=>V.beq u v | none=>false)&&xE P t x v k r
inductive Task where
 | code (ro:Option Nat) (fn:FuncId) (c:Code) (a:Act)
 | inScope (ro:Option Nat) (fn:FuncId) (x cur:Code) (a:Act)
 | call (f:FuncId) (args:List V)
 | deferred (f:FuncId) (args:List V)
 | leave (fn:Func) (a:Act)
 | apply (f:V) (args:List V)
 | round (l:Nat) (args:List V)
inductive Out where
 | exit (e:Ex) (a:Act)
 | val (v:V)
abbrev Run:=bA (Out×St)
def rB (want:Bool):Option V→Option Bool
 | some (.bool b)=>some (b==want)
 | some (.any _)=>none
 | some _=>some false
 | none=>none
noncomputable def fK (ops:List Oper) (j:Nat):Option Tmp:=(nth ops j).bind (·.dst)
noncomputable def lC (size:Nat) (args:List V):Act:=⟨bF.G1 args (bF.blank size) 0,max size (len args),[]⟩
noncomputable def eW (P:Program) (a:Act) (σ:St):List ResultVar→Option (List V)
 | []=>some []
 | .tmp t::r=>match a.tmps.get t,eW P a σ r with
  | some v,some l=>some (v::l)
  | _,_=>none
 | .cell x t::r=>match a.tmps.get x,eW P a σ r with
  | some p,some l=>(eg P σ t p).map (·::l)
  | _,_=>none
def rC:List V→V
 | [v]=>v
 | l=>.tuple l
def wS (P:Program) (t:TypeId):Option Bool:=
 match P.underlying t with
 | some (.pointer _)=>some true
 | some _=>some false
 | none=>none
noncomputable def methodOf (P:Program) (t:TypeId) (v:V) (m:Method):Option (FuncId×V):=
 if m.path.isEmpty then match m.func,wS P t with
  | some (f,true),some true=>some (f,v)
  | some (f,false),some false=>some (f,v)
  | _,_=>none
 else none
noncomputable def ot (P:Program) (t:TypeId) (v:V) (name:String):Option (FuncId×V):=
 ((P.info? t).bind fun i=>i.methods.find? (·.name==name)).bind (methodOf P t v)
abbrev u5:=bA (V×Act×St)
def valOf (a:Act):Out×St→u5
 | (.val v,σ)=>.ok (v,a,σ)
 | _=>.fail "call"
noncomputable def np (R:Task→St→Run) (a:Act) (σ:St):Option V→Option (List V)→u5
 | some fv,some vs=>(R (.apply fv vs) σ).bind (valOf a)
 | _,_=>.fail "call operand"
noncomputable def mP (R:Task→St→Run) (a:Act) (σ:St) (vs:List V):Option (FuncId×V)→u5
 | some (f,recv)=>(R (.call f (recv::vs)) σ).bind (valOf a)
 | none=>.fail "invoke: method"
noncomputable def nY (P:Program) (R:Task→St→Run) (a:Act) (σ:St) (name:String):Option V→Option (List V)→u5
 | some (.iface t v),some vs=>mP R a σ vs (ot P t v name)
 | _,_=>.fail "invoke operand"
def fB (a:Act):V×St→u5
 | (v,σ)=>.ok (v,a,σ)
structure rD where
 f:(Task→St→Run)→Option Nat→Act→St→Nat→u5
noncomputable def u6 (P:Program) (c:Call):rD:=
 match c.callee with
 | .value f=>match nU P f with
  | some e=>⟨fun _ _ a σ _=>(Bb σ e (a.bO c.args.toList)).bind (fB a)⟩
  | none=>⟨fun R _ a σ _=>np R a σ (a.eval f) (a.bO c.args.toList)⟩
 | .invoke x name=>⟨fun R _ a σ _=>nY P R a σ name (a.eval x) (a.bO c.args.toList)⟩
 | .builtin b=>⟨fun _ _ a σ id=>(gL P σ id b c.argTypes.toList (a.bO c.args.toList)).bind (fB a)⟩
noncomputable def qC (_:Call):rD:=⟨fun _ _ _ _ _=>.fail "defer"⟩
noncomputable def BB (oc:X6):rD:=⟨fun _ _ a σ id=>(oc.f a σ id).bind (fB a)⟩
noncomputable def iI (P:Program) (o:Op):rD:=
 match o with
 | .call c=>u6 P c
 | .defer c=>qC c
 | _=>BB (me P o)
def pW (σ:St):Option Act→bA (Act×St)
 | some a=>.ok (a,σ)
 | none=>.fail "put"
noncomputable def lD (dst:Option Tmp):V×Act×St→bA (Act×St)
 | (v,a,σ)=>pW σ (a.put dst v)
structure Ov where
 f:(Task→St→Run)→Option Nat→Act→St→Nat→bA (Act×St)
noncomputable def qD (oc:rD) (dst:Option Tmp) (R:Task→St→Run) (ro:Option Nat) (a:Act) (σ:St) (id:Nat):Option Bool→bA (Act×St)
 | some true=>(oc.f R ro a σ id).bind (lD dst)
 | some false=>pW σ (a.put dst cO)
 | none=>.fail "guard"
noncomputable def xF (oc:rD) (dst:Option Tmp) (want:Bool):Option Tmp→Ov
 | some d=>⟨fun R ro a σ id=>qD oc dst R ro a σ id (rB want (a.tmps.get d))⟩
 | none=>⟨fun _ _ a σ _=>pW σ (a.put dst cO)⟩
noncomputable def iJ (P:Program) (ops:List Oper) (o:Oper):Ov:=
 match o.guard with
 | none=>⟨fun R ro a σ id=>((iI P o.op).f R ro a σ id).bind (lD o.dst)⟩
 | some (j,want)=>xF (iI P o.op) o.dst want (fK ops j)
structure u7 where
 f:(Task→St→Run)→Option Nat→Act→St→Run
noncomputable def Ow (k:Act→St→Run):Act×St→Run
 | (a,σ)=>k a σ
noncomputable def G8 (P:Program) (ops:List Oper) (l:List Oper):u7:=
 List.rec (motive:=fun _=>u7) ⟨fun _ _ a σ=>.ok (.exit .normal a,σ)⟩
  (fun o _ ih=>⟨fun R ro a σ=>((iJ P ops o).f R ro a σ σ.next).bind (Ow (ih.f R ro))⟩) l
noncomputable def nF (ops:List Oper) (o:Oper) (a:Act):Bool:=
 match o.guard with
 | none=>false
 | some (j,want)=>match fK ops j with
  | none=>true
  | some d=>match rB want (a.tmps.get d) with
   | some false=>true
   | _=>false
noncomputable def ey (P:Program) (off:Bool) (back:Nat) (snaps:List St) (a:Act) (v:Option V):Op→Bool
 | .load t x=>match off with
  | true=>Nat.ble (Nat.succ back) (len snaps)
  | false=>match a.eval x,v with
   | some (.aM _ _),some _=>Nat.ble (Nat.succ back) (len snaps)
   | some p,some u=>xE P t p u back (dq 1 snaps)
   | _,_=>false
 | .convert s d x=>match mO P s d with
  | false=>true
  | true=>match Nat.ble (Nat.succ back) (len snaps) with
   | false=>false
   | true=>match off with
    | true=>true
    | false=>match a.eval x with
     | some (.bk _ _ _)=>true
     | _=>false
 | _=>true
noncomputable def k0 (eff:Bool) (σ:St) (snaps:List St):List St:=
 match eff with
 | true=>σ::snaps
 | false=>snaps
noncomputable def lE (a:Act):Option Tmp→Option V
 | some d=>a.tmps.get d
 | none=>none
noncomputable def Jy (P:Program) (ops:List Oper) (o:Oper) (back:Nat) (RE:Act) (snaps:List St) (k:List St→Act→St→Run):Act×St→Run
 | (a,σ)=>match Nat.beq back 0||ey P (nF ops o RE) back snaps RE (lE a o.dst) o.op with
  | true=>k (k0 (bp o.op) σ snaps) a σ
  | false=>.fail "a load and a write, in either order"
structure xG where
 f:(Task→St→Run)→Option Nat→Nat→List St→Act→St→Run
noncomputable def tc (P:Program) (ops:List Oper) (it:Item) (k:xG):Option Oper→xG
 | some o=>⟨fun R ro base snaps a σ=>((iJ P ops o).f R ro a σ (Nat.add base it.i)).bind (Jy P ops o it.back a snaps (k.f R ro base))⟩
 | none=>⟨fun _ _ _ _ _ _=>.fail "drawn"⟩
noncomputable def ke (P:Program) (ops:List Oper) (l:List Item):xG:=
 List.rec (motive:=fun _=>xG) ⟨fun _ _ _ _ a σ=>.ok (.exit .normal a,σ)⟩ (fun it _ ih=>tc P ops it ih (nth ops it.i)) l
noncomputable def ahead (n:Nat):St→St
 | ⟨h,m⟩=>⟨h,Nat.add m n⟩
noncomputable def u9 (P:Program) (ops:List Oper) (draw:Bool):u7:=
 match draw with
 | false=>G8 P ops ops
 | true=>match kc P ops with
  | some l=>⟨fun R ro a σ=>(ke P ops l).f R ro σ.next [ahead (len ops) σ] a (ahead (len ops) σ)⟩
  | none=>⟨fun _ _ _ _=>.fail "plan"⟩
noncomputable def LA (k:Act→St→Run):Out×St→Run
 | (.exit .normal a,σ)=>k a σ
 | r=>.ok r
def RF (id:Nat):Out×St→Run
 | (.exit (.exit i) a,σ)=>.ok (.exit (if i=id then .normal else .exit i) a,σ)
 | r=>.ok r
noncomputable def RG (R:Task→St→Run) (ro:Option Nat) (fn:FuncId) (x:Code):Out×St→Run
 | (.exit (.goto l) a,σ)=>match findLabel x l with
  | some rest=>R (.inScope ro fn x rest a) σ
  | none=>.ok (.exit (.goto l) a,σ)
 | r=>.ok r
noncomputable def Bc (y z:Act→St→Run) (a:Act) (σ:St):Option V→Run
 | some (.bool true)=>y a σ
 | some (.bool false)=>z a σ
 | _=>.fail "cond"
noncomputable def iK (P:Program) (fn:FuncId):Code→u7
 | .skip=>⟨fun _ _ a σ=>.ok (.exit .normal a,σ)⟩
 | .label _=>⟨fun _ _ a σ=>.ok (.exit .normal a,σ)⟩
 | .seq x y=>⟨fun R ro a σ=>((iK P fn x).f R ro a σ).bind (LA ((iK P fn y).f R ro))⟩
 | .cond x y z=>⟨fun R ro a σ=>Bc ((iK P fn y).f R ro) ((iK P fn z).f R ro) a σ (a.eval x)⟩
 | .block id x=>⟨fun R ro a σ=>((iK P fn x).f R ro a σ).bind (RF id)⟩
 | .loop x=>⟨fun R ro a σ=>R (.code ro fn (.loop x) a) σ⟩
 | .exit id=>⟨fun _ _ a σ=>.ok (.exit (.exit id) a,σ)⟩
 | .goto l=>⟨fun _ _ a σ=>.ok (.exit (.goto l) a,σ)⟩
 | .ret=>⟨fun _ _ a σ=>.ok (.exit .ret a,σ)⟩
 | .region _ ops draw=>u9 P ops.toList draw
 | .rangeFunc _ _ _ _=>⟨fun _ _ _ _=>.fail "range"⟩
 | .scope x=>⟨fun R ro a σ=>R (.inScope ro fn x x a) σ⟩
 | .refuse _=>⟨fun _ _ _ _=>.fail "refuse"⟩
noncomputable def BC (R:Task→St→Run) (fn:Func):Out×St→Run
 | (.exit .normal a,σ)=>R (.leave fn a) σ
 | (.exit .ret a,σ)=>R (.leave fn a) σ
 | _=>.fail "call: left by a jump"
noncomputable def rE (R:Task→St→Run) (f:FuncId) (fn:Func) (args:List V) (σ:St) (K:Out×St→Run):Option Code→Run
 | some c=>match fn.name== "runtime.NumGoroutine" with
  | true=>.fail "NumGoroutine"
  | false=>(R (.code none f c (lC fn.ntmps args)) σ).bind K
 | none=>.fail ("no body: "++fn.name)
noncomputable def nq (R:Task→St→Run) (f:FuncId) (args:List V) (σ:St):Option Func→Run
 | some fn=>rE R f fn args σ (BC R fn) fn.body
 | none=>.fail "no function"
noncomputable def yT (σ:St):Option (List V)→Run
 | some l=>.ok (.val (rC l),σ)
 | none=>.fail "results"
noncomputable def pk (P:Program) (R:Task→St→Run) (fn:Func) (a:Act) (σ:St):List (Option (Fn×List V)×Nat×List V)→Run
 | []=>yT σ (eW P a σ fn.results.toList)
 | _=>.fail "leave: target"
noncomputable def td (R:Task→St→Run) (vs:List V) (σ:St):V→Run
 | .func (.func g) first captured=>R (.call g (app first (app vs captured))) σ
 | _=>.fail "apply"
noncomputable def wT (P:Program) (R:Task→St→Run) (ro:Option Nat) (fn:FuncId) (a:Act) (σ:St):Code→Run
 | .loop x=>((iK P fn x).f R ro a σ).bind (LA fun a σ=>R (.code ro fn (.loop x) a) σ)
 | c=>(iK P fn c).f R ro a σ
noncomputable def step (P:Program) (R:Task→St→Run) (t:Task) (σ:St):Run:=
 match t with
 | .code ro fn c a=>wT P R ro fn a σ c
 | .inScope ro fn x cur a=>((iK P fn cur).f R ro a σ).bind (RG R ro fn x)
 | .call f args=>nq R f args σ P.funcs[f]?
 | .deferred _ _=>.fail "deferred"
 | .leave fn a=>pk P R fn a σ a.defers
 | .apply f vs=>td R vs σ f
 | .round _ _=>.fail "round"
noncomputable def run (P:Program) (n:Nat):Task→St→Run:=
 Nat.rec (motive:=fun _=>Task→St→Run) (fun _ _=>.fail "fuel") (fun _ ih=>step P ih) n
end Go.Ev
end
section
namespace Go.Ev
structure Loc where
 c:Nat
 o:Nat
 N:Nat
structure Ren where
 at':Nat→Option Loc
 aL:Nat→Nat→Option Value
instance:CoeFun Ren (fun _=>Nat→Option Loc):=⟨Ren.at'⟩
class Env where
 val:Nat→Value
 one:∀i,(val i).oneCell'=true
 int:∀i,ee≤i→∃n,val i=.int .i64 n
 laid:List (Nat×Nat×Value)
inductive rF (ρ:Ren):Fn→Fn→Prop
 | yield {l:Nat} {k:Loc} (h:ρ l=some k):rF ρ (.yield l) (.yield k.c)
 | same {f:Fn} (h:∀l,f≠.yield l):rF ρ f f
mutual
inductive aq [Env] (ρ:Ren):V→Value→Prop
 | int (k:IntKind) (n:Int):aq ρ (.int k n) (.int k n)
 | bool (b:Bool):aq ρ (.bool b) (.bool b)
 | str (s:List UInt8):aq ρ (.str s) (.string ⟨⟨s⟩⟩)
 | dr:aq ρ .dr (.pointer none)
 | ptr {b off:Nat} {l:Loc} (h:ρ b=some l):aq ρ (.ptr b off) (.pointer (some ⟨l.c,l.o+off,none⟩))
 | ai:aq ρ .ai (.slice none 0 0)
 | slice {b off n cap esz:Nat} {ex:Bool} {l:Loc} {off' cap':Nat} (h:ρ b=some l) (hex:ex=true→cap'=cap∧off'=l.o+off)
   (dy:ex=false→cap≤cap'∧(off'=l.o+off∨(n=0∧cap=0))) (hN:off'+cap'*esz≤l.N) (hn:n≤cap):
   aq ρ (.slice b off n cap ex esz) (.slice (some ⟨l.c,off',none⟩) n cap')
 | dC:aq ρ .dC (.map none)
 | map {b:Nat} {l:Loc} (h:ρ b=some l):aq ρ (.map b) (.map (some l.c))
 | func {f f':Fn} {x y:List V} {x' y':List Value} (hf:rF ρ f f') (hx:au ρ x x') (hy:au ρ y y'):aq ρ (.func f x y) (.func f' ⟨x'⟩ ⟨y'⟩)
 | cH:aq ρ .cH .nilFunc
 | iface {t:TypeId} {v:V} {x:Value} (h:aq ρ v x):aq ρ (.iface t v) (.iface t x)
 | aV:aq ρ .aV .nilIface
 | any (i:Nat):aq ρ (.any i) (Env.val i)
 | dM (k:FloatKind) (b:Nat):aq ρ (.dM k b) (.float k b)
 | bk {es:List V} {esz c off cap:Nat} {ex:Bool} {xs:List Value} (hu:∀v∈es,v.cells.length=esz) (hx:au ρ (ar es) xs) (hi:∀k x,xs[k]? =some x→ρ.aL c (off+k)=some x)
   (hc:es.length≤cap) (he:ex=true→cap=es.length):aq ρ (.bk es esz ex) (.slice (some ⟨c,off,none⟩) es.length cap)
 | dO {esz:Nat} {ex:Bool}:aq ρ (.bk [] esz ex) (.slice none 0 0)
 | dh {esz cap:Nat} {ex:Bool} {a:Addr} (he:ex=true→cap=0):aq ρ (.bk [] esz ex) (.slice (some a) 0 cap)
 | aM {cs:List V} {off c o:Nat} {xs:List Value} (hx:au ρ cs xs) (hi:∀k x,xs[k]? =some x→ρ.aL c (o+k)=some x):aq ρ (.aM cs off) (.pointer (some ⟨c,o+off,none⟩))
 | arr {n:Nat} {f:Nat→V} {esz:Nat} {ex nn:Bool} {x:Value} (hn:nn=true→∃a k c,x=.slice (some a) k c) (h:aq ρ (.bk (b9 n f) esz ex) x):aq ρ (.arr n f esz ex nn) x
 | own {b n esz:Nat} {l:Loc} {cap:Nat} (h:ρ b=some l) (hc:n≤cap) (hN:l.o+cap*esz≤l.N):aq ρ (.own b n esz) (.slice (some ⟨l.c,l.o,none⟩) n cap)
 | fy {b i esz off:Nat} {l:Loc} (h:ρ b=some l):aq ρ (.fy b i esz off) (.pointer (some ⟨l.c,l.o+(i*esz+off),none⟩))
 | agg {x:List V} {x':List Value} (h:au ρ x x'):aq ρ (.agg x) (.agg ⟨x'⟩)
 | tuple {x:List V} {x':List Value} (h:au ρ x x'):aq ρ (.tuple x) (.tuple ⟨x'⟩)
inductive au [Env] (ρ:Ren):List V→List Value→Prop
 | nil:au ρ [] []
 | cons {v:V} {x:Value} {l:List V} {l':List Value} (h:aq ρ v x) (hl:au ρ l l'):au ρ (v::l) (x::l')
end
structure Ren.le (ρ ρ':Ren):Prop where
 ap:∀b l,ρ b=some l→ρ' b=some l
 aL:∀c o x,ρ.aL c o=some x→ρ'.aL c o=some x
instance {ρ ρ':Ren}:CoeFun (ρ.le ρ') (fun _=>∀b l,ρ b=some l→ρ' b=some l):=⟨Ren.le.ap⟩
theorem Ren.le.refl (ρ:Ren):ρ.le ρ:=⟨fun _ _ h=>h,fun _ _ _ h=>h⟩
theorem Ren.le.trans {a b c:Ren} (h:a.le b) (h':b.le c):a.le c:=⟨fun _ _ x=>h' _ _ (h _ _ x),fun _ _ _ x=>h'.aL _ _ _ (h.aL _ _ _ x)⟩
theorem rF.mono {ρ ρ':Ren} (ea:ρ.le ρ') {f f':Fn} (h:rF ρ f f'):rF ρ' f f':=by
 cases h with
 | yield h=>exact .yield (ea _ _ h)
 | same h=>exact .same h
mutual
theorem aq.mono [Env] {ρ ρ':Ren} (ea:ρ.le ρ'):∀ {v:V} {x:Value},aq ρ v x→aq ρ' v x
 | _,_,.int k n=>.int k n
 | _,_,.bool b=>.bool b
 | _,_,.str s=>.str s
 | _,_,.dr=>.dr
 | _,_,.ptr h=>.ptr (ea _ _ h)
 | _,_,.ai=>.ai
 | _,_,.slice h a b c d=>.slice (ea _ _ h) a b c d
 | _,_,.dC=>.dC
 | _,_,.map h=>.map (ea _ _ h)
 | _,_,.func hf hx hy=>.func (hf.mono ea) (au.mono ea hx) (au.mono ea hy)
 | _,_,.cH=>.cH
 | _,_,.iface h=>.iface (aq.mono ea h)
 | _,_,.aV=>.aV
 | _,_,.any i=>.any i
 | _,_,.dM k b=>.dM k b
 | _,_,.bk hu hx hi hc he=>.bk hu (au.mono ea hx) (fun k x h=>ea.aL _ _ _ (hi k x h)) hc he
 | _,_,.dO=>.dO
 | _,_,.dh he=>.dh he
 | _,_,.arr hn h=>.arr hn (aq.mono ea h)
 | _,_,.own h a b=>.own (ea _ _ h) a b
 | _,_,.fy h=>.fy (ea _ _ h)
 | _,_,.aM hx hi=>.aM (au.mono ea hx) (fun k x h=>ea.aL _ _ _ (hi k x h))
 | _,_,.agg h=>.agg (au.mono ea h)
 | _,_,.tuple h=>.tuple (au.mono ea h)
theorem au.mono [Env] {ρ ρ':Ren} (ea:ρ.le ρ'):∀ {l:List V} {l':List Value},au ρ l l'→au ρ' l l'
 | _,_,.nil=>.nil
 | _,_,.cons h hl=>.cons (aq.mono ea h) (au.mono ea hl)
end
section
variable {ρ:Ren}
theorem au.length [Env] {l:List V} {l':List Value}:au ρ l l'→l.length=l'.length
 | .nil=>rfl
 | .cons _ hl=>congrArg (·+1) hl.length
theorem au.get [Env] {l:List V} {l':List Value} (h:au ρ l l') (i:Nat) {v:V} (hv:l[i]? =some v):∃x,l'[i]? =some x∧aq ρ v x:=by
 induction i generalizing l l' with
 | zero=>
  cases h with
  | nil=>simp at hv
  | cons h hl=>simp at hv;subst hv;exact⟨_,rfl,h⟩
 | succ i ih=>
  cases h with
  | nil=>simp at hv
  | cons h hl=>exact ih hl (by simpa using hv)
theorem au.append [Env] {a b:List V} {a' b':List Value} (h:au ρ a a') (k:au ρ b b'):au ρ (a++b) (a'++b'):=by
 induction a generalizing a' with
 | nil=>cases h;exact k
 | cons v a ih=>cases h with | cons h hl=>exact .cons h (ih hl)
theorem au.take [Env] {a:List V} {a':List Value} (h:au ρ a a') (n:Nat):au ρ (a.take n) (a'.take n):=by
 induction n generalizing a a' with
 | zero=>simpa using au.nil
 | succ n ih=>
  cases h with
  | nil=>exact .nil
  | cons h hl=>exact .cons h (ih hl)
theorem au.drop [Env] {a:List V} {a':List Value} (h:au ρ a a') (n:Nat):au ρ (a.drop n) (a'.drop n):=by
 induction n generalizing a a' with
 | zero=>simpa using h
 | succ n ih=>
  cases h with
  | nil=>exact .nil
  | cons h hl=>exact ih hl
theorem au.RH [Env] {l:List V} {l':List Value} (hn:l.length=l'.length) (h:∀(i:Nat) (v:V) (x:Value),l[i]? =some v→l'[i]? =some x→aq ρ v x):au ρ l l':=by
 induction l generalizing l' with
 | nil=>cases l' with
  | nil=>exact .nil
  | cons a l'=>simp at hn
 | cons v l ih=>cases l' with
  | nil=>simp at hn
  | cons x l'=>exact .cons (h 0 v x rfl rfl) (ih (by simpa using hn) fun i v x hv hx=>h (i+1) v x (by simpa using hv) (by simpa using hx))
theorem aq.fL [Env] {ρ:Ren} {v:V} {x:Value} (h:aq ρ v x) {es:List V} {esz:Nat} {ex:Bool} (hv:v=.bk es esz ex):∃a n cap,x=.slice a n cap:=by
 cases h<;>first
  | exact⟨_,_,_,rfl⟩
  | cases hv
theorem aq.PG [Env] {ρ:Ren} {v:V} {x:Value} (h:aq ρ v x) {es:List V} {esz:Nat} {ex:Bool} (hv:v=.bk es esz ex):∃a cap,x=.slice a es.length cap:=by
 cases h<;>first
  | (cases hv;exact⟨_,_,rfl⟩)
  | cases hv
theorem aq.cells [Env] {v:V} {x:Value} (h:aq ρ v x):au ρ v.cells x.cells.toList:=by
 cases h with
 | agg h=>exact h
 | int k n=>exact .cons (.int k n) .nil
 | dM k b=>exact .cons (.dM k b) .nil
 | bool b=>exact .cons (.bool b) .nil
 | str s=>exact .cons (.str s) .nil
 | dr=>exact .cons .dr .nil
 | ptr h=>exact .cons (.ptr h) .nil
 | ai=>exact .cons .ai .nil
 | slice h a b c d=>exact .cons (.slice h a b c d) .nil
 | dC=>exact .cons .dC .nil
 | map h=>exact .cons (.map h) .nil
 | func a b c=>exact .cons (.func a b c) .nil
 | cH=>exact .cons .cH .nil
 | iface h=>exact .cons (.iface h) .nil
 | aV=>exact .cons .aV .nil
 | any i=>
  have h:=Env.one i
  have e:(Env.val i).cells.toList=[Env.val i]:=by
   generalize Env.val i=x at h⊢
   cases x<;>first | rfl | cases h
  rw[e]
  exact .cons (.any i) .nil
 | tuple h=>exact .cons (.tuple h) .nil
 | bk hu hx hi hc he=>exact .cons (.bk hu hx hi hc he) .nil
 | dO=>exact .cons .dO .nil
 | dh he=>exact .cons (.dh he) .nil
 | aM hx hi=>exact .cons (.aM hx hi) .nil
 | own h a b=>exact .cons (.own h a b) .nil
 | fy h=>exact .cons (.fy h) .nil
 | arr hn h=>
  obtain⟨a,n,cap,rfl⟩:=h.fL rfl
  exact .cons (.arr hn h) .nil
theorem aq.ml [Env] {v:V} {x:Value} (h:aq ρ v x) (hs:v.scalar=true):x.oneCell'=true:=by
 cases h<;>first
  | rfl
  | exact Env.one _
  | (rename_i h;obtain⟨a,n,cap,rfl⟩:=h.fL rfl;rfl)
  | simp [V.scalar] at hs
theorem au.ml [Env] {l:List V} {l':List Value} (h:au ρ l l') (hs:l.all V.scalar=true):∀x∈l',x.oneCell'=true:=by
 induction l generalizing l' with
 | nil=>cases h;intro x hx;simp at hx
 | cons v l ih=>
  cases h with
  | cons h hl=>
   simp only[List.all_cons,Bool.and_eq_true] at hs
   intro x hx
   rcases List.mem_cons.1 hx with rfl | hx
   ·exact h.ml hs.1
   ·exact ih hl hs.2 x hx
end
mutual
theorem mQ [Env] (ρ:Ren):∀(x:Value) {v:V},V.ofValue x=some v→aq ρ v x
 | .int k n,v,h=>by simp only[V.ofValue,Option.some.injEq] at h;subst h;exact .int k n
 | .bool b,v,h=>by simp only[V.ofValue,Option.some.injEq] at h;subst h;exact .bool b
 | .string s,v,h=>by
  simp only[V.ofValue,Option.some.injEq] at h;subst h
  exact .str s.data.toList
 | .pointer none,v,h=>by simp only[V.ofValue,Option.some.injEq] at h;subst h;exact .dr
 | .pointer (some _),v,h=>by simp [V.ofValue] at h
 | .slice none 0 0,v,h=>by simp only[V.ofValue,Option.some.injEq] at h;subst h;exact .ai
 | .slice none (_+1) _,v,h=>by simp [V.ofValue] at h
 | .slice none 0 (_+1),v,h=>by simp [V.ofValue] at h
 | .slice (some _) _ _,v,h=>by simp [V.ofValue] at h
 | .map none,v,h=>by simp only[V.ofValue,Option.some.injEq] at h;subst h;exact .dC
 | .map (some _),v,h=>by simp [V.ofValue] at h
 | .nilFunc,v,h=>by simp only[V.ofValue,Option.some.injEq] at h;subst h;exact .cH
 | .nilIface,v,h=>by simp only[V.ofValue,Option.some.injEq] at h;subst h;exact .aV
 | .iface t x,v,h=>by
  simp only[V.ofValue,Option.map_eq_some_iff] at h
  obtain⟨y,hy,rfl⟩:=h
  exact .iface (mQ ρ x hy)
 | .agg ⟨cs⟩,v,h=>by
  simp only[V.ofValue,Option.map_eq_some_iff] at h
  obtain⟨y,hy,rfl⟩:=h
  exact .agg (oG ρ cs hy)
 | .tuple ⟨cs⟩,v,h=>by
  simp only[V.ofValue,Option.map_eq_some_iff] at h
  obtain⟨y,hy,rfl⟩:=h
  exact .tuple (oG ρ cs hy)
 | .float k b,v,h=>by simp only[V.ofValue,Option.some.injEq] at h;subst h;exact .dM k b
 | .complex _ _ _,v,h=>by simp [V.ofValue] at h
 | .chan _,v,h=>by simp [V.ofValue] at h
 | .func _ _ _,v,h=>by simp [V.ofValue] at h
theorem oG [Env] (ρ:Ren):∀(l:List Value) {vs:List V},V.ofValues l=some vs→au ρ vs l
 | [],vs,h=>by simp only[V.ofValues,Option.some.injEq] at h;subst h;exact .nil
 | x::l,vs,h=>by
  simp only[V.ofValues] at h
  cases hv:V.ofValue x with
  | none=>simp [hv] at h
  | some v=>
   cases hl:V.ofValues l with
   | none=>simp [hv,hl] at h
   | some r=>
    simp only[hv,hl,Option.some.injEq] at h
    subst h
    exact .cons (mQ ρ x hv) (oG ρ l hl)
end
def iL [Env] (ρ:Ren) (t:bF V) (a:Array Value):Prop:=∀i v,t.get i=some v→∃x,a[i]? =some x∧aq ρ v x
inductive qE [Env] (ρ:Ren):Option (Fn×List V)×Nat×List V→Deferred→Prop
 | mark {d:Nat} {l:Loc} (h:ρ d=some l):qE ρ (none,d,[]) {target:=.collected l.c,args:=#[]}
 | call {f f':Fn} {x y:List V} {x' y':List Value} (n:Nat) (hf:rF ρ f f') (hx:au ρ x x') (hy:au ρ y y'):
   qE ρ (some (f,x),n,y) {target:=.fn f' ⟨x'⟩,args:=⟨y'⟩}
inductive mn [Env] (ρ:Ren):List (Option (Fn×List V)×Nat×List V)→List Deferred→Prop
 | nil:mn ρ [] []
 | cons {d:Option (Fn×List V)×Nat×List V} {e:Deferred} {l:List (Option (Fn×List V)×Nat×List V)} {l':List Deferred} (h:qE ρ d e) (hl:mn ρ l l'):mn ρ (d::l) (e::l')
structure bC [Env] (ρ:Ren) (a:Act) (a':Go.Act):Prop where
 tmps:iL ρ a.tmps a'.tmps
 size:a.size=a'.tmps.size
 defers:mn ρ a.defers a'.defers
theorem iL.mono [Env] {ρ ρ':Ren} (ea:ρ.le ρ') {t:bF V} {a:Array Value} (h:iL ρ t a):iL ρ' t a:=
 fun i v hv=>let ⟨x,hx,hr⟩:=h i v hv;⟨x,hx,hr.mono ea⟩
theorem qE.mono [Env] {ρ ρ':Ren} (ea:ρ.le ρ') {d:Option (Fn×List V)×Nat×List V} {e:Deferred} (h:qE ρ d e):qE ρ' d e:=by
 cases h with
 | mark h=>exact .mark (ea _ _ h)
 | call n hf hx hy=>exact .call n (hf.mono ea) (hx.mono ea) (hy.mono ea)
theorem mn.mono [Env] {ρ ρ':Ren} (ea:ρ.le ρ') {d:List (Option (Fn×List V)×Nat×List V)} {e:List Deferred} (h:mn ρ d e):mn ρ' d e:=by
 induction d generalizing e with
 | nil=>cases h;exact .nil
 | cons a d ih=>cases h with | cons h hl=>exact .cons (h.mono ea) (ih hl)
theorem bC.mono [Env] {ρ ρ':Ren} (ea:ρ.le ρ') {a:Act} {a':Go.Act} (h:bC ρ a a'):bC ρ' a a':=
 ⟨h.tmps.mono ea,h.size,h.defers.mono ea⟩
theorem iL.put [Env] {ρ:Ren} {t:bF V} {a:Array Value} (h:iL ρ t a) {d:Nat} (hd:d<a.size) {v:V} {x:Value} (hv:aq ρ v x):
  iL ρ (t.put d v) (a.setIfInBounds d x):=by
 intro i u hu
 rw[bF.bP] at hu
 by_cases hi:i=d
 ·subst hi
  rw[if_pos rfl] at hu
  cases hu
  exact⟨x,by simp [hd],hv⟩
 ·rw[if_neg hi] at hu
  obtain⟨y,hy,hr⟩:=h i u hu
  exact⟨y,by rw[Array.getElem?_setIfInBounds_ne (by omega)];exact hy,hr⟩
theorem bC.put [Env] {ρ:Ren} {a aZ:Act} {a':Go.Act} (h:bC ρ a a') {dst:Option Tmp} {v:V} {x:Value} (hv:aq ρ v x) (hp:a.put dst v=some aZ):
  bC ρ aZ (a'.put dst x):=by
 cases dst with
 | none=>
  simp only[Act.put,Option.some.injEq] at hp
  subst hp;exact h
 | some d=>
  obtain⟨t,s,ds⟩:=a
  simp only[Act.put] at hp
  cases hb:Nat.blt d s with
  | false=>simp [hb] at hp
  | true=>
   simp only[hb,Option.some.injEq] at hp
   subst hp
   have hs:s=a'.tmps.size:=h.size
   have bB:d<a'.tmps.size:=by rw[←hs];rw[Nat.blt_eq] at hb;exact hb
   exact⟨h.tmps.put bB hv,by simp [Go.Act.put,hs],h.defers⟩
theorem bC.eval [Env] {ρ:Ren} {a:Act} {a':Go.Act} (h:bC ρ a a') (x:Operand) {v:V} (hv:a.eval x=some v):aq ρ v (a'.eval x):=by
 cases x with
 | tmp t=>
  obtain⟨y,hy,hr⟩:=h.tmps t v hv
  simpa [Go.Act.eval,hy] using hr
 | const c=>exact mQ ρ c hv
 | global g=>simp [Act.eval] at hv
 | func f=>
  simp only[Act.eval,Option.some.injEq] at hv
  subst hv
  exact .func (.same (by simp)) .nil .nil
theorem nZ {α:Type} {x:Option α} {l:Option (List α)} {r:List α} (h:kr x l=some r):∃v t,x=some v∧l=some t∧r=v::t:=by
 cases x with
 | none=>simp [kr] at h
 | some v=>cases l with
  | none=>simp [kr] at h
  | some t=>simp only[kr,Option.some.injEq] at h;exact⟨v,t,rfl,rfl,h.symm⟩
theorem bC.bO [Env] {ρ:Ren} {a:Act} {a':Go.Act} (h:bC ρ a a') (l:List Operand) {vs:List V} (hv:a.bO l=some vs):au ρ vs (l.map a'.eval):=by
 induction l generalizing vs with
 | nil=>cases hv;exact .nil
 | cons x l ih=>
  obtain⟨v,t,h1,h2,rfl⟩:=nZ (x:=a.eval x) (l:=a.bO l) hv
  exact .cons (h.eval x h1) (ih h2)
structure Jz [Env] (ρ:Ren) (e:V×V×Nat) (e':MapEntry):Prop where
 key:aq ρ e.1 e'.key
 val:aq ρ e.2.1 e'.val
 born:e.2.2=e'.born
inductive dK [Env] (ρ:Ren):List (V×V×Nat)→List MapEntry→Prop
 | nil:dK ρ [] []
 | cons {e:V×V×Nat} {e':MapEntry} {l:List (V×V×Nat)} {l':List MapEntry} (h:Jz ρ e e') (hl:dK ρ l l'):dK ρ (e::l) (e'::l')
theorem dK.mono [Env] {ρ ρ':Ren} (ea:ρ.le ρ') {l:List (V×V×Nat)} {l':List MapEntry} (h:dK ρ l l'):dK ρ' l l':=by
 induction l generalizing l' with
 | nil=>cases h;exact .nil
 | cons a d ih=>cases h with | cons h hl=>exact .cons ⟨h.key.mono ea,h.val.mono ea,h.born⟩ (ih hl)
inductive qF (ρ:Ren):Option Nat→Option Nat→Prop
 | none:qF ρ none none
 | some {m:Nat} {l:Loc} (h:ρ m=some l):qF ρ (some m) (some l.c)
inductive cC [Env] (ρ:Ren) (w:World) (l:Loc):bV→Prop
 | cells {n:Nat} {z:List V} {t:Trie V} {p ro:Bool} (hs:∃ty,w.shape? l.c=some (ty,l.N)) (hn:l.o+n≤l.N)
   (hv:∀i v,cellOf n z t i=some v→∃x,w.cell? ⟨l.c,l.o+i,none⟩=some x∧aq ρ v x)
   (hf:ro=false→∀i,i<l.N→w.frozen? ⟨l.c,i,none⟩=false) (hp:p=true→∀i,w.frozen? ⟨l.c,i,none⟩=false):cC ρ w l (.cells n z t p ro)
 | row {n:Nat} {f:Nat→V} {esz:Nat} {p:Bool} (hs:∃ty,w.shape? l.c=some (ty,l.N)) (hn:l.o+n*esz≤l.N) (hu:∀i,i<n→(f i).cells.length=esz)
   (hv:∀i,i<n→∀k v,(f i).cells[k]? =some v→∃x,w.cell? ⟨l.c,l.o+(i*esz+k),none⟩=some x∧aq ρ v x)
   (hf:∀i,i<l.N→w.frozen? ⟨l.c,i,none⟩=false) (hp:p=true→∀i,w.frozen? ⟨l.c,i,none⟩=false):cC ρ w l (.row n f esz p)
 | map {es:List (V×V×Nat)} {clock:Nat} {BD:Array MapEntry} (h:w.heap[l.c]? =some (.map BD clock)) (he:dK ρ es BD.toList):cC ρ w l (.map es clock)
 | iter {m m':Option Nat} {since last:Nat} {seen:List Nat} (h:w.heap[l.c]? =some (.mapIter m' since ⟨seen⟩ last)) (ho:l.o=0) (hm:qF ρ m m'):cC ρ w l (.iter m since seen last)
 | loop {st:LoopState} {BE:Option Code} {fn JA:FuncId} {t:bF V} {t':Array Value} {size d:Nat} {ps:List Tmp} {aef bo:Code} {ld:Loc}
   (h:w.heap[l.c]? =some (.loop {state:=st,pending:=BE,fn:=JA,tmps:=t',params:=⟨ps⟩,assign:=aef,body:=bo,defers:=ld.c}))
   (ht:iL ρ t t') (hs:size=t'.size) (hd:ρ d=some ld):cC ρ w l (.loop st BE fn t size ps aef bo d)
 | deferred (h:w.heap[l.c]? =some (.deferred (some []))):cC ρ w l .deferred
def bV.rG (_:bV):Bool:=true
def Wr (ρ:Ren) (σ:St) (c:Nat):Prop:=∃b k l,σ.heap.get b=some k∧k.rG=true∧ρ b=some l∧l.c=c
structure R [Env] (ρ:Ren) (σ:St) (w:World):Prop where
 cP:∀b k,σ.heap.get b=some k→∃l,ρ b=some l∧cC ρ w l k
 inj:∀b b' k k' l l',σ.heap.get b=some k→σ.heap.get b'=some k'→ρ b=some l→ρ b'=some l'→l.c=l'.c→b=b'
 fresh:∀b,σ.next≤b→ρ b=none
 valid:∀b l,ρ b=some l→l.c<w.heap.size
 aL:∀c o x,ρ.aL c o=some x→w.cell? ⟨c,o,none⟩=some x∧¬Wr ρ σ c
 laid:∀q∈Env.laid,ρ.aL q.1 q.2.1=some q.2.2
theorem R.qG [Env] {ρ ρ':Ren} {σ:St} {w:World} (h:R ρ σ w) (hle:ρ.le ρ'):∀q∈Env.laid,ρ'.aL q.1 q.2.1=some q.2.2:=fun q hq=>hle.aL _ _ _ (h.laid q hq)
structure bf [Env] (ids:Nat→Prop) (ρ:Ren) (σ:St) (w:World) (ρ':Ren) (σ':St) (w':World):Prop where
 r:R ρ' σ' w'
 le:ρ.le ρ'
 next:σ.next≤σ'.next
 iy:∀b l,ρ' b=some l→ρ b=some l∨σ.next≤b∨ids b
 size:w.heap.size≤w'.heap.size
 os:w'.os=w.os
 tape:w'.tape=w.tape
 output:w'.output=w.output
 aJ:∀c,c<w.heap.size→¬Wr ρ σ c→w'.heap[c]? =w.heap[c]?
 wr:∀c,c<w.heap.size→Wr ρ' σ' c→Wr ρ σ c
 iM:∀b k,σ'.heap.get b=some k→(∃k',σ.heap.get b=some k')∨σ.next≤b∨ids b
 gv:∀c o x,ρ'.aL c o=some x→ρ.aL c o=some x∨w.heap.size≤c∨Wr ρ σ c
theorem bf.refl [Env] {ids:Nat→Prop} {ρ:Ren} {σ:St} {w:World} (h:R ρ σ w):bf ids ρ σ w ρ σ w:=
 ⟨h,Ren.le.refl ρ,Nat.le_refl _,fun _ _ h=>.inl h,Nat.le_refl _,rfl,rfl,rfl,fun _ _ _=>rfl,fun _ _ h=>h,fun _ k h=>.inl ⟨k,h⟩,fun _ _ _ h=>.inl h⟩
theorem bf.trans [Env] {ids:Nat→Prop} {ρ bD bh:Ren} {σ aB bG:St} {w bg fr:World} (h:bf ids ρ σ w bD aB bg) (k:bf ids bD aB bg bh bG fr):bf ids ρ σ w bh bG fr:=
 ⟨k.r,h.le.trans k.le,Nat.le_trans h.next k.next,
  fun b l hb=>by
   rcases k.iy b l hb with h1 | h1 | h1
   ·exact h.iy b l h1
   ·exact .inr (.inl (Nat.le_trans h.next h1))
   ·exact .inr (.inr h1),
  Nat.le_trans h.size k.size,k.os.trans h.os,k.tape.trans h.tape,k.output.trans h.output,
  fun c hc hn=>(k.aJ c (Nat.lt_of_lt_of_le hc h.size) fun hw=>hn (h.wr c hc hw)).trans (h.aJ c hc hn),
  fun c hc hw=>h.wr c hc (k.wr c (Nat.lt_of_lt_of_le hc h.size) hw),
  fun b q hb=>by
   rcases k.iM b q hb with ⟨q',h1⟩ | h1 | h1
   ·exact h.iM b q' h1
   ·exact .inr (.inl (Nat.le_trans h.next h1))
   ·exact .inr (.inr h1),
  fun c o x hx=>by
   rcases k.gv c o x hx with h1 | h1 | h1
   ·exact h.gv c o x h1
   ·exact .inr (.inl (Nat.le_trans h.size h1))
   ·by_cases hc:c<w.heap.size
    ·exact .inr (.inr (h.wr c hc h1))
    ·exact .inr (.inl (Nat.le_of_not_lt hc))⟩
theorem bf.weaken [Env] {ids RI:Nat→Prop} {ρ ρ':Ren} {σ σ':St} {w w':World} (h:bf ids ρ σ w ρ' σ' w') (hi:∀b,ids b→RI b):bf RI ρ σ w ρ' σ' w':=
 {h with iy:=fun b l hb=>(h.iy b l hb).imp id (Or.imp id (hi b)),iM:=fun b k hb=>(h.iM b k hb).imp id (Or.imp id (hi b))}
end Go.Ev
end
