/- Proved: parts of the way: Run, Rel. -/
import Derived.Test.YtbajncpfmemdgaaGreatDoorEvQ00
import Derived.RangeFuncLeaves
import Derived.Laws.IdiomCopy
import Derived.Laws.Cells
section
namespace Go.Ev
def bC:Op→Bool
 | .store .. | .mapUpdate .. | .insert .. | .assign _=>true
 | .call {callee:=.builtin b,..}=>match b with
  | .len | .max | .min=>false
  | _=>true
 | .call _ | .defer _ | .next .. | .range .. | .entry ..=>true
 | _=>false
def n5:Op→Bool
 | .load ..=>true
 | _=>false
def vb (P:Program) (s d:TypeId):Bool:=
 match P.underlying s,P.underlying d with
 | some (.int _),some (.int _)=>true
 | some (.int _),some (.float _)=>true
 | some (.float _),some (.int _)=>true
 | some .string,some .string=>true
 | _,_=>false
def rH (P:Program) (t:TypeId):Bool:=
 match P.underlying t with
 | some (.int _)=>true
 | some .string=>true
 | some .bool=>true
 | _=>false
def sO (P:Program):Option TypeId→Bool
 | some t=>match P.underlying t with
  | some .string=>true
  | some (.slice _)=>true
  | some (.array _ _)=>true
  | _=>false
 | none=>false
def nM (P:Program) (s d:TypeId):Bool:=
 match P.underlying s,P.underlying d with
 | some (.slice _),some .string=>true
 | _,_=>false
def et (P:Program):Op→Bool
 | .lookup ..=>true
 | .convert s d _=> !vb P s d
 | .slice t ..=>match P.underlying t with | some (.array ..)=>true | _=>false
 | .binOp op t _ _ _=>match op with | .eql | .neq=> !rH P t | _=>false
 | .call {callee:=.builtin .len,args:=_,argTypes:=tys}=> !sO P tys[0]?
 | _=>false
def sP (P:Program):Op→Bool
 | .load ..=>true
 | .convert s d _=>nM P s d
 | _=>false
def yD (w:List Nat) (o:Oper):Nat:=o.after.toList.foldl (fun s e=>match Region.binds .any e with
 | true=>Nat.lor s (Nat.lor (2^e.on) (w.getD e.on 0))
 | false=>s) 0
def waits (ops:List Oper) (acc:List Nat):List Nat:=
 match ops with
 | []=>acc
 | o::r=>waits r (acc++[yD acc o])
def US (ops:List Oper):List Nat:=(List.range ops.length).filter fun i=>match ops[i]? with
 | some o=>bC o.op
 | none=>false
def BX (n:Nat) (w:List Nat) (done:List Nat):List Nat→List Nat
 | []=>done++(List.range n).filter fun i=> !done.contains i
 | e::es=>BX n w (done++((List.range n).filter fun i=>(w.getD e 0).testBit i&& !done.contains i)++[e]) es
structure Item where
 i:Nat
 back:Nat
def KG (w:Nat) (es:List Nat):Nat:=(es.filter fun e=>w.testBit e).length
def vc (w es:List Nat) (KH:Nat):List Nat→List Item
 | []=>[]
 | i::l=>match es.contains i with
  | true=>{i,back:=0}::vc w es (KH+1) l
  | false=>{i,back:=KH-KG (w.getD i 0) es}::vc w es KH l
def DE (a b:Nat):Bool:=Nat.beq (Nat.lor a b) b
def vd (w back:Nat) (effs:List Nat):Bool:=
 match effs.drop back with
 | []=>true
 | f::_=>w.testBit f
def dF (P:Program) (ops:List Oper) (w:List Nat):Nat→List Nat→List Item→Bool
 | done,_,[]=>(List.range ops.length).all done.testBit
 | done,effs,it::l=>
  match ops[it.i]? with
  | none=>false
  | some o=> !done.testBit it.i&&DE (w.getD it.i 0) done&&
   match bC o.op with
   | true=>DE done (w.getD it.i 0)&&dF P ops w (Nat.lor done (2^it.i)) (it.i::effs) l
   | false=>vd (w.getD it.i 0) it.back effs&&(Nat.beq it.back 0||sP P o.op|| !et P o.op)&&dF P ops w (Nat.lor done (2^it.i)) effs l
def BY (ops:List Oper) (w:List Nat):Bool:=(List.range ops.length).all fun i=>match ops[i]? with
 | some o=>Nat.beq (w.getD i 0) (yD w o)
 | none=>false
def Ng (o:Op):List Tmp:=o.operands.toList.filterMap fun | .tmp t=>some t | _=>none
def looks (ops:List Oper) (o:Oper):List Tmp:=Ng o.op++(match o.guard with
 | some (j,_)=>((ops[j]?).bind (·.dst)).toList
 | none=>[])
def BZ (wi i:Nat) (li:List Tmp) (j wj:Nat) (ej:Bool):Option Tmp→Bool
 | none=>true
 | some t=>(!(Nat.beq i j)&&(wi.testBit j||(ej&&wj.testBit i)))|| !li.contains t
def l5:List (Option Tmp)→Bool
 | []=>true
 | none::l=>l5 l
 | some t::l=> !l.contains (some t)&&l5 l
def ve (ops:List Oper) (w:List Nat):Bool:=
 l5 (ops.map (·.dst))&&(List.range ops.length).all fun i=>match ops[i]? with
  | some o=>let li:=looks ops o
   (List.range ops.length).all fun j=>match ops[j]? with
    | some oj=>BZ (w.getD i 0) i li j (w.getD j 0) (bC oj.op) oj.dst
    | none=>false
  | none=>false
def k9 (P:Program) (ops:List Oper):Option (List Item):=
 let w:=waits ops []
 let es:=US ops
 let l:=vc w es 0 (BX ops.length w [] es)
 match Nat.ble l.length ops.length&&BY ops w&&ve ops w&&dF P ops w 0 [] l with
 | true=>some l
 | false=>none
noncomputable def yE (P:Program) (t:TypeId) (x v:V):Nat→List St→Bool
 | 0,_=>true
 | _+1,[]=>false
 | k+1,σ::r=>(match eC P σ t x with | some u=>V.beq u v | none=>false)&&yE P t x v k r
inductive Task where
 | code (ro:Option Nat) (fn:FuncId) (c:Code) (a:Act)
 | inScope (ro:Option Nat) (fn:FuncId) (x cur:Code) (a:Act)
 | call (f:FuncId) (args:List V)
 | deferred (f:FuncId) (args:List V)
 | leave (fn:Func) (a:Act)
 | apply (f:V) (args:List V)
 | round (l:Nat) (args:List V)
inductive Out where
 | exit (e:Ex) (a:Act)
 | val (v:V)
abbrev Run:=bw (Out×St)
def sQ (want:Bool):Option V→Option Bool
 | some (.bool b)=>some (b==want)
 | some (.any _)=>none
 | some _=>some false
 | none=>none
noncomputable def gl (ops:List Oper) (j:Nat):Option Tmp:=(nth ops j).bind (·.dst)
noncomputable def my (size:Nat) (args:List V):Act:=⟨bK.KB args (bK.blank size) 0,max size (len args),[]⟩
noncomputable def fc (P:Program) (a:Act) (σ:St):List ResultVar→Option (List V)
 | []=>some []
 | .tmp t::r=>match a.tmps.get t,fc P a σ r with
  | some v,some l=>some (v::l)
  | _,_=>none
 | .cell x t::r=>match a.tmps.get x,fc P a σ r with
  | some p,some l=>(eC P σ t p).map (·::l)
  | _,_=>none
def sR:List V→V
 | [v]=>v
 | l=>.tuple l
noncomputable def l6 (tmps:bK V) (size:Nat):List Tmp→List V→Option (bK V)
 | [],[]=>some tmps
 | p::ps,v::vs=>if p<size then l6 (tmps.put p v) size ps vs else none
 | _,_=>none
def xS (P:Program) (t:TypeId):Option Bool:=
 match P.underlying t with
 | some (.pointer _)=>some true
 | some _=>some false
 | none=>none
noncomputable def methodOf (P:Program) (t:TypeId) (v:V) (m:Method):Option (FuncId×V):=
 if m.path.isEmpty then match m.func,xS P t with
  | some (f,true),some true=>some (f,v)
  | some (f,false),some false=>some (f,v)
  | _,_=>none
 else none
noncomputable def po (P:Program) (t:TypeId) (v:V) (name:String):Option (FuncId×V):=
 ((P.info? t).bind fun i=>i.methods.find? (·.name==name)).bind (methodOf P t v)
def Xe:Ex→Option Code
 | .normal=>none
 | .exit id=>some (.exit id)
 | .goto l=>some (.goto l)
 | .ret=>some .ret
abbrev sS:=bw (V×Act×St)
def valOf (a:Act):Out×St→sS
 | (.val v,σ)=>.ok (v,a,σ)
 | _=>.fail "call"
noncomputable def n6 (R:Task→St→Run) (a:Act) (σ:St):Option V→Option (List V)→sS
 | some fv,some vs=>(R (.apply fv vs) σ).bind (valOf a)
 | _,_=>.fail "call operand"
noncomputable def nN (R:Task→St→Run) (a:Act) (σ:St) (vs:List V):Option (FuncId×V)→sS
 | some (f,recv)=>(R (.call f (recv::vs)) σ).bind (valOf a)
 | none=>.fail "invoke: method"
noncomputable def oV (P:Program) (R:Task→St→Run) (a:Act) (σ:St) (name:String):Option V→Option (List V)→sS
 | some (.iface t v),some vs=>nN R a σ vs (po P t v name)
 | _,_=>.fail "invoke operand"
noncomputable def DF (ro:Option Nat) (a:Act) (σ:St):Option V→Option (List V)→sS
 | some (.func fn first captured),some vs=>match ro with
  | none=>match a with | ⟨t,s,ds⟩=>.ok (cI,⟨t,s,(some (fn,captured),0,app first vs)::ds⟩,σ)
  | some _=>.fail "defer in a round"
 | _,_=>.fail "defer"
def fT (a:Act):V×St→sS
 | (v,σ)=>.ok (v,a,σ)
structure sT where
 f:(Task→St→Run)→Option Nat→Act→St→Nat→sS
noncomputable def wG (P:Program) (c:Call):sT:=
 match c.callee with
 | .value f=>match oR P f with
  | some e=>⟨fun _ _ a σ _=>(CW σ e (a.bQ c.args.toList)).bind (fT a)⟩
  | none=>⟨fun R _ a σ _=>n6 R a σ (a.eval f) (a.bQ c.args.toList)⟩
 | .invoke x name=>⟨fun R _ a σ _=>oV P R a σ name (a.eval x) (a.bQ c.args.toList)⟩
 | .builtin b=>⟨fun _ _ a σ id=>(iw P σ id b c.argTypes.toList (a.bQ c.args.toList)).bind (fT a)⟩
noncomputable def jM (c:Call):sT:=
 match c.callee with
 | .value f=>⟨fun _ ro a σ _=>DF ro a σ (a.eval f) (a.bQ c.args.toList)⟩
 | _=>⟨fun _ _ _ _ _=>.fail "defer"⟩
noncomputable def DG (oc:OpC):sT:=⟨fun _ _ a σ id=>(oc.f a σ id).bind (fT a)⟩
noncomputable def jA (P:Program) (o:Op):sT:=
 match o with
 | .call c=>wG P c
 | .defer c=>jM c
 | _=>DG (m7 P o)
def qY (σ:St):Option Act→bw (Act×St)
 | some a=>.ok (a,σ)
 | none=>.fail "put"
noncomputable def mz (dst:Option Tmp):V×Act×St→bw (Act×St)
 | (v,a,σ)=>qY σ (a.put dst v)
structure Ta where
 f:(Task→St→Run)→Option Nat→Act→St→Nat→bw (Act×St)
noncomputable def rI (oc:sT) (dst:Option Tmp) (R:Task→St→Run) (ro:Option Nat) (a:Act) (σ:St) (id:Nat):Option Bool→bw (Act×St)
 | some true=>(oc.f R ro a σ id).bind (mz dst)
 | some false=>qY σ (a.put dst cI)
 | none=>.fail "guard"
noncomputable def yF (oc:sT) (dst:Option Tmp) (want:Bool):Option Tmp→Ta
 | some d=>⟨fun R ro a σ id=>rI oc dst R ro a σ id (sQ want (a.tmps.get d))⟩
 | none=>⟨fun _ _ a σ _=>qY σ (a.put dst cI)⟩
noncomputable def jB (P:Program) (ops:List Oper) (o:Oper):Ta:=
 match o.guard with
 | none=>⟨fun R ro a σ id=>((jA P o.op).f R ro a σ id).bind (mz o.dst)⟩
 | some (j,want)=>yF (jA P o.op) o.dst want (gl ops j)
structure wH where
 f:(Task→St→Run)→Option Nat→Act→St→Run
noncomputable def Tb (k:Act→St→Run):Act×St→Run
 | (a,σ)=>k a σ
noncomputable def KI (P:Program) (ops:List Oper) (l:List Oper):wH:=
 List.rec (motive:=fun _=>wH) ⟨fun _ _ a σ=>.ok (.exit .normal a,σ)⟩
  (fun o _ ih=>⟨fun R ro a σ=>((jB P ops o).f R ro a σ σ.next).bind (Tb (ih.f R ro))⟩) l
noncomputable def ow (ops:List Oper) (o:Oper) (a:Act):Bool:=
 match o.guard with
 | none=>false
 | some (j,want)=>match gl ops j with
  | none=>true
  | some d=>match sQ want (a.tmps.get d) with
   | some false=>true
   | _=>false
noncomputable def eP (P:Program) (off:Bool) (back:Nat) (snaps:List St) (a:Act) (v:Option V):Op→Bool
 | .load t x=>match off with
  | true=>Nat.ble (Nat.succ back) (len snaps)
  | false=>match a.eval x,v with
   | some (.aU _ _),some _=>Nat.ble (Nat.succ back) (len snaps)
   | some p,some u=>yE P t p u back (c9 1 snaps)
   | _,_=>false
 | .convert s d x=>match nM P s d with
  | false=>true
  | true=>match Nat.ble (Nat.succ back) (len snaps) with
   | false=>false
   | true=>match off with
    | true=>true
    | false=>match a.eval x with
     | some (.bX _ _ _)=>true
     | _=>false
 | _=>true
noncomputable def l7 (eff:Bool) (σ:St) (snaps:List St):List St:=
 match eff with
 | true=>σ::snaps
 | false=>snaps
noncomputable def mB (a:Act):Option Tmp→Option V
 | some d=>a.tmps.get d
 | none=>none
noncomputable def Nh (P:Program) (ops:List Oper) (o:Oper) (back:Nat) (Xf:Act) (snaps:List St) (k:List St→Act→St→Run):Act×St→Run
 | (a,σ)=>match Nat.beq back 0||eP P (ow ops o Xf) back snaps Xf (mB a o.dst) o.op with
  | true=>k (l7 (bC o.op) σ snaps) a σ
  | false=>.fail "a load and a write, in either order"
structure yG where
 f:(Task→St→Run)→Option Nat→Nat→List St→Act→St→Run
noncomputable def vf (P:Program) (ops:List Oper) (it:Item) (k:yG):Option Oper→yG
 | some o=>⟨fun R ro base snaps a σ=>((jB P ops o).f R ro a σ (Nat.add base it.i)).bind (Nh P ops o it.back a snaps (k.f R ro base))⟩
 | none=>⟨fun _ _ _ _ _ _=>.fail "drawn"⟩
noncomputable def la (P:Program) (ops:List Oper) (l:List Item):yG:=
 List.rec (motive:=fun _=>yG) ⟨fun _ _ _ _ a σ=>.ok (.exit .normal a,σ)⟩ (fun it _ ih=>vf P ops it ih (nth ops it.i)) l
noncomputable def ahead (n:Nat):St→St
 | ⟨h,m⟩=>⟨h,Nat.add m n⟩
noncomputable def wI (P:Program) (ops:List Oper) (draw:Bool):wH:=
 match draw with
 | false=>KI P ops ops
 | true=>match k9 P ops with
  | some l=>⟨fun R ro a σ=>(la P ops l).f R ro σ.next [ahead (len ops) σ] a (ahead (len ops) σ)⟩
  | none=>⟨fun _ _ _ _=>.fail "plan"⟩
noncomputable def Pq (k:Act→St→Run):Out×St→Run
 | (.exit .normal a,σ)=>k a σ
 | r=>.ok r
def Xg (id:Nat):Out×St→Run
 | (.exit (.exit i) a,σ)=>.ok (.exit (if i=id then .normal else .exit i) a,σ)
 | r=>.ok r
noncomputable def Xh (R:Task→St→Run) (ro:Option Nat) (fn:FuncId) (x:Code):Out×St→Run
 | (.exit (.goto l) a,σ)=>match findLabel x l with
  | some rest=>R (.inScope ro fn x rest a) σ
  | none=>.ok (.exit (.goto l) a,σ)
 | r=>.ok r
noncomputable def CX (y z:Act→St→Run) (a:Act) (σ:St):Option V→Run
 | some (.bool true)=>y a σ
 | some (.bool false)=>z a σ
 | _=>.fail "cond"
noncomputable def B0 (R:Task→St→Run) (ro:Option Nat) (fn:FuncId) (a:Act) (σ:St):Option Code→Run
 | none=>.ok (.exit .normal a,σ)
 | some c=>R (.code ro fn c a) σ
noncomputable def sU (R:Task→St→Run) (ro:Option Nat) (fn:FuncId) (a:Act) (l:Nat) (σ:St):Option bU→Run
 | some (.loop .busy ..)=>.fail "rangeFunc: busy"
 | some (.loop _ jump fn' tmps size ps ak9 bo d)=>B0 R ro fn a ((σ.set l (.loop .exhausted jump fn' tmps size ps ak9 bo d)).kill l) jump
 | _=>.fail "rangeFunc: no loop"
noncomputable def Ni (R:Task→St→Run) (ro:Option Nat) (fn:FuncId) (a:Act) (l:Nat):Out×St→Run
 | (.val _,σ)=>sU R ro fn a l σ (σ.heap.get l)
 | _=>.fail "rangeFunc"
noncomputable def vg (ro:Option Nat) (a:Act) (σ:St):Option (Nat×St×Act):=
 match ro with
 | none=>match a with | ⟨t,s,ds⟩=>some (σ.next,σ.new σ.next .deferred,⟨t,s,(none,σ.next,[])::ds⟩)
 | some l=>match σ.heap.get l with
  | some (.loop _ _ _ _ _ _ _ _ d)=>some (d,σ,a)
  | _=>none
noncomputable def rangeCall (R:Task→St→Run) (ro:Option Nat) (fn:FuncId) (a:Act) (params:List Tmp) (assign body:Code) (g:FuncId) (first captured:List V):Option (Nat×St×Act)→Run
 | some (d,σ,aT)=>(R (.call g (app first (app [.func (.yield σ.next) [] []] captured)))
   (σ.new σ.next (.loop .ready none fn a.tmps a.size params assign body d))).bind (Ni R ro fn aT σ.next)
 | none=>.fail "rangeFunc"
noncomputable def oW (R:Task→St→Run) (ro:Option Nat) (fn:FuncId) (a:Act) (σ:St) (params:List Tmp) (assign body:Code):Option V→Run
 | some (.func (.func g) first captured)=>rangeCall R ro fn a params assign body g first captured (vg ro a σ)
 | _=>.fail "rangeFunc operand"
noncomputable def iS (P:Program) (fn:FuncId):Code→wH
 | .skip=>⟨fun _ _ a σ=>.ok (.exit .normal a,σ)⟩
 | .label _=>⟨fun _ _ a σ=>.ok (.exit .normal a,σ)⟩
 | .seq x y=>⟨fun R ro a σ=>((iS P fn x).f R ro a σ).bind (Pq ((iS P fn y).f R ro))⟩
 | .cond x y z=>⟨fun R ro a σ=>CX ((iS P fn y).f R ro) ((iS P fn z).f R ro) a σ (a.eval x)⟩
 | .block id x=>⟨fun R ro a σ=>((iS P fn x).f R ro a σ).bind (Xg id)⟩
 | .loop x=>⟨fun R ro a σ=>R (.code ro fn (.loop x) a) σ⟩
 | .exit id=>⟨fun _ _ a σ=>.ok (.exit (.exit id) a,σ)⟩
 | .goto l=>⟨fun _ _ a σ=>.ok (.exit (.goto l) a,σ)⟩
 | .ret=>⟨fun _ _ a σ=>.ok (.exit .ret a,σ)⟩
 | .region _ ops draw=>wI P ops.toList draw
 | .rangeFunc f params assign body=>⟨fun R ro a σ=>oW R ro fn a σ params.toList assign body (a.eval f)⟩
 | .scope x=>⟨fun R ro a σ=>R (.inScope ro fn x x a) σ⟩
 | .refuse _=>⟨fun _ _ _ _=>.fail "refuse"⟩
noncomputable def DH (R:Task→St→Run) (fn:Func):Out×St→Run
 | (.exit .normal a,σ)=>R (.leave fn a) σ
 | (.exit .ret a,σ)=>R (.leave fn a) σ
 | _=>.fail "call: left by a jump"
noncomputable def qv (R:Task→St→Run) (fn:Func) (a:Act) (σ:St):Run:=
 match a.defers with
 | []=>R (.leave fn a) σ
 | _=>.fail "deferred: defers"
noncomputable def Nj (R:Task→St→Run) (fn:Func):Out×St→Run
 | (.exit .normal a,σ)=>qv R fn a σ
 | (.exit .ret a,σ)=>qv R fn a σ
 | _=>.fail "deferred: left by a jump"
noncomputable def pB (R:Task→St→Run) (f:FuncId) (fn:Func) (args:List V) (σ:St) (K:Out×St→Run):Option Code→Run
 | some c=>match fn.name== "runtime.NumGoroutine" with
  | true=>.fail "NumGoroutine"
  | false=>(R (.code none f c (my fn.ntmps args)) σ).bind K
 | none=>.fail ("no body: "++fn.name)
noncomputable def n7 (R:Task→St→Run) (f:FuncId) (args:List V) (σ:St):Option Func→Run
 | some fn=>pB R f fn args σ (DH R fn) fn.body
 | none=>.fail "no function"
noncomputable def oz (R:Task→St→Run) (f:FuncId) (args:List V) (σ:St):Option Func→Run
 | some fn=>pB R f fn args σ (Nj R fn) fn.body
 | none=>.fail "no function"
def oX (a:Act) (r:List (Option (Fn×List V)×Nat×List V)):Act:=match a with | ⟨t,s,_⟩=>⟨t,s,r⟩
noncomputable def Nk (R:Task→St→Run) (fn:Func) (a:Act):Out×St→Run
 | (.val _,σ)=>R (.leave fn a) σ
 | _=>.fail "leave"
noncomputable def qw (R:Task→St→Run) (fn:Func) (a:Act) (d:Nat) (σ:St):Option bU→Run
 | some .deferred=>R (.leave fn a) (σ.kill d)
 | _=>.fail "leave: mark"
noncomputable def Ae (σ:St):Option (List V)→Run
 | some l=>.ok (.val (sR l),σ)
 | none=>.fail "results"
noncomputable def qx (P:Program) (R:Task→St→Run) (fn:Func) (a:Act) (σ:St):List (Option (Fn×List V)×Nat×List V)→Run
 | []=>Ae σ (fc P a σ fn.results.toList)
 | (none,d,_)::r=>qw R fn (oX a r) d σ (σ.heap.get d)
 | (some (.func g,captured),_,vs)::r=>(R (.deferred g (app vs captured)) σ).bind (Nk R fn (oX a r))
 | _=>.fail "leave: target"
noncomputable def vh (R:Task→St→Run) (vs:List V) (σ:St):V→Run
 | .func (.func g) first captured=>R (.call g (app first (app vs captured))) σ
 | .func (.yield l) first _=>R (.round l (app first vs)) σ
 | _=>.fail "apply"
noncomputable def sV (l:Nat) (e:Ex) (σ:St):Option bU→Run
 | some (.loop _ _ fn t s ps ak9 bo d)=>match Xe e with
  | none=>.ok (.val (.bool true),σ.set l (.loop .ready none fn t s ps ak9 bo d))
  | some c=>.ok (.val (.bool false),σ.set l (.loop .done (some c) fn t s ps ak9 bo d))
 | _=>.fail "round"
noncomputable def DI (l:Nat):Out×St→Run
 | (.exit e _,σ)=>sV l e σ (σ.heap.get l)
 | _=>.fail "round"
noncomputable def qy (R:Task→St→Run) (l:Nat) (fn:FuncId) (body:Code) (a:Act) (σ:St):Option bU→Run
 | some (.loop .ready p fn' t s ps ak9 bo d)=>match a.defers with
  | []=>(R (.code (some l) fn body a) (σ.set l (.loop .busy p fn' t s ps ak9 bo d))).bind (DI l)
  | _=>.fail "round: defers"
 | _=>.fail "round: not ready"
noncomputable def xg (R:Task→St→Run) (l:Nat) (fn:FuncId) (body:Code):Out×St→Run
 | (.exit .normal a,σ)=>qy R l fn body a σ (σ.heap.get l)
 | _=>.fail "round: assign"
noncomputable def vi (R:Task→St→Run) (l:Nat) (fn:FuncId) (size:Nat) (assign body:Code) (σ:St):Option (bK V)→Run
 | some tmps=>(R (.code (some l) fn assign {tmps,size,defers:=[]}) σ).bind (xg R l fn body)
 | none=>.fail "round: parameters"
noncomputable def qz (R:Task→St→Run) (l:Nat) (args:List V) (σ:St):Option bU→Run
 | some (.loop _ _ fn tmps size params assign body _)=>vi R l fn size assign body σ (l6 tmps size params args)
 | _=>.fail "round: no loop"
noncomputable def xT (P:Program) (R:Task→St→Run) (ro:Option Nat) (fn:FuncId) (a:Act) (σ:St):Code→Run
 | .loop x=>((iS P fn x).f R ro a σ).bind (Pq fun a σ=>R (.code ro fn (.loop x) a) σ)
 | c=>(iS P fn c).f R ro a σ
noncomputable def step (P:Program) (R:Task→St→Run) (t:Task) (σ:St):Run:=
 match t with
 | .code ro fn c a=>xT P R ro fn a σ c
 | .inScope ro fn x cur a=>((iS P fn cur).f R ro a σ).bind (Xh R ro fn x)
 | .call f args=>n7 R f args σ P.funcs[f]?
 | .deferred f args=>oz R f args σ P.funcs[f]?
 | .leave fn a=>qx P R fn a σ a.defers
 | .apply f vs=>vh R vs σ f
 | .round l args=>qz R l args σ (σ.heap.get l)
noncomputable def run (P:Program) (n:Nat):Task→St→Run:=
 Nat.rec (motive:=fun _=>Task→St→Run) (fun _ _=>.fail "fuel") (fun _ ih=>step P ih) n
end Go.Ev
end
section
namespace Go.Ev
structure Loc where
 c:Nat
 o:Nat
 N:Nat
structure aA where
 at':Nat→Option Loc
 aV:Nat→Nat→Option Value
instance:CoeFun aA (fun _=>Nat→Option Loc):=⟨aA.at'⟩
class Env where
 val:Nat→Value
 one:∀i,(val i).oneCell'=true
 int:∀i,eh≤i→∃n,val i=.int .i64 n
 laid:List (Nat×Nat×Value)
inductive sW (ρ:aA):Fn→Fn→Prop
 | yield {l:Nat} {k:Loc} (h:ρ l=some k):sW ρ (.yield l) (.yield k.c)
 | same {f:Fn} (h:∀l,f≠.yield l):sW ρ f f
mutual
inductive au [Env] (ρ:aA):V→Value→Prop
 | int (k:IntKind) (n:Int):au ρ (.int k n) (.int k n)
 | bool (b:Bool):au ρ (.bool b) (.bool b)
 | str (s:List UInt8):au ρ (.str s) (.string ⟨⟨s⟩⟩)
 | dA:au ρ .dA (.pointer none)
 | ptr {b off:Nat} {l:Loc} (h:ρ b=some l):au ρ (.ptr b off) (.pointer (some ⟨l.c,l.o+off,none⟩))
 | ak:au ρ .ak (.slice none 0 0)
 | slice {b off n cap esz:Nat} {ex:Bool} {l:Loc} {off' cap':Nat} (h:ρ b=some l) (hex:ex=true→cap'=cap∧off'=l.o+off)
   (cW:ex=false→cap≤cap'∧(off'=l.o+off∨(n=0∧cap=0))) (hN:off'+cap'*esz≤l.N) (hn:n≤cap):
   au ρ (.slice b off n cap ex esz) (.slice (some ⟨l.c,off',none⟩) n cap')
 | dc:au ρ .dc (.map none)
 | map {b:Nat} {l:Loc} (h:ρ b=some l):au ρ (.map b) (.map (some l.c))
 | func {f f':Fn} {x y:List V} {x' y':List Value} (hf:sW ρ f f') (hx:ay ρ x x') (hy:ay ρ y y'):au ρ (.func f x y) (.func f' ⟨x'⟩ ⟨y'⟩)
 | cR:au ρ .cR .nilFunc
 | iface {t:TypeId} {v:V} {x:Value} (h:au ρ v x):au ρ (.iface t v) (.iface t x)
 | bh:au ρ .bh .nilIface
 | any (i:Nat):au ρ (.any i) (Env.val i)
 | dO (k:FloatKind) (b:Nat):au ρ (.dO k b) (.float k b)
 | bX {es:List V} {esz c off cap:Nat} {ex:Bool} {xs:List Value} (hu:∀v∈es,v.cells.length=esz) (hx:ay ρ (ax es) xs) (hi:∀k x,xs[k]? =some x→ρ.aV c (off+k)=some x)
   (hc:es.length≤cap) (he:ex=true→cap=es.length):au ρ (.bX es esz ex) (.slice (some ⟨c,off,none⟩) es.length cap)
 | dP {esz:Nat} {ex:Bool}:au ρ (.bX [] esz ex) (.slice none 0 0)
 | dt {esz cap:Nat} {ex:Bool} {a:Addr} (he:ex=true→cap=0):au ρ (.bX [] esz ex) (.slice (some a) 0 cap)
 | aU {cs:List V} {off c o:Nat} {xs:List Value} (hx:ay ρ cs xs) (hi:∀k x,xs[k]? =some x→ρ.aV c (o+k)=some x):au ρ (.aU cs off) (.pointer (some ⟨c,o+off,none⟩))
 | arr {n:Nat} {f:Nat→V} {esz:Nat} {ex nn:Bool} {x:Value} (hn:nn=true→∃a k c,x=.slice (some a) k c) (h:au ρ (.bX (cn n f) esz ex) x):au ρ (.arr n f esz ex nn) x
 | own {b n esz:Nat} {l:Loc} {cap:Nat} (h:ρ b=some l) (hc:n≤cap) (hN:l.o+cap*esz≤l.N):au ρ (.own b n esz) (.slice (some ⟨l.c,l.o,none⟩) n cap)
 | fH {b i esz off:Nat} {l:Loc} (h:ρ b=some l):au ρ (.fH b i esz off) (.pointer (some ⟨l.c,l.o+(i*esz+off),none⟩))
 | agg {x:List V} {x':List Value} (h:ay ρ x x'):au ρ (.agg x) (.agg ⟨x'⟩)
 | tuple {x:List V} {x':List Value} (h:ay ρ x x'):au ρ (.tuple x) (.tuple ⟨x'⟩)
inductive ay [Env] (ρ:aA):List V→List Value→Prop
 | nil:ay ρ [] []
 | cons {v:V} {x:Value} {l:List V} {l':List Value} (h:au ρ v x) (hl:ay ρ l l'):ay ρ (v::l) (x::l')
end
structure aA.le (ρ ρ':aA):Prop where
 ap:∀b l,ρ b=some l→ρ' b=some l
 aV:∀c o x,ρ.aV c o=some x→ρ'.aV c o=some x
instance {ρ ρ':aA}:CoeFun (ρ.le ρ') (fun _=>∀b l,ρ b=some l→ρ' b=some l):=⟨aA.le.ap⟩
theorem aA.le.refl (ρ:aA):ρ.le ρ:=⟨fun _ _ h=>h,fun _ _ _ h=>h⟩
theorem aA.le.trans {a b c:aA} (h:a.le b) (h':b.le c):a.le c:=⟨fun _ _ x=>h' _ _ (h _ _ x),fun _ _ _ x=>h'.aV _ _ _ (h.aV _ _ _ x)⟩
theorem sW.mono {ρ ρ':aA} (eu:ρ.le ρ') {f f':Fn} (h:sW ρ f f'):sW ρ' f f':=by
 cases h with
 | yield h=>exact .yield (eu _ _ h)
 | same h=>exact .same h
mutual
theorem au.mono [Env] {ρ ρ':aA} (eu:ρ.le ρ'):∀ {v:V} {x:Value},au ρ v x→au ρ' v x
 | _,_,.int k n=>.int k n
 | _,_,.bool b=>.bool b
 | _,_,.str s=>.str s
 | _,_,.dA=>.dA
 | _,_,.ptr h=>.ptr (eu _ _ h)
 | _,_,.ak=>.ak
 | _,_,.slice h a b c d=>.slice (eu _ _ h) a b c d
 | _,_,.dc=>.dc
 | _,_,.map h=>.map (eu _ _ h)
 | _,_,.func hf hx hy=>.func (hf.mono eu) (ay.mono eu hx) (ay.mono eu hy)
 | _,_,.cR=>.cR
 | _,_,.iface h=>.iface (au.mono eu h)
 | _,_,.bh=>.bh
 | _,_,.any i=>.any i
 | _,_,.dO k b=>.dO k b
 | _,_,.bX hu hx hi hc he=>.bX hu (ay.mono eu hx) (fun k x h=>eu.aV _ _ _ (hi k x h)) hc he
 | _,_,.dP=>.dP
 | _,_,.dt he=>.dt he
 | _,_,.arr hn h=>.arr hn (au.mono eu h)
 | _,_,.own h a b=>.own (eu _ _ h) a b
 | _,_,.fH h=>.fH (eu _ _ h)
 | _,_,.aU hx hi=>.aU (ay.mono eu hx) (fun k x h=>eu.aV _ _ _ (hi k x h))
 | _,_,.agg h=>.agg (ay.mono eu h)
 | _,_,.tuple h=>.tuple (ay.mono eu h)
theorem ay.mono [Env] {ρ ρ':aA} (eu:ρ.le ρ'):∀ {l:List V} {l':List Value},ay ρ l l'→ay ρ' l l'
 | _,_,.nil=>.nil
 | _,_,.cons h hl=>.cons (au.mono eu h) (ay.mono eu hl)
end
section
variable {ρ:aA}
theorem ay.length [Env] {l:List V} {l':List Value}:ay ρ l l'→l.length=l'.length
 | .nil=>rfl
 | .cons _ hl=>congrArg (·+1) hl.length
theorem ay.get [Env] {l:List V} {l':List Value} (h:ay ρ l l') (i:Nat) {v:V} (hv:l[i]? =some v):∃x,l'[i]? =some x∧au ρ v x:=by
 induction i generalizing l l' with
 | zero=>
  cases h with
  | nil=>simp at hv
  | cons h hl=>simp at hv;subst hv;exact⟨_,rfl,h⟩
 | succ i ih=>
  cases h with
  | nil=>simp at hv
  | cons h hl=>exact ih hl (by simpa using hv)
theorem ay.append [Env] {a b:List V} {a' b':List Value} (h:ay ρ a a') (k:ay ρ b b'):ay ρ (a++b) (a'++b'):=by
 induction a generalizing a' with
 | nil=>cases h;exact k
 | cons v a ih=>cases h with | cons h hl=>exact .cons h (ih hl)
theorem ay.take [Env] {a:List V} {a':List Value} (h:ay ρ a a') (n:Nat):ay ρ (a.take n) (a'.take n):=by
 induction n generalizing a a' with
 | zero=>simpa using ay.nil
 | succ n ih=>
  cases h with
  | nil=>exact .nil
  | cons h hl=>exact .cons h (ih hl)
theorem ay.drop [Env] {a:List V} {a':List Value} (h:ay ρ a a') (n:Nat):ay ρ (a.drop n) (a'.drop n):=by
 induction n generalizing a a' with
 | zero=>simpa using h
 | succ n ih=>
  cases h with
  | nil=>exact .nil
  | cons h hl=>exact ih hl
theorem ay.Xi [Env] {l:List V} {l':List Value} (hn:l.length=l'.length) (h:∀(i:Nat) (v:V) (x:Value),l[i]? =some v→l'[i]? =some x→au ρ v x):ay ρ l l':=by
 induction l generalizing l' with
 | nil=>cases l' with
  | nil=>exact .nil
  | cons a l'=>simp at hn
 | cons v l ih=>cases l' with
  | nil=>simp at hn
  | cons x l'=>exact .cons (h 0 v x rfl rfl) (ih (by simpa using hn) fun i v x hv hx=>h (i+1) v x (by simpa using hv) (by simpa using hx))
theorem au.dG [Env] {ρ:aA} {v:V} {x:Value} (h:au ρ v x) {es:List V} {esz:Nat} {ex:Bool} (hv:v=.bX es esz ex):∃a n cap,x=.slice a n cap:=by
 cases h<;>first
  | exact⟨_,_,_,rfl⟩
  | cases hv
theorem au.UT [Env] {ρ:aA} {v:V} {x:Value} (h:au ρ v x) {es:List V} {esz:Nat} {ex:Bool} (hv:v=.bX es esz ex):∃a cap,x=.slice a es.length cap:=by
 cases h<;>first
  | (cases hv;exact⟨_,_,rfl⟩)
  | cases hv
theorem au.cells [Env] {v:V} {x:Value} (h:au ρ v x):ay ρ v.cells x.cells.toList:=by
 cases h with
 | agg h=>exact h
 | int k n=>exact .cons (.int k n) .nil
 | dO k b=>exact .cons (.dO k b) .nil
 | bool b=>exact .cons (.bool b) .nil
 | str s=>exact .cons (.str s) .nil
 | dA=>exact .cons .dA .nil
 | ptr h=>exact .cons (.ptr h) .nil
 | ak=>exact .cons .ak .nil
 | slice h a b c d=>exact .cons (.slice h a b c d) .nil
 | dc=>exact .cons .dc .nil
 | map h=>exact .cons (.map h) .nil
 | func a b c=>exact .cons (.func a b c) .nil
 | cR=>exact .cons .cR .nil
 | iface h=>exact .cons (.iface h) .nil
 | bh=>exact .cons .bh .nil
 | any i=>
  have h:=Env.one i
  have e:(Env.val i).cells.toList=[Env.val i]:=by
   generalize Env.val i=x at h⊢
   cases x<;>first | rfl | cases h
  rw[e]
  exact .cons (.any i) .nil
 | tuple h=>exact .cons (.tuple h) .nil
 | bX hu hx hi hc he=>exact .cons (.bX hu hx hi hc he) .nil
 | dP=>exact .cons .dP .nil
 | dt he=>exact .cons (.dt he) .nil
 | aU hx hi=>exact .cons (.aU hx hi) .nil
 | own h a b=>exact .cons (.own h a b) .nil
 | fH h=>exact .cons (.fH h) .nil
 | arr hn h=>
  obtain⟨a,n,cap,rfl⟩:=h.dG rfl
  exact .cons (.arr hn h) .nil
theorem au.rJ [Env] {v:V} {x:Value} (h:au ρ v x) (hs:v.scalar=true):x.oneCell'=true:=by
 cases h<;>first
  | rfl
  | exact Env.one _
  | (rename_i h;obtain⟨a,n,cap,rfl⟩:=h.dG rfl;rfl)
  | simp [V.scalar] at hs
theorem ay.rJ [Env] {l:List V} {l':List Value} (h:ay ρ l l') (hs:l.all V.scalar=true):∀x∈l',x.oneCell'=true:=by
 induction l generalizing l' with
 | nil=>cases h;intro x hx;simp at hx
 | cons v l ih=>
  cases h with
  | cons h hl=>
   simp only[List.all_cons,Bool.and_eq_true] at hs
   intro x hx
   rcases List.mem_cons.1 hx with rfl | hx
   ·exact h.rJ hs.1
   ·exact ih hl hs.2 x hx
end
mutual
theorem nO [Env] (ρ:aA):∀(x:Value) {v:V},V.ofValue x=some v→au ρ v x
 | .int k n,v,h=>by simp only[V.ofValue,Option.some.injEq] at h;subst h;exact .int k n
 | .bool b,v,h=>by simp only[V.ofValue,Option.some.injEq] at h;subst h;exact .bool b
 | .string s,v,h=>by
  simp only[V.ofValue,Option.some.injEq] at h;subst h
  exact .str s.data.toList
 | .pointer none,v,h=>by simp only[V.ofValue,Option.some.injEq] at h;subst h;exact .dA
 | .pointer (some _),v,h=>by simp [V.ofValue] at h
 | .slice none 0 0,v,h=>by simp only[V.ofValue,Option.some.injEq] at h;subst h;exact .ak
 | .slice none (_+1) _,v,h=>by simp [V.ofValue] at h
 | .slice none 0 (_+1),v,h=>by simp [V.ofValue] at h
 | .slice (some _) _ _,v,h=>by simp [V.ofValue] at h
 | .map none,v,h=>by simp only[V.ofValue,Option.some.injEq] at h;subst h;exact .dc
 | .map (some _),v,h=>by simp [V.ofValue] at h
 | .nilFunc,v,h=>by simp only[V.ofValue,Option.some.injEq] at h;subst h;exact .cR
 | .nilIface,v,h=>by simp only[V.ofValue,Option.some.injEq] at h;subst h;exact .bh
 | .iface t x,v,h=>by
  simp only[V.ofValue,Option.map_eq_some_iff] at h
  obtain⟨y,hy,rfl⟩:=h
  exact .iface (nO ρ x hy)
 | .agg ⟨cs⟩,v,h=>by
  simp only[V.ofValue,Option.map_eq_some_iff] at h
  obtain⟨y,hy,rfl⟩:=h
  exact .agg (pC ρ cs hy)
 | .tuple ⟨cs⟩,v,h=>by
  simp only[V.ofValue,Option.map_eq_some_iff] at h
  obtain⟨y,hy,rfl⟩:=h
  exact .tuple (pC ρ cs hy)
 | .float k b,v,h=>by simp only[V.ofValue,Option.some.injEq] at h;subst h;exact .dO k b
 | .complex _ _ _,v,h=>by simp [V.ofValue] at h
 | .chan _,v,h=>by simp [V.ofValue] at h
 | .func _ _ _,v,h=>by simp [V.ofValue] at h
theorem pC [Env] (ρ:aA):∀(l:List Value) {vs:List V},V.ofValues l=some vs→ay ρ vs l
 | [],vs,h=>by simp only[V.ofValues,Option.some.injEq] at h;subst h;exact .nil
 | x::l,vs,h=>by
  simp only[V.ofValues] at h
  cases hv:V.ofValue x with
  | none=>simp [hv] at h
  | some v=>
   cases hl:V.ofValues l with
   | none=>simp [hv,hl] at h
   | some r=>
    simp only[hv,hl,Option.some.injEq] at h
    subst h
    exact .cons (nO ρ x hv) (pC ρ l hl)
end
def gw [Env] (ρ:aA) (t:bK V) (a:Array Value):Prop:=∀i v,t.get i=some v→∃x,a[i]? =some x∧au ρ v x
inductive rK [Env] (ρ:aA):Option (Fn×List V)×Nat×List V→Deferred→Prop
 | mark {d:Nat} {l:Loc} (h:ρ d=some l):rK ρ (none,d,[]) {target:=.collected l.c,args:=#[]}
 | call {f f':Fn} {x y:List V} {x' y':List Value} (n:Nat) (hf:sW ρ f f') (hx:ay ρ x x') (hy:ay ρ y y'):
   rK ρ (some (f,x),n,y) {target:=.fn f' ⟨x'⟩,args:=⟨y'⟩}
inductive l8 [Env] (ρ:aA):List (Option (Fn×List V)×Nat×List V)→List Deferred→Prop
 | nil:l8 ρ [] []
 | cons {d:Option (Fn×List V)×Nat×List V} {e:Deferred} {l:List (Option (Fn×List V)×Nat×List V)} {l':List Deferred} (h:rK ρ d e) (hl:l8 ρ l l'):l8 ρ (d::l) (e::l')
structure bD [Env] (ρ:aA) (a:Act) (a':Go.Act):Prop where
 tmps:gw ρ a.tmps a'.tmps
 size:a.size=a'.tmps.size
 defers:l8 ρ a.defers a'.defers
theorem gw.mono [Env] {ρ ρ':aA} (eu:ρ.le ρ') {t:bK V} {a:Array Value} (h:gw ρ t a):gw ρ' t a:=
 fun i v hv=>let ⟨x,hx,hr⟩:=h i v hv;⟨x,hx,hr.mono eu⟩
theorem rK.mono [Env] {ρ ρ':aA} (eu:ρ.le ρ') {d:Option (Fn×List V)×Nat×List V} {e:Deferred} (h:rK ρ d e):rK ρ' d e:=by
 cases h with
 | mark h=>exact .mark (eu _ _ h)
 | call n hf hx hy=>exact .call n (hf.mono eu) (hx.mono eu) (hy.mono eu)
theorem l8.mono [Env] {ρ ρ':aA} (eu:ρ.le ρ') {d:List (Option (Fn×List V)×Nat×List V)} {e:List Deferred} (h:l8 ρ d e):l8 ρ' d e:=by
 induction d generalizing e with
 | nil=>cases h;exact .nil
 | cons a d ih=>cases h with | cons h hl=>exact .cons (h.mono eu) (ih hl)
theorem bD.mono [Env] {ρ ρ':aA} (eu:ρ.le ρ') {a:Act} {a':Go.Act} (h:bD ρ a a'):bD ρ' a a':=
 ⟨h.tmps.mono eu,h.size,h.defers.mono eu⟩
theorem gw.put [Env] {ρ:aA} {t:bK V} {a:Array Value} (h:gw ρ t a) {d:Nat} (hd:d<a.size) {v:V} {x:Value} (hv:au ρ v x):
  gw ρ (t.put d v) (a.setIfInBounds d x):=by
 intro i u hu
 rw[bK.b9] at hu
 by_cases hi:i=d
 ·subst hi
  rw[if_pos rfl] at hu
  cases hu
  exact⟨x,by simp [hd],hv⟩
 ·rw[if_neg hi] at hu
  obtain⟨y,hy,hr⟩:=h i u hu
  exact⟨y,by rw[Array.getElem?_setIfInBounds_ne (by omega)];exact hy,hr⟩
theorem bD.put [Env] {ρ:aA} {a aT:Act} {a':Go.Act} (h:bD ρ a a') {dst:Option Tmp} {v:V} {x:Value} (hv:au ρ v x) (hp:a.put dst v=some aT):
  bD ρ aT (a'.put dst x):=by
 cases dst with
 | none=>
  simp only[Act.put,Option.some.injEq] at hp
  subst hp;exact h
 | some d=>
  obtain⟨t,s,ds⟩:=a
  simp only[Act.put] at hp
  cases hb:Nat.blt d s with
  | false=>simp [hb] at hp
  | true=>
   simp only[hb,Option.some.injEq] at hp
   subst hp
   have hs:s=a'.tmps.size:=h.size
   have bE:d<a'.tmps.size:=by rw[←hs];rw[Nat.blt_eq] at hb;exact hb
   exact⟨h.tmps.put bE hv,by simp [Go.Act.put,hs],h.defers⟩
theorem bD.eval [Env] {ρ:aA} {a:Act} {a':Go.Act} (h:bD ρ a a') (x:Operand) {v:V} (hv:a.eval x=some v):au ρ v (a'.eval x):=by
 cases x with
 | tmp t=>
  obtain⟨y,hy,hr⟩:=h.tmps t v hv
  simpa [Go.Act.eval,hy] using hr
 | const c=>exact nO ρ c hv
 | global g=>simp [Act.eval] at hv
 | func f=>
  simp only[Act.eval,Option.some.injEq] at hv
  subst hv
  exact .func (.same (by simp)) .nil .nil
theorem oY {α:Type} {x:Option α} {l:Option (List α)} {r:List α} (h:lD x l=some r):∃v t,x=some v∧l=some t∧r=v::t:=by
 cases x with
 | none=>simp [lD] at h
 | some v=>cases l with
  | none=>simp [lD] at h
  | some t=>simp only[lD,Option.some.injEq] at h;exact⟨v,t,rfl,rfl,h.symm⟩
theorem bD.bQ [Env] {ρ:aA} {a:Act} {a':Go.Act} (h:bD ρ a a') (l:List Operand) {vs:List V} (hv:a.bQ l=some vs):ay ρ vs (l.map a'.eval):=by
 induction l generalizing vs with
 | nil=>cases hv;exact .nil
 | cons x l ih=>
  obtain⟨v,t,h1,h2,rfl⟩:=oY (x:=a.eval x) (l:=a.bQ l) hv
  exact .cons (h.eval x h1) (ih h2)
structure DJ [Env] (ρ:aA) (e:V×V×Nat) (e':MapEntry):Prop where
 key:au ρ e.1 e'.key
 val:au ρ e.2.1 e'.val
 born:e.2.2=e'.born
inductive cq [Env] (ρ:aA):List (V×V×Nat)→List MapEntry→Prop
 | nil:cq ρ [] []
 | cons {e:V×V×Nat} {e':MapEntry} {l:List (V×V×Nat)} {l':List MapEntry} (h:DJ ρ e e') (hl:cq ρ l l'):cq ρ (e::l) (e'::l')
theorem cq.mono [Env] {ρ ρ':aA} (eu:ρ.le ρ') {l:List (V×V×Nat)} {l':List MapEntry} (h:cq ρ l l'):cq ρ' l l':=by
 induction l generalizing l' with
 | nil=>cases h;exact .nil
 | cons a d ih=>cases h with | cons h hl=>exact .cons ⟨h.key.mono eu,h.val.mono eu,h.born⟩ (ih hl)
inductive n9 (ρ:aA):Option Nat→Option Nat→Prop
 | none:n9 ρ none none
 | some {m:Nat} {l:Loc} (h:ρ m=some l):n9 ρ (some m) (some l.c)
inductive fN [Env] (ρ:aA) (w:World) (l:Loc):bU→Prop
 | cells {n:Nat} {z:List V} {t:Trie V} {p ro:Bool} (hs:∃ty,w.shape? l.c=some (ty,l.N)) (hn:l.o+n≤l.N)
   (hv:∀i v,cellOf n z t i=some v→∃x,w.cell? ⟨l.c,l.o+i,none⟩=some x∧au ρ v x)
   (hf:ro=false→∀i,i<l.N→w.frozen? ⟨l.c,i,none⟩=false) (hp:p=true→∀i,w.frozen? ⟨l.c,i,none⟩=false):fN ρ w l (.cells n z t p ro)
 | row {n:Nat} {f:Nat→V} {esz:Nat} {p:Bool} (hs:∃ty,w.shape? l.c=some (ty,l.N)) (hn:l.o+n*esz≤l.N) (hu:∀i,i<n→(f i).cells.length=esz)
   (hv:∀i,i<n→∀k v,(f i).cells[k]? =some v→∃x,w.cell? ⟨l.c,l.o+(i*esz+k),none⟩=some x∧au ρ v x)
   (hf:∀i,i<l.N→w.frozen? ⟨l.c,i,none⟩=false) (hp:p=true→∀i,w.frozen? ⟨l.c,i,none⟩=false):fN ρ w l (.row n f esz p)
 | map {es:List (V×V×Nat)} {clock:Nat} {es':Array MapEntry} (h:w.heap[l.c]? =some (.map es' clock)) (he:cq ρ es es'.toList):fN ρ w l (.map es clock)
 | iter {m m':Option Nat} {since last:Nat} {seen:List Nat} (h:w.heap[l.c]? =some (.mapIter m' since ⟨seen⟩ last)) (ho:l.o=0) (hm:n9 ρ m m'):fN ρ w l (.iter m since seen last)
 | loop {st:LoopState} {pend:Option Code} {fn fn':FuncId} {t:bK V} {t':Array Value} {size d:Nat} {ps:List Tmp} {ak9 bo:Code} {ld:Loc}
   (h:w.heap[l.c]? =some (.loop {state:=st,pending:=pend,fn:=fn',tmps:=t',params:=⟨ps⟩,assign:=ak9,body:=bo,defers:=ld.c}))
   (ht:gw ρ t t') (hs:size=t'.size) (hd:ρ d=some ld):fN ρ w l (.loop st pend fn t size ps ak9 bo d)
 | deferred (h:w.heap[l.c]? =some (.deferred (some []))):fN ρ w l .deferred
def bU.j9 (_:bU):Bool:=true
def Wr (ρ:aA) (σ:St) (c:Nat):Prop:=∃b k l,σ.heap.get b=some k∧k.j9=true∧ρ b=some l∧l.c=c
structure R [Env] (ρ:aA) (σ:St) (w:World):Prop where
 di:∀b k,σ.heap.get b=some k→∃l,ρ b=some l∧fN ρ w l k
 inj:∀b b' k k' l l',σ.heap.get b=some k→σ.heap.get b'=some k'→ρ b=some l→ρ b'=some l'→l.c=l'.c→b=b'
 fresh:∀b,σ.next≤b→ρ b=none
 valid:∀b l,ρ b=some l→l.c<w.heap.size
 aV:∀c o x,ρ.aV c o=some x→w.cell? ⟨c,o,none⟩=some x∧¬Wr ρ σ c
 laid:∀q∈Env.laid,ρ.aV q.1 q.2.1=some q.2.2
theorem R.rL [Env] {ρ ρ':aA} {σ:St} {w:World} (h:R ρ σ w) (hle:ρ.le ρ'):∀q∈Env.laid,ρ'.aV q.1 q.2.1=some q.2.2:=fun q hq=>hle.aV _ _ _ (h.laid q hq)
structure aW [Env] (ids:Nat→Prop) (ρ:aA) (σ:St) (w:World) (ρ':aA) (σ':St) (w':World):Prop where
 r:R ρ' σ' w'
 le:ρ.le ρ'
 next:σ.next≤σ'.next
 jn:∀b l,ρ' b=some l→ρ b=some l∨σ.next≤b∨ids b
 size:w.heap.size≤w'.heap.size
 os:w'.os=w.os
 tape:w'.tape=w.tape
 output:w'.output=w.output
 aQ:∀c,c<w.heap.size→¬Wr ρ σ c→w'.heap[c]? =w.heap[c]?
 wr:∀c,c<w.heap.size→Wr ρ' σ' c→Wr ρ σ c
 jC:∀b k,σ'.heap.get b=some k→(∃k',σ.heap.get b=some k')∨σ.next≤b∨ids b
 hH:∀c o x,ρ'.aV c o=some x→ρ.aV c o=some x∨w.heap.size≤c∨Wr ρ σ c
theorem aW.refl [Env] {ids:Nat→Prop} {ρ:aA} {σ:St} {w:World} (h:R ρ σ w):aW ids ρ σ w ρ σ w:=
 ⟨h,aA.le.refl ρ,Nat.le_refl _,fun _ _ h=>.inl h,Nat.le_refl _,rfl,rfl,rfl,fun _ _ _=>rfl,fun _ _ h=>h,fun _ k h=>.inl ⟨k,h⟩,fun _ _ _ h=>.inl h⟩
theorem aW.trans [Env] {ids:Nat→Prop} {ρ bz bm:aA} {σ aI bL:St} {w aL fr:World} (h:aW ids ρ σ w bz aI aL) (k:aW ids bz aI aL bm bL fr):aW ids ρ σ w bm bL fr:=
 ⟨k.r,h.le.trans k.le,Nat.le_trans h.next k.next,
  fun b l hb=>by
   rcases k.jn b l hb with h1 | h1 | h1
   ·exact h.jn b l h1
   ·exact .inr (.inl (Nat.le_trans h.next h1))
   ·exact .inr (.inr h1),
  Nat.le_trans h.size k.size,k.os.trans h.os,k.tape.trans h.tape,k.output.trans h.output,
  fun c hc hn=>(k.aQ c (Nat.lt_of_lt_of_le hc h.size) fun hw=>hn (h.wr c hc hw)).trans (h.aQ c hc hn),
  fun c hc hw=>h.wr c hc (k.wr c (Nat.lt_of_lt_of_le hc h.size) hw),
  fun b q hb=>by
   rcases k.jC b q hb with ⟨q',h1⟩ | h1 | h1
   ·exact h.jC b q' h1
   ·exact .inr (.inl (Nat.le_trans h.next h1))
   ·exact .inr (.inr h1),
  fun c o x hx=>by
   rcases k.hH c o x hx with h1 | h1 | h1
   ·exact h.hH c o x h1
   ·exact .inr (.inl (Nat.le_trans h.size h1))
   ·by_cases hc:c<w.heap.size
    ·exact .inr (.inr (h.wr c hc h1))
    ·exact .inr (.inl (Nat.le_of_not_lt hc))⟩
theorem aW.weaken [Env] {ids Xj:Nat→Prop} {ρ ρ':aA} {σ σ':St} {w w':World} (h:aW ids ρ σ w ρ' σ' w') (hi:∀b,ids b→Xj b):aW Xj ρ σ w ρ' σ' w':=
 {h with jn:=fun b l hb=>(h.jn b l hb).imp id (Or.imp id (hi b)),jC:=fun b k hb=>(h.jC b k hb).imp id (Or.imp id (hi b))}
end Go.Ev
end
