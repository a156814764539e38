/- The evaluator's steps over code, calls, rounds and deferred calls. -/
import Derived.Test.YtbajncpfmemdgaaGreatDoorEvCore
namespace Go.Ev

/-! ### A region that draws: the order in which it is gone through here -/
/-- Does it write, or call? -/
def effectOp : Op → Bool
  | .store .. | .mapUpdate .. | .insert .. | .assign _ => true
  | .call { callee := .builtin b, .. } => match b with
    | .len | .max | .min => false
    | _ => true
  | .call _ | .defer _ | .next .. | .range .. | .entry .. => true
  | _ => false
/-- Does it look at memory that others may write? -/
def readOp : Op → Bool
  | .load .. => true
  | _ => false
/-- A conversion that looks at no memory. -/
def plainConv (P : Program) (s d : TypeId) : Bool :=
  match P.underlying s, P.underlying d with
  | some (.int _), some (.int _) => true
  | some (.int _), some (.float _) => true
  | some (.float _), some (.int _) => true
  | some .string, some .string => true
  | _, _ => false
/-- A type whose values are held against each other without a look at memory. -/
def plainEq (P : Program) (t : TypeId) : Bool :=
  match P.underlying t with
  | some (.int _) => true
  | some .string => true
  | some .bool => true
  | _ => false
/-- A type whose values' lengths want no look at memory. -/
def plainLen (P : Program) : Option TypeId → Bool
  | some t => match P.underlying t with
    | some .string => true
    | some (.slice _) => true
    | some (.array _ _) => true
    | _ => false
  | none => false
/-- A text out of bytes. -/
def convT (P : Program) (s d : TypeId) : Bool :=
  match P.underlying s, P.underlying d with
  | some (.slice _), some .string => true
  | _, _ => false
/-- Does it look at memory in another way? -/
def lookOp (P : Program) : Op → Bool
  | .lookup .. => true
  | .convert s d _ => !plainConv P s d
  | .slice t .. => match P.underlying t with | some (.array ..) => true | _ => false
  | .binOp op t _ _ _ => match op with | .eql | .neq => !plainEq P t | _ => false
  | .call { callee := .builtin .len, args := _, argTypes := tys } => !plainLen P tys[0]?
  | _ => false

/-- A load, or a text out of bytes. -/
def rdOp (P : Program) : Op → Bool
  | .load .. => true
  | .convert s d _ => convT P s d
  | _ => false

/-- Of each operation those that it waits for, theirs too, as bits. -/
def waitOf (w : List Nat) (o : Oper) : Nat := o.after.toList.foldl (fun s e => match Region.binds .any e with
  | true => Nat.lor s (Nat.lor (2 ^ e.on) (w.getD e.on 0))
  | false => s) 0
def waits (ops : List Oper) (acc : List Nat) : List Nat :=
  match ops with
  | [] => acc
  | o :: r => waits r (acc ++ [waitOf acc o])

def effects (ops : List Oper) : List Nat := (List.range ops.length).filter fun i => match ops[i]? with
  | some o => effectOp o.op
  | none => false

/-- The order: each effect behind what it waits for alone; then the rest. -/
def orderFrom (n : Nat) (w : List Nat) (done : List Nat) : List Nat → List Nat
  | [] => done ++ (List.range n).filter fun i => !done.contains i
  | e :: es => orderFrom n w (done ++ ((List.range n).filter fun i => (w.getD e 0).testBit i && !done.contains i) ++ [e]) es

structure Item where
  i : Nat
  /-- How many of the last states a load must read the same in. -/
  back : Nat

def countWaits (w : Nat) (es : List Nat) : Nat := (es.filter fun e => w.testBit e).length

def itemsFrom (w es : List Nat) (sofar : Nat) : List Nat → List Item
  | [] => []
  | i :: l => match es.contains i with
    | true => { i, back := 0 } :: itemsFrom w es (sofar + 1) l
    | false => { i, back := sofar - countWaits (w.getD i 0) es } :: itemsFrom w es sofar l

/-- All of a are in b. -/
def covers (a b : Nat) : Bool := Nat.beq (Nat.lor a b) b
def backOk (w back : Nat) (effs : List Nat) : Bool :=
  match effs.drop back with
  | [] => true
  | f :: _ => w.testBit f
/-- The plan, looked through: 'done': those ahead; 'effs': the effects ahead, the last one first. -/
def planCheck (P : Program) (ops : List Oper) (w : List Nat) : Nat → List Nat → List Item → Bool
  | done, _, [] => (List.range ops.length).all done.testBit
  | done, effs, it :: l =>
    match ops[it.i]? with
    | none => false
    | some o => !done.testBit it.i && covers (w.getD it.i 0) done &&
      match effectOp o.op with
      | true => covers done (w.getD it.i 0) && planCheck P ops w (Nat.lor done (2 ^ it.i)) (it.i :: effs) l
      | false => backOk (w.getD it.i 0) it.back effs && (Nat.beq it.back 0 || rdOp P o.op || !lookOp P o.op) && planCheck P ops w (Nat.lor done (2 ^ it.i)) effs l
/-- The bits are what they should be. -/
def waitCheck (ops : List Oper) (w : List Nat) : Bool := (List.range ops.length).all fun i => match ops[i]? with
  | some o => Nat.beq (w.getD i 0) (waitOf w o)
  | none => false

/-- What an operation looks at. -/
def opTmps (o : Op) : List Tmp := o.operands.toList.filterMap fun | .tmp t => some t | _ => none
def looks (ops : List Oper) (o : Oper) : List Tmp := opTmps o.op ++ (match o.guard with
  | some (j, _) => ((ops[j]?).bind (·.dst)).toList
  | none => [])
/-- The maker of what is looked at is waited for; or it is an effect, and waits for the reader. -/
def pairCheck (wi i : Nat) (li : List Tmp) (j wj : Nat) (ej : Bool) : Option Tmp → Bool
  | none => true
  | some t => (!(Nat.beq i j) && (wi.testBit j || (ej && wj.testBit i))) || !li.contains t
def distinctD : List (Option Tmp) → Bool
  | [] => true
  | none :: l => distinctD l
  | some t :: l => !l.contains (some t) && distinctD l
def dataCheck (ops : List Oper) (w : List Nat) : Bool :=
  distinctD (ops.map (·.dst)) && (List.range ops.length).all fun i => match ops[i]? with
    | some o => let li := looks ops o
      (List.range ops.length).all fun j => match ops[j]? with
        | some oj => pairCheck (w.getD i 0) i li j (w.getD j 0) (effectOp oj.op) oj.dst
        | none => false
    | none => false

def planOf (P : Program) (ops : List Oper) : Option (List Item) :=
  let w := waits ops []
  let es := effects ops
  let l := itemsFrom w es 0 (orderFrom ops.length w [] es)
  match Nat.ble l.length ops.length && waitCheck ops w && dataCheck ops w && planCheck P ops w 0 [] l with
  | true => some l
  | false => none

noncomputable def sameIn (P : Program) (t : TypeId) (x v : V) : Nat → List St → Bool
  | 0, _ => true
  | _ + 1, [] => false
  | k + 1, σ :: r => (match loadV P σ t x with | some u => V.beq u v | none => false) && sameIn P t x v k r

/-! ### Steps -/
/-- What goes round, or is called: what wants a step of its own. -/
inductive Task where
  | code (ro : Option Nat) (fn : FuncId) (c : Code) (a : Act)
  | inScope (ro : Option Nat) (fn : FuncId) (x cur : Code) (a : Act)
  | call (f : FuncId) (args : List V)
  | deferred (f : FuncId) (args : List V)
  | leave (fn : Func) (a : Act)
  | apply (f : V) (args : List V)
  | round (l : Nat) (args : List V)

inductive Out where
  | exit (e : Ex) (a : Act)
  | val (v : V)

abbrev Run := Res (Out × St)

def gateV (want : Bool) : Option V → Option Bool
  | some (.bool b) => some (b == want)
  | some (.any _) => none
  | some _ => some false
  | none => none

/-- The slot of the operation that an operation hangs on. -/
noncomputable def guardSlot (ops : List Oper) (j : Nat) : Option Tmp := (nth ops j).bind (·.dst)

noncomputable def actOf (size : Nat) (args : List V) : Act := ⟨Slots.puts args (Slots.blank size) 0, max size (len args), []⟩

noncomputable def resultsV (P : Program) (a : Act) (σ : St) : List ResultVar → Option (List V)
  | [] => some []
  | .tmp t :: r => match a.tmps.get t, resultsV P a σ r with
    | some v, some l => some (v :: l)
    | _, _ => none
  | .cell x t :: r => match a.tmps.get x, resultsV P a σ r with
    | some p, some l => (loadV P σ t p).map (· :: l)
    | _, _ => none

def oneOrTuple : List V → V
  | [v] => v
  | l => .tuple l

noncomputable def setParams (tmps : Slots V) (size : Nat) : List Tmp → List V → Option (Slots V)
  | [], [] => some tmps
  | p :: ps, v :: vs => if p < size then setParams (tmps.put p v) size ps vs else none
  | _, _ => none

/-- A method of an interface's value: the plain ones (no embedded path). -/
def pointerT (P : Program) (t : TypeId) : Option Bool :=
  match P.underlying t with
  | some (.pointer _) => some true
  | some _ => some false
  | none => none

noncomputable def methodOf (P : Program) (t : TypeId) (v : V) (m : Method) : Option (FuncId × V) :=
  if m.path.isEmpty then match m.func, pointerT P t with
    | some (f, true), some true => some (f, v)
    | some (f, false), some false => some (f, v)
    | _, _ => none
  else none

noncomputable def methodV (P : Program) (t : TypeId) (v : V) (name : String) : Option (FuncId × V) :=
  ((P.info? t).bind fun i => i.methods.find? (·.name == name)).bind (methodOf P t v)

def jumpOf : Ex → Option Code
  | .normal => none
  | .exit id => some (.exit id)
  | .goto l => some (.goto l)
  | .ret => some .ret

/-! ### An operation, a call or not; R: what a task comes to -/
abbrev OpRun := Res (V × Act × St)

def valOf (a : Act) : Out × St → OpRun
  | (.val v, σ) => .ok (v, a, σ)
  | _ => .fail "call"

noncomputable def callValue (R : Task → St → Run) (a : Act) (σ : St) : Option V → Option (List V) → OpRun
  | some fv, some vs => (R (.apply fv vs) σ).bind (valOf a)
  | _, _ => .fail "call operand"

noncomputable def callMethodV (R : Task → St → Run) (a : Act) (σ : St) (vs : List V) : Option (FuncId × V) → OpRun
  | some (f, recv) => (R (.call f (recv :: vs)) σ).bind (valOf a)
  | none => .fail "invoke: method"

noncomputable def callInvoke (P : Program) (R : Task → St → Run) (a : Act) (σ : St) (name : String) : Option V → Option (List V) → OpRun
  | some (.iface t v), some vs => callMethodV R a σ vs (methodV P t v name)
  | _, _ => .fail "invoke operand"

noncomputable def deferV (ro : Option Nat) (a : Act) (σ : St) : Option V → Option (List V) → OpRun
  | some (.func fn first captured), some vs => match ro with
    | none => match a with | ⟨t, s, ds⟩ => .ok (undefV, ⟨t, s, (some (fn, captured), 0, app first vs) :: ds⟩, σ)
    | some _ => .fail "defer in a round"
  | _, _ => .fail "defer"

def withAct (a : Act) : V × St → OpRun
  | (v, σ) => .ok (v, a, σ)

structure OperC where
  f : (Task → St → Run) → Option Nat → Act → St → Nat → OpRun

noncomputable def callC (P : Program) (c : Call) : OperC :=
  match c.callee with
  | .value f => match extOf P f with
    | some e => ⟨fun _ _ a σ _ => (opExt σ e (a.evals c.args.toList)).bind (withAct a)⟩
    | none => ⟨fun R _ a σ _ => callValue R a σ (a.eval f) (a.evals c.args.toList)⟩
  | .invoke x name => ⟨fun R _ a σ _ => callInvoke P R a σ name (a.eval x) (a.evals c.args.toList)⟩
  | .builtin b => ⟨fun _ _ a σ id => (opBuiltin P σ id b c.argTypes.toList (a.evals c.args.toList)).bind (withAct a)⟩

noncomputable def deferC (c : Call) : OperC :=
  match c.callee with
  | .value f => ⟨fun _ ro a σ _ => deferV ro a σ (a.eval f) (a.evals c.args.toList)⟩
  | _ => ⟨fun _ _ _ _ _ => .fail "defer"⟩

noncomputable def plainC (oc : OpC) : OperC := ⟨fun _ _ a σ id => (oc.f a σ id).bind (withAct a)⟩

/-- An operation, a call or not. -/
noncomputable def operC (P : Program) (o : Op) : OperC :=
  match o with
  | .call c => callC P c
  | .defer c => deferC c
  | _ => plainC (opC P o)

def putK (σ : St) : Option Act → Res (Act × St)
  | some a => .ok (a, σ)
  | none => .fail "put"

noncomputable def dstK (dst : Option Tmp) : V × Act × St → Res (Act × St)
  | (v, a, σ) => putK σ (a.put dst v)

/-- An operation with its guard: what it makes of a frame and a heap. -/
structure StepC where
  f : (Task → St → Run) → Option Nat → Act → St → Nat → Res (Act × St)

noncomputable def guardK (oc : OperC) (dst : Option Tmp) (R : Task → St → Run) (ro : Option Nat) (a : Act) (σ : St) (id : Nat) : Option Bool → Res (Act × St)
  | some true => (oc.f R ro a σ id).bind (dstK dst)
  | some false => putK σ (a.put dst undefV)
  | none => .fail "guard"

noncomputable def guardC (oc : OperC) (dst : Option Tmp) (want : Bool) : Option Tmp → StepC
  | some d => ⟨fun R ro a σ id => guardK oc dst R ro a σ id (gateV want (a.tmps.get d))⟩
  | none => ⟨fun _ _ a σ _ => putK σ (a.put dst undefV)⟩

noncomputable def stepC (P : Program) (ops : List Oper) (o : Oper) : StepC :=
  match o.guard with
  | none => ⟨fun R ro a σ id => ((operC P o.op).f R ro a σ id).bind (dstK o.dst)⟩
  | some (j, want) => guardC (operC P o.op) o.dst want (guardSlot ops j)

/-! ### Regions -/
structure CodeC where
  f : (Task → St → Run) → Option Nat → Act → St → Run

noncomputable def pairK (k : Act → St → Run) : Act × St → Run
  | (a, σ) => k a σ

/-- One operation behind the other, each with the next free number. -/
noncomputable def opsC (P : Program) (ops : List Oper) (l : List Oper) : CodeC :=
  List.rec (motive := fun _ => CodeC) ⟨fun _ _ a σ => .ok (.exit .normal a, σ)⟩
    (fun o _ ih => ⟨fun R ro a σ => ((stepC P ops o).f R ro a σ σ.next).bind (pairK (ih.f R ro))⟩) l

/-- Its guard holds it off. -/
noncomputable def offG (ops : List Oper) (o : Oper) (a : Act) : Bool :=
  match o.guard with
  | none => false
  | some (j, want) => match guardSlot ops j with
    | none => true
    | some d => match gateV want (a.tmps.get d) with
      | some false => true
      | _ => false
noncomputable def loadsSame (P : Program) (off : Bool) (back : Nat) (snaps : List St) (a : Act) (v : Option V) : Op → Bool
  | .load t x => match off with
    | true => Nat.ble (Nat.succ back) (len snaps)
    | false => match a.eval x, v with
      | some (.eptr _ _), some _ => Nat.ble (Nat.succ back) (len snaps)
      | some p, some u => sameIn P t p u back (dropOf 1 snaps)
      | _, _ => false
  | .convert s d x => match convT P s d with
    | false => true
    | true => match Nat.ble (Nat.succ back) (len snaps) with
      | false => false
      | true => match off with
        | true => true
        | false => match a.eval x with
          | some (.lst _ _ _) => true
          | _ => false
  | _ => true

noncomputable def snapsOf (eff : Bool) (σ : St) (snaps : List St) : List St :=
  match eff with
  | true => σ :: snaps
  | false => snaps

/-- An operation in a region that draws: the load that may come ahead of a write is held against the states ahead of it. -/
noncomputable def slotOf (a : Act) : Option Tmp → Option V
  | some d => a.tmps.get d
  | none => none

noncomputable def drawnK (P : Program) (ops : List Oper) (o : Oper) (back : Nat) (a₀ : Act) (snaps : List St) (k : List St → Act → St → Run) : Act × St → Run
  | (a, σ) => match Nat.beq back 0 || loadsSame P (offG ops o a₀) back snaps a₀ (slotOf a o.dst) o.op with
    | true => k (snapsOf (effectOp o.op) σ snaps) a σ
    | false => .fail "a load and a write, in either order"

structure DrawnC where
  f : (Task → St → Run) → Option Nat → Nat → List St → Act → St → Run

noncomputable def drawnItem (P : Program) (ops : List Oper) (it : Item) (k : DrawnC) : Option Oper → DrawnC
  | some o => ⟨fun R ro base snaps a σ => ((stepC P ops o).f R ro a σ (Nat.add base it.i)).bind (drawnK P ops o it.back a snaps (k.f R ro base))⟩
  | none => ⟨fun _ _ _ _ _ _ => .fail "drawn"⟩

noncomputable def drawnC (P : Program) (ops : List Oper) (l : List Item) : DrawnC :=
  List.rec (motive := fun _ => DrawnC) ⟨fun _ _ _ _ a σ => .ok (.exit .normal a, σ)⟩ (fun it _ ih => drawnItem P ops it ih (nth ops it.i)) l

noncomputable def ahead (n : Nat) : St → St
  | ⟨h, m⟩ => ⟨h, Nat.add m n⟩

noncomputable def regionC (P : Program) (ops : List Oper) (draw : Bool) : CodeC :=
  match draw with
  | false => opsC P ops ops
  | true => match planOf P ops with
    | some l => ⟨fun R ro a σ => (drawnC P ops l).f R ro σ.next [ahead (len ops) σ] a (ahead (len ops) σ)⟩
    | none => ⟨fun _ _ _ _ => .fail "plan"⟩

/-! ### Code -/
noncomputable def seqK (k : Act → St → Run) : Out × St → Run
  | (.exit .normal a, σ) => k a σ
  | r => .ok r

def blockK (id : Nat) : Out × St → Run
  | (.exit (.exit i) a, σ) => .ok (.exit (if i = id then .normal else .exit i) a, σ)
  | r => .ok r

noncomputable def scopeK (R : Task → St → Run) (ro : Option Nat) (fn : FuncId) (x : Code) : Out × St → Run
  | (.exit (.goto l) a, σ) => match findLabel x l with
    | some rest => R (.inScope ro fn x rest a) σ
    | none => .ok (.exit (.goto l) a, σ)
  | r => .ok r

noncomputable def condK (y z : Act → St → Run) (a : Act) (σ : St) : Option V → Run
  | some (.bool true) => y a σ
  | some (.bool false) => z a σ
  | _ => .fail "cond"

noncomputable def rangeJump (R : Task → St → Run) (ro : Option Nat) (fn : FuncId) (a : Act) (σ : St) : Option Code → Run
  | none => .ok (.exit .normal a, σ)
  | some c => R (.code ro fn c a) σ

noncomputable def rangeEnd (R : Task → St → Run) (ro : Option Nat) (fn : FuncId) (a : Act) (l : Nat) (σ : St) : Option Blk → Run
  | some (.loop .busy ..) => .fail "rangeFunc: busy"
  | some (.loop _ jump fn' tmps size ps as bo d) => rangeJump R ro fn a ((σ.set l (.loop .exhausted jump fn' tmps size ps as bo d)).kill l) jump
  | _ => .fail "rangeFunc: no loop"

noncomputable def rangeK (R : Task → St → Run) (ro : Option Nat) (fn : FuncId) (a : Act) (l : Nat) : Out × St → Run
  | (.val _, σ) => rangeEnd R ro fn a l σ (σ.heap.get l)
  | _ => .fail "rangeFunc"

/-- The block of a round's deferred calls: a new one, or the outer loop's. -/
noncomputable def rangeMark (ro : Option Nat) (a : Act) (σ : St) : Option (Nat × St × Act) :=
  match ro with
  | none => match a with | ⟨t, s, ds⟩ => some (σ.next, σ.new σ.next .deferred, ⟨t, s, (none, σ.next, []) :: ds⟩)
  | some l => match σ.heap.get l with
    | some (.loop _ _ _ _ _ _ _ _ d) => some (d, σ, a)
    | _ => none

noncomputable def rangeCall (R : Task → St → Run) (ro : Option Nat) (fn : FuncId) (a : Act) (params : List Tmp) (assign body : Code) (g : FuncId) (first captured : List V) : Option (Nat × St × Act) → Run
  | some (d, σ, a₁) => (R (.call g (app first (app [.func (.yield σ.next) [] []] captured)))
      (σ.new σ.next (.loop .ready none fn a.tmps a.size params assign body d))).bind (rangeK R ro fn a₁ σ.next)
  | none => .fail "rangeFunc"

noncomputable def rangeFuncK (R : Task → St → Run) (ro : Option Nat) (fn : FuncId) (a : Act) (σ : St) (params : List Tmp) (assign body : Code) : Option V → Run
  | some (.func (.func g) first captured) => rangeCall R ro fn a params assign body g first captured (rangeMark ro a σ)
  | _ => .fail "rangeFunc operand"

noncomputable def codeC (P : Program) (fn : FuncId) : Code → CodeC
  | .skip => ⟨fun _ _ a σ => .ok (.exit .normal a, σ)⟩
  | .label _ => ⟨fun _ _ a σ => .ok (.exit .normal a, σ)⟩
  | .seq x y => ⟨fun R ro a σ => ((codeC P fn x).f R ro a σ).bind (seqK ((codeC P fn y).f R ro))⟩
  | .cond x y z => ⟨fun R ro a σ => condK ((codeC P fn y).f R ro) ((codeC P fn z).f R ro) a σ (a.eval x)⟩
  | .block id x => ⟨fun R ro a σ => ((codeC P fn x).f R ro a σ).bind (blockK id)⟩
  | .loop x => ⟨fun R ro a σ => R (.code ro fn (.loop x) a) σ⟩
  | .exit id => ⟨fun _ _ a σ => .ok (.exit (.exit id) a, σ)⟩
  | .goto l => ⟨fun _ _ a σ => .ok (.exit (.goto l) a, σ)⟩
  | .ret => ⟨fun _ _ a σ => .ok (.exit .ret a, σ)⟩
  | .region _ ops draw => regionC P ops.toList draw
  | .rangeFunc f params assign body => ⟨fun R ro a σ => rangeFuncK R ro fn a σ params.toList assign body (a.eval f)⟩
  | .scope x => ⟨fun R ro a σ => R (.inScope ro fn x x a) σ⟩
  | .refuse _ => ⟨fun _ _ _ _ => .fail "refuse"⟩

/-! ### Calls -/
noncomputable def leaveK (R : Task → St → Run) (fn : Func) : Out × St → Run
  | (.exit .normal a, σ) => R (.leave fn a) σ
  | (.exit .ret a, σ) => R (.leave fn a) σ
  | _ => .fail "call: left by a jump"

noncomputable def leaveBare (R : Task → St → Run) (fn : Func) (a : Act) (σ : St) : Run :=
  match a.defers with
  | [] => R (.leave fn a) σ
  | _ => .fail "deferred: defers"

noncomputable def deferredK (R : Task → St → Run) (fn : Func) : Out × St → Run
  | (.exit .normal a, σ) => leaveBare R fn a σ
  | (.exit .ret a, σ) => leaveBare R fn a σ
  | _ => .fail "deferred: left by a jump"

noncomputable def callBody (R : Task → St → Run) (f : FuncId) (fn : Func) (args : List V) (σ : St) (K : Out × St → Run) : Option Code → Run
  | some c => match fn.name == "runtime.NumGoroutine" with
    | true => .fail "NumGoroutine"
    | false => (R (.code none f c (actOf fn.ntmps args)) σ).bind K
  | none => .fail ("no body: " ++ fn.name)

noncomputable def stepCallF (R : Task → St → Run) (f : FuncId) (args : List V) (σ : St) : Option Func → Run
  | some fn => callBody R f fn args σ (leaveK R fn) fn.body
  | none => .fail "no function"

noncomputable def stepDeferredF (R : Task → St → Run) (f : FuncId) (args : List V) (σ : St) : Option Func → Run
  | some fn => callBody R f fn args σ (deferredK R fn) fn.body
  | none => .fail "no function"

def dropDefers (a : Act) (r : List (Option (Fn × List V) × Nat × List V)) : Act := match a with | ⟨t, s, _⟩ => ⟨t, s, r⟩

noncomputable def leaveNext (R : Task → St → Run) (fn : Func) (a : Act) : Out × St → Run
  | (.val _, σ) => R (.leave fn a) σ
  | _ => .fail "leave"

noncomputable def leaveMark (R : Task → St → Run) (fn : Func) (a : Act) (d : Nat) (σ : St) : Option Blk → Run
  | some .deferred => R (.leave fn a) (σ.kill d)
  | _ => .fail "leave: mark"

noncomputable def resultK (σ : St) : Option (List V) → Run
  | some l => .ok (.val (oneOrTuple l), σ)
  | none => .fail "results"

noncomputable def stepLeave (P : Program) (R : Task → St → Run) (fn : Func) (a : Act) (σ : St) : List (Option (Fn × List V) × Nat × List V) → Run
  | [] => resultK σ (resultsV P a σ fn.results.toList)
  | (none, d, _) :: r => leaveMark R fn (dropDefers a r) d σ (σ.heap.get d)
  | (some (.func g, captured), _, vs) :: r => (R (.deferred g (app vs captured)) σ).bind (leaveNext R fn (dropDefers a r))
  | _ => .fail "leave: target"

noncomputable def stepApply (R : Task → St → Run) (vs : List V) (σ : St) : V → Run
  | .func (.func g) first captured => R (.call g (app first (app vs captured))) σ
  | .func (.yield l) first _ => R (.round l (app first vs)) σ
  | _ => .fail "apply"

/-! ### A round -/
noncomputable def roundEnd (l : Nat) (e : Ex) (σ : St) : Option Blk → Run
  | some (.loop _ _ fn t s ps as bo d) => match jumpOf e with
    | none => .ok (.val (.bool true), σ.set l (.loop .ready none fn t s ps as bo d))
    | some c => .ok (.val (.bool false), σ.set l (.loop .done (some c) fn t s ps as bo d))
  | _ => .fail "round"

noncomputable def roundK (l : Nat) : Out × St → Run
  | (.exit e _, σ) => roundEnd l e σ (σ.heap.get l)
  | _ => .fail "round"

noncomputable def roundBody (R : Task → St → Run) (l : Nat) (fn : FuncId) (body : Code) (a : Act) (σ : St) : Option Blk → Run
  | some (.loop .ready p fn' t s ps as bo d) => match a.defers with
    | [] => (R (.code (some l) fn body a) (σ.set l (.loop .busy p fn' t s ps as bo d))).bind (roundK l)
    | _ => .fail "round: defers"
  | _ => .fail "round: not ready"

noncomputable def roundAssign (R : Task → St → Run) (l : Nat) (fn : FuncId) (body : Code) : Out × St → Run
  | (.exit .normal a, σ) => roundBody R l fn body a σ (σ.heap.get l)
  | _ => .fail "round: assign"

noncomputable def roundTmps (R : Task → St → Run) (l : Nat) (fn : FuncId) (size : Nat) (assign body : Code) (σ : St) : Option (Slots V) → Run
  | some tmps => (R (.code (some l) fn assign { tmps, size, defers := [] }) σ).bind (roundAssign R l fn body)
  | none => .fail "round: parameters"

noncomputable def stepRound (R : Task → St → Run) (l : Nat) (args : List V) (σ : St) : Option Blk → Run
  | some (.loop _ _ fn tmps size params assign body _) => roundTmps R l fn size assign body σ (setParams tmps size params args)
  | _ => .fail "round: no loop"

/-- Code; of a loop: a round, and the loop again. -/
noncomputable def stepCode (P : Program) (R : Task → St → Run) (ro : Option Nat) (fn : FuncId) (a : Act) (σ : St) : Code → Run
  | .loop x => ((codeC P fn x).f R ro a σ).bind (seqK fun a σ => R (.code ro fn (.loop x) a) σ)
  | c => (codeC P fn c).f R ro a σ

noncomputable def step (P : Program) (R : Task → St → Run) (t : Task) (σ : St) : Run :=
  match t with
  | .code ro fn c a => stepCode P R ro fn a σ c
  | .inScope ro fn x cur a => ((codeC P fn cur).f R ro a σ).bind (scopeK R ro fn x)
  | .call f args => stepCallF R f args σ P.funcs[f]?
  | .deferred f args => stepDeferredF R f args σ P.funcs[f]?
  | .leave fn a => stepLeave P R fn a σ a.defers
  | .apply f vs => stepApply R vs σ f
  | .round l args => stepRound R l args σ (σ.heap.get l)

/-- What a task comes to, in at most so many steps one below the other. -/
noncomputable def run (P : Program) (n : Nat) : Task → St → Run :=
  Nat.rec (motive := fun _ => Task → St → Run) (fun _ _ => .fail "fuel") (fun _ ih => step P ih) n

end Go.Ev
