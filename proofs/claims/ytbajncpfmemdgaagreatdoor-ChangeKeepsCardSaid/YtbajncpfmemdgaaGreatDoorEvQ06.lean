/- Proved: parts of the way: Reg, DrawA. -/
import Derived.Test.YtbajncpfmemdgaaGreatDoorEvQ05
import Derived.OrdersIn
import Derived.KernelRfl
set_option linter.unusedVariables false
set_option linter.unusedSimpArgs false
section
namespace Go.Ev
open Go
def fN (ρ:Ren) (ro:Option Nat) (F:Fence):Prop:=
 match ro with
 | none=>F=Fence.wide
 | some l=>∃k,ρ l=some k∧F=Fence.wide.inRound k.c
theorem fN.mono {ρ ρ':Ren} (ea:ρ.le ρ') {ro:Option Nat} {F:Fence} (h:fN ρ ro F):fN ρ' ro F:=by
 cases ro with
 | none=>exact h
 | some l=>obtain⟨k,hk,hF⟩:=h;exact⟨k,ea _ _ hk,hF⟩
theorem fN.fn {ρ:Ren} {ro:Option Nat} {F:Fence} (h:fN ρ ro F) (f:FuncId):F.fn f:=by
 cases ro with
 | none=>cases h;trivial
 | some l=>obtain⟨k,_,rfl⟩:=h;trivial
theorem fN.depth {ρ:Ren} {ro:Option Nat} {F:Fence} (h:fN ρ ro F) (n:Nat):F.depth.isSome=true→1≤n:=by
 cases ro with
 | none=>cases h;intro h;cases h
 | some l=>obtain⟨k,_,rfl⟩:=h;intro h;cases h
theorem fN.calls {ρ:Ren} {ro:Option Nat} {F:Fence} (h:fN ρ ro F) {n:Nat} {P:Program} {f:FuncId} {args:Array Value} {w:World} {Q:Ending→World→Prop}
  (hc:CallsIn Fence.wide n P f args w Q):CallsIn F n P f args w Q:=by
 cases ro with
 | none=>cases h;exact hc
 | some l=>obtain⟨k,_,rfl⟩:=h;exact hc
theorem fN.rounds {ρ:Ren} {ro:Option Nat} {F:Fence} (h:fN ρ ro F) {n:Nat} {P:Program} {l:Nat} {f:FuncId} {tmps:Array Value} {aef bo:Code} {w:World} {Q:Ending→World→Prop}
  (hc:RoundIn Fence.wide n P l f tmps aef bo w Q):RoundIn F n P l f tmps aef bo w Q:=by
 cases ro with
 | none=>cases h;exact hc
 | some l=>obtain⟨k,_,rfl⟩:=h;exact hc
def qO:Ex→Exit
 | .normal=>.normal
 | .exit i=>.exit i
 | .goto l=>.goto l
 | .ret=>.ret
def pw:Nat→Prop:=fun _=>False
def bJ [Env] (p:Out×St→Prop) (ρ:Ren) (σ:St) (w:World):Exit→Go.Act→World→Prop:=
 fun e a' w'=>∃x a σ' ρ',p (.exit x a,σ')∧e=qO x∧bC ρ' a a'∧bf pw ρ σ w ρ' σ' w'
def cE [Env] (p:Out×St→Prop) (ρ:Ren) (σ:St) (w:World):Ending→World→Prop:=
 fun e w'=>∃v σ' ρ' v',p (.val v,σ')∧e=.returned v'∧aq ρ' v v'∧bf pw ρ σ w ρ' σ' w'
def Enters (P:Program) (d:Deferred) (w:World) (Q:Ending→World→Prop):Prop:=
 (∃f args,(invoke d.target d.args).run P w=.ok (.enter f args) w∧CallsIn Fence.wide 0 P f args w Q)∨
 (∃l f tmps aef bo,(invoke d.target d.args).run P w=.ok (.round l f tmps aef bo) w∧RoundIn Fence.wide 0 P l f tmps aef bo w Q)
def lf (F:Fence) (P:Program) (x cur:Code) (Q:Exit→Go.Act→World→Prop) (a:Go.Act) (w:World):Prop:=
 ∀(b:Frame) (k:List Go.Item) (cs:List Frame),b.roundOf=F.round→F.fn b.fn→F.room (cs.length+1+0)→
  ∃e a' w',Q e a' w'∧ArrivesIn (Machine.fenced P F) P (lone (b.atR a (.code cur::.inScope x::k)) cs w) b k cs e a' w'
def jD (F:Fence) (P:Program) (x:Code) (Q:Exit→Go.Act→World→Prop) (a:Go.Act) (w:World):Prop:=
 ∀(b:Frame) (k:List Go.Item) (cs:List Frame),b.roundOf=F.round→F.fn b.fn→F.room (cs.length+1+0)→
  ∃e a' w',Q e a' w'∧ArrivesIn (Machine.fenced P F) P (lone (b.atR a (.inLoop x::k)) cs w) b k cs e a' w'
theorem jD.mono {F:Fence} {P:Program} {x:Code} {Q Q':Exit→Go.Act→World→Prop} {a:Go.Act} {w:World} (h:jD F P x Q a w) (hq:∀e a w,Q e a w→Q' e a w):jD F P x Q' a w:=
 fun b k cs gM hb hr=>let ⟨e,a',w',q,r⟩:=h b k cs gM hb hr;⟨e,a',w',hq _ _ _ q,r⟩
theorem lf.mono {F:Fence} {P:Program} {x cur:Code} {Q Q':Exit→Go.Act→World→Prop} {a:Go.Act} {w:World} (h:lf F P x cur Q a w) (hq:∀e a w,Q e a w→Q' e a w):lf F P x cur Q' a w:=
 fun b k cs gM hb hr=>let ⟨e,a',w',q,r⟩:=h b k cs gM hb hr;⟨e,a',w',hq _ _ _ q,r⟩
structure Good [Env] (P:Program) (Rn:Task→St→Run):Prop where
 code:∀ {ro:Option Nat} {fn:FuncId} {c:Code} {a:Act} {σ:St} {p:Out×St→Prop},(Rn (.code ro fn c a) σ).Holds p→
  ∀ {ρ:Ren} {w:World} {a':Go.Act} {F:Fence},R ρ σ w→bC ρ a a'→fN ρ ro F→c.wpIn F 0 P (bJ p ρ σ w) a' w
 loop:∀ {ro:Option Nat} {fn:FuncId} {x:Code} {a:Act} {σ:St} {p:Out×St→Prop},(Rn (.code ro fn (.loop x) a) σ).Holds p→
  ∀ {ρ:Ren} {w:World} {a':Go.Act} {F:Fence},R ρ σ w→bC ρ a a'→fN ρ ro F→jD F P x (bJ p ρ σ w) a' w
 inScope:∀ {ro:Option Nat} {fn:FuncId} {x cur:Code} {a:Act} {σ:St} {p:Out×St→Prop},(Rn (.inScope ro fn x cur a) σ).Holds p→
  ∀ {ρ:Ren} {w:World} {a':Go.Act} {F:Fence},R ρ σ w→bC ρ a a'→fN ρ ro F→lf F P x cur (bJ p ρ σ w) a' w
 call:∀ {f:FuncId} {vs:List V} {σ:St} {p:Out×St→Prop},(Rn (.call f vs) σ).Holds p→
  ∀ {ρ:Ren} {w:World} {vs':List Value},R ρ σ w→au ρ vs vs'→(callFunc f ⟨vs'⟩).run P w=.ok (.enter f ⟨vs'⟩) w∧CallsIn Fence.wide 0 P f ⟨vs'⟩ w (cE p ρ σ w)
 deferred:∀ {f:FuncId} {vs:List V} {σ:St} {p:Out×St→Prop},(Rn (.deferred f vs) σ).Holds p→
  ∀ {ρ:Ren} {w:World} {vs':List Value},R ρ σ w→au ρ vs vs'→(callFunc f ⟨vs'⟩).run P w=.ok (.enter f ⟨vs'⟩) w∧
   ∀u,CallsDIn Fence.wide 0 P f ⟨vs'⟩ u w (fun e u' w'=>u'=u∧cE p ρ σ w e w')
 leave:∀ {fn:Func} {a:Act} {σ:St} {p:Out×St→Prop},(Rn (.leave fn a) σ).Holds p→
  ∀ {ρ:Ren} {w:World} {a':Go.Act},R ρ σ w→bC ρ a a'→LeavesInM Fence.wide 0 P fn a'.tmps (cE p ρ σ w) a'.defers .returning w
 apply:∀ {f:V} {vs:List V} {σ:St} {p:Out×St→Prop},(Rn (.apply f vs) σ).Holds p→
  ∀ {ρ:Ren} {w:World} {f':Value} {vs':List Value},R ρ σ w→aq ρ f f'→au ρ vs vs'→∃d,(Deferred.ofValue f' ⟨vs'⟩).run P w=.ok d w∧Enters P d w (cE p ρ σ w)
 round:∀ {l:Nat} {vs:List V} {σ:St} {p:Out×St→Prop},(Rn (.round l vs) σ).Holds p→
  ∀ {ρ:Ren} {w:World} {k:Loc} {vs':List Value},R ρ σ w→ρ l=some k→au ρ vs vs'→
   ∃g tmps aef bo,(Instr.yield k.c ⟨vs'⟩).run P w=.ok (.round k.c g tmps aef bo) w∧RoundIn Fence.wide 0 P k.c g tmps aef bo w (cE p ρ σ w)
section
variable {P:Program} {ρ:Ren} {σ:St} {w:World} {id:Nat} {Rn:Task→St→Run} {F:Fence} {ro:Option Nat}
theorem cE.mono [Env] {p q:Out×St→Prop} {e:Ending} {w':World} (h:cE p ρ σ w e w') (hp:∀x,p x→q x):cE q ρ σ w e w':=by
 obtain⟨v,σ',ρ',v',h1,h2⟩:=h
 exact⟨v,σ',ρ',v',hp _ h1,h2⟩
theorem bJ.mono [Env] {p q:Out×St→Prop} {e:Exit} {a':Go.Act} {w':World} (h:bJ p ρ σ w e a' w') (hp:∀x,p x→q x):bJ q ρ σ w e a' w':=by
 obtain⟨x,a,σ',ρ',h1,h2⟩:=h
 exact⟨x,a,σ',ρ',hp _ h1,h2⟩
theorem tt {t:TypeId} {b:Bool} (h:wS P t=some b):∃d,P.underlying t=some d∧(b=true→∃e,d=.pointer e)∧(b=false→∀e,d≠.pointer e):=by
 unfold wS at h
 split at h
 ·rename_i e hu;cases h;exact⟨_,hu,fun _=>⟨e,rfl⟩,fun h=>by cases h⟩
 ·rename_i d hn hu
  cases h
  exact⟨d,hu,fun h=>(by cases h),fun _ e he=>hn e he⟩
 ·cases h
theorem DX [Env] {t:TypeId} {v recv:V} {name:String} {f:FuncId} (h:ot P t v name=some (f,recv)) {v':Value} (hv:aq ρ v v') (w:World):
  ∃recv',(method (P.types.size+Made.depth) t v' name).run P w=.ok (f,recv') w∧aq ρ recv recv':=by
 unfold ot at h
 rw[Option.bind_eq_some_iff] at h
 obtain⟨m,hm,h⟩:=h
 rw[Option.bind_eq_some_iff] at hm
 obtain⟨i,hi,hm⟩:=hm
 have hd:P.types.size+Made.depth=(P.types.size+(Made.depth-1))+1:=by
  have:0<Made.depth:=by decide
  omega
 rw[hd]
 unfold methodOf at h
 split at h
 ·rename_i hp
  have JR:m.path.toList=[]:=by simpa using hp
  split at h
  ·rename_i g hf qH
   cases h
   obtain⟨d,hu,h1,_⟩:=tt qH
   obtain⟨e,rfl⟩:=h1 rfl
   refine⟨v',?_,hv⟩
   simp only[method,Sem.run_bind,run_typeInfo hi,Result.andThen_ok,hm,JR,follow,Sem.run_pure,hf,receiverAt,run_underlying hu,Place.get]
  ·rename_i g hf qH
   cases h
   obtain⟨d,hu,_,h2⟩:=tt qH
   refine⟨v',?_,hv⟩
   simp only[method,Sem.run_bind,run_typeInfo hi,Result.andThen_ok,hm,JR,follow,Sem.run_pure,hf,receiverAt,run_underlying hu]
   cases d<;>first
    | exact absurd rfl (h2 rfl _)
    | simp only[Place.get,Sem.run_pure,Result.andThen_ok]
  ·cases h
 ·cases h
theorem DY [Env] {b:Builtin} {tys:Array TypeId} {ty:TypeId} {consts:Array Bool} {args:List V} {v:V} {σ':St} (hr:R ρ σ w) (cq:ρ id=none)
  (h:gk P σ id b tys.toList args=some (v,σ')) {OC:List Value} (ha:au ρ args OC):
  ∃ρ' v' w',(builtin b tys ty consts ⟨OC⟩).run P w=.ok (.value v') w'∧aq ρ' v v'∧bf (fun b=>b=id) ρ σ w ρ' σ' w':=by
 unfold gk at h
 split at h
 ·rename_i t l x yZ
  have ht:tys[0]? =some t:=by rw[←Array.getElem?_toList,yZ];rfl
  rw[Option.map_eq_some_iff] at h
  obtain⟨u,hu,he⟩:=h
  cases he
  cases ha with
  | cons hx hl=>
   cases hl
   obtain⟨v',aI,hv⟩:=PJ (P:=P) (ty:=ty) hr ht hu hx
   exact⟨ρ,v',w,by simp [builtin,aI],hv,bf.refl hr⟩
 ·rename_i t t' l s x yZ
  have ht:tys[0]? =some t:=by rw[←Array.getElem?_toList,yZ];rfl
  have e8:tys[1]? =some t':=by rw[←Array.getElem?_toList,yZ];rfl
  split at h
  ·cases ha with
   | cons hs hl=>
    cases hl with
    | cons hx hl=>
     cases hl
     obtain⟨ρ',v',w',aI,hv,az⟩:=BM (P:=P) (ty:=ty) hr cq ht e8 h hs hx
     exact⟨ρ',v',w',by simp [builtin,aI],hv,az⟩
  ·rename_i nN
   cases ha with
   | cons hs hl=>
    cases hl with
    | cons hx hl=>
     cases hl
     obtain⟨ρ',v',w',aI,hv,az⟩:=DW (P:=P) (ty:=ty) hr cq ht e8 nN h hs hx
     exact⟨ρ',v',w',by simp [builtin,aI],hv,az⟩
 ·cases h
  cases ha with
  | cons hx hl=>
   cases hl with
   | cons hy hl=>
    cases hl;cases hx;cases hy
    exact⟨ρ,_,w,by simp [builtin,Builtin.max_,Builtin.max2],.int _ _,bf.refl hr⟩
 ·cases h
  cases ha with
  | cons hx hl=>
   cases hl with
   | cons hy hl=>
    cases hl;cases hx;cases hy
    exact⟨ρ,_,w,by simp [builtin,Builtin.min_,Builtin.min2],.int _ _,bf.refl hr⟩
 ·rename_i t l x yZ
  have ht:tys[0]? =some t:=by rw[←Array.getElem?_toList,yZ];rfl
  cases ha with
  | cons hx hl=>
   cases hl
   obtain⟨w',aI,rfl,az⟩:=JP (P:=P) (ty:=ty) (id:=id) hr ht h hx
   exact⟨ρ,_,w',by simp [builtin,aI],.tuple .nil,az⟩
 ·cases h
theorem bA.Holds.tu {α:Type} {fW:String} {p:α→Prop} {q:Prop} (h:(bA.fail fW:bA α).Holds p):q:=h.elim
theorem bJ.trans [Env] {p:Out×St→Prop} {ρ':Ren} {σ':St} {w' wb:World} {e:Exit} {a:Go.Act} (h:bf pw ρ σ w ρ' σ' w') (k:bJ p ρ' σ' w' e a wb):bJ p ρ σ w e a wb:=by
 obtain⟨x,b,τ,BR,h1,h2,h3,h4⟩:=k
 exact⟨x,b,τ,BR,h1,h2,h3,h.trans h4⟩
theorem cE.trans [Env] {p:Out×St→Prop} {ρ':Ren} {σ':St} {w' wb:World} {e:Ending} (h:bf pw ρ σ w ρ' σ' w') (k:cE p ρ' σ' w' e wb):cE p ρ σ w e wb:=by
 obtain⟨x,τ,BR,v',h1,h2,h3,h4⟩:=k
 exact⟨x,τ,BR,v',h1,h2,h3,h.trans h4⟩
theorem bf.nix [Env] {ids:Nat→Prop} {ρ':Ren} {σ':St} {w':World} (h:bf pw ρ σ w ρ' σ' w'):bf ids ρ σ w ρ' σ' w':=h.weaken fun _ h=>h.elim
theorem bA.Holds.of {α:Type} {fW:String} {x:Option α} {p:α→Prop} (h:(bA.of fW x).Holds p):∃a,x=some a∧p a:=by
 cases x with
 | none=>exact h.elim
 | some a=>exact⟨a,rfl,h⟩
theorem wg {a:Act} {q:V×Act×St→Prop} {x:Out×St} (h:(valOf a x).Holds q):∃v σ',x=(.val v,σ')∧q (v,a,σ'):=by
 obtain⟨o,σ'⟩:=x
 cases o with
 | exit e a=>exact h.elim
 | val v=>exact⟨v,σ',rfl,h⟩
theorem pZ (o:Oper) {c:Call} (h:o.op=.call c) (e:Operand→Value):execOp e o=(do let d←resolve e c o.type;invoke d.target d.args):=by
 unfold execOp;rw[h]
def JS [Env] (id:Nat) (ρ:Ren) (σ:St) (w:World) (a':Go.Act) (o:Oper) (q:V×Act×St→Prop) (next:Go.Act→World→Prop):Prop:=
 ∀v aZ σ' ρ' v' Bg w',q (v,aZ,σ')→aq ρ' v v'→bC ρ' aZ Bg→Bg.tmps=a'.tmps→bf (fun b=>b=id) ρ σ w ρ' σ' w'→next (Bg.put o.dst v') w'
theorem Am {o:Op} (hc:∀c,o≠.call c) (hd:∀c,o≠.defer c):iI P o=BB (me P o):=by
 cases o<;>first
  | rfl
  | exact absurd rfl (hc _)
  | exact absurd rfl (hd _)
theorem qP [Env] {a:Act} {a':Go.Act} {o:Oper} {c:Call} {q:V×Act×St→Prop} {next:Go.Act→World→Prop} {Q:Exit→Go.Act→World→Prop} {d:Deferred} {pp:Out×St→Prop}
  (bt:fN ρ ro F) (ha:bC ρ a a') (bL:o.op=.call c) (ZJ:(resolve a'.eval c o.type).run P w=.ok d w) (he:Enters P d w (cE pp ρ σ w))
  (xR:∀x,pp x→((valOf a x).Holds q)) (hn:JS id ρ σ w a' o q next):o.wpIn F 0 P a' w next Q:=by
 refine⟨fun f _=>bt.fn f,?_⟩
 have hs:Oper.semAt F.round a'.eval o=execOp a'.eval o:=Oper.semAt_eq _ _ _ (fun c' h=>by rw[bL] at h;cases h)
 rw[hs,pZ o bL,Sem.run_bind,ZJ,Result.andThen_ok]
 have fin:∀ {e:Ending} {w':World},cE pp ρ σ w e w'→(match e with
   | .returned v=>next (a'.put o.dst v) w'
   | .panicked chain=>Q (.panic chain) a' w'
   | .outgrown=>LetsOut Q):=by
  intro e w' hv
  obtain⟨v,σ',ρ',v',hp,rfl,aO,az⟩:=hv
  obtain⟨u,τ,hx,hq⟩:=wg (xR _ hp)
  cases hx
  exact hn _ _ _ _ _ _ _ hq aO (ha.mono az.le) rfl az.nix
 rcases he with ⟨f,args,hinv,e9⟩ | ⟨l,f,tmps,aef,bo,hinv,R0⟩
 ·rw[hinv]
  exact⟨bt.depth 0,(bt.calls e9).mono fun e w' hv=>by have:=fin hv;cases e<;>exact this⟩
 ·rw[hinv]
  exact⟨bt.depth 0,(bt.rounds R0).mono fun e w' hv=>by have:=fin hv;cases e<;>exact this⟩
theorem Hj {fo:Operand} {e:Ext} (h:nU P fo=some e):∃f fn,fo=.func f∧P.funcs[f]? =some fn∧fn.body=none∧fn.origin= ""∧wQ fn.name=some e:=by
 unfold nU at h
 split at h
 ·rename_i f
  split at h
  ·rename_i fn hf
   split at h
   ·rename_i hb
    split at h
    ·rename_i ho
     exact⟨f,fn,rfl,hf,hb,by simpa using ho,h⟩
    ·cases h
   ·cases h
  ·cases h
 ·cases h
theorem mS {fn:Func} {n:String} {e:Array Value→Sem Value} (hn:fn.name=n) (h1:Extern.allGenericRows.lookup n=none) (h2:Extern.allTypedRows.lookup n=none) (h3:Extern.allRows.lookup n=some e):Extern.find fn=some e:=by
 unfold Extern.find
 rw[hn]
 simp only[h1,h2,h3]
 rfl
theorem mT {fn:Func} {n:String} (hn:fn.name=n) (ho:fn.origin= "") (h1:Extern.allNextRows.lookup n=none) (h2:Extern.allNextRows.lookup ""=none):Extern.findNext fn=none:=by
 unfold Extern.findNext
 rw[hn,ho]
 simp only[h1,h2]
 rfl
theorem n4:Extern.allNextRows.lookup ""=none:=by kernel_rfl
theorem rQ {f:FuncId} {fn:Func} {e:Array Value→Sem Value} (hf:P.funcs[f]? =some fn) (hb:fn.body=none) (eh:(fn.name== "runtime.NumGoroutine")=false) (hn:Extern.findNext fn=none) (he:Extern.find fn=some e)
  {args:Array Value} {v:Value} (hv:(e args).run P w=.ok v w):(callFunc f args).run P w=.ok (.value v) w:=by
 unfold callFunc
 have xS:(program).run P w=.ok P w:=rfl
 have hm:(mark (.extern f)).run P w=.ok () w:=rfl
 simp only[Sem.run_bind,xS,Result.andThen_ok,hf,eh,hb,hn,he,hm,hv,Bool.false_eq_true,if_false,Option.isNone_none,if_true]
 rfl
theorem PK [Env] {fo:Operand} {e:Ext} (h:nU P fo=some e) {vs:List V} {v:V} (hv:rv e vs=some v) {vs':List Value} (gO:au ρ vs vs'):
  ∃f v',fo=.func f∧(callFunc f ⟨vs'⟩).run P w=.ok (.value v') w∧aq ρ v v':=by
 obtain⟨f,fn,rfl,hf,hb,ho,hn⟩:=Hj h
 refine⟨f,?_⟩
 unfold wQ at hn
 split at hn
 ·rename_i eh
  have eh:fn.name= "math.Float64frombits":=by simpa using eh
  cases hn
  unfold rv at hv
  split at hv<;>try (rename_i hx;cases hx;done)
  all_goals try (cases hv;done)
  cases hv
  cases gO;rename_i hx hl;cases hx;cases hl
  exact⟨_,rfl,rQ hf hb (by rw[eh];rfl) (mT eh ho (by kernel_rfl) n4) (mS eh (by kernel_rfl) (by kernel_rfl) (e:=Extern.MathFloatBits.float64frombits) (by kernel_rfl)) rfl,.dM _ _⟩
 ·split at hn
  ·rename_i eh
   have eh:fn.name= "math.Float64bits":=by simpa using eh
   cases hn
   unfold rv at hv
   split at hv<;>try (rename_i hx;cases hx;done)
   all_goals try (cases hv;done)
   cases hv
   cases gO;rename_i hx hl;cases hx;cases hl
   exact⟨_,rfl,rQ hf hb (by rw[eh];rfl) (mT eh ho (by kernel_rfl) n4) (mS eh (by kernel_rfl) (by kernel_rfl) (e:=Extern.MathFloatBits.float64bits) (by kernel_rfl)) rfl,.int _ _⟩
  ·split at hn
   ·rename_i eh
    have eh:fn.name= "internal/bytealg.abigen_runtime_cmpstring":=by simpa using eh
    cases hn
    unfold rv at hv
    split at hv<;>try (rename_i hx;cases hx;done)
    all_goals try (cases hv;done)
    cases hv
    cases gO;rename_i hx hl;cases hl;rename_i hy hl;cases hx;cases hy;cases hl
    exact⟨_,rfl,rQ hf hb (by rw[eh];rfl) (mT eh ho (by kernel_rfl) n4) (mS eh (by kernel_rfl) (by kernel_rfl) (e:=Extern.BytealgCompare.compare) (by kernel_rfl)) (Lib.run_compareString _ _ w),.int _ _⟩
   ·split at hn
    ·rename_i eh
     have eh:fn.name= "math.archTrunc":=by simpa using eh
     cases hn
     unfold rv at hv
     split at hv<;>try (rename_i hx;cases hx;done)
     all_goals try (cases hv;done)
     split at hv
     ·cases hv
     ·rename_i ZK
      cases hv
      cases gO;rename_i hx hl;cases hx;cases hl
      refine⟨_,rfl,rQ hf hb (by rw[eh];rfl) (mT eh ho (by kernel_rfl) n4) (mS eh (by kernel_rfl) (by kernel_rfl) (e:=Extern.MathFloor.toIntegral "math.archTrunc" .zero) (by kernel_rfl)) ?_,.dM _ _⟩
      rename_i b _
      show(match FloatKind.f64.decode b with
       | .nan s t=>
        if FloatKind.f64.format.quiet t=t then pure (.float .f64 b) else do
        let kept←choose (.extern "math.Floor,Ceil,Trunc,RoundToEven.signallingNaN kept" 2)
        pure (.float .f64 (if kept==1 then b else FloatKind.f64.encode (.nan s (FloatKind.f64.format.quiet t))))
       | d=>pure (.float .f64 (FloatKind.f64.encode (d.integral .zero))):Sem Value).run P w=.ok (.float .f64 (ia b)) w
      unfold ia
      revert ZK
      cases FloatKind.f64.decode b with
      | nan s t=>exact fun h=>(h rfl).elim
      | infinity s=>exact fun _=>rfl
      | number s m e=>exact fun _=>rfl
    ·cases hn
theorem DZ [Env] (hg:Good P Rn) (hr:R ρ σ w) (cq:ρ id=none) {a:Act} {a':Go.Act} (ha:bC ρ a a') (bt:fN ρ ro F) (o:Oper) {q:V×Act×St→Prop}
  (h:((iI P o.op).f Rn ro a σ id).Holds q) {next:Go.Act→World→Prop} {Q:Exit→Go.Act→World→Prop} (hn:JS id ρ σ w a' o q next):o.wpIn F 0 P a' w next Q:=by
 by_cases e9:∃c,o.op=.call c
 ·obtain⟨c,bL⟩:=e9
  rw[bL] at h
  have h':((u6 P c).f Rn ro a σ id).Holds q:=h
  unfold u6 at h'
  split at h'
  ·rename_i fo Ez
   split at h'
   ·rename_i e he
    dsimp only at h'
    have h':=h'.bind
    cases gO:a.bO c.args.toList with
    | none=>rw[gO] at h';exact h'.elim
    | some vs=>
     rw[gO] at h'
     obtain⟨v,aU,hq⟩:∃v,rv e vs=some v∧q (v,a,σ):=by
      revert h'
      show(aJ σ "extern" (rv e vs)).Holds _→_
      cases rv e vs with
      | none=>exact fun h=>h.elim
      | some v=>exact fun h=>⟨v,rfl,h⟩
     obtain⟨f,v',OA,JT,aO⟩:=PK (w:=w) he aU (ha.bO _ gO)
     refine⟨fun f _=>bt.fn f,?_⟩
     have hs:Oper.semAt F.round a'.eval o=execOp a'.eval o:=Oper.semAt_eq _ _ _ (fun c' h=>by rw[bL] at h;cases h)
     have xI:(execOp a'.eval o).run P w=.ok (.value v') w:=by
      rw[pZ o bL]
      unfold resolve
      rw[Ez,OA]
      dsimp only
      rw[show c.args.map a'.eval=⟨c.args.toList.map a'.eval⟩ from Array.ext' (by simp)]
      show(callFunc f ((#[]++⟨c.args.toList.map a'.eval⟩:Array Value)++#[])).run P w=_
      rw[Array.append_empty,Array.empty_append]
      exact JT
     rw[hs,xI]
     exact hn _ _ _ _ _ _ _ hq aO ha rfl (bf.refl hr)
   dsimp only at h'
   unfold np at h'
   split at h'
   ·rename_i fv vs hf gO
    have h':=h'.bind
    obtain⟨d,hd,he⟩:=hg.apply h' hr (ha.eval fo hf) (ha.bO _ gO)
    refine qP bt ha bL (d:=d) ?_ he (fun _ h=>h) hn
    unfold resolve
    rw[Ez]
    dsimp only
    rw[show c.args.map a'.eval=⟨c.args.toList.map a'.eval⟩ from Array.ext' (by simp)]
    exact hd
   ·exact h'.elim
  ·rename_i x name Ez
   dsimp only at h'
   unfold nY at h'
   split at h'
   ·rename_i t v vs hx gO
    unfold mP at h'
    split at h'
    ·rename_i f recv hm
     have h':=h'.bind
     have Yh:=ha.eval x hx
     obtain⟨v',aU,hvv⟩:∃v',a'.eval x=.iface t v'∧aq ρ v v':=by
      generalize a'.eval x=x' at Yh
      cases Yh with
      | iface h=>exact⟨_,rfl,h⟩
     obtain⟨recv',R1,dT⟩:=DX hm hvv w
     obtain⟨JT,hc⟩:=hg.call h' hr (.cons dT (ha.bO _ gO))
     refine qP bt ha bL (d:={target:=.fn (.method name) #[],args:=#[a'.eval x]++c.args.map a'.eval}) ?_ (.inl ⟨f,_,?_,hc⟩) (fun _ h=>h) hn
     ·unfold resolve
      rw[Ez]
      rfl
     ·have e1:(#[a'.eval x]++c.args.map a'.eval)[0]? =some (.iface t v'):=by rw[Array.getElem?_append_left (by simp),aU];rfl
      have e2:(#[recv']++(#[a'.eval x]++c.args.map a'.eval).extract 1 (#[a'.eval x]++c.args.map a'.eval).size:Array Value)=⟨recv'::c.args.toList.map a'.eval⟩:=by
       apply Array.ext';simp [List.take_of_length_le]
      simp only[invoke,e1,callMethod,Sem.run_bind]
      have xS:(program).run P w=.ok P w:=rfl
      simp only[xS,Result.andThen_ok,R1,e2,JT]
    ·exact h'.elim
   ·exact h'.elim
  ·rename_i b Ez
   dsimp only at h'
   have h':=h'.bind
   cases gO:a.bO c.args.toList with
   | none=>rw[gO] at h';exact h'.elim
   | some vs=>
    rw[gO] at h'
    obtain⟨⟨v,σ'⟩,aU,hq⟩:=bA.Holds.of h'
    obtain⟨ρ',v',w',aI,aO,az⟩:=DY (P:=P) (ty:=o.type) (consts:=c.args.map fun | .const _=>true | _=>false) hr cq aU (ha.bO _ gO)
    refine⟨fun f _=>bt.fn f,?_⟩
    have hs:Oper.semAt F.round a'.eval o=execOp a'.eval o:=Oper.semAt_eq _ _ _ (fun c' h=>by rw[bL] at h;cases h)
    have xI:(execOp a'.eval o).run P w=.ok (.value v') w':=by
     rw[pZ o bL]
     unfold resolve
     rw[Ez]
     dsimp only
     rw[show c.args.map a'.eval=⟨c.args.toList.map a'.eval⟩ from Array.ext' (by simp)]
     exact aI
    rw[hs,xI]
    exact hn _ _ _ _ _ _ _ hq aO (ha.mono az.le) rfl az
 ·by_cases BS:∃c,o.op=.defer c
  ·obtain⟨c,bL⟩:=BS
   rw[bL] at h
   exact(show False from h).elim
  ·have hc:∀c,o.op≠.call c:=fun c e=>e9 ⟨c,e⟩
   have hd:∀c,o.op≠.defer c:=fun c e=>BS ⟨c,e⟩
   rw[Am hc hd] at h
   have h':=bA.Holds.bind (r:=(me P o.op).f a σ id) (f:=fB a) h
   obtain⟨v,σ',ρ',v',w',hq,aO,az,aI⟩:=LI hr cq ha o h' hc
   have hs:Oper.semAt F.round a'.eval o=execOp a'.eval o:=Oper.semAt_eq _ _ _ hd
   refine⟨fun f _=>bt.fn f,?_⟩
   rw[hs]
   have iA:q (v,a,σ'):=hq
   rcases aI with aI | ⟨rfl,aI⟩
   ·rw[aI]
    exact hn _ _ _ _ _ _ _ iA aO (ha.mono az.le) rfl az
   ·rw[aI]
    exact hn _ _ _ _ _ _ _ iA aO (ha.mono az.le) rfl az
theorem BT (ops:Array Oper) (tmps:Array Value) (j:Nat):yielded ops tmps j=match (fK ops.toList j).bind (tmps[·]?) with
  | some (.bool b)=>some b
  | _=>none:=by
 unfold yielded fK
 rw[dA,Array.getElem?_toList]
 rfl
theorem D0 [Env] {v:V} {x:Value} (h:aq ρ v x) (hn:∀i,v≠.any i) (want:Bool):rB want (some v)=some (((match some x with | some (.bool b)=>some b | _=>none:Option Bool)==some want)):=by
 cases h<;>first
  | rfl
  | (rename_i h;obtain⟨_,_,_,e⟩:=h.fL rfl;subst e;rfl)
  | exact absurd rfl (hn _)
theorem ve {dst:Option Tmp} {v:V} {a:Act} {aB:St} {q:Act×St→Prop} (h:(lD dst (v,a,aB)).Holds q):∃aR,a.put dst v=some aR∧q (aR,aB):=by
 have h':(pW aB (a.put dst v)).Holds q:=h
 cases hp:a.put dst v with
 | none=>rw[hp] at h';exact h'.elim
 | some aR=>rw[hp] at h';exact⟨aR,rfl,h'⟩
def R2 [Env] (id:Nat) (ρ:Ren) (σ:St) (w:World) (q:Act×St→Prop) (K:Go.Act→World→Prop):Prop:=
 ∀aR bG bh iP fr,q (aR,bG)→bC bh aR iP→bf (fun b=>b=id) ρ σ w bh bG fr→K iP fr
theorem qa [Env] (hg:Good P Rn) (hr:R ρ σ w) (cq:ρ id=none) {a:Act} {a':Go.Act} (ha:bC ρ a a') (bt:fN ρ ro F) {ops:Array Oper} {i:Nat} {o:Oper} (hi:ops[i]? =some o)
  {q:Act×St→Prop} (h:((iJ P ops.toList o).f Rn ro a σ id).Holds q) {K:Go.Act→World→Prop} {Q:Exit→Go.Act→World→Prop} (hK:R2 id ρ σ w q K):
  wpOpIn F 0 P ops Q i K a' w:=by
 unfold wpOpIn
 rw[hi]
 dsimp only
 have aI:((iI P o.op).f Rn ro a σ id).Holds (fun x=>(lD o.dst x).Holds q)→o.wpIn F 0 P a' w K Q:=by
  intro h
  refine DZ hg hr cq ha bt o h ?_
  intro v aZ σ' ρ' v' Bg w' hq hv WH _ az
  obtain⟨aR,hp,hq⟩:=ve hq
  exact hK _ _ _ _ _ hq (WH.put hv hp) az
 have WI:∀aR,a.put o.dst cO=some aR→q (aR,σ)→K (a'.put o.dst undef) w:=fun aR hp hq=>hK _ _ _ _ _ hq (ha.put Aj hp) (bf.refl hr)
 have yes:Region.wanted o (yielded ops a'.tmps)=true→((iI P o.op).f Rn ro a σ id).Holds (fun x=>(lD o.dst x).Holds q)→
   (if Region.wanted o (yielded ops a'.tmps)=true then o.wpIn F 0 P a' w K Q else(∀f,o.about P w a'.eval=some f→F.fn f)∧K (a'.put o.dst undef) w):=by
  intro hw h;rw[if_pos hw];exact aI h
 have no:Region.wanted o (yielded ops a'.tmps)=false→(pW σ (a.put o.dst cO)).Holds q→
   (if Region.wanted o (yielded ops a'.tmps)=true then o.wpIn F 0 P a' w K Q else(∀f,o.about P w a'.eval=some f→F.fn f)∧K (a'.put o.dst undef) w):=by
  intro hw h
  rw[if_neg (by rw[hw];simp)]
  refine⟨fun f _=>bt.fn f,?_⟩
  unfold pW at h
  split at h
  ·rename_i aR hp;exact WI aR hp h
  ·exact h.elim
 unfold iJ at h
 split at h
 ·rename_i R3
  exact yes (by unfold Region.wanted;rw[R3]) h.bind
 ·rename_i j want R3
  have hwq:∀r,yielded ops a'.tmps j=r→Region.wanted o (yielded ops a'.tmps)=(r==some want):=by
   intro r hy;unfold Region.wanted;rw[R3,←hy]
  have hy:=hwq _ (BT ops a'.tmps j)
  unfold xF at h
  split at h
  ·rename_i d hd
   rw[hd] at hy
   dsimp only at h
   cases hv:a.tmps.get d with
   | none=>rw[hv] at h;exact h.elim
   | some v=>
    obtain⟨x,hx,aO⟩:=ha.tmps d v hv
    have OD:∀i,v≠.any i:=by
     rintro i rfl
     rw[hv] at h
     exact h.elim
    rw[hv,D0 aO OD want] at h
    rw[Option.bind_some,hx] at hy
    rw[←hy] at h
    unfold qD at h
    cases hb:Region.wanted o (yielded ops a'.tmps) with
    | true=>
     rw[hb] at h yes
     exact yes rfl h.bind
    | false=>
     rw[hb] at h no
     exact no rfl h
  ·rename_i hd
   rw[hd] at hy
   exact no (by rw[hy];rfl) h
theorem bf.LJ [Env] {ρ':Ren} {σ':St} {w':World} (h:bf (fun b=>b=σ.next) ρ σ w ρ' σ' w'):bf pw ρ σ w ρ' σ' w':=by
 refine⟨h.r,h.le,h.next,fun b l hb=>?_,h.size,h.os,h.tape,h.output,h.aJ,h.wr,fun b k hb=>?_,h.gv⟩
 ·rcases h.iy b l hb with h1 | h1 | h1
  ·exact .inl h1
  ·exact .inr (.inl h1)
  ·exact .inr (.inl (by rw[h1];exact Nat.le_refl _))
 ·rcases h.iM b k hb with h1 | h1 | h1
  ·exact .inl h1
  ·exact .inr (.inl h1)
  ·exact .inr (.inl (by rw[h1];exact Nat.le_refl _))
theorem Hk [Env] (hg:Good P Rn) {ops:Array Oper} {p:Out×St→Prop} {bz:Ren} {σ₀:St} {eY:World}:∀(l:List Oper) (k:Nat) {a:Act} {σ:St} {ρ:Ren} {w:World} {a':Go.Act},
  ops.toList.drop k=l→((G8 P ops.toList l).f Rn ro a σ).Holds p→R ρ σ w→bC ρ a a'→fN ρ ro F→bf pw bz σ₀ eY ρ σ w→
  wpOpsIn F 0 P ops (bJ p bz σ₀ eY) (List.range' k l.length) a' w:=by
 intro l
 induction l with
 | nil=>
  intro k a σ ρ w a' _ h hr ha _ az
  exact⟨.normal,_,_,_,h,rfl,ha,az⟩
 | cons o l ih=>
  intro k a σ ρ w a' hd h hr ha bt az
  have hk:k<ops.toList.length:=by
   have:=congrArg List.length hd
   simp only[List.length_drop,List.length_cons] at this
   omega
  have EA:=List.drop_eq_getElem_cons hk
  rw[hd] at EA
  injection EA with h1 h2
  have hi:ops[k]? =some o:=by
   rw[←Array.getElem?_toList,List.getElem?_eq_getElem hk,h1]
  rw[List.length_cons,List.range'_succ,wpOpsIn_cons]
  have h':(((iJ P ops.toList o).f Rn ro a σ σ.next).bind (Ow ((G8 P ops.toList l).f Rn ro))).Holds p:=h
  refine qa hg hr (hr.fresh _ (Nat.le_refl _)) ha bt hi h'.bind ?_
  intro aR bG bh iP fr hq WJ nu
  exact ih (k+1) h2.symm hq nu.r WJ (bt.mono nu.le) (az.trans nu.LJ)
theorem BU [Env] (hg:Good P Rn) (hr:R ρ σ w) {a:Act} {a':Go.Act} (ha:bC ρ a a') (bt:fN ρ ro F) {id:Nat} {ops:Array Oper} {p:Out×St→Prop}
  (h:((u9 P ops.toList false).f Rn ro a σ).Holds p):(Code.region id ops false).wpIn F 0 P (bJ p ρ σ w) a' w:=by
 refine wpIn_region ?_
 have:=Hk (F:=F) hg (ops:=ops) ops.toList 0 rfl h hr ha bt (bf.refl hr)
 rw[List.range_eq_range']
 simpa using this
end
end Go.Ev
end
section
namespace Go.Ev
open Go
noncomputable def St.ext (σ:St) (id:Nat):Option bV→St
 | none=>σ
 | some k=>σ.new id k
mutual
theorem V.beq_eq:∀ {a b:V},V.beq a b=true→a=b
 | .int ..,.int ..,h=>by simp [V.beq] at h;simp [h]
 | .bool _,.bool _,h=>by simp [V.beq] at h;simp [h]
 | .str _,.str _,h=>by simp [V.beq] at h;simp [h]
 | .dr,.dr,_=>rfl
 | .ptr ..,.ptr ..,h=>by simp [V.beq] at h;simp [h]
 | .ai,.ai,_=>rfl
 | .slice ..,.slice ..,h=>by simp [V.beq] at h;simp [h]
 | .own ..,.own ..,h=>by simp [V.beq] at h;simp [h]
 | .arr ..,.arr ..,h=>by simp [V.beq] at h;simp [h]
 | .dC,.dC,_=>rfl
 | .map _,.map _,h=>by simp [V.beq] at h;simp [h]
 | .func f x y,.func f' x' y',h=>by
  simp only[V.beq,Bool.and_eq_true,decide_eq_true_eq] at h
  rw[h.1.1,V.jT h.1.2,V.jT h.2]
 | .cH,.cH,_=>rfl
 | .any _,.any _,h=>by simp [V.beq] at h;simp [h]
 | .bk x _ _,.bk y _ _,h=>by
  simp only[V.beq,Bool.and_eq_true,beq_iff_eq] at h
  rw[V.jT h.1.1,h.1.2,h.2]
 | .aM x _,.aM y _,h=>by
  simp only[V.beq,Bool.and_eq_true,beq_iff_eq] at h
  rw[V.jT h.1,h.2]
 | .dM ..,.dM ..,h=>by simp [V.beq] at h;simp [h]
 | .iface t v,.iface t' v',h=>by
  simp only[V.beq,Bool.and_eq_true,beq_iff_eq] at h
  rw[h.1,V.beq_eq h.2]
 | .aV,.aV,_=>rfl
 | .agg x,.agg y,h=>by
  simp only[V.beq] at h
  rw[V.jT h]
 | .tuple x,.tuple y,h=>by
  simp only[V.beq] at h
  rw[V.jT h]
theorem V.jT:∀ {a b:List V},V.gD a b=true→a=b
 | [],[],_=>rfl
 | x::xs,y::ys,h=>by
  simp only[V.gD,Bool.and_eq_true] at h
  rw[V.beq_eq h.1,V.jT h.2]
end
def dX (D:Nat→Prop) (σ σ':St):Prop:=∀b k,σ.heap.get b=some k→D b→σ'.heap.get b=some k
section
variable {P:Program} {ρ:Ren} {id:Nat}
def bT (id:Nat) (f:St→VS):Prop:=∀σ q,(f σ).Holds q→∃v κ,q (v,σ.ext id κ)∧∀σ',f σ'=.ok (v,σ'.ext id κ)
def iQ (id:Nat) (D:Nat→Prop) (f:St→VS):Prop:=
 ∀σ q,(f σ).Holds q→∃v κ,q (v,σ.ext id κ)∧f σ=.ok (v,σ.ext id κ)∧∀σ',dX D σ σ'→f σ'=.ok (v,σ'.ext id κ)
theorem bT.look {f:St→VS} (h:bT id f) (D:Nat→Prop):iQ id D f:=by
 intro σ q hq
 obtain⟨v,κ,h1,h2⟩:=h σ q hq
 exact⟨v,κ,h1,h2 σ,fun σ' _=>h2 σ'⟩
theorem bT.aJ [Env] (fW:String) (x:Option V):bT id fun σ=>aJ σ fW x:=by
 intro σ q h
 obtain⟨v,hv,hq⟩:=dd h
 exact⟨v,none,hq,fun σ'=>by rw[hv];rfl⟩
theorem bT.fail (fW:String):bT id fun _=>(.fail fW:VS):=fun _ _ h=>h.elim
theorem bT.ok (v:V):bT id fun σ=>(.ok (v,σ):VS):=fun _ _ h=>⟨v,none,h,fun _=>rfl⟩
theorem bT.new (v:V) (k:bV):bT id fun σ=>(.ok (v,σ.new id k):VS):=fun _ _ h=>⟨v,some k,h,fun _=>rfl⟩
theorem bT.eV [Env] {fW:String} {x:Option V} {g:V→St→VS} (h:∀v,bT id (g v)):bT id fun σ=>eV fW x fun v=>g v σ:=by
 cases x with
 | none=>exact .fail _
 | some v=>exact h v
theorem bT.pj [Env] {fW:String} {x y:Option V} {g:V→V→St→VS} (h:∀v u,bT id (g v u)):bT id fun σ=>pj fW x y fun v u=>g v u σ:=by
 cases x with
 | none=>exact .fail _
 | some v=>cases y with
  | none=>exact .fail _
  | some u=>exact h v u
theorem iQ.aJ [Env] {D:Nat→Prop} (fW:String) {x:St→Option V} (h:∀σ σ' v,dX D σ σ'→x σ=some v→x σ'=some v):iQ id D fun σ=>aJ σ fW (x σ):=by
 intro σ q hq
 obtain⟨v,hv,hp⟩:=dd hq
 exact⟨v,none,hp,by dsimp only;rw[hv];rfl,fun σ' hs=>by dsimp only;rw[h σ σ' v hs hv];rfl⟩
theorem wh {a b:Act}:∀(l:List (Nat×Operand)),(∀q∈l,a.eval q.2=b.eval q.2)→a.parts l=b.parts l:=by
 intro l
 induction l with
 | nil=>intro _;rfl
 | cons q l ih=>
  intro h
  show kr (u3 a q) (a.parts l)=kr (u3 b q) (b.parts l)
  rw[ih fun q hq=>h q (List.mem_cons_of_mem _ hq)]
  unfold u3
  rw[h q List.mem_cons_self]
theorem mU {a b:Act}:∀(l:List Operand),(∀q∈l,a.eval q=b.eval q)→a.bO l=b.bO l:=by
 intro l
 induction l with
 | nil=>intro _;rfl
 | cons q l ih=>
  intro h
  show kr (a.eval q) (a.bO l)=kr (b.eval q) (b.bO l)
  rw[ih fun q hq=>h q (List.mem_cons_of_mem _ hq),h q List.mem_cons_self]
theorem rR {a b:Act} (x:Option Operand) (h:∀q∈x,a.eval q=b.eval q):hZ a x=hZ b x:=by
 cases x with
 | none=>rfl
 | some x=>show(a.eval x).map some=(b.eval x).map some;rw[h x rfl]
theorem tw [Env] {a b:Act} (o:Op) (h:∀x∈o.operands,a.eval x=b.eval x) (σ:St):(me P o).f a σ id=(me P o).f b σ id:=by
 cases o with
 | pick c x y=>
  simp only[Op.operands] at h
  have h1:=h c (by simp);have h2:=h x (by simp);have h3:=h y (by simp)
  show eV _ (a.eval c) (nj a σ x y)=eV _ (b.eval c) (nj b σ x y)
  rw[h1]
  congr 1
  funext v
  unfold nj
  split
  ·rename_i t;cases t<;>simp [h2,h3]
  ·rfl
 | build t ps=>
  show mj P σ t (a.parts ps.toList)=mj P σ t (b.parts ps.toList)
  rw[wh _ fun q hq=>h q.2 (by simp only[Op.operands,List.mem_toArray,List.mem_map];exact⟨q,hq,rfl⟩)]
 | buildSlice t n ps=>
  show fJ P σ id t n (a.parts ps.toList)=fJ P σ id t n (b.parts ps.toList)
  rw[wh _ fun q hq=>h q.2 (by simp only[Op.operands,List.mem_toArray,List.mem_map];exact⟨q,hq,rfl⟩)]
 | makeFunc fn f c=>
  show iH σ fn (a.bO f.toList) (a.bO c.toList)=iH σ fn (b.bO f.toList) (b.bO c.toList)
  rw[mU _ fun q hq=>h q (by simp only[Op.operands];exact Array.mem_append_left _ (by simpa using hq)),mU _ fun q hq=>h q (by simp only[Op.operands];exact Array.mem_append_right _ (by simpa using hq))]
 | makeMap t r=>rfl
 | slice t x lo hi mx=>
  show eV _ (a.eval x) (fA P a σ t lo hi mx)=eV _ (b.eval x) (fA P b σ t lo hi mx)
  rw[h x (by simp [Op.operands])]
  congr 1
  funext v
  unfold fA
  rw[rR lo fun q hq=>h q (by simp only[Op.operands];simp_all),rR hi fun q hq=>h q (by simp only[Op.operands];simp_all),rR mx fun q hq=>h q (by simp only[Op.operands];simp_all)]
 | call c=>
  show oq P a σ id c=oq P b σ id c
  unfold oq
  split
  ·rw[mU _ fun q hq=>h q (by simp only[Op.operands,Call.operands];simp_all)]
  ·rfl
 | _=>first
  | rfl
  | (simp only[Op.operands] at h
     simp [me,h]
     done)
theorem EB {σ:St} {tys:List TypeId} {vs:List V}:gk P σ id .max tys vs=match vs with
  | [.int k x,.int _ y]=>some (.int k (if y>x then y else x),σ)
  | _=>none:=by
 rcases tys with _ | ⟨t,_ | ⟨t',tys⟩⟩<;>rcases vs with _ | ⟨x,_ | ⟨y,_ | ⟨z,l⟩⟩⟩<;>first | rfl | (cases x<;>first | rfl | (cases y<;>rfl))
theorem EC {σ:St} {tys:List TypeId} {vs:List V}:gk P σ id .min tys vs=match vs with
  | [.int k x,.int _ y]=>some (.int k (if y<x then y else x),σ)
  | _=>none:=by
 rcases tys with _ | ⟨t,_ | ⟨t',tys⟩⟩<;>rcases vs with _ | ⟨x,_ | ⟨y,_ | ⟨z,l⟩⟩⟩<;>first | rfl | (cases x<;>first | rfl | (cases y<;>rfl))
theorem tz {t:TypeId} (hp:qB P t=true) (lit:Bool) (x y:V) (σ σ':St):evalEq P σ t lit x y=evalEq P σ' t lit x y:=by
 unfold qB at hp
 unfold evalEq
 split at hp
 ·rename_i k hu;rw[hu];rfl
 ·rename_i hu;rw[hu];rfl
 ·rename_i hu;rw[hu];rfl
 ·cases hp
theorem A6 {t:TypeId} (hp:rz P (some t)=true) (x:V) (σ σ':St):eD P σ t x=eD P σ' t x:=by
 unfold rz at hp
 unfold eD
 dsimp only at hp
 split at hp
 ·rename_i hu;rw[hu]
 ·rename_i hu;rw[hu]
 ·rename_i hu;rw[hu]
 ·cases hp
theorem JU {s d:TypeId} (hp:s6 P s d=true) (x:V):bT id fun σ=>c7 P σ id s d x:=by
 intro σ q h
 obtain⟨⟨v,aB⟩,aU,hq⟩:=bA.Holds.of h
 unfold s6 at hp
 split at hp
 ·rename_i h1 h2
  unfold evalConv at aU
  rw[h1,h2] at aU
  cases x<;>first
   | (cases aU;done)
   | (cases aU;exact⟨_,none,hq,fun σ'=>by unfold c7 evalConv;rw[h1,h2];rfl⟩)
 ·rename_i h1 h2
  unfold evalConv at aU
  rw[h1,h2] at aU
  cases x<;>first
   | (cases aU;done)
   | (cases aU;exact⟨_,none,hq,fun σ'=>by unfold c7 evalConv;rw[h1,h2];rfl⟩)
 ·rename_i h1 h2
  unfold evalConv at aU
  rw[h1,h2] at aU
  cases x with
  | dM s b=>
   dsimp only at aU
   split at aU
   ·rename_i n hn
    split at aU
    ·rename_i dy
     cases aU
     exact⟨_,none,hq,fun σ'=>by unfold c7 evalConv;rw[h1,h2];dsimp only;rw[hn];dsimp only;rw[if_pos dy];rfl⟩
    ·cases aU
   ·cases aU
  | _=>cases aU
 ·rename_i h1 h2
  unfold evalConv at aU
  rw[h1,h2] at aU
  cases x<;>first
   | (cases aU;done)
   | (cases aU;exact⟨_,none,hq,fun σ'=>by unfold c7 evalConv;rw[h1,h2];rfl⟩)
 ·cases hp
theorem rS [Env] {a:Act} (o:Op) (h1:bp o=false) (h2:dZ P o=false) (h3:nk o=false):bT id fun σ=>(me P o).f a σ id:=by
 cases o with
 | move x=>exact .aJ _ _
 | assign x=>exact .aJ _ _
 | pick c x y=>
  refine bT.eV (g:=fun v σ=>nj a σ x y v) fun v=>?_
  unfold nj
  split
  ·exact .aJ _ _
  ·exact .fail _
 | alloc e=>
  show bT id fun σ=>oo P σ id e
  unfold oo
  split
  ·split
   ·exact .new _ _
   ·exact .fail _
  ·exact .fail _
 | box e x=>
  refine bT.eV (g:=fun v σ=>xC σ id v) fun v=>?_
  unfold xC
  split
  ·exact .new _ _
  ·exact .fail _
 | build t ps=>
  show bT id fun σ=>mj P σ t (a.parts ps.toList)
  unfold mj
  split
  ·exact .aJ _ _
  ·exact .fail _
 | buildSlice t n ps=>
  show bT id fun σ=>fJ P σ id t n (a.parts ps.toList)
  unfold fJ
  split
  ·split
   ·split
    ·split
     ·unfold nW
      split
      ·exact .fail _
      ·split
       ·split
        ·exact .ok _
        ·exact .fail _
       ·exact .fail _
     ·unfold kt
      split
      ·exact .fail _
      ·split
       ·split
        ·exact .new _ _
        ·exact .fail _
       ·exact .fail _
    ·exact .fail _
   ·exact .fail _
  ·exact .fail _
 | load t x=>cases h3
 | nilCheck x=>
  refine bT.eV (g:=fun v σ=>nX σ v) fun v=>?_
  unfold nX
  split
  ·exact .ok _
  ·exact .ok _
  ·exact .ok _
  ·exact .fail _
  ·exact .ok _
  ·exact .ok _
  ·exact .fail _
 | binOp op t x y yt=>
  refine bT.pj (g:=fun v u σ=>u4 P σ op t (isConst x||isConst y) v u) fun v u=>?_
  unfold u4 evalBin
  split
  ·exact .aJ _ _
  ·exact .aJ _ _
  ·exact .aJ _ _
  ·split
   ·have hp:qB P t=true:=by simpa [dZ] using h2
    have e:(fun σ=>aJ σ "binOp" ((evalEq P σ t (isConst x||isConst y) v u).map .bool))=fun σ=>aJ σ "binOp" ((evalEq P ⟨.leaf,0⟩ t (isConst x||isConst y) v u).map .bool):=funext fun σ=>by rw[tz hp _ _ _ σ ⟨.leaf,0⟩]
    rw[e];exact .aJ _ _
   ·have hp:qB P t=true:=by simpa [dZ] using h2
    have e:(fun σ=>aJ σ "binOp" ((evalEq P σ t (isConst x||isConst y) v u).map fun b=>.bool !b))=fun σ=>aJ σ "binOp" ((evalEq P ⟨.leaf,0⟩ t (isConst x||isConst y) v u).map fun b=>.bool !b):=funext fun σ=>by rw[tz hp _ _ _ σ ⟨.leaf,0⟩]
    rw[e];exact .aJ _ _
   ·exact .aJ _ _
 | unOp op t x=>exact bT.eV (g:=fun v σ=>RD σ op v) fun v=>.aJ _ _
 | convert s d x=>exact bT.eV (g:=fun v σ=>c7 P σ id s d v) fun v=>JU (by simpa [dZ] using h2) v
 | makeInterface t x=>
  refine bT.eV (g:=fun v σ=>gK P σ t v) fun v=>?_
  unfold gK
  split
  ·exact .fail _
  ·exact .ok _
  ·exact .fail _
 | makeFunc fn f c=>
  show bT id fun σ=>iH σ fn (a.bO f.toList) (a.bO c.toList)
  unfold iH
  split
  ·split
   ·exact .fail _
   ·exact .ok _
  ·exact .fail _
 | makeMap t r=>exact .fail _
 | makeSlice t l c=>
  refine bT.pj (g:=fun v u σ=>gl P σ id t v u) fun v u=>?_
  unfold gl
  split
  ·split
   ·split
    ·unfold lA
     split
     ·exact .new _ _
     ·exact .fail _
    ·exact .fail _
   ·exact .fail _
  ·exact .fail _
 | slice t x lo hi mx=>
  refine bT.eV (g:=fun v σ=>fA P a σ t lo hi mx v) fun v=>?_
  have hn:jt P t=none:=by
   unfold jt
   simp only[dZ] at h2
   split at h2
   ·cases h2
   ·rename_i bQ;split
    ·rename_i hu;exact absurd hu (bQ _ _)
    ·rfl
  unfold fA
  rw[hn]
  split
  ·exact .aJ _ _
  ·exact .fail _
 | fieldAddr s x f=>
  refine bT.eV (g:=fun v σ=>kb P σ s f v) fun v=>?_
  unfold kb
  split
  ·split
   ·split
    ·exact .ok _
    ·exact .fail _
   ·exact .fail _
  ·split
   ·split
    ·exact .ok _
    ·exact .fail _
   ·exact .fail _
  ·split
   ·split
    ·exact .ok _
    ·exact .fail _
   ·exact .fail _
  ·exact .fail _
 | field t x f=>
  refine bT.eV (g:=fun v σ=>qA P σ t f v) fun v=>?_
  unfold qA
  split
  ·split
   ·exact .aJ _ _
   ·exact .fail _
  ·exact .fail _
 | indexAddr t x ix=>
  refine bT.pj (g:=fun v u σ=>jg P σ t v u) fun v u=>?_
  unfold jg
  split
  ·unfold jv
   split
   ·split
    ·split
     ·exact .ok _
     ·exact .fail _
    ·exact .fail _
   ·exact .fail _
  ·unfold ju
   split
   ·split
    ·split
     ·exact .ok _
     ·exact .fail _
    ·exact .fail _
   ·exact .fail _
  ·unfold oC
   split
   ·split
    ·split
     ·exact .ok _
     ·exact .fail _
    ·exact .fail _
   ·exact .fail _
  ·unfold oE
   split
   ·split
    ·split
     ·split
      ·exact .ok _
      ·exact .fail _
     ·exact .fail _
    ·exact .fail _
   ·exact .fail _
  ·unfold oD
   split
   ·split
    ·split
     ·exact .ok _
     ·exact .fail _
    ·exact .fail _
   ·exact .fail _
  ·exact .fail _
 | index t x ix=>
  refine bT.pj (g:=fun v u σ=>om P σ t v u) fun v u=>?_
  unfold om
  split
  ·unfold lB
   split
   ·split
    ·split
     ·exact .ok _
     ·exact .fail _
    ·exact .fail _
   ·exact .fail _
  ·unfold ry
   split
   ·split
    ·split
     ·exact .aJ _ _
     ·exact .fail _
    ·exact .fail _
   ·exact .fail _
  ·exact .fail _
 | lookup t x k ok=>cases h2
 | typeAssert x xt t ok=>exact bT.eV (g:=fun v σ=>wR P σ t ok v) fun v=>.aJ _ _
 | extract x i=>
  refine bT.eV (g:=fun v σ=>ph σ i v) fun v=>?_
  unfold ph
  split
  ·exact .aJ _ _
  ·exact .fail _
 | call c=>
  show bT id fun σ=>oq P a σ id c
  obtain⟨callee,mV,kJ⟩:=c
  cases callee with
  | builtin b=>
   simp only[oq]
   cases hv:a.bO mV.toList with
   | none=>exact .fail _
   | some vs=>
    unfold gL
    intro σ q h
    obtain⟨⟨v,σ'⟩,aU,hq⟩:=bA.Holds.of h
    cases b<;>first
     | (simp [bp] at h1;done)
     | skip
    ·have hp:rz P kJ[0]? =true:=by simpa [dZ] using h2
     rcases tA:kJ.toList with _ | ⟨t,l⟩
     ·rw[tA] at aU;rcases vs with _ | ⟨x,_ | ⟨y,_⟩⟩<;>cases aU
     ·have h0:kJ[0]? =some t:=by rw[←Array.getElem?_toList,tA];rfl
      rw[h0] at hp
      rw[tA] at aU
      rcases vs with _ | ⟨x,_ | ⟨y,r⟩⟩
      ·cases aU
      ·have tB:(eD P σ t x).map (·,σ)=some (v,σ'):=aU
       rw[Option.map_eq_some_iff] at tB
       obtain⟨u,hu,he⟩:=tB
       cases he
       exact⟨_,none,hq,fun σ'=>by
        show bA.of "builtin" ((eD P σ' t x).map (·,σ'))=_
        rw[A6 hp x σ' σ,hu];rfl⟩
      ·cases aU
    ·rw[EB] at aU
     split at aU
     ·cases aU
      exact⟨_,none,hq,fun σ'=>by show bA.of "builtin" (gk P σ' id .max kJ.toList _)=_;rw[EB];rfl⟩
     ·cases aU
    ·rw[EC] at aU
     split at aU
     ·cases aU
      exact⟨_,none,hq,fun σ'=>by show bA.of "builtin" (gk P σ' id .min kJ.toList _)=_;rw[EC];rfl⟩
     ·cases aU
  | value f=>simp [bp] at h1
  | invoke x name=>simp [bp] at h1
 | store t x y=>cases h1
 | insert t m k v=>cases h1
 | mapUpdate t m k v=>cases h1
 | range t x=>cases h1
 | next it s=>cases h1
 | entry it=>cases h1
 | defer c=>cases h1
 | _=>exact .fail _
def cU (ρ:Ren) (b:Nat):Prop:=ρ b≠none
theorem dX.get {D:Nat→Prop} {σ σ':St} (h:dX D σ σ') {b:Nat} {k:bV} (hb:σ.heap.get b=some k) (hd:D b):σ'.heap.get b=some k:=h b k hb hd
theorem dX.cell [Env] {D:Nat→Prop} {σ σ':St} (h:dX D σ σ') {b off:Nat} (hd:D b) {v:V} (hv:σ.cell b off=some v):σ'.cell b off=some v:=by
 unfold St.cell at hv⊢
 split at hv
 ·rename_i n z t p ro hb;rw[h.get hb hd];exact hv
 ·cases hv
theorem dX.cells [Env] {D:Nat→Prop} {σ σ':St} (h:dX D σ σ') {b off n:Nat} (hd:D b) {v:List V} (hv:σ.cells b off n=some v):σ'.cells b off n=some v:=by
 unfold St.cells at hv⊢
 split at hv
 ·rename_i m z t p ro hb;rw[h.get hb hd];exact hv
 ·cases hv
theorem dX.eg [Env] {σ σ':St} (h:dX (cU ρ) σ σ') {t:TypeId} {x v:V} {x':Value} (hx:aq ρ x x') (hv:eg P σ t x=some v):eg P σ' t x=some v:=by
 unfold Go.Ev.eg at hv⊢
 cases x with
 | aM cs off=>
  revert hv
  cases rq P t with
  | none=>exact fun h=>h
  | some g=>cases bN P t<;>cases g<;>exact fun h=>h
 | fy b i esz off=>
  cases hx with
  | fy hl=>
   have hd:cU ρ b:=by unfold cU;rw[hl];simp
   have key:∀cs,σ.iG b i esz=some cs→σ'.iG b i esz=some cs:=by
    intro cs hc
    unfold St.iG at hc⊢
    split at hc
    ·rename_i n f z p hb;rw[h.get hb hd];exact hc
    ·cases hc
   cases ha:rq P t with
   | none=>rw[ha] at hv;simp at hv
   | some g=>
    rw[ha] at hv
    cases hs:bN P t with
    | none=>
     rw[hs] at hv
     cases g with
     | true=>simp at hv
     | false=>
      dsimp only at hv⊢
      rw[Option.bind_eq_some_iff] at hv⊢
      obtain⟨cs,hc,hv⟩:=hv
      exact⟨cs,key cs hc,hv⟩
    | some n=>
     rw[hs] at hv
     cases g with
     | true=>
      dsimp only at hv⊢
      rw[Option.bind_eq_some_iff] at hv⊢
      obtain⟨cs,hc,hv⟩:=hv
      exact⟨cs,key cs hc,hv⟩
     | false=>
      dsimp only at hv⊢
      rw[Option.bind_eq_some_iff] at hv⊢
      obtain⟨cs,hc,hv⟩:=hv
      exact⟨cs,key cs hc,hv⟩
 | ptr b off=>
  cases hx with
  | ptr hl=>
   have hd:cU ρ b:=by unfold cU;rw[hl];simp
   cases ha:rq P t with
   | none=>rw[ha] at hv;simp at hv
   | some g=>cases hs:bN P t with
    | none=>
     rw[ha,hs] at hv
     cases g with
     | true=>simp at hv
     | false=>exact h.cell hd hv
    | some n=>
     rw[ha,hs] at hv
     cases g with
     | true=>
      rw[Option.map_eq_some_iff] at hv⊢
      obtain⟨l,cF,rfl⟩:=hv
      exact⟨l,h.cells hd cF,rfl⟩
     | false=>exact h.cell hd hv
 | _=>simp at hv
theorem dX.ptrEq [Env] {σ σ':St} (h:dX (cU ρ) σ σ') {e b o b' o':Nat} {r:Bool} (hb:cU ρ b) (bq:cU ρ b') (he:ptrEq P σ e b o b' o'=some r):ptrEq P σ' e b o b' o'=some r:=by
 unfold Go.Ev.ptrEq at he⊢
 split at he
 ·rename_i m hm
  split at he
  ·split at he
   ·rename_i hk;rw[h.get hk hb];exact he
   ·cases he
  ·split at he
   ·rename_i hk ed;rw[h.get hk hb,h.get ed bq];exact he
   ·cases he
 ·cases he
theorem dX.evalEq [Env] {σ σ':St} (h:dX (cU ρ) σ σ') {t:TypeId} {lit:Bool} {x y:V} {x' y':Value} (hx:aq ρ x x') (hy:aq ρ y y') {r:Bool} (he:evalEq P σ t lit x y=some r):evalEq P σ' t lit x y=some r:=by
 unfold Go.Ev.evalEq at he⊢
 cases hu:P.underlying t with
 | none=>rw[hu] at he;exact he
 | some d=>
  rw[hu] at he
  cases d with
  | pointer e=>
   cases x with
   | ptr b o=>
    cases y with
    | ptr b' o'=>
     cases hx with
     | ptr hl=>cases hy with
      | ptr cF=>
       have jC:Go.Ev.ptrEq P σ e b o b' o'=some r:=he
       exact h.ptrEq (by unfold cU;rw[hl];simp) (by unfold cU;rw[cF];simp) jC
    | _=>exact he
   | _=>exact he
  | _=>exact he
theorem dX.evalBin [Env] {σ σ':St} (h:dX (cU ρ) σ σ') {op:BinOp} {t:TypeId} {lit:Bool} {x y:V} {x' y':Value} (hx:aq ρ x x') (hy:aq ρ y y') {v:V} (he:evalBin P σ op t lit x y=some v):evalBin P σ' op t lit x y=some v:=by
 unfold Go.Ev.evalBin at he⊢
 split at he
 ·exact he
 ·exact he
 ·exact he
 ·split at he
  ·rw[Option.map_eq_some_iff] at he⊢
   obtain⟨b,hb,rfl⟩:=he
   exact⟨b,h.evalEq hx hy hb,rfl⟩
  ·rw[Option.map_eq_some_iff] at he⊢
   obtain⟨b,hb,rfl⟩:=he
   exact⟨b,h.evalEq hx hy hb,rfl⟩
  ·cases he
theorem dX.eD [Env] {σ σ':St} (h:dX (cU ρ) σ σ') {t:TypeId} {x:V} {x':Value} (hx:aq ρ x x') {v:V} (he:eD P σ t x=some v):eD P σ' t x=some v:=by
 unfold Go.Ev.eD at he⊢
 cases hu:P.underlying t with
 | none=>rw[hu] at he;exact he
 | some d=>
  rw[hu] at he
  cases d with
  | map k e=>
   have jC:s0 σ x=some v:=he
   show s0 σ' x=some v
   unfold s0 at jC⊢
   cases x with
   | dC=>exact jC
   | map r=>
    cases hx with
    | map hl=>
     dsimp only at jC⊢
     split at jC
     ·rename_i hb;rw[h.get hb (by unfold cU;rw[hl];simp)];exact jC
     ·cases jC
   | _=>cases jC
  | _=>exact he
theorem dX.R4 [Env] {σ σ':St} (h:dX (cU ρ) σ σ') {n:Nat} {e:TypeId} {lo hi mx:Option V} {x:V} {x':Value} (hx:aq ρ x x') {v:V} (he:jP P σ n e lo hi mx x=some v):jP P σ' n e lo hi mx x=some v:=by
 unfold jP at he⊢
 split at he
 ·cases hx with
  | ptr hl=>
   split at he
   ·rename_i h1 h2 hb
    rw[h.get hb (by unfold cU;rw[hl];simp)]
    simp only[h1,h2]
    exact he
   ·cases he
 ·cases he
theorem JV [Env] {src dst:TypeId} {x:V} {x':Value} (hx:aq ρ x x'):iQ id (cU ρ) fun σ=>c7 P σ id src dst x:=by
 intro σ q h
 obtain⟨⟨v,aB⟩,aU,hq⟩:=bA.Holds.of h
 have fin:∀κ,aB=σ.ext id κ→(∀σ',dX (cU ρ) σ σ'→evalConv P σ' id src dst x=some (v,σ'.ext id κ))→
   ∃v κ,q (v,σ.ext id κ)∧c7 P σ id src dst x=.ok (v,σ.ext id κ)∧∀σ',dX (cU ρ) σ σ'→c7 P σ' id src dst x=.ok (v,σ'.ext id κ):=by
  intro κ tC cS
  subst tC
  exact⟨v,κ,hq,by unfold c7;rw[aU];rfl,fun σ' hs=>by unfold c7;rw[cS σ' hs];rfl⟩
 unfold evalConv at aU
 split at aU
 ·rename_i h1 h2
  cases aU
  exact fin none rfl fun σ' _=>by unfold evalConv;rw[h1,h2];rfl
 ·rename_i h1 h2
  cases aU
  exact fin none rfl fun σ' _=>by unfold evalConv;rw[h1,h2];rfl
 ·rename_i h1 h2
  split at aU
  ·rename_i h3
   split at aU
   ·rename_i h4
    cases aU
    exact fin none rfl fun σ' _=>by unfold evalConv;rw[h1,h2];dsimp only;rw[h3];dsimp only;rw[if_pos h4];rfl
   ·cases aU
  ·cases aU
 ·rename_i h1 h2
  cases aU
  exact fin none rfl fun σ' _=>by unfold evalConv;rw[h1,h2];rfl
 ·rename_i h1 h2
  split at aU
  ·rename_i h3
   split at aU
   ·rename_i h4
    cases aU
    exact fin (some _) rfl fun σ' _=>by unfold evalConv;rw[h1,h2];dsimp only;rw[h3];dsimp only;rw[if_pos h4];rfl
   ·cases aU
  ·cases aU
 ·rename_i h1 h2
  split at aU
  ·rename_i h3
   cases aU
   exact fin none rfl fun σ' _=>by unfold evalConv;rw[h1,h2];dsimp only;rw[h3];rfl
  ·cases aU
 ·rename_i e b off n cap ex esz h1 h2
  split at aU
  ·rename_i h3
   split at aU
   ·rename_i l hl
    rw[Option.map_eq_some_iff] at aU
    obtain⟨s,hs,he⟩:=aU
    cases he
    cases hx with
    | slice R5 _ _ _ _=>
     exact fin none rfl fun σ' LK=>by
      unfold evalConv;rw[h1,h2];dsimp only;rw[h3];dsimp only
      rw[LK.cells (by unfold cU;rw[R5];simp) hl]
      dsimp only
      rw[hs];rfl
   ·cases aU
  ·cases aU
 ·rename_i e es esz ex h1 h2
  split at aU
  ·rename_i h3
   split at aU
   ·rename_i h4
    rw[Option.map_eq_some_iff] at aU
    obtain⟨s,hs,he⟩:=aU
    cases he
    exact fin none rfl fun σ' _=>by unfold evalConv;rw[h1,h2];dsimp only;rw[h3];dsimp only;rw[h4];dsimp only;rw[hs];rfl
   ·cases aU
  ·cases aU
 ·rename_i e b n esz h1 h2
  split at aU
  ·rename_i h3
   split at aU
   ·rename_i n' f z p hb
    split at aU
    ·rename_i hc
     rw[Option.map_eq_some_iff] at aU
     obtain⟨s,hs,he⟩:=aU
     cases he
     cases hx with
     | own R5 _ _=>
      exact fin none rfl fun σ' LK=>by
       unfold evalConv;rw[h1,h2];dsimp only;rw[h3];dsimp only
       rw[LK.get hb (by unfold cU;rw[R5];simp)]
       dsimp only
       rw[if_pos hc,hs];rfl
    ·cases aU
   ·cases aU
  ·cases aU
 ·cases aU
theorem Hl [Env] {a:Act} (o:Op) (h1:bp o=false) (hD:∀x∈o.operands,∀v,a.eval x=some v→∃x',aq ρ v x'):iQ id (cU ρ) fun σ=>(me P o).f a σ id:=by
 by_cases hr:nk o=true
 ·cases o<;>try (cases hr;done)
  rename_i t x
  show iQ id (cU ρ) fun σ=>eV "load operand" (a.eval x) (oF P σ t)
  cases hx:a.eval x with
  | none=>exact(bT.fail _).look _
  | some v=>
   obtain⟨x',aO⟩:=hD x (by simp [Op.operands]) v hx
   exact iQ.aJ _ fun σ σ' u hs hu=>hs.eg aO hu
 ·by_cases hl:dZ P o=true
  ·cases o<;>try (cases hl;done)
   case binOp op t x y yt=>
    show iQ id (cU ρ) fun σ=>pj "binOp operand" (a.eval x) (a.eval y) (u4 P σ op t (isConst x||isConst y))
    cases hx:a.eval x with
    | none=>exact(bT.fail _).look _
    | some v=>cases hy:a.eval y with
     | none=>exact(bT.fail _).look _
     | some u=>
      obtain⟨x',aO⟩:=hD x (by simp [Op.operands]) v hx
      obtain⟨y',WK⟩:=hD y (by simp [Op.operands]) u hy
      exact iQ.aJ _ fun σ σ' u hs hu=>hs.evalBin aO WK hu
   case convert s d x=>
    show iQ id (cU ρ) fun σ=>eV "convert operand" (a.eval x) (c7 P σ id s d)
    cases hx:a.eval x with
    | none=>exact(bT.fail _).look _
    | some v=>
     obtain⟨x',aO⟩:=hD x (by simp [Op.operands]) v hx
     exact JV aO
   case slice t x lo hi mx=>
    show iQ id (cU ρ) fun σ=>eV "slice operand" (a.eval x) (fA P a σ t lo hi mx)
    cases hx:a.eval x with
    | none=>exact(bT.fail _).look _
    | some v=>
     obtain⟨x',aO⟩:=hD x (by simp [Op.operands]) v hx
     show iQ id (cU ρ) fun σ=>fA P a σ t lo hi mx v
     unfold fA
     split
     ·split
      ·exact iQ.aJ _ fun σ σ' u hs hu=>hs.R4 aO hu
      ·exact(bT.aJ _ _).look _
     ·exact(bT.fail _).look _
   case lookup t x k ok=>exact(bT.fail _).look _
   case call c=>
    obtain⟨callee,mV,kJ⟩:=c
    cases callee with
    | builtin b=>
     cases b<;>try (simp [dZ] at hl;done)
     show iQ id (cU ρ) fun σ=>gL P σ id .len kJ.toList (a.bO mV.toList)
     cases hv:a.bO mV.toList with
     | none=>exact(bT.fail _).look _
     | some vs=>
      have WM:∀(l:List Operand) (vs:List V),(∀x∈l,x∈mV.toList)→a.bO l=some vs→∀v∈vs,∃x',aq ρ v x':=by
       intro l
       induction l with
       | nil=>intro vs _ h;cases h;intro v hv;cases hv
       | cons x l ih=>
        intro vs hl h
        obtain⟨u,r,h1,h2,rfl⟩:=nZ (x:=a.eval x) (l:=a.bO l) h
        intro v hv
        rcases List.mem_cons.1 hv with rfl | hv
        ·exact hD x (by simp only[Op.operands,Call.operands];have:=hl x List.mem_cons_self;simp_all) v h1
        ·exact ih r (fun y hy=>hl y (List.mem_cons_of_mem _ hy)) h2 v hv
      intro σ q h
      obtain⟨⟨v,aB⟩,aU,hq⟩:=bA.Holds.of h
      have WN:∃t l x u,kJ.toList=t::l∧vs=[x]∧eD P σ t x=some u∧v=u∧aB=σ:=by
       rcases tA:kJ.toList with _ | ⟨t,l⟩
       ·rw[tA] at aU;rcases vs with _ | ⟨x,_ | ⟨y,_⟩⟩<;>cases aU
       ·rw[tA] at aU
        rcases vs with _ | ⟨x,_ | ⟨y,r⟩⟩
        ·cases aU
        ·have tB:(eD P σ t x).map (·,σ)=some (v,aB):=aU
         rw[Option.map_eq_some_iff] at tB
         obtain⟨u,hu,he⟩:=tB
         cases he
         exact⟨t,l,x,_,rfl,rfl,hu,rfl,rfl⟩
        ·cases aU
      obtain⟨t,l,x,u,tA,rfl,hu,rfl,rfl⟩:=WN
      obtain⟨x',aO⟩:=WM mV.toList [x] (fun _ h=>h) hv x (by simp)
      have mk:∀σ',eD P σ' t x=some v→gL P σ' id .len kJ.toList (some [x])=.ok (v,σ'):=by
       intro σ' hl
       show bA.of "builtin" (gk P σ' id .len kJ.toList [x])=_
       rw[tA]
       show bA.of "builtin" ((eD P σ' t x).map (·,σ'))=_
       rw[hl];rfl
      exact⟨v,none,hq,mk aB hu,fun σ' hs=>mk σ' (hs.eD aO hu)⟩
    | value f=>simp [dZ] at hl
    | invoke x name=>simp [dZ] at hl
  ·exact(rS o h1 (by simpa using hl) (by simpa using hr)).look _
end
end Go.Ev
end
