/- Proved: parts of the way: Reg, DrawA. -/
import Derived.Test.YtbajncpfmemdgaaGreatDoorEvQ05
import Derived.OrdersIn
import Derived.KernelRfl
set_option linter.unusedVariables false
set_option linter.unusedSimpArgs false
section
namespace Go.Ev
open Go
def fH (ρ:Ren) (ro:Option Nat) (F:Fence):Prop:=
 match ro with
 | none=>F=Fence.wide
 | some l=>∃k,ρ l=some k∧F=Fence.wide.inRound k.c
theorem fH.mono {ρ ρ':Ren} (dW:ρ.le ρ') {ro:Option Nat} {F:Fence} (h:fH ρ ro F):fH ρ' ro F:=by
 cases ro with
 | none=>exact h
 | some l=>obtain⟨k,hk,hF⟩:=h;exact⟨k,dW _ _ hk,hF⟩
theorem fH.fn {ρ:Ren} {ro:Option Nat} {F:Fence} (h:fH ρ ro F) (f:FuncId):F.fn f:=by
 cases ro with
 | none=>cases h;trivial
 | some l=>obtain⟨k,_,rfl⟩:=h;trivial
theorem fH.depth {ρ:Ren} {ro:Option Nat} {F:Fence} (h:fH ρ ro F) (n:Nat):F.depth.isSome=true→1≤n:=by
 cases ro with
 | none=>cases h;intro h;cases h
 | some l=>obtain⟨k,_,rfl⟩:=h;intro h;cases h
theorem fH.calls {ρ:Ren} {ro:Option Nat} {F:Fence} (h:fH ρ ro F) {n:Nat} {P:Program} {f:FuncId} {args:Array Value} {w:World} {Q:Ending→World→Prop}
  (hc:CallsIn Fence.wide n P f args w Q):CallsIn F n P f args w Q:=by
 cases ro with
 | none=>cases h;exact hc
 | some l=>obtain⟨k,_,rfl⟩:=h;exact hc
theorem fH.rounds {ρ:Ren} {ro:Option Nat} {F:Fence} (h:fH ρ ro F) {n:Nat} {P:Program} {l:Nat} {f:FuncId} {tmps:Array Value} {adj bo:Code} {w:World} {Q:Ending→World→Prop}
  (hc:RoundIn Fence.wide n P l f tmps adj bo w Q):RoundIn F n P l f tmps adj bo w Q:=by
 cases ro with
 | none=>cases h;exact hc
 | some l=>obtain⟨k,_,rfl⟩:=h;exact hc
def qD:Ex→Exit
 | .normal=>.normal
 | .exit i=>.exit i
 | .goto l=>.goto l
 | .ret=>.ret
def ph:Nat→Prop:=fun _=>False
def bJ [Env] (p:Out×St→Prop) (ρ:Ren) (σ:St) (w:World):Exit→Go.Act→World→Prop:=
 fun e a' w'=>∃x a σ' ρ',p (.exit x a,σ')∧e=qD x∧bw ρ' a a'∧bc ph ρ σ w ρ' σ' w'
def cC [Env] (p:Out×St→Prop) (ρ:Ren) (σ:St) (w:World):Ending→World→Prop:=
 fun e w'=>∃v σ' ρ' v',p (.val v,σ')∧e=.returned v'∧aq ρ' v v'∧bc ph ρ σ w ρ' σ' w'
def Enters (P:Program) (d:Deferred) (w:World) (Q:Ending→World→Prop):Prop:=
 (∃f args,(invoke d.target d.args).run P w=.ok (.enter f args) w∧CallsIn Fence.wide 0 P f args w Q)∨
 (∃l f tmps adj bo,(invoke d.target d.args).run P w=.ok (.round l f tmps adj bo) w∧RoundIn Fence.wide 0 P l f tmps adj bo w Q)
def kV (F:Fence) (P:Program) (x cur:Code) (Q:Exit→Go.Act→World→Prop) (a:Go.Act) (w:World):Prop:=
 ∀(b:Frame) (k:List Go.Item) (cs:List Frame),b.roundOf=F.round→F.fn b.fn→F.room (cs.length+1+0)→
  ∃e a' w',Q e a' w'∧ArrivesIn (Machine.fenced P F) P (lone (b.atR a (.code cur::.inScope x::k)) cs w) b k cs e a' w'
def ju (F:Fence) (P:Program) (x:Code) (Q:Exit→Go.Act→World→Prop) (a:Go.Act) (w:World):Prop:=
 ∀(b:Frame) (k:List Go.Item) (cs:List Frame),b.roundOf=F.round→F.fn b.fn→F.room (cs.length+1+0)→
  ∃e a' w',Q e a' w'∧ArrivesIn (Machine.fenced P F) P (lone (b.atR a (.inLoop x::k)) cs w) b k cs e a' w'
theorem ju.mono {F:Fence} {P:Program} {x:Code} {Q Q':Exit→Go.Act→World→Prop} {a:Go.Act} {w:World} (h:ju F P x Q a w) (hq:∀e a w,Q e a w→Q' e a w):ju F P x Q' a w:=
 fun b k cs gH hb hr=>let ⟨e,a',w',q,r⟩:=h b k cs gH hb hr;⟨e,a',w',hq _ _ _ q,r⟩
theorem kV.mono {F:Fence} {P:Program} {x cur:Code} {Q Q':Exit→Go.Act→World→Prop} {a:Go.Act} {w:World} (h:kV F P x cur Q a w) (hq:∀e a w,Q e a w→Q' e a w):kV F P x cur Q' a w:=
 fun b k cs gH hb hr=>let ⟨e,a',w',q,r⟩:=h b k cs gH hb hr;⟨e,a',w',hq _ _ _ q,r⟩
structure Good [Env] (P:Program) (Rn:Task→St→Run):Prop where
 code:∀ {ro:Option Nat} {fn:FuncId} {c:Code} {a:Act} {σ:St} {p:Out×St→Prop},(Rn (.code ro fn c a) σ).Holds p→
  ∀ {ρ:Ren} {w:World} {a':Go.Act} {F:Fence},R ρ σ w→bw ρ a a'→fH ρ ro F→c.wpIn F 0 P (bJ p ρ σ w) a' w
 loop:∀ {ro:Option Nat} {fn:FuncId} {x:Code} {a:Act} {σ:St} {p:Out×St→Prop},(Rn (.code ro fn (.loop x) a) σ).Holds p→
  ∀ {ρ:Ren} {w:World} {a':Go.Act} {F:Fence},R ρ σ w→bw ρ a a'→fH ρ ro F→ju F P x (bJ p ρ σ w) a' w
 inScope:∀ {ro:Option Nat} {fn:FuncId} {x cur:Code} {a:Act} {σ:St} {p:Out×St→Prop},(Rn (.inScope ro fn x cur a) σ).Holds p→
  ∀ {ρ:Ren} {w:World} {a':Go.Act} {F:Fence},R ρ σ w→bw ρ a a'→fH ρ ro F→kV F P x cur (bJ p ρ σ w) a' w
 call:∀ {f:FuncId} {vs:List V} {σ:St} {p:Out×St→Prop},(Rn (.call f vs) σ).Holds p→
  ∀ {ρ:Ren} {w:World} {vs':List Value},R ρ σ w→au ρ vs vs'→(callFunc f ⟨vs'⟩).run P w=.ok (.enter f ⟨vs'⟩) w∧CallsIn Fence.wide 0 P f ⟨vs'⟩ w (cC p ρ σ w)
 deferred:∀ {f:FuncId} {vs:List V} {σ:St} {p:Out×St→Prop},(Rn (.deferred f vs) σ).Holds p→
  ∀ {ρ:Ren} {w:World} {vs':List Value},R ρ σ w→au ρ vs vs'→(callFunc f ⟨vs'⟩).run P w=.ok (.enter f ⟨vs'⟩) w∧
   ∀u,CallsDIn Fence.wide 0 P f ⟨vs'⟩ u w (fun e u' w'=>u'=u∧cC p ρ σ w e w')
 leave:∀ {fn:Func} {a:Act} {σ:St} {p:Out×St→Prop},(Rn (.leave fn a) σ).Holds p→
  ∀ {ρ:Ren} {w:World} {a':Go.Act},R ρ σ w→bw ρ a a'→LeavesInM Fence.wide 0 P fn a'.tmps (cC p ρ σ w) a'.defers .returning w
 apply:∀ {f:V} {vs:List V} {σ:St} {p:Out×St→Prop},(Rn (.apply f vs) σ).Holds p→
  ∀ {ρ:Ren} {w:World} {f':Value} {vs':List Value},R ρ σ w→aq ρ f f'→au ρ vs vs'→∃d,(Deferred.ofValue f' ⟨vs'⟩).run P w=.ok d w∧Enters P d w (cC p ρ σ w)
 round:∀ {l:Nat} {vs:List V} {σ:St} {p:Out×St→Prop},(Rn (.round l vs) σ).Holds p→
  ∀ {ρ:Ren} {w:World} {k:Loc} {vs':List Value},R ρ σ w→ρ l=some k→au ρ vs vs'→
   ∃g tmps adj bo,(Instr.yield k.c ⟨vs'⟩).run P w=.ok (.round k.c g tmps adj bo) w∧RoundIn Fence.wide 0 P k.c g tmps adj bo w (cC p ρ σ w)
section
variable {P:Program} {ρ:Ren} {σ:St} {w:World} {id:Nat} {Rn:Task→St→Run} {F:Fence} {ro:Option Nat}
theorem cC.mono [Env] {p q:Out×St→Prop} {e:Ending} {w':World} (h:cC p ρ σ w e w') (hp:∀x,p x→q x):cC q ρ σ w e w':=by
 obtain⟨v,σ',ρ',v',h1,h2⟩:=h
 exact⟨v,σ',ρ',v',hp _ h1,h2⟩
theorem bJ.mono [Env] {p q:Out×St→Prop} {e:Exit} {a':Go.Act} {w':World} (h:bJ p ρ σ w e a' w') (hp:∀x,p x→q x):bJ q ρ σ w e a' w':=by
 obtain⟨x,a,σ',ρ',h1,h2⟩:=h
 exact⟨x,a,σ',ρ',hp _ h1,h2⟩
theorem tA {t:TypeId} {b:Bool} (h:wg P t=some b):∃d,P.underlying t=some d∧(b=true→∃e,d=.pointer e)∧(b=false→∀e,d≠.pointer e):=by
 unfold wg at h
 split at h
 ·rename_i e hu;cases h;exact⟨_,hu,fun _=>⟨e,rfl⟩,fun h=>by cases h⟩
 ·rename_i d hn hu
  cases h
  exact⟨d,hu,fun h=>(by cases h),fun _ e he=>hn e he⟩
 ·cases h
theorem Dn [Env] {t:TypeId} {v recv:V} {name:String} {f:FuncId} (h:nZ P t v name=some (f,recv)) {v':Value} (hv:aq ρ v v') (w:World):
  ∃recv',(method (P.types.size+Made.depth) t v' name).run P w=.ok (f,recv') w∧aq ρ recv recv':=by
 unfold nZ at h
 rw[Option.bind_eq_some_iff] at h
 obtain⟨m,hm,h⟩:=h
 rw[Option.bind_eq_some_iff] at hm
 obtain⟨i,hi,hm⟩:=hm
 have hd:P.types.size+Made.depth=(P.types.size+(Made.depth-1))+1:=by
  have:0<Made.depth:=by decide
  omega
 rw[hd]
 unfold methodOf at h
 split at h
 ·rename_i hp
  have Jd:m.path.toList=[]:=by simpa using hp
  split at h
  ·rename_i g hf qw
   cases h
   obtain⟨d,hu,h1,_⟩:=tA qw
   obtain⟨e,rfl⟩:=h1 rfl
   refine⟨v',?_,hv⟩
   simp only[method,Sem.run_bind,run_typeInfo hi,Result.andThen_ok,hm,Jd,follow,Sem.run_pure,hf,receiverAt,run_underlying hu,Place.get]
  ·rename_i g hf qw
   cases h
   obtain⟨d,hu,_,h2⟩:=tA qw
   refine⟨v',?_,hv⟩
   simp only[method,Sem.run_bind,run_typeInfo hi,Result.andThen_ok,hm,Jd,follow,Sem.run_pure,hf,receiverAt,run_underlying hu]
   cases d<;>first
    | exact absurd rfl (h2 rfl _)
    | simp only[Place.get,Sem.run_pure,Result.andThen_ok]
  ·cases h
 ·cases h
theorem Dp [Env] {b:Builtin} {tys:Array TypeId} {ty:TypeId} {consts:Array Bool} {args:List V} {v:V} {σ':St} (hr:R ρ σ w) (cn:ρ id=none)
  (h:gf P σ id b tys.toList args=some (v,σ')) {NN:List Value} (ha:au ρ args NN):
  ∃ρ' v' w',(builtin b tys ty consts ⟨NN⟩).run P w=.ok (.value v') w'∧aq ρ' v v'∧bc (fun b=>b=id) ρ σ w ρ' σ' w':=by
 unfold gf at h
 split at h
 ·rename_i t l x yr
  have ht:tys[0]? =some t:=by rw[←Array.getElem?_toList,yr];rfl
  rw[Option.map_eq_some_iff] at h
  obtain⟨u,hu,he⟩:=h
  cases he
  cases ha with
  | cons hx hl=>
   cases hl
   obtain⟨v',aH,hv⟩:=OY (P:=P) (ty:=ty) hr ht hu hx
   exact⟨ρ,v',w,by simp [builtin,aH],hv,bc.refl hr⟩
 ·rename_i t t' l s x yr
  have ht:tys[0]? =some t:=by rw[←Array.getElem?_toList,yr];rfl
  have eU:tys[1]? =some t':=by rw[←Array.getElem?_toList,yr];rfl
  split at h
  ·cases ha with
   | cons hs hl=>
    cases hl with
    | cons hx hl=>
     cases hl
     obtain⟨ρ',v',w',aH,hv,az⟩:=Bc (P:=P) (ty:=ty) hr cn ht eU h hs hx
     exact⟨ρ',v',w',by simp [builtin,aH],hv,az⟩
  ·rename_i nw
   cases ha with
   | cons hs hl=>
    cases hl with
    | cons hx hl=>
     cases hl
     obtain⟨ρ',v',w',aH,hv,az⟩:=Dm (P:=P) (ty:=ty) hr cn ht eU nw h hs hx
     exact⟨ρ',v',w',by simp [builtin,aH],hv,az⟩
 ·cases h
  cases ha with
  | cons hx hl=>
   cases hl with
   | cons hy hl=>
    cases hl;cases hx;cases hy
    exact⟨ρ,_,w,by simp [builtin,Builtin.max_,Builtin.max2],.int _ _,bc.refl hr⟩
 ·cases h
  cases ha with
  | cons hx hl=>
   cases hl with
   | cons hy hl=>
    cases hl;cases hx;cases hy
    exact⟨ρ,_,w,by simp [builtin,Builtin.min_,Builtin.min2],.int _ _,bc.refl hr⟩
 ·rename_i t l x yr
  have ht:tys[0]? =some t:=by rw[←Array.getElem?_toList,yr];rfl
  cases ha with
  | cons hx hl=>
   cases hl
   obtain⟨w',aH,rfl,az⟩:=Jb (P:=P) (ty:=ty) (id:=id) hr ht h hx
   exact⟨ρ,_,w',by simp [builtin,aH],.tuple .nil,az⟩
 ·cases h
theorem bu.Holds.tB {α:Type} {fT:String} {p:α→Prop} {q:Prop} (h:(bu.fail fT:bu α).Holds p):q:=h.elim
theorem bJ.trans [Env] {p:Out×St→Prop} {ρ':Ren} {σ':St} {w' vz:World} {e:Exit} {a:Go.Act} (h:bc ph ρ σ w ρ' σ' w') (k:bJ p ρ' σ' w' e a vz):bJ p ρ σ w e a vz:=by
 obtain⟨x,b,τ,Bh,h1,h2,h3,h4⟩:=k
 exact⟨x,b,τ,Bh,h1,h2,h3,h.trans h4⟩
theorem cC.trans [Env] {p:Out×St→Prop} {ρ':Ren} {σ':St} {w' vz:World} {e:Ending} (h:bc ph ρ σ w ρ' σ' w') (k:cC p ρ' σ' w' e vz):cC p ρ σ w e vz:=by
 obtain⟨x,τ,Bh,v',h1,h2,h3,h4⟩:=k
 exact⟨x,τ,Bh,v',h1,h2,h3,h.trans h4⟩
theorem bc.nix [Env] {ids:Nat→Prop} {ρ':Ren} {σ':St} {w':World} (h:bc ph ρ σ w ρ' σ' w'):bc ids ρ σ w ρ' σ' w':=h.weaken fun _ h=>h.elim
theorem bu.Holds.of {α:Type} {fT:String} {x:Option α} {p:α→Prop} (h:(bu.of fT x).Holds p):∃a,x=some a∧p a:=by
 cases x with
 | none=>exact h.elim
 | some a=>exact⟨a,rfl,h⟩
theorem vC {a:Act} {q:V×Act×St→Prop} {x:Out×St} (h:(valOf a x).Holds q):∃v σ',x=(.val v,σ')∧q (v,a,σ'):=by
 obtain⟨o,σ'⟩:=x
 cases o with
 | exit e a=>exact h.elim
 | val v=>exact⟨v,σ',rfl,h⟩
theorem pR (o:Oper) {c:Call} (h:o.op=.call c) (e:Operand→Value):execOp e o=(do let d←resolve e c o.type;invoke d.target d.args):=by
 unfold execOp;rw[h]
def Je [Env] (id:Nat) (ρ:Ren) (σ:St) (w:World) (a':Go.Act) (o:Oper) (q:V×Act×St→Prop) (next:Go.Act→World→Prop):Prop:=
 ∀v aY σ' ρ' v' AG w',q (v,aY,σ')→aq ρ' v v'→bw ρ' aY AG→AG.tmps=a'.tmps→bc (fun b=>b=id) ρ σ w ρ' σ' w'→next (AG.put o.dst v') w'
theorem zI {o:Op} (hc:∀c,o≠.call c) (hd:∀c,o≠.defer c):iF P o=A1 (lU P o):=by
 cases o<;>first
  | rfl
  | exact absurd rfl (hc _)
  | exact absurd rfl (hd _)
theorem qE [Env] {a:Act} {a':Go.Act} {o:Oper} {c:Call} {q:V×Act×St→Prop} {next:Go.Act→World→Prop} {Q:Exit→Go.Act→World→Prop} {d:Deferred} {pp:Out×St→Prop}
  (bt:fH ρ ro F) (ha:bw ρ a a') (bK:o.op=.call c) (YM:(resolve a'.eval c o.type).run P w=.ok d w) (he:Enters P d w (cC pp ρ σ w))
  (xh:∀x,pp x→((valOf a x).Holds q)) (hn:Je id ρ σ w a' o q next):o.wpIn F 0 P a' w next Q:=by
 refine⟨fun f _=>bt.fn f,?_⟩
 have hs:Oper.semAt F.round a'.eval o=execOp a'.eval o:=Oper.semAt_eq _ _ _ (fun c' h=>by rw[bK] at h;cases h)
 rw[hs,pR o bK,Sem.run_bind,YM,Result.andThen_ok]
 have fin:∀ {e:Ending} {w':World},cC pp ρ σ w e w'→(match e with
   | .returned v=>next (a'.put o.dst v) w'
   | .panicked chain=>Q (.panic chain) a' w'
   | .outgrown=>LetsOut Q):=by
  intro e w' hv
  obtain⟨v,σ',ρ',v',hp,rfl,aN,az⟩:=hv
  obtain⟨u,τ,hx,hq⟩:=vC (xh _ hp)
  cases hx
  exact hn _ _ _ _ _ _ _ hq aN (ha.mono az.le) rfl az.nix
 rcases he with ⟨f,args,hinv,eV⟩ | ⟨l,f,tmps,adj,bo,hinv,Rf⟩
 ·rw[hinv]
  exact⟨bt.depth 0,(bt.calls eV).mono fun e w' hv=>by have:=fin hv;cases e<;>exact this⟩
 ·rw[hinv]
  exact⟨bt.depth 0,(bt.rounds Rf).mono fun e w' hv=>by have:=fin hv;cases e<;>exact this⟩
theorem GH {fo:Operand} {e:Ext} (h:nE P fo=some e):∃f fn,fo=.func f∧P.funcs[f]? =some fn∧fn.body=none∧fn.origin= ""∧wc fn.name=some e:=by
 unfold nE at h
 split at h
 ·rename_i f
  split at h
  ·rename_i fn hf
   split at h
   ·rename_i hb
    split at h
    ·rename_i ho
     exact⟨f,fn,rfl,hf,hb,by simpa using ho,h⟩
    ·cases h
   ·cases h
  ·cases h
 ·cases h
theorem my {fn:Func} {n:String} {e:Array Value→Sem Value} (hn:fn.name=n) (h1:Extern.allGenericRows.lookup n=none) (h2:Extern.allTypedRows.lookup n=none) (h3:Extern.allRows.lookup n=some e):Extern.find fn=some e:=by
 unfold Extern.find
 rw[hn]
 simp only[h1,h2,h3]
 rfl
theorem mz {fn:Func} {n:String} (hn:fn.name=n) (ho:fn.origin= "") (h1:Extern.allNextRows.lookup n=none) (h2:Extern.allNextRows.lookup ""=none):Extern.findNext fn=none:=by
 unfold Extern.findNext
 rw[hn,ho]
 simp only[h1,h2]
 rfl
theorem nM:Extern.allNextRows.lookup ""=none:=by kernel_rfl
theorem rD {f:FuncId} {fn:Func} {e:Array Value→Sem Value} (hf:P.funcs[f]? =some fn) (hb:fn.body=none) (eb:(fn.name== "runtime.NumGoroutine")=false) (hn:Extern.findNext fn=none) (he:Extern.find fn=some e)
  {args:Array Value} {v:Value} (hv:(e args).run P w=.ok v w):(callFunc f args).run P w=.ok (.value v) w:=by
 unfold callFunc
 have xi:(program).run P w=.ok P w:=rfl
 have hm:(mark (.extern f)).run P w=.ok () w:=rfl
 simp only[Sem.run_bind,xi,Result.andThen_ok,hf,eb,hb,hn,he,hm,hv,Bool.false_eq_true,if_false,Option.isNone_none,if_true]
 rfl
theorem OZ [Env] {fo:Operand} {e:Ext} (h:nE P fo=some e) {vs:List V} {v:V} (hv:rf e vs=some v) {vs':List Value} (gJ:au ρ vs vs'):
  ∃f v',fo=.func f∧(callFunc f ⟨vs'⟩).run P w=.ok (.value v') w∧aq ρ v v':=by
 obtain⟨f,fn,rfl,hf,hb,ho,hn⟩:=GH h
 refine⟨f,?_⟩
 unfold wc at hn
 split at hn
 ·rename_i eb
  have eb:fn.name= "math.Float64frombits":=by simpa using eb
  cases hn
  unfold rf at hv
  split at hv<;>try (rename_i hx;cases hx;done)
  all_goals try (cases hv;done)
  cases hv
  cases gJ;rename_i hx hl;cases hx;cases hl
  exact⟨_,rfl,rD hf hb (by rw[eb];rfl) (mz eb ho (by kernel_rfl) nM) (my eb (by kernel_rfl) (by kernel_rfl) (e:=Extern.MathFloatBits.float64frombits) (by kernel_rfl)) rfl,.dJ _ _⟩
 ·split at hn
  ·rename_i eb
   have eb:fn.name= "math.Float64bits":=by simpa using eb
   cases hn
   unfold rf at hv
   split at hv<;>try (rename_i hx;cases hx;done)
   all_goals try (cases hv;done)
   cases hv
   cases gJ;rename_i hx hl;cases hx;cases hl
   exact⟨_,rfl,rD hf hb (by rw[eb];rfl) (mz eb ho (by kernel_rfl) nM) (my eb (by kernel_rfl) (by kernel_rfl) (e:=Extern.MathFloatBits.float64bits) (by kernel_rfl)) rfl,.int _ _⟩
  ·split at hn
   ·rename_i eb
    have eb:fn.name= "internal/bytealg.abigen_runtime_cmpstring":=by simpa using eb
    cases hn
    unfold rf at hv
    split at hv<;>try (rename_i hx;cases hx;done)
    all_goals try (cases hv;done)
    cases hv
    cases gJ;rename_i hx hl;cases hl;rename_i hy hl;cases hx;cases hy;cases hl
    exact⟨_,rfl,rD hf hb (by rw[eb];rfl) (mz eb ho (by kernel_rfl) nM) (my eb (by kernel_rfl) (by kernel_rfl) (e:=Extern.BytealgCompare.compare) (by kernel_rfl)) (Lib.run_compareString _ _ w),.int _ _⟩
   ·split at hn
    ·rename_i eb
     have eb:fn.name= "math.archTrunc":=by simpa using eb
     cases hn
     unfold rf at hv
     split at hv<;>try (rename_i hx;cases hx;done)
     all_goals try (cases hv;done)
     split at hv
     ·cases hv
     ·rename_i YN
      cases hv
      cases gJ;rename_i hx hl;cases hx;cases hl
      refine⟨_,rfl,rD hf hb (by rw[eb];rfl) (mz eb ho (by kernel_rfl) nM) (my eb (by kernel_rfl) (by kernel_rfl) (e:=Extern.MathFloor.toIntegral "math.archTrunc" .zero) (by kernel_rfl)) ?_,.dJ _ _⟩
      rename_i b _
      show(match FloatKind.f64.decode b with
       | .nan s t=>
        if FloatKind.f64.format.quiet t=t then pure (.float .f64 b) else do
        let kept←choose (.extern "math.Floor,Ceil,Trunc,RoundToEven.signallingNaN kept" 2)
        pure (.float .f64 (if kept==1 then b else FloatKind.f64.encode (.nan s (FloatKind.f64.format.quiet t))))
       | d=>pure (.float .f64 (FloatKind.f64.encode (d.integral .zero))):Sem Value).run P w=.ok (.float .f64 (hQ b)) w
      unfold hQ
      revert YN
      cases FloatKind.f64.decode b with
      | nan s t=>exact fun h=>(h rfl).elim
      | infinity s=>exact fun _=>rfl
      | number s m e=>exact fun _=>rfl
    ·cases hn
theorem Dq [Env] (hg:Good P Rn) (hr:R ρ σ w) (cn:ρ id=none) {a:Act} {a':Go.Act} (ha:bw ρ a a') (bt:fH ρ ro F) (o:Oper) {q:V×Act×St→Prop}
  (h:((iF P o.op).f Rn ro a σ id).Holds q) {next:Go.Act→World→Prop} {Q:Exit→Go.Act→World→Prop} (hn:Je id ρ σ w a' o q next):o.wpIn F 0 P a' w next Q:=by
 by_cases eV:∃c,o.op=.call c
 ·obtain⟨c,bK⟩:=eV
  rw[bK] at h
  have h':((uP P c).f Rn ro a σ id).Holds q:=h
  unfold uP at h'
  split at h'
  ·rename_i fo DT
   split at h'
   ·rename_i e he
    dsimp only at h'
    have h':=h'.bind
    cases gJ:a.bM c.args.toList with
    | none=>rw[gJ] at h';exact h'.elim
    | some vs=>
     rw[gJ] at h'
     obtain⟨v,aV,hq⟩:∃v,rf e vs=some v∧q (v,a,σ):=by
      revert h'
      show(aJ σ "extern" (rf e vs)).Holds _→_
      cases rf e vs with
      | none=>exact fun h=>h.elim
      | some v=>exact fun h=>⟨v,rfl,h⟩
     obtain⟨f,v',NL,Jf,aN⟩:=OZ (w:=w) he aV (ha.bM _ gJ)
     refine⟨fun f _=>bt.fn f,?_⟩
     have hs:Oper.semAt F.round a'.eval o=execOp a'.eval o:=Oper.semAt_eq _ _ _ (fun c' h=>by rw[bK] at h;cases h)
     have w8:(execOp a'.eval o).run P w=.ok (.value v') w:=by
      rw[pR o bK]
      unfold resolve
      rw[DT,NL]
      dsimp only
      rw[show c.args.map a'.eval=⟨c.args.toList.map a'.eval⟩ from Array.ext' (by simp)]
      show(callFunc f ((#[]++⟨c.args.toList.map a'.eval⟩:Array Value)++#[])).run P w=_
      rw[Array.append_empty,Array.empty_append]
      exact Jf
     rw[hs,w8]
     exact hn _ _ _ _ _ _ _ hq aN ha rfl (bc.refl hr)
   dsimp only at h'
   unfold mR at h'
   split at h'
   ·rename_i fv vs hf gJ
    have h':=h'.bind
    obtain⟨d,hd,he⟩:=hg.apply h' hr (ha.eval fo hf) (ha.bM _ gJ)
    refine qE bt ha bK (d:=d) ?_ he (fun _ h=>h) hn
    unfold resolve
    rw[DT]
    dsimp only
    rw[show c.args.map a'.eval=⟨c.args.toList.map a'.eval⟩ from Array.ext' (by simp)]
    exact hd
   ·exact h'.elim
  ·rename_i x name DT
   dsimp only at h'
   unfold nI at h'
   split at h'
   ·rename_i t v vs hx gJ
    unfold mu at h'
    split at h'
    ·rename_i f recv hm
     have h':=h'.bind
     have Xg:=ha.eval x hx
     obtain⟨v',aV,hvv⟩:∃v',a'.eval x=.iface t v'∧aq ρ v v':=by
      generalize a'.eval x=x' at Xg
      cases Xg with
      | iface h=>exact⟨_,rfl,h⟩
     obtain⟨recv',Rg,dP⟩:=Dn hm hvv w
     obtain⟨Jf,hc⟩:=hg.call h' hr (.cons dP (ha.bM _ gJ))
     refine qE bt ha bK (d:={target:=.fn (.method name) #[],args:=#[a'.eval x]++c.args.map a'.eval}) ?_ (.inl ⟨f,_,?_,hc⟩) (fun _ h=>h) hn
     ·unfold resolve
      rw[DT]
      rfl
     ·have e1:(#[a'.eval x]++c.args.map a'.eval)[0]? =some (.iface t v'):=by rw[Array.getElem?_append_left (by simp),aV];rfl
      have e2:(#[recv']++(#[a'.eval x]++c.args.map a'.eval).extract 1 (#[a'.eval x]++c.args.map a'.eval).size:Array Value)=⟨recv'::c.args.toList.map a'.eval⟩:=by
       apply Array.ext';simp [List.take_of_length_le]
      simp only[invoke,e1,callMethod,Sem.run_bind]
      have xi:(program).run P w=.ok P w:=rfl
      simp only[xi,Result.andThen_ok,Rg,e2,Jf]
    ·exact h'.elim
   ·exact h'.elim
  ·rename_i b DT
   dsimp only at h'
   have h':=h'.bind
   cases gJ:a.bM c.args.toList with
   | none=>rw[gJ] at h';exact h'.elim
   | some vs=>
    rw[gJ] at h'
    obtain⟨⟨v,σ'⟩,aV,hq⟩:=bu.Holds.of h'
    obtain⟨ρ',v',w',aH,aN,az⟩:=Dp (P:=P) (ty:=o.type) (consts:=c.args.map fun | .const _=>true | _=>false) hr cn aV (ha.bM _ gJ)
    refine⟨fun f _=>bt.fn f,?_⟩
    have hs:Oper.semAt F.round a'.eval o=execOp a'.eval o:=Oper.semAt_eq _ _ _ (fun c' h=>by rw[bK] at h;cases h)
    have w8:(execOp a'.eval o).run P w=.ok (.value v') w':=by
     rw[pR o bK]
     unfold resolve
     rw[DT]
     dsimp only
     rw[show c.args.map a'.eval=⟨c.args.toList.map a'.eval⟩ from Array.ext' (by simp)]
     exact aH
    rw[hs,w8]
    exact hn _ _ _ _ _ _ _ hq aN (ha.mono az.le) rfl az
 ·by_cases Bi:∃c,o.op=.defer c
  ·obtain⟨c,bK⟩:=Bi
   rw[bK] at h
   exact(show False from h).elim
  ·have hc:∀c,o.op≠.call c:=fun c e=>eV ⟨c,e⟩
   have hd:∀c,o.op≠.defer c:=fun c e=>Bi ⟨c,e⟩
   rw[zI hc hd] at h
   have h':=bu.Holds.bind (r:=(lU P o.op).f a σ id) (f:=fq a) h
   obtain⟨v,σ',ρ',v',w',hq,aN,az,aH⟩:=KY hr cn ha o h' hc
   have hs:Oper.semAt F.round a'.eval o=execOp a'.eval o:=Oper.semAt_eq _ _ _ hd
   refine⟨fun f _=>bt.fn f,?_⟩
   rw[hs]
   have jv:q (v,a,σ'):=hq
   rcases aH with aH | ⟨rfl,aH⟩
   ·rw[aH]
    exact hn _ _ _ _ _ _ _ jv aN (ha.mono az.le) rfl az
   ·rw[aH]
    exact hn _ _ _ _ _ _ _ jv aN (ha.mono az.le) rfl az
theorem Bj (ops:Array Oper) (tmps:Array Value) (j:Nat):yielded ops tmps j=match (fE ops.toList j).bind (tmps[·]?) with
  | some (.bool b)=>some b
  | _=>none:=by
 unfold yielded fE
 rw[dz,Array.getElem?_toList]
 rfl
theorem Dr [Env] {v:V} {x:Value} (h:aq ρ v x) (hn:∀i,v≠.any i) (want:Bool):rk want (some v)=some (((match some x with | some (.bool b)=>some b | _=>none:Option Bool)==some want)):=by
 cases h<;>first
  | rfl
  | (rename_i h;obtain⟨_,_,_,e⟩:=h.fF rfl;subst e;rfl)
  | exact absurd rfl (hn _)
theorem uW {dst:Option Tmp} {v:V} {a:Act} {aB:St} {q:Act×St→Prop} (h:(lf dst (v,a,aB)).Holds q):∃aS,a.put dst v=some aS∧q (aS,aB):=by
 have h':(pO aB (a.put dst v)).Holds q:=h
 cases hp:a.put dst v with
 | none=>rw[hp] at h';exact h'.elim
 | some aS=>rw[hp] at h';exact⟨aS,rfl,h'⟩
def Rh [Env] (id:Nat) (ρ:Ren) (σ:St) (w:World) (q:Act×St→Prop) (K:Go.Act→World→Prop):Prop:=
 ∀aS bE bg iM ff,q (aS,bE)→bw bg aS iM→bc (fun b=>b=id) ρ σ w bg bE ff→K iM ff
theorem pS [Env] (hg:Good P Rn) (hr:R ρ σ w) (cn:ρ id=none) {a:Act} {a':Go.Act} (ha:bw ρ a a') (bt:fH ρ ro F) {ops:Array Oper} {i:Nat} {o:Oper} (hi:ops[i]? =some o)
  {q:Act×St→Prop} (h:((iG P ops.toList o).f Rn ro a σ id).Holds q) {K:Go.Act→World→Prop} {Q:Exit→Go.Act→World→Prop} (hK:Rh id ρ σ w q K):
  wpOpIn F 0 P ops Q i K a' w:=by
 unfold wpOpIn
 rw[hi]
 dsimp only
 have aH:((iF P o.op).f Rn ro a σ id).Holds (fun x=>(lf o.dst x).Holds q)→o.wpIn F 0 P a' w K Q:=by
  intro h
  refine Dq hg hr cn ha bt o h ?_
  intro v aY σ' ρ' v' AG w' hq hv VF _ az
  obtain⟨aS,hp,hq⟩:=uW hq
  exact hK _ _ _ _ _ hq (VF.put hv hp) az
 have VG:∀aS,a.put o.dst cO=some aS→q (aS,σ)→K (a'.put o.dst undef) w:=fun aS hp hq=>hK _ _ _ _ _ hq (ha.put zF hp) (bc.refl hr)
 have yes:Region.wanted o (yielded ops a'.tmps)=true→((iF P o.op).f Rn ro a σ id).Holds (fun x=>(lf o.dst x).Holds q)→
   (if Region.wanted o (yielded ops a'.tmps)=true then o.wpIn F 0 P a' w K Q else(∀f,o.about P w a'.eval=some f→F.fn f)∧K (a'.put o.dst undef) w):=by
  intro hw h;rw[if_pos hw];exact aH h
 have no:Region.wanted o (yielded ops a'.tmps)=false→(pO σ (a.put o.dst cO)).Holds q→
   (if Region.wanted o (yielded ops a'.tmps)=true then o.wpIn F 0 P a' w K Q else(∀f,o.about P w a'.eval=some f→F.fn f)∧K (a'.put o.dst undef) w):=by
  intro hw h
  rw[if_neg (by rw[hw];simp)]
  refine⟨fun f _=>bt.fn f,?_⟩
  unfold pO at h
  split at h
  ·rename_i aS hp;exact VG aS hp h
  ·exact h.elim
 unfold iG at h
 split at h
 ·rename_i Ri
  exact yes (by unfold Region.wanted;rw[Ri]) h.bind
 ·rename_i j want Ri
  have hwq:∀r,yielded ops a'.tmps j=r→Region.wanted o (yielded ops a'.tmps)=(r==some want):=by
   intro r hy;unfold Region.wanted;rw[Ri,←hy]
  have hy:=hwq _ (Bj ops a'.tmps j)
  unfold w5 at h
  split at h
  ·rename_i d hd
   rw[hd] at hy
   dsimp only at h
   cases hv:a.tmps.get d with
   | none=>rw[hv] at h;exact h.elim
   | some v=>
    obtain⟨x,hx,aN⟩:=ha.tmps d v hv
    have NO:∀i,v≠.any i:=by
     rintro i rfl
     rw[hv] at h
     exact h.elim
    rw[hv,Dr aN NO want] at h
    rw[Option.bind_some,hx] at hy
    rw[←hy] at h
    unfold qq at h
    cases hb:Region.wanted o (yielded ops a'.tmps) with
    | true=>
     rw[hb] at h yes
     exact yes rfl h.bind
    | false=>
     rw[hb] at h no
     exact no rfl h
  ·rename_i hd
   rw[hd] at hy
   exact no (by rw[hy];rfl) h
theorem bc.KZ [Env] {ρ':Ren} {σ':St} {w':World} (h:bc (fun b=>b=σ.next) ρ σ w ρ' σ' w'):bc ph ρ σ w ρ' σ' w':=by
 refine⟨h.r,h.le,h.next,fun b l hb=>?_,h.size,h.os,h.tape,h.output,h.aJ,h.wr,fun b k hb=>?_,h.gq⟩
 ·rcases h.iw b l hb with h1 | h1 | h1
  ·exact .inl h1
  ·exact .inr (.inl h1)
  ·exact .inr (.inl (by rw[h1];exact Nat.le_refl _))
 ·rcases h.iJ b k hb with h1 | h1 | h1
  ·exact .inl h1
  ·exact .inr (.inl h1)
  ·exact .inr (.inl (by rw[h1];exact Nat.le_refl _))
theorem GI [Env] (hg:Good P Rn) {ops:Array Oper} {p:Out×St→Prop} {bF:Ren} {σ₀:St} {eR:World}:∀(l:List Oper) (k:Nat) {a:Act} {σ:St} {ρ:Ren} {w:World} {a':Go.Act},
  ops.toList.drop k=l→((Gv P ops.toList l).f Rn ro a σ).Holds p→R ρ σ w→bw ρ a a'→fH ρ ro F→bc ph bF σ₀ eR ρ σ w→
  wpOpsIn F 0 P ops (bJ p bF σ₀ eR) (List.range' k l.length) a' w:=by
 intro l
 induction l with
 | nil=>
  intro k a σ ρ w a' _ h hr ha _ az
  exact⟨.normal,_,_,_,h,rfl,ha,az⟩
 | cons o l ih=>
  intro k a σ ρ w a' hd h hr ha bt az
  have hk:k<ops.toList.length:=by
   have:=congrArg List.length hd
   simp only[List.length_drop,List.length_cons] at this
   omega
  have DU:=List.drop_eq_getElem_cons hk
  rw[hd] at DU
  injection DU with h1 h2
  have hi:ops[k]? =some o:=by
   rw[←Array.getElem?_toList,List.getElem?_eq_getElem hk,h1]
  rw[List.length_cons,List.range'_succ,wpOpsIn_cons]
  have h':(((iG P ops.toList o).f Rn ro a σ σ.next).bind (NG ((Gv P ops.toList l).f Rn ro))).Holds p:=h
  refine pS hg hr (hr.fresh _ (Nat.le_refl _)) ha bt hi h'.bind ?_
  intro aS bE bg iM ff hq VH mV
  exact ih (k+1) h2.symm hq mV.r VH (bt.mono mV.le) (az.trans mV.KZ)
theorem Bk [Env] (hg:Good P Rn) (hr:R ρ σ w) {a:Act} {a':Go.Act} (ha:bw ρ a a') (bt:fH ρ ro F) {id:Nat} {ops:Array Oper} {p:Out×St→Prop}
  (h:((uR P ops.toList false).f Rn ro a σ).Holds p):(Code.region id ops false).wpIn F 0 P (bJ p ρ σ w) a' w:=by
 refine wpIn_region ?_
 have:=GI (F:=F) hg (ops:=ops) ops.toList 0 rfl h hr ha bt (bc.refl hr)
 rw[List.range_eq_range']
 simpa using this
end
end Go.Ev
end
section
namespace Go.Ev
open Go
noncomputable def St.ext (σ:St) (id:Nat):Option bR→St
 | none=>σ
 | some k=>σ.new id k
mutual
theorem V.beq_eq:∀ {a b:V},V.beq a b=true→a=b
 | .int ..,.int ..,h=>by simp [V.beq] at h;simp [h]
 | .bool _,.bool _,h=>by simp [V.beq] at h;simp [h]
 | .str _,.str _,h=>by simp [V.beq] at h;simp [h]
 | .dj,.dj,_=>rfl
 | .ptr ..,.ptr ..,h=>by simp [V.beq] at h;simp [h]
 | .ai,.ai,_=>rfl
 | .slice ..,.slice ..,h=>by simp [V.beq] at h;simp [h]
 | .own ..,.own ..,h=>by simp [V.beq] at h;simp [h]
 | .arr ..,.arr ..,h=>by simp [V.beq] at h;simp [h]
 | .dB,.dB,_=>rfl
 | .map _,.map _,h=>by simp [V.beq] at h;simp [h]
 | .func f x y,.func f' x' y',h=>by
  simp only[V.beq,Bool.and_eq_true,decide_eq_true_eq] at h
  rw[h.1.1,V.jK h.1.2,V.jK h.2]
 | .cH,.cH,_=>rfl
 | .any _,.any _,h=>by simp [V.beq] at h;simp [h]
 | .bj x _ _,.bj y _ _,h=>by
  simp only[V.beq,Bool.and_eq_true,beq_iff_eq] at h
  rw[V.jK h.1.1,h.1.2,h.2]
 | .aK x _,.aK y _,h=>by
  simp only[V.beq,Bool.and_eq_true,beq_iff_eq] at h
  rw[V.jK h.1,h.2]
 | .dJ ..,.dJ ..,h=>by simp [V.beq] at h;simp [h]
 | .iface t v,.iface t' v',h=>by
  simp only[V.beq,Bool.and_eq_true,beq_iff_eq] at h
  rw[h.1,V.beq_eq h.2]
 | .aW,.aW,_=>rfl
 | .agg x,.agg y,h=>by
  simp only[V.beq] at h
  rw[V.jK h]
 | .tuple x,.tuple y,h=>by
  simp only[V.beq] at h
  rw[V.jK h]
theorem V.jK:∀ {a b:List V},V.gz a b=true→a=b
 | [],[],_=>rfl
 | x::xs,y::ys,h=>by
  simp only[V.gz,Bool.and_eq_true] at h
  rw[V.beq_eq h.1,V.jK h.2]
end
def dT (D:Nat→Prop) (σ σ':St):Prop:=∀b k,σ.heap.get b=some k→D b→σ'.heap.get b=some k
section
variable {P:Program} {ρ:Ren} {id:Nat}
def bP (id:Nat) (f:St→VS):Prop:=∀σ q,(f σ).Holds q→∃v κ,q (v,σ.ext id κ)∧∀σ',f σ'=.ok (v,σ'.ext id κ)
def iN (id:Nat) (D:Nat→Prop) (f:St→VS):Prop:=
 ∀σ q,(f σ).Holds q→∃v κ,q (v,σ.ext id κ)∧f σ=.ok (v,σ.ext id κ)∧∀σ',dT D σ σ'→f σ'=.ok (v,σ'.ext id κ)
theorem bP.look {f:St→VS} (h:bP id f) (D:Nat→Prop):iN id D f:=by
 intro σ q hq
 obtain⟨v,κ,h1,h2⟩:=h σ q hq
 exact⟨v,κ,h1,h2 σ,fun σ' _=>h2 σ'⟩
theorem bP.aJ [Env] (fT:String) (x:Option V):bP id fun σ=>aJ σ fT x:=by
 intro σ q h
 obtain⟨v,hv,hq⟩:=c8 h
 exact⟨v,none,hq,fun σ'=>by rw[hv];rfl⟩
theorem bP.fail (fT:String):bP id fun _=>(.fail fT:VS):=fun _ _ h=>h.elim
theorem bP.ok (v:V):bP id fun σ=>(.ok (v,σ):VS):=fun _ _ h=>⟨v,none,h,fun _=>rfl⟩
theorem bP.new (v:V) (k:bR):bP id fun σ=>(.ok (v,σ.new id k):VS):=fun _ _ h=>⟨v,some k,h,fun _=>rfl⟩
theorem bP.eP [Env] {fT:String} {x:Option V} {g:V→St→VS} (h:∀v,bP id (g v)):bP id fun σ=>eP fT x fun v=>g v σ:=by
 cases x with
 | none=>exact .fail _
 | some v=>exact h v
theorem bP.o8 [Env] {fT:String} {x y:Option V} {g:V→V→St→VS} (h:∀v u,bP id (g v u)):bP id fun σ=>o8 fT x y fun v u=>g v u σ:=by
 cases x with
 | none=>exact .fail _
 | some v=>cases y with
  | none=>exact .fail _
  | some u=>exact h v u
theorem iN.aJ [Env] {D:Nat→Prop} (fT:String) {x:St→Option V} (h:∀σ σ' v,dT D σ σ'→x σ=some v→x σ'=some v):iN id D fun σ=>aJ σ fT (x σ):=by
 intro σ q hq
 obtain⟨v,hv,hp⟩:=c8 hq
 exact⟨v,none,hp,by dsimp only;rw[hv];rfl,fun σ' hs=>by dsimp only;rw[h σ σ' v hs hv];rfl⟩
theorem vD {a b:Act}:∀(l:List (Nat×Operand)),(∀q∈l,a.eval q.2=b.eval q.2)→a.parts l=b.parts l:=by
 intro l
 induction l with
 | nil=>intro _;rfl
 | cons q l ih=>
  intro h
  show kc (uM a q) (a.parts l)=kc (uM b q) (b.parts l)
  rw[ih fun q hq=>h q (List.mem_cons_of_mem _ hq)]
  unfold uM
  rw[h q List.mem_cons_self]
theorem mB {a b:Act}:∀(l:List Operand),(∀q∈l,a.eval q=b.eval q)→a.bM l=b.bM l:=by
 intro l
 induction l with
 | nil=>intro _;rfl
 | cons q l ih=>
  intro h
  show kc (a.eval q) (a.bM l)=kc (b.eval q) (b.bM l)
  rw[ih fun q hq=>h q (List.mem_cons_of_mem _ hq),h q List.mem_cons_self]
theorem rE {a b:Act} (x:Option Operand) (h:∀q∈x,a.eval q=b.eval q):hP a x=hP b x:=by
 cases x with
 | none=>rfl
 | some x=>show(a.eval x).map some=(b.eval x).map some;rw[h x rfl]
theorem tC [Env] {a b:Act} (o:Op) (h:∀x∈o.operands,a.eval x=b.eval x) (σ:St):(lU P o).f a σ id=(lU P o).f b σ id:=by
 cases o with
 | pick c x y=>
  simp only[Op.operands] at h
  have h1:=h c (by simp);have h2:=h x (by simp);have h3:=h y (by simp)
  show eP _ (a.eval c) (mP a σ x y)=eP _ (b.eval c) (mP b σ x y)
  rw[h1]
  congr 1
  funext v
  unfold mP
  split
  ·rename_i t;cases t<;>simp [h2,h3]
  ·rfl
 | build t ps=>
  show lZ P σ t (a.parts ps.toList)=lZ P σ t (b.parts ps.toList)
  rw[vD _ fun q hq=>h q.2 (by simp only[Op.operands,List.mem_toArray,List.mem_map];exact⟨q,hq,rfl⟩)]
 | buildSlice t n ps=>
  show fD P σ id t n (a.parts ps.toList)=fD P σ id t n (b.parts ps.toList)
  rw[vD _ fun q hq=>h q.2 (by simp only[Op.operands,List.mem_toArray,List.mem_map];exact⟨q,hq,rfl⟩)]
 | makeFunc fn f c=>
  show iE σ fn (a.bM f.toList) (a.bM c.toList)=iE σ fn (b.bM f.toList) (b.bM c.toList)
  rw[mB _ fun q hq=>h q (by simp only[Op.operands];exact Array.mem_append_left _ (by simpa using hq)),mB _ fun q hq=>h q (by simp only[Op.operands];exact Array.mem_append_right _ (by simpa using hq))]
 | makeMap t r=>rfl
 | slice t x lo hi mx=>
  show eP _ (a.eval x) (fp P a σ t lo hi mx)=eP _ (b.eval x) (fp P b σ t lo hi mx)
  rw[h x (by simp [Op.operands])]
  congr 1
  funext v
  unfold fp
  rw[rE lo fun q hq=>h q (by simp only[Op.operands];simp_all),rE hi fun q hq=>h q (by simp only[Op.operands];simp_all),rE mx fun q hq=>h q (by simp only[Op.operands];simp_all)]
 | call c=>
  show nY P a σ id c=nY P b σ id c
  unfold nY
  split
  ·rw[mB _ fun q hq=>h q (by simp only[Op.operands,Call.operands];simp_all)]
  ·rfl
 | _=>first
  | rfl
  | (simp only[Op.operands] at h
     simp [lU,h]
     done)
theorem DV {σ:St} {tys:List TypeId} {vs:List V}:gf P σ id .max tys vs=match vs with
  | [.int k x,.int _ y]=>some (.int k (if y>x then y else x),σ)
  | _=>none:=by
 rcases tys with _ | ⟨t,_ | ⟨t',tys⟩⟩<;>rcases vs with _ | ⟨x,_ | ⟨y,_ | ⟨z,l⟩⟩⟩<;>first | rfl | (cases x<;>first | rfl | (cases y<;>rfl))
theorem DW {σ:St} {tys:List TypeId} {vs:List V}:gf P σ id .min tys vs=match vs with
  | [.int k x,.int _ y]=>some (.int k (if y<x then y else x),σ)
  | _=>none:=by
 rcases tys with _ | ⟨t,_ | ⟨t',tys⟩⟩<;>rcases vs with _ | ⟨x,_ | ⟨y,_ | ⟨z,l⟩⟩⟩<;>first | rfl | (cases x<;>first | rfl | (cases y<;>rfl))
theorem tD {t:TypeId} (hp:qo P t=true) (lit:Bool) (x y:V) (σ σ':St):evalEq P σ t lit x y=evalEq P σ' t lit x y:=by
 unfold qo at hp
 unfold evalEq
 split at hp
 ·rename_i k hu;rw[hu];rfl
 ·rename_i hu;rw[hu];rfl
 ·rename_i hu;rw[hu];rfl
 ·cases hp
theorem Av {t:TypeId} (hp:ri P (some t)=true) (x:V) (σ σ':St):ez P σ t x=ez P σ' t x:=by
 unfold ri at hp
 unfold ez
 dsimp only at hp
 split at hp
 ·rename_i hu;rw[hu]
 ·rename_i hu;rw[hu]
 ·rename_i hu;rw[hu]
 ·cases hp
theorem Jg {s d:TypeId} (hp:tc P s d=true) (x:V):bP id fun σ=>cX P σ id s d x:=by
 intro σ q h
 obtain⟨⟨v,aB⟩,aV,hq⟩:=bu.Holds.of h
 unfold tc at hp
 split at hp
 ·rename_i h1 h2
  unfold evalConv at aV
  rw[h1,h2] at aV
  cases x<;>first
   | (cases aV;done)
   | (cases aV;exact⟨_,none,hq,fun σ'=>by unfold cX evalConv;rw[h1,h2];rfl⟩)
 ·rename_i h1 h2
  unfold evalConv at aV
  rw[h1,h2] at aV
  cases x<;>first
   | (cases aV;done)
   | (cases aV;exact⟨_,none,hq,fun σ'=>by unfold cX evalConv;rw[h1,h2];rfl⟩)
 ·rename_i h1 h2
  unfold evalConv at aV
  rw[h1,h2] at aV
  cases x with
  | dJ s b=>
   dsimp only at aV
   split at aV
   ·rename_i n hn
    split at aV
    ·rename_i dy
     cases aV
     exact⟨_,none,hq,fun σ'=>by unfold cX evalConv;rw[h1,h2];dsimp only;rw[hn];dsimp only;rw[if_pos dy];rfl⟩
    ·cases aV
   ·cases aV
  | _=>cases aV
 ·rename_i h1 h2
  unfold evalConv at aV
  rw[h1,h2] at aV
  cases x<;>first
   | (cases aV;done)
   | (cases aV;exact⟨_,none,hq,fun σ'=>by unfold cX evalConv;rw[h1,h2];rfl⟩)
 ·cases hp
theorem rF [Env] {a:Act} (o:Op) (h1:bl o=false) (h2:dV P o=false) (h3:mQ o=false):bP id fun σ=>(lU P o).f a σ id:=by
 cases o with
 | move x=>exact .aJ _ _
 | assign x=>exact .aJ _ _
 | pick c x y=>
  refine bP.eP (g:=fun v σ=>mP a σ x y v) fun v=>?_
  unfold mP
  split
  ·exact .aJ _ _
  ·exact .fail _
 | alloc e=>
  show bP id fun σ=>nX P σ id e
  unfold nX
  split
  ·split
   ·exact .new _ _
   ·exact .fail _
  ·exact .fail _
 | box e x=>
  refine bP.eP (g:=fun v σ=>w2 σ id v) fun v=>?_
  unfold w2
  split
  ·exact .new _ _
  ·exact .fail _
 | build t ps=>
  show bP id fun σ=>lZ P σ t (a.parts ps.toList)
  unfold lZ
  split
  ·exact .aJ _ _
  ·exact .fail _
 | buildSlice t n ps=>
  show bP id fun σ=>fD P σ id t n (a.parts ps.toList)
  unfold fD
  split
  ·split
   ·split
    ·split
     ·unfold nG
      split
      ·exact .fail _
      ·split
       ·split
        ·exact .ok _
        ·exact .fail _
       ·exact .fail _
     ·unfold ke
      split
      ·exact .fail _
      ·split
       ·split
        ·exact .new _ _
        ·exact .fail _
       ·exact .fail _
    ·exact .fail _
   ·exact .fail _
  ·exact .fail _
 | load t x=>cases h3
 | nilCheck x=>
  refine bP.eP (g:=fun v σ=>nH σ v) fun v=>?_
  unfold nH
  split
  ·exact .ok _
  ·exact .ok _
  ·exact .ok _
  ·exact .fail _
  ·exact .ok _
  ·exact .ok _
  ·exact .fail _
 | binOp op t x y yt=>
  refine bP.o8 (g:=fun v u σ=>uN P σ op t (isConst x||isConst y) v u) fun v u=>?_
  unfold uN evalBin
  split
  ·exact .aJ _ _
  ·exact .aJ _ _
  ·exact .aJ _ _
  ·split
   ·have hp:qo P t=true:=by simpa [dV] using h2
    have e:(fun σ=>aJ σ "binOp" ((evalEq P σ t (isConst x||isConst y) v u).map .bool))=fun σ=>aJ σ "binOp" ((evalEq P ⟨.leaf,0⟩ t (isConst x||isConst y) v u).map .bool):=funext fun σ=>by rw[tD hp _ _ _ σ ⟨.leaf,0⟩]
    rw[e];exact .aJ _ _
   ·have hp:qo P t=true:=by simpa [dV] using h2
    have e:(fun σ=>aJ σ "binOp" ((evalEq P σ t (isConst x||isConst y) v u).map fun b=>.bool !b))=fun σ=>aJ σ "binOp" ((evalEq P ⟨.leaf,0⟩ t (isConst x||isConst y) v u).map fun b=>.bool !b):=funext fun σ=>by rw[tD hp _ _ _ σ ⟨.leaf,0⟩]
    rw[e];exact .aJ _ _
   ·exact .aJ _ _
 | unOp op t x=>exact bP.eP (g:=fun v σ=>QR σ op v) fun v=>.aJ _ _
 | convert s d x=>exact bP.eP (g:=fun v σ=>cX P σ id s d v) fun v=>Jg (by simpa [dV] using h2) v
 | makeInterface t x=>
  refine bP.eP (g:=fun v σ=>gF P σ t v) fun v=>?_
  unfold gF
  split
  ·exact .fail _
  ·exact .ok _
  ·exact .fail _
 | makeFunc fn f c=>
  show bP id fun σ=>iE σ fn (a.bM f.toList) (a.bM c.toList)
  unfold iE
  split
  ·split
   ·exact .fail _
   ·exact .ok _
  ·exact .fail _
 | makeMap t r=>exact .fail _
 | makeSlice t l c=>
  refine bP.o8 (g:=fun v u σ=>gg P σ id t v u) fun v u=>?_
  unfold gg
  split
  ·split
   ·split
    ·unfold k9
     split
     ·exact .new _ _
     ·exact .fail _
    ·exact .fail _
   ·exact .fail _
  ·exact .fail _
 | slice t x lo hi mx=>
  refine bP.eP (g:=fun v σ=>fp P a σ t lo hi mx v) fun v=>?_
  have hn:jk P t=none:=by
   unfold jk
   simp only[dV] at h2
   split at h2
   ·cases h2
   ·rename_i bQ;split
    ·rename_i hu;exact absurd hu (bQ _ _)
    ·rfl
  unfold fp
  rw[hn]
  split
  ·exact .aJ _ _
  ·exact .fail _
 | fieldAddr s x f=>
  refine bP.eP (g:=fun v σ=>j2 P σ s f v) fun v=>?_
  unfold j2
  split
  ·split
   ·split
    ·exact .ok _
    ·exact .fail _
   ·exact .fail _
  ·split
   ·split
    ·exact .ok _
    ·exact .fail _
   ·exact .fail _
  ·split
   ·split
    ·exact .ok _
    ·exact .fail _
   ·exact .fail _
  ·exact .fail _
 | field t x f=>
  refine bP.eP (g:=fun v σ=>qn P σ t f v) fun v=>?_
  unfold qn
  split
  ·split
   ·exact .aJ _ _
   ·exact .fail _
  ·exact .fail _
 | indexAddr t x ix=>
  refine bP.o8 (g:=fun v u σ=>jb P σ t v u) fun v u=>?_
  unfold jb
  split
  ·unfold jm
   split
   ·split
    ·split
     ·exact .ok _
     ·exact .fail _
    ·exact .fail _
   ·exact .fail _
  ·unfold jl
   split
   ·split
    ·split
     ·exact .ok _
     ·exact .fail _
    ·exact .fail _
   ·exact .fail _
  ·unfold od
   split
   ·split
    ·split
     ·exact .ok _
     ·exact .fail _
    ·exact .fail _
   ·exact .fail _
  ·unfold og
   split
   ·split
    ·split
     ·split
      ·exact .ok _
      ·exact .fail _
     ·exact .fail _
    ·exact .fail _
   ·exact .fail _
  ·unfold oe
   split
   ·split
    ·split
     ·exact .ok _
     ·exact .fail _
    ·exact .fail _
   ·exact .fail _
  ·exact .fail _
 | index t x ix=>
  refine bP.o8 (g:=fun v u σ=>nW P σ t v u) fun v u=>?_
  unfold nW
  split
  ·unfold la
   split
   ·split
    ·split
     ·exact .ok _
     ·exact .fail _
    ·exact .fail _
   ·exact .fail _
  ·unfold rh
   split
   ·split
    ·split
     ·exact .aJ _ _
     ·exact .fail _
    ·exact .fail _
   ·exact .fail _
  ·exact .fail _
 | lookup t x k ok=>cases h2
 | typeAssert x xt t ok=>exact bP.eP (g:=fun v σ=>we P σ t ok v) fun v=>.aJ _ _
 | extract x i=>
  refine bP.eP (g:=fun v σ=>o7 σ i v) fun v=>?_
  unfold o7
  split
  ·exact .aJ _ _
  ·exact .fail _
 | call c=>
  show bP id fun σ=>nY P a σ id c
  obtain⟨callee,mC,ky⟩:=c
  cases callee with
  | builtin b=>
   simp only[nY]
   cases hv:a.bM mC.toList with
   | none=>exact .fail _
   | some vs=>
    unfold gG
    intro σ q h
    obtain⟨⟨v,σ'⟩,aV,hq⟩:=bu.Holds.of h
    cases b<;>first
     | (simp [bl] at h1;done)
     | skip
    ·have hp:ri P ky[0]? =true:=by simpa [dV] using h2
     rcases tF:ky.toList with _ | ⟨t,l⟩
     ·rw[tF] at aV;rcases vs with _ | ⟨x,_ | ⟨y,_⟩⟩<;>cases aV
     ·have h0:ky[0]? =some t:=by rw[←Array.getElem?_toList,tF];rfl
      rw[h0] at hp
      rw[tF] at aV
      rcases vs with _ | ⟨x,_ | ⟨y,r⟩⟩
      ·cases aV
      ·have tG:(ez P σ t x).map (·,σ)=some (v,σ'):=aV
       rw[Option.map_eq_some_iff] at tG
       obtain⟨u,hu,he⟩:=tG
       cases he
       exact⟨_,none,hq,fun σ'=>by
        show bu.of "builtin" ((ez P σ' t x).map (·,σ'))=_
        rw[Av hp x σ' σ,hu];rfl⟩
      ·cases aV
    ·rw[DV] at aV
     split at aV
     ·cases aV
      exact⟨_,none,hq,fun σ'=>by show bu.of "builtin" (gf P σ' id .max ky.toList _)=_;rw[DV];rfl⟩
     ·cases aV
    ·rw[DW] at aV
     split at aV
     ·cases aV
      exact⟨_,none,hq,fun σ'=>by show bu.of "builtin" (gf P σ' id .min ky.toList _)=_;rw[DW];rfl⟩
     ·cases aV
  | value f=>simp [bl] at h1
  | invoke x name=>simp [bl] at h1
 | store t x y=>cases h1
 | insert t m k v=>cases h1
 | mapUpdate t m k v=>cases h1
 | range t x=>cases h1
 | next it s=>cases h1
 | entry it=>cases h1
 | defer c=>cases h1
 | _=>exact .fail _
def cU (ρ:Ren) (b:Nat):Prop:=ρ b≠none
theorem dT.get {D:Nat→Prop} {σ σ':St} (h:dT D σ σ') {b:Nat} {k:bR} (hb:σ.heap.get b=some k) (hd:D b):σ'.heap.get b=some k:=h b k hb hd
theorem dT.cell [Env] {D:Nat→Prop} {σ σ':St} (h:dT D σ σ') {b off:Nat} (hd:D b) {v:V} (hv:σ.cell b off=some v):σ'.cell b off=some v:=by
 unfold St.cell at hv⊢
 split at hv
 ·rename_i n z t p ro hb;rw[h.get hb hd];exact hv
 ·cases hv
theorem dT.cells [Env] {D:Nat→Prop} {σ σ':St} (h:dT D σ σ') {b off n:Nat} (hd:D b) {v:List V} (hv:σ.cells b off n=some v):σ'.cells b off n=some v:=by
 unfold St.cells at hv⊢
 split at hv
 ·rename_i m z t p ro hb;rw[h.get hb hd];exact hv
 ·cases hv
theorem dT.ea [Env] {σ σ':St} (h:dT (cU ρ) σ σ') {t:TypeId} {x v:V} {x':Value} (hx:aq ρ x x') (hv:ea P σ t x=some v):ea P σ' t x=some v:=by
 unfold Go.Ev.ea at hv⊢
 cases x with
 | aK cs off=>
  revert hv
  cases ra P t with
  | none=>exact fun h=>h
  | some g=>cases bL P t<;>cases g<;>exact fun h=>h
 | fj b i esz off=>
  cases hx with
  | fj hl=>
   have hd:cU ρ b:=by unfold cU;rw[hl];simp
   have key:∀cs,σ.iD b i esz=some cs→σ'.iD b i esz=some cs:=by
    intro cs hc
    unfold St.iD at hc⊢
    split at hc
    ·rename_i n f z p hb;rw[h.get hb hd];exact hc
    ·cases hc
   cases ha:ra P t with
   | none=>rw[ha] at hv;simp at hv
   | some g=>
    rw[ha] at hv
    cases hs:bL P t with
    | none=>
     rw[hs] at hv
     cases g with
     | true=>simp at hv
     | false=>
      dsimp only at hv⊢
      rw[Option.bind_eq_some_iff] at hv⊢
      obtain⟨cs,hc,hv⟩:=hv
      exact⟨cs,key cs hc,hv⟩
    | some n=>
     rw[hs] at hv
     cases g with
     | true=>
      dsimp only at hv⊢
      rw[Option.bind_eq_some_iff] at hv⊢
      obtain⟨cs,hc,hv⟩:=hv
      exact⟨cs,key cs hc,hv⟩
     | false=>
      dsimp only at hv⊢
      rw[Option.bind_eq_some_iff] at hv⊢
      obtain⟨cs,hc,hv⟩:=hv
      exact⟨cs,key cs hc,hv⟩
 | ptr b off=>
  cases hx with
  | ptr hl=>
   have hd:cU ρ b:=by unfold cU;rw[hl];simp
   cases ha:ra P t with
   | none=>rw[ha] at hv;simp at hv
   | some g=>cases hs:bL P t with
    | none=>
     rw[ha,hs] at hv
     cases g with
     | true=>simp at hv
     | false=>exact h.cell hd hv
    | some n=>
     rw[ha,hs] at hv
     cases g with
     | true=>
      rw[Option.map_eq_some_iff] at hv⊢
      obtain⟨l,cD,rfl⟩:=hv
      exact⟨l,h.cells hd cD,rfl⟩
     | false=>exact h.cell hd hv
 | _=>simp at hv
theorem dT.ptrEq [Env] {σ σ':St} (h:dT (cU ρ) σ σ') {e b o b' o':Nat} {r:Bool} (hb:cU ρ b) (bq:cU ρ b') (he:ptrEq P σ e b o b' o'=some r):ptrEq P σ' e b o b' o'=some r:=by
 unfold Go.Ev.ptrEq at he⊢
 split at he
 ·rename_i m hm
  split at he
  ·split at he
   ·rename_i hk;rw[h.get hk hb];exact he
   ·cases he
  ·split at he
   ·rename_i hk eA;rw[h.get hk hb,h.get eA bq];exact he
   ·cases he
 ·cases he
theorem dT.evalEq [Env] {σ σ':St} (h:dT (cU ρ) σ σ') {t:TypeId} {lit:Bool} {x y:V} {x' y':Value} (hx:aq ρ x x') (hy:aq ρ y y') {r:Bool} (he:evalEq P σ t lit x y=some r):evalEq P σ' t lit x y=some r:=by
 unfold Go.Ev.evalEq at he⊢
 cases hu:P.underlying t with
 | none=>rw[hu] at he;exact he
 | some d=>
  rw[hu] at he
  cases d with
  | pointer e=>
   cases x with
   | ptr b o=>
    cases y with
    | ptr b' o'=>
     cases hx with
     | ptr hl=>cases hy with
      | ptr cD=>
       have jt:Go.Ev.ptrEq P σ e b o b' o'=some r:=he
       exact h.ptrEq (by unfold cU;rw[hl];simp) (by unfold cU;rw[cD];simp) jt
    | _=>exact he
   | _=>exact he
  | _=>exact he
theorem dT.evalBin [Env] {σ σ':St} (h:dT (cU ρ) σ σ') {op:BinOp} {t:TypeId} {lit:Bool} {x y:V} {x' y':Value} (hx:aq ρ x x') (hy:aq ρ y y') {v:V} (he:evalBin P σ op t lit x y=some v):evalBin P σ' op t lit x y=some v:=by
 unfold Go.Ev.evalBin at he⊢
 split at he
 ·exact he
 ·exact he
 ·exact he
 ·split at he
  ·rw[Option.map_eq_some_iff] at he⊢
   obtain⟨b,hb,rfl⟩:=he
   exact⟨b,h.evalEq hx hy hb,rfl⟩
  ·rw[Option.map_eq_some_iff] at he⊢
   obtain⟨b,hb,rfl⟩:=he
   exact⟨b,h.evalEq hx hy hb,rfl⟩
  ·cases he
theorem dT.ez [Env] {σ σ':St} (h:dT (cU ρ) σ σ') {t:TypeId} {x:V} {x':Value} (hx:aq ρ x x') {v:V} (he:ez P σ t x=some v):ez P σ' t x=some v:=by
 unfold Go.Ev.ez at he⊢
 cases hu:P.underlying t with
 | none=>rw[hu] at he;exact he
 | some d=>
  rw[hu] at he
  cases d with
  | map k e=>
   have jt:s8 σ x=some v:=he
   show s8 σ' x=some v
   unfold s8 at jt⊢
   cases x with
   | dB=>exact jt
   | map r=>
    cases hx with
    | map hl=>
     dsimp only at jt⊢
     split at jt
     ·rename_i hb;rw[h.get hb (by unfold cU;rw[hl];simp)];exact jt
     ·cases jt
   | _=>cases jt
  | _=>exact he
theorem dT.Rj [Env] {σ σ':St} (h:dT (cU ρ) σ σ') {n:Nat} {e:TypeId} {lo hi mx:Option V} {x:V} {x':Value} (hx:aq ρ x x') {v:V} (he:jG P σ n e lo hi mx x=some v):jG P σ' n e lo hi mx x=some v:=by
 unfold jG at he⊢
 split at he
 ·cases hx with
  | ptr hl=>
   split at he
   ·rename_i h1 h2 hb
    rw[h.get hb (by unfold cU;rw[hl];simp)]
    simp only[h1,h2]
    exact he
   ·cases he
 ·cases he
theorem Jh [Env] {src dst:TypeId} {x:V} {x':Value} (hx:aq ρ x x'):iN id (cU ρ) fun σ=>cX P σ id src dst x:=by
 intro σ q h
 obtain⟨⟨v,aB⟩,aV,hq⟩:=bu.Holds.of h
 have fin:∀κ,aB=σ.ext id κ→(∀σ',dT (cU ρ) σ σ'→evalConv P σ' id src dst x=some (v,σ'.ext id κ))→
   ∃v κ,q (v,σ.ext id κ)∧cX P σ id src dst x=.ok (v,σ.ext id κ)∧∀σ',dT (cU ρ) σ σ'→cX P σ' id src dst x=.ok (v,σ'.ext id κ):=by
  intro κ tH cR
  subst tH
  exact⟨v,κ,hq,by unfold cX;rw[aV];rfl,fun σ' hs=>by unfold cX;rw[cR σ' hs];rfl⟩
 unfold evalConv at aV
 split at aV
 ·rename_i h1 h2
  cases aV
  exact fin none rfl fun σ' _=>by unfold evalConv;rw[h1,h2];rfl
 ·rename_i h1 h2
  cases aV
  exact fin none rfl fun σ' _=>by unfold evalConv;rw[h1,h2];rfl
 ·rename_i h1 h2
  split at aV
  ·rename_i h3
   split at aV
   ·rename_i h4
    cases aV
    exact fin none rfl fun σ' _=>by unfold evalConv;rw[h1,h2];dsimp only;rw[h3];dsimp only;rw[if_pos h4];rfl
   ·cases aV
  ·cases aV
 ·rename_i h1 h2
  cases aV
  exact fin none rfl fun σ' _=>by unfold evalConv;rw[h1,h2];rfl
 ·rename_i h1 h2
  split at aV
  ·rename_i h3
   split at aV
   ·rename_i h4
    cases aV
    exact fin (some _) rfl fun σ' _=>by unfold evalConv;rw[h1,h2];dsimp only;rw[h3];dsimp only;rw[if_pos h4];rfl
   ·cases aV
  ·cases aV
 ·rename_i h1 h2
  split at aV
  ·rename_i h3
   cases aV
   exact fin none rfl fun σ' _=>by unfold evalConv;rw[h1,h2];dsimp only;rw[h3];rfl
  ·cases aV
 ·rename_i e b off n cap ex esz h1 h2
  split at aV
  ·rename_i h3
   split at aV
   ·rename_i l hl
    rw[Option.map_eq_some_iff] at aV
    obtain⟨s,hs,he⟩:=aV
    cases he
    cases hx with
    | slice Rk _ _ _ _=>
     exact fin none rfl fun σ' K0=>by
      unfold evalConv;rw[h1,h2];dsimp only;rw[h3];dsimp only
      rw[K0.cells (by unfold cU;rw[Rk];simp) hl]
      dsimp only
      rw[hs];rfl
   ·cases aV
  ·cases aV
 ·rename_i e es esz ex h1 h2
  split at aV
  ·rename_i h3
   split at aV
   ·rename_i h4
    rw[Option.map_eq_some_iff] at aV
    obtain⟨s,hs,he⟩:=aV
    cases he
    exact fin none rfl fun σ' _=>by unfold evalConv;rw[h1,h2];dsimp only;rw[h3];dsimp only;rw[h4];dsimp only;rw[hs];rfl
   ·cases aV
  ·cases aV
 ·rename_i e b n esz h1 h2
  split at aV
  ·rename_i h3
   split at aV
   ·rename_i n' f z p hb
    split at aV
    ·rename_i hc
     rw[Option.map_eq_some_iff] at aV
     obtain⟨s,hs,he⟩:=aV
     cases he
     cases hx with
     | own Rk _ _=>
      exact fin none rfl fun σ' K0=>by
       unfold evalConv;rw[h1,h2];dsimp only;rw[h3];dsimp only
       rw[K0.get hb (by unfold cU;rw[Rk];simp)]
       dsimp only
       rw[if_pos hc,hs];rfl
    ·cases aV
   ·cases aV
  ·cases aV
 ·cases aV
theorem GJ [Env] {a:Act} (o:Op) (h1:bl o=false) (hD:∀x∈o.operands,∀v,a.eval x=some v→∃x',aq ρ v x'):iN id (cU ρ) fun σ=>(lU P o).f a σ id:=by
 by_cases hr:mQ o=true
 ·cases o<;>try (cases hr;done)
  rename_i t x
  show iN id (cU ρ) fun σ=>eP "load operand" (a.eval x) (oh P σ t)
  cases hx:a.eval x with
  | none=>exact(bP.fail _).look _
  | some v=>
   obtain⟨x',aN⟩:=hD x (by simp [Op.operands]) v hx
   exact iN.aJ _ fun σ σ' u hs hu=>hs.ea aN hu
 ·by_cases hl:dV P o=true
  ·cases o<;>try (cases hl;done)
   case binOp op t x y yt=>
    show iN id (cU ρ) fun σ=>o8 "binOp operand" (a.eval x) (a.eval y) (uN P σ op t (isConst x||isConst y))
    cases hx:a.eval x with
    | none=>exact(bP.fail _).look _
    | some v=>cases hy:a.eval y with
     | none=>exact(bP.fail _).look _
     | some u=>
      obtain⟨x',aN⟩:=hD x (by simp [Op.operands]) v hx
      obtain⟨y',VI⟩:=hD y (by simp [Op.operands]) u hy
      exact iN.aJ _ fun σ σ' u hs hu=>hs.evalBin aN VI hu
   case convert s d x=>
    show iN id (cU ρ) fun σ=>eP "convert operand" (a.eval x) (cX P σ id s d)
    cases hx:a.eval x with
    | none=>exact(bP.fail _).look _
    | some v=>
     obtain⟨x',aN⟩:=hD x (by simp [Op.operands]) v hx
     exact Jh aN
   case slice t x lo hi mx=>
    show iN id (cU ρ) fun σ=>eP "slice operand" (a.eval x) (fp P a σ t lo hi mx)
    cases hx:a.eval x with
    | none=>exact(bP.fail _).look _
    | some v=>
     obtain⟨x',aN⟩:=hD x (by simp [Op.operands]) v hx
     show iN id (cU ρ) fun σ=>fp P a σ t lo hi mx v
     unfold fp
     split
     ·split
      ·exact iN.aJ _ fun σ σ' u hs hu=>hs.Rj aN hu
      ·exact(bP.aJ _ _).look _
     ·exact(bP.fail _).look _
   case lookup t x k ok=>exact(bP.fail _).look _
   case call c=>
    obtain⟨callee,mC,ky⟩:=c
    cases callee with
    | builtin b=>
     cases b<;>try (simp [dV] at hl;done)
     show iN id (cU ρ) fun σ=>gG P σ id .len ky.toList (a.bM mC.toList)
     cases hv:a.bM mC.toList with
     | none=>exact(bP.fail _).look _
     | some vs=>
      have VJ:∀(l:List Operand) (vs:List V),(∀x∈l,x∈mC.toList)→a.bM l=some vs→∀v∈vs,∃x',aq ρ v x':=by
       intro l
       induction l with
       | nil=>intro vs _ h;cases h;intro v hv;cases hv
       | cons x l ih=>
        intro vs hl h
        obtain⟨u,r,h1,h2,rfl⟩:=nJ (x:=a.eval x) (l:=a.bM l) h
        intro v hv
        rcases List.mem_cons.1 hv with rfl | hv
        ·exact hD x (by simp only[Op.operands,Call.operands];have:=hl x List.mem_cons_self;simp_all) v h1
        ·exact ih r (fun y hy=>hl y (List.mem_cons_of_mem _ hy)) h2 v hv
      intro σ q h
      obtain⟨⟨v,aB⟩,aV,hq⟩:=bu.Holds.of h
      have VK:∃t l x u,ky.toList=t::l∧vs=[x]∧ez P σ t x=some u∧v=u∧aB=σ:=by
       rcases tF:ky.toList with _ | ⟨t,l⟩
       ·rw[tF] at aV;rcases vs with _ | ⟨x,_ | ⟨y,_⟩⟩<;>cases aV
       ·rw[tF] at aV
        rcases vs with _ | ⟨x,_ | ⟨y,r⟩⟩
        ·cases aV
        ·have tG:(ez P σ t x).map (·,σ)=some (v,aB):=aV
         rw[Option.map_eq_some_iff] at tG
         obtain⟨u,hu,he⟩:=tG
         cases he
         exact⟨t,l,x,_,rfl,rfl,hu,rfl,rfl⟩
        ·cases aV
      obtain⟨t,l,x,u,tF,rfl,hu,rfl,rfl⟩:=VK
      obtain⟨x',aN⟩:=VJ mC.toList [x] (fun _ h=>h) hv x (by simp)
      have mk:∀σ',ez P σ' t x=some v→gG P σ' id .len ky.toList (some [x])=.ok (v,σ'):=by
       intro σ' hl
       show bu.of "builtin" (gf P σ' id .len ky.toList [x])=_
       rw[tF]
       show bu.of "builtin" ((ez P σ' t x).map (·,σ'))=_
       rw[hl];rfl
      exact⟨v,none,hq,mk aB hu,fun σ' hs=>mk σ' (hs.ez aN hu)⟩
    | value f=>simp [dV] at hl
    | invoke x name=>simp [dV] at hl
  ·exact(rF o h1 (by simpa using hl) (by simpa using hr)).look _
end
end Go.Ev
end
