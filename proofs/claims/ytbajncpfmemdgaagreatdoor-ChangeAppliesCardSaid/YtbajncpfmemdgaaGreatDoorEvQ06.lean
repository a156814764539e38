/- Proved: parts of the way: Reg, DrawA. -/
import Derived.Test.YtbajncpfmemdgaaGreatDoorEvQ05
import Derived.OrdersIn
import Derived.KernelRfl
set_option linter.unusedVariables false
set_option linter.unusedSimpArgs false
section
namespace Go.Ev
open Go
def fZ (ρ:Ren) (ro:Option Nat) (F:Fence):Prop:=
 match ro with
 | none=>F=Fence.wide
 | some l=>∃k,ρ l=some k∧F=Fence.wide.inRound k.c
theorem fZ.mono {ρ ρ':Ren} (eg:ρ.le ρ') {ro:Option Nat} {F:Fence} (h:fZ ρ ro F):fZ ρ' ro F:=by
 cases ro with
 | none=>exact h
 | some l=>obtain⟨k,hk,hF⟩:=h;exact⟨k,eg _ _ hk,hF⟩
theorem fZ.fn {ρ:Ren} {ro:Option Nat} {F:Fence} (h:fZ ρ ro F) (f:FuncId):F.fn f:=by
 cases ro with
 | none=>cases h;trivial
 | some l=>obtain⟨k,_,rfl⟩:=h;trivial
theorem fZ.depth {ρ:Ren} {ro:Option Nat} {F:Fence} (h:fZ ρ ro F) (n:Nat):F.depth.isSome=true→1≤n:=by
 cases ro with
 | none=>cases h;intro h;cases h
 | some l=>obtain⟨k,_,rfl⟩:=h;intro h;cases h
theorem fZ.calls {ρ:Ren} {ro:Option Nat} {F:Fence} (h:fZ ρ ro F) {n:Nat} {P:Program} {f:FuncId} {args:Array Value} {w:World} {Q:Ending→World→Prop}
  (hc:CallsIn Fence.wide n P f args w Q):CallsIn F n P f args w Q:=by
 cases ro with
 | none=>cases h;exact hc
 | some l=>obtain⟨k,_,rfl⟩:=h;exact hc
theorem fZ.rounds {ρ:Ren} {ro:Option Nat} {F:Fence} (h:fZ ρ ro F) {n:Nat} {P:Program} {l:Nat} {f:FuncId} {tmps:Array Value} {akK bo:Code} {w:World} {Q:Ending→World→Prop}
  (hc:RoundIn Fence.wide n P l f tmps akK bo w Q):RoundIn F n P l f tmps akK bo w Q:=by
 cases ro with
 | none=>cases h;exact hc
 | some l=>obtain⟨k,_,rfl⟩:=h;exact hc
def ry:Ex→Exit
 | .normal=>.normal
 | .exit i=>.exit i
 | .goto l=>.goto l
 | .ret=>.ret
def qh:Nat→Prop:=fun _=>False
def bW [Env] (p:Out×St→Prop) (ρ:Ren) (σ:St) (w:World):Exit→Go.Act→World→Prop:=
 fun e a' w'=>∃x a σ' ρ',p (.exit x a,σ')∧e=ry x∧bO ρ' a a'∧bn qh ρ σ w ρ' σ' w'
def cO [Env] (p:Out×St→Prop) (ρ:Ren) (σ:St) (w:World):Ending→World→Prop:=
 fun e w'=>∃v σ' ρ' v',p (.val v,σ')∧e=.returned v'∧au ρ' v v'∧bn qh ρ σ w ρ' σ' w'
def Enters (P:Program) (d:Deferred) (w:World) (Q:Ending→World→Prop):Prop:=
 (∃f args,(invoke d.target d.args).run P w=.ok (.enter f args) w∧CallsIn Fence.wide 0 P f args w Q)∨
 (∃l f tmps akK bo,(invoke d.target d.args).run P w=.ok (.round l f tmps akK bo) w∧RoundIn Fence.wide 0 P l f tmps akK bo w Q)
def lQ (F:Fence) (P:Program) (x cur:Code) (Q:Exit→Go.Act→World→Prop) (a:Go.Act) (w:World):Prop:=
 ∀(b:Frame) (k:List Go.Item) (cs:List Frame),b.roundOf=F.round→F.fn b.fn→F.room (cs.length+1+0)→
  ∃e a' w',Q e a' w'∧ArrivesIn (Machine.fenced P F) P (lone (b.atR a (.code cur::.inScope x::k)) cs w) b k cs e a' w'
def j7 (F:Fence) (P:Program) (x:Code) (Q:Exit→Go.Act→World→Prop) (a:Go.Act) (w:World):Prop:=
 ∀(b:Frame) (k:List Go.Item) (cs:List Frame),b.roundOf=F.round→F.fn b.fn→F.room (cs.length+1+0)→
  ∃e a' w',Q e a' w'∧ArrivesIn (Machine.fenced P F) P (lone (b.atR a (.inLoop x::k)) cs w) b k cs e a' w'
theorem j7.mono {F:Fence} {P:Program} {x:Code} {Q Q':Exit→Go.Act→World→Prop} {a:Go.Act} {w:World} (h:j7 F P x Q a w) (hq:∀e a w,Q e a w→Q' e a w):j7 F P x Q' a w:=
 fun b k cs ie hb hr=>let ⟨e,a',w',q,r⟩:=h b k cs ie hb hr;⟨e,a',w',hq _ _ _ q,r⟩
theorem lQ.mono {F:Fence} {P:Program} {x cur:Code} {Q Q':Exit→Go.Act→World→Prop} {a:Go.Act} {w:World} (h:lQ F P x cur Q a w) (hq:∀e a w,Q e a w→Q' e a w):lQ F P x cur Q' a w:=
 fun b k cs ie hb hr=>let ⟨e,a',w',q,r⟩:=h b k cs ie hb hr;⟨e,a',w',hq _ _ _ q,r⟩
structure Good [Env] (P:Program) (Rn:Task→St→Run):Prop where
 code:∀ {ro:Option Nat} {fn:FuncId} {c:Code} {a:Act} {σ:St} {p:Out×St→Prop},(Rn (.code ro fn c a) σ).Holds p→
  ∀ {ρ:Ren} {w:World} {a':Go.Act} {F:Fence},R ρ σ w→bO ρ a a'→fZ ρ ro F→c.wpIn F 0 P (bW p ρ σ w) a' w
 loop:∀ {ro:Option Nat} {fn:FuncId} {x:Code} {a:Act} {σ:St} {p:Out×St→Prop},(Rn (.code ro fn (.loop x) a) σ).Holds p→
  ∀ {ρ:Ren} {w:World} {a':Go.Act} {F:Fence},R ρ σ w→bO ρ a a'→fZ ρ ro F→j7 F P x (bW p ρ σ w) a' w
 inScope:∀ {ro:Option Nat} {fn:FuncId} {x cur:Code} {a:Act} {σ:St} {p:Out×St→Prop},(Rn (.inScope ro fn x cur a) σ).Holds p→
  ∀ {ρ:Ren} {w:World} {a':Go.Act} {F:Fence},R ρ σ w→bO ρ a a'→fZ ρ ro F→lQ F P x cur (bW p ρ σ w) a' w
 call:∀ {f:FuncId} {vs:List V} {σ:St} {p:Out×St→Prop},(Rn (.call f vs) σ).Holds p→
  ∀ {ρ:Ren} {w:World} {vs':List Value},R ρ σ w→aB ρ vs vs'→(callFunc f ⟨vs'⟩).run P w=.ok (.enter f ⟨vs'⟩) w∧CallsIn Fence.wide 0 P f ⟨vs'⟩ w (cO p ρ σ w)
 deferred:∀ {f:FuncId} {vs:List V} {σ:St} {p:Out×St→Prop},(Rn (.deferred f vs) σ).Holds p→
  ∀ {ρ:Ren} {w:World} {vs':List Value},R ρ σ w→aB ρ vs vs'→(callFunc f ⟨vs'⟩).run P w=.ok (.enter f ⟨vs'⟩) w∧
   ∀u,CallsDIn Fence.wide 0 P f ⟨vs'⟩ u w (fun e u' w'=>u'=u∧cO p ρ σ w e w')
 leave:∀ {fn:Func} {a:Act} {σ:St} {p:Out×St→Prop},(Rn (.leave fn a) σ).Holds p→
  ∀ {ρ:Ren} {w:World} {a':Go.Act},R ρ σ w→bO ρ a a'→LeavesInM Fence.wide 0 P fn a'.tmps (cO p ρ σ w) a'.defers .returning w
 apply:∀ {f:V} {vs:List V} {σ:St} {p:Out×St→Prop},(Rn (.apply f vs) σ).Holds p→
  ∀ {ρ:Ren} {w:World} {f':Value} {vs':List Value},R ρ σ w→au ρ f f'→aB ρ vs vs'→∃d,(Deferred.ofValue f' ⟨vs'⟩).run P w=.ok d w∧Enters P d w (cO p ρ σ w)
 round:∀ {l:Nat} {vs:List V} {σ:St} {p:Out×St→Prop},(Rn (.round l vs) σ).Holds p→
  ∀ {ρ:Ren} {w:World} {k:Loc} {vs':List Value},R ρ σ w→ρ l=some k→aB ρ vs vs'→
   ∃g tmps akK bo,(Instr.yield k.c ⟨vs'⟩).run P w=.ok (.round k.c g tmps akK bo) w∧RoundIn Fence.wide 0 P k.c g tmps akK bo w (cO p ρ σ w)
section
variable {P:Program} {ρ:Ren} {σ:St} {w:World} {id:Nat} {Rn:Task→St→Run} {F:Fence} {ro:Option Nat}
theorem cO.mono [Env] {p q:Out×St→Prop} {e:Ending} {w':World} (h:cO p ρ σ w e w') (hp:∀x,p x→q x):cO q ρ σ w e w':=by
 obtain⟨v,σ',ρ',v',h1,h2⟩:=h
 exact⟨v,σ',ρ',v',hp _ h1,h2⟩
theorem bW.mono [Env] {p q:Out×St→Prop} {e:Exit} {a':Go.Act} {w':World} (h:bW p ρ σ w e a' w') (hp:∀x,p x→q x):bW q ρ σ w e a' w':=by
 obtain⟨x,a,σ',ρ',h1,h2⟩:=h
 exact⟨x,a,σ',ρ',hp _ h1,h2⟩
theorem uU {t:TypeId} {b:Bool} (h:xx P t=some b):∃d,P.underlying t=some d∧(b=true→∃e,d=.pointer e)∧(b=false→∀e,d≠.pointer e):=by
 unfold xx at h
 split at h
 ·rename_i e hu;cases h;exact⟨_,hu,fun _=>⟨e,rfl⟩,fun h=>by cases h⟩
 ·rename_i d hn hu
  cases h
  exact⟨d,hu,fun h=>(by cases h),fun _ e he=>hn e he⟩
 ·cases h
theorem Gp [Env] {t:TypeId} {v recv:V} {name:String} {f:FuncId} (h:o6 P t v name=some (f,recv)) {v':Value} (hv:au ρ v v') (w:World):
  ∃recv',(method (P.types.size+Made.depth) t v' name).run P w=.ok (f,recv') w∧au ρ recv recv':=by
 unfold o6 at h
 rw[Option.bind_eq_some_iff] at h
 obtain⟨m,hm,h⟩:=h
 rw[Option.bind_eq_some_iff] at hm
 obtain⟨i,hi,hm⟩:=hm
 have hd:P.types.size+Made.depth=(P.types.size+(Made.depth-1))+1:=by
  have:0<Made.depth:=by decide
  omega
 rw[hd]
 unfold methodOf at h
 split at h
 ·rename_i hp
  have M1:m.path.toList=[]:=by simpa using hp
  split at h
  ·rename_i g hf rl
   cases h
   obtain⟨d,hu,h1,_⟩:=uU rl
   obtain⟨e,rfl⟩:=h1 rfl
   refine⟨v',?_,hv⟩
   simp only[method,Sem.run_bind,run_typeInfo hi,Result.andThen_ok,hm,M1,follow,Sem.run_pure,hf,receiverAt,run_underlying hu,Place.get]
  ·rename_i g hf rl
   cases h
   obtain⟨d,hu,_,h2⟩:=uU rl
   refine⟨v',?_,hv⟩
   simp only[method,Sem.run_bind,run_typeInfo hi,Result.andThen_ok,hm,M1,follow,Sem.run_pure,hf,receiverAt,run_underlying hu]
   cases d<;>first
    | exact absurd rfl (h2 rfl _)
    | simp only[Place.get,Sem.run_pure,Result.andThen_ok]
  ·cases h
 ·cases h
theorem Gq [Env] {b:Builtin} {tys:Array TypeId} {ty:TypeId} {consts:Array Bool} {args:List V} {v:V} {σ':St} (hr:R ρ σ w) (cx:ρ id=none)
  (h:gH P σ id b tys.toList args=some (v,σ')) {SD:List Value} (ha:aB ρ args SD):
  ∃ρ' v' w',(builtin b tys ty consts ⟨SD⟩).run P w=.ok (.value v') w'∧au ρ' v v'∧bn (fun b=>b=id) ρ σ w ρ' σ' w':=by
 unfold gH at h
 split at h
 ·rename_i t l x zN
  have ht:tys[0]? =some t:=by rw[←Array.getElem?_toList,zN];rfl
  rw[Option.map_eq_some_iff] at h
  obtain⟨u,hu,he⟩:=h
  cases he
  cases ha with
  | cons hx hl=>
   cases hl
   obtain⟨v',aP,hv⟩:=Ud (P:=P) (ty:=ty) hr ht hu hx
   exact⟨ρ,v',w,by simp [builtin,aP],hv,bn.refl hr⟩
 ·rename_i t t' l s x zN
  have ht:tys[0]? =some t:=by rw[←Array.getElem?_toList,zN];rfl
  have eZ:tys[1]? =some t':=by rw[←Array.getElem?_toList,zN];rfl
  split at h
  ·cases ha with
   | cons hs hl=>
    cases hl with
    | cons hx hl=>
     cases hl
     obtain⟨ρ',v',w',aP,hv,aH⟩:=De (P:=P) (ty:=ty) hr cx ht eZ h hs hx
     exact⟨ρ',v',w',by simp [builtin,aP],hv,aH⟩
  ·rename_i oB
   cases ha with
   | cons hs hl=>
    cases hl with
    | cons hx hl=>
     cases hl
     obtain⟨ρ',v',w',aP,hv,aH⟩:=Gn (P:=P) (ty:=ty) hr cx ht eZ oB h hs hx
     exact⟨ρ',v',w',by simp [builtin,aP],hv,aH⟩
 ·cases h
  cases ha with
  | cons hx hl=>
   cases hl with
   | cons hy hl=>
    cases hl;cases hx;cases hy
    exact⟨ρ,_,w,by simp [builtin,Builtin.max_,Builtin.max2],.int _ _,bn.refl hr⟩
 ·cases h
  cases ha with
  | cons hx hl=>
   cases hl with
   | cons hy hl=>
    cases hl;cases hx;cases hy
    exact⟨ρ,_,w,by simp [builtin,Builtin.min_,Builtin.min2],.int _ _,bn.refl hr⟩
 ·rename_i t l x zN
  have ht:tys[0]? =some t:=by rw[←Array.getElem?_toList,zN];rfl
  cases ha with
  | cons hx hl=>
   cases hl
   obtain⟨w',aP,rfl,aH⟩:=MZ (P:=P) (ty:=ty) (id:=id) hr ht h hx
   exact⟨ρ,_,w',by simp [builtin,aP],.tuple .nil,aH⟩
 ·cases h
theorem bL.Holds.uV {α:Type} {gr:String} {p:α→Prop} {q:Prop} (h:(bL.fail gr:bL α).Holds p):q:=h.elim
theorem bW.trans [Env] {p:Out×St→Prop} {ρ':Ren} {σ':St} {w' wW:World} {e:Exit} {a:Go.Act} (h:bn qh ρ σ w ρ' σ' w') (k:bW p ρ' σ' w' e a wW):bW p ρ σ w e a wW:=by
 obtain⟨x,b,τ,Dj,h1,h2,h3,h4⟩:=k
 exact⟨x,b,τ,Dj,h1,h2,h3,h.trans h4⟩
theorem cO.trans [Env] {p:Out×St→Prop} {ρ':Ren} {σ':St} {w' wW:World} {e:Ending} (h:bn qh ρ σ w ρ' σ' w') (k:cO p ρ' σ' w' e wW):cO p ρ σ w e wW:=by
 obtain⟨x,τ,Dj,v',h1,h2,h3,h4⟩:=k
 exact⟨x,τ,Dj,v',h1,h2,h3,h.trans h4⟩
theorem bn.nix [Env] {ids:Nat→Prop} {ρ':Ren} {σ':St} {w':World} (h:bn qh ρ σ w ρ' σ' w'):bn ids ρ σ w ρ' σ' w':=h.weaken fun _ h=>h.elim
theorem bL.Holds.of {α:Type} {gr:String} {x:Option α} {p:α→Prop} (h:(bL.of gr x).Holds p):∃a,x=some a∧p a:=by
 cases x with
 | none=>exact h.elim
 | some a=>exact⟨a,rfl,h⟩
theorem wZ {a:Act} {q:V×Act×St→Prop} {x:Out×St} (h:(valOf a x).Holds q):∃v σ',x=(.val v,σ')∧q (v,a,σ'):=by
 obtain⟨o,σ'⟩:=x
 cases o with
 | exit e a=>exact h.elim
 | val v=>exact⟨v,σ',rfl,h⟩
theorem qJ (o:Oper) {c:Call} (h:o.op=.call c) (e:Operand→Value):execOp e o=(do let d←resolve e c o.type;invoke d.target d.args):=by
 unfold execOp;rw[h]
def M3 [Env] (id:Nat) (ρ:Ren) (σ:St) (w:World) (a':Go.Act) (o:Oper) (q:V×Act×St→Prop) (next:Go.Act→World→Prop):Prop:=
 ∀v bf σ' ρ' v' Cw w',q (v,bf,σ')→au ρ' v v'→bO ρ' bf Cw→Cw.tmps=a'.tmps→bn (fun b=>b=id) ρ σ w ρ' σ' w'→next (Cw.put o.dst v') w'
theorem BC {o:Op} (hc:∀c,o≠.call c) (hd:∀c,o≠.defer c):jn P o=C3 (mH P o):=by
 cases o<;>first
  | rfl
  | exact absurd rfl (hc _)
  | exact absurd rfl (hd _)
theorem rz [Env] {a:Act} {a':Go.Act} {o:Oper} {c:Call} {q:V×Act×St→Prop} {next:Go.Act→World→Prop} {Q:Exit→Go.Act→World→Prop} {d:Deferred} {pp:Out×St→Prop}
  (bH:fZ ρ ro F) (ha:bO ρ a a') (bP:o.op=.call c) (ae9:(resolve a'.eval c o.type).run P w=.ok d w) (he:Enters P d w (cO pp ρ σ w))
  (yw:∀x,pp x→((valOf a x).Holds q)) (hn:M3 id ρ σ w a' o q next):o.wpIn F 0 P a' w next Q:=by
 refine⟨fun f _=>bH.fn f,?_⟩
 have hs:Oper.semAt F.round a'.eval o=execOp a'.eval o:=Oper.semAt_eq _ _ _ (fun c' h=>by rw[bP] at h;cases h)
 rw[hs,qJ o bP,Sem.run_bind,ae9,Result.andThen_ok]
 have fin:∀ {e:Ending} {w':World},cO pp ρ σ w e w'→(match e with
   | .returned v=>next (a'.put o.dst v) w'
   | .panicked chain=>Q (.panic chain) a' w'
   | .outgrown=>LetsOut Q):=by
  intro e w' hv
  obtain⟨v,σ',ρ',v',hp,rfl,aT,aH⟩:=hv
  obtain⟨u,τ,hx,hq⟩:=wZ (yw _ hp)
  cases hx
  exact hn _ _ _ _ _ _ _ hq aT (ha.mono aH.le) rfl aH.nix
 rcases he with ⟨f,args,hinv,fp⟩ | ⟨l,f,tmps,akK,bo,hinv,WW⟩
 ·rw[hinv]
  exact⟨bH.depth 0,(bH.calls fp).mono fun e w' hv=>by have:=fin hv;cases e<;>exact this⟩
 ·rw[hinv]
  exact⟨bH.depth 0,(bH.rounds WW).mono fun e w' hv=>by have:=fin hv;cases e<;>exact this⟩
theorem Kk {fo:Operand} {e:Ext} (h:oG P fo=some e):∃f fn,fo=.func f∧P.funcs[f]? =some fn∧fn.body=none∧fn.origin= ""∧xu fn.name=some e:=by
 unfold oG at h
 split at h
 ·rename_i f
  split at h
  ·rename_i fn hf
   split at h
   ·rename_i hb
    split at h
    ·rename_i ho
     exact⟨f,fn,rfl,hf,hb,by simpa using ho,h⟩
    ·cases h
   ·cases h
  ·cases h
 ·cases h
theorem nB {fn:Func} {n:String} {e:Array Value→Sem Value} (hn:fn.name=n) (h1:Extern.allGenericRows.lookup n=none) (h2:Extern.allTypedRows.lookup n=none) (h3:Extern.allRows.lookup n=some e):Extern.find fn=some e:=by
 unfold Extern.find
 rw[hn]
 simp only[h1,h2,h3]
 rfl
theorem nC {fn:Func} {n:String} (hn:fn.name=n) (ho:fn.origin= "") (h1:Extern.allNextRows.lookup n=none) (h2:Extern.allNextRows.lookup ""=none):Extern.findNext fn=none:=by
 unfold Extern.findNext
 rw[hn,ho]
 simp only[h1,h2]
 rfl
theorem oP:Extern.allNextRows.lookup ""=none:=by kernel_rfl
theorem sE {f:FuncId} {fn:Func} {e:Array Value→Sem Value} (hf:P.funcs[f]? =some fn) (hb:fn.body=none) (eu:(fn.name== "runtime.NumGoroutine")=false) (hn:Extern.findNext fn=none) (he:Extern.find fn=some e)
  {args:Array Value} {v:Value} (hv:(e args).run P w=.ok v w):(callFunc f args).run P w=.ok (.value v) w:=by
 unfold callFunc
 have yx:(program).run P w=.ok P w:=rfl
 have hm:(mark (.extern f)).run P w=.ok () w:=rfl
 simp only[Sem.run_bind,yx,Result.andThen_ok,hf,eu,hb,hn,he,hm,hv,Bool.false_eq_true,if_false,Option.isNone_none,if_true]
 rfl
theorem Ue [Env] {fo:Operand} {e:Ext} (h:oG P fo=some e) {vs:List V} {v:V} (hv:si e vs=some v) {vs':List Value} (ij:aB ρ vs vs'):
  ∃f v',fo=.func f∧(callFunc f ⟨vs'⟩).run P w=.ok (.value v') w∧au ρ v v':=by
 obtain⟨f,fn,rfl,hf,hb,ho,hn⟩:=Kk h
 refine⟨f,?_⟩
 unfold xu at hn
 split at hn
 ·rename_i eu
  have eu:fn.name= "math.Float64frombits":=by simpa using eu
  cases hn
  unfold si at hv
  split at hv<;>try (rename_i hx;cases hx;done)
  all_goals try (cases hv;done)
  cases hv
  cases ij;rename_i hx hl;cases hx;cases hl
  exact⟨_,rfl,sE hf hb (by rw[eu];rfl) (nC eu ho (by kernel_rfl) oP) (nB eu (by kernel_rfl) (by kernel_rfl) (e:=Extern.MathFloatBits.float64frombits) (by kernel_rfl)) rfl,.dQ _ _⟩
 ·split at hn
  ·rename_i eu
   have eu:fn.name= "math.Float64bits":=by simpa using eu
   cases hn
   unfold si at hv
   split at hv<;>try (rename_i hx;cases hx;done)
   all_goals try (cases hv;done)
   cases hv
   cases ij;rename_i hx hl;cases hx;cases hl
   exact⟨_,rfl,sE hf hb (by rw[eu];rfl) (nC eu ho (by kernel_rfl) oP) (nB eu (by kernel_rfl) (by kernel_rfl) (e:=Extern.MathFloatBits.float64bits) (by kernel_rfl)) rfl,.int _ _⟩
  ·split at hn
   ·rename_i eu
    have eu:fn.name= "internal/bytealg.abigen_runtime_cmpstring":=by simpa using eu
    cases hn
    unfold si at hv
    split at hv<;>try (rename_i hx;cases hx;done)
    all_goals try (cases hv;done)
    cases hv
    cases ij;rename_i hx hl;cases hl;rename_i hy hl;cases hx;cases hy;cases hl
    exact⟨_,rfl,sE hf hb (by rw[eu];rfl) (nC eu ho (by kernel_rfl) oP) (nB eu (by kernel_rfl) (by kernel_rfl) (e:=Extern.BytealgCompare.compare) (by kernel_rfl)) (Lib.run_compareString _ _ w),.int _ _⟩
   ·split at hn
    ·rename_i eu
     have eu:fn.name= "math.archTrunc":=by simpa using eu
     cases hn
     unfold si at hv
     split at hv<;>try (rename_i hx;cases hx;done)
     all_goals try (cases hv;done)
     split at hv
     ·cases hv
     ·rename_i afa
      cases hv
      cases ij;rename_i hx hl;cases hx;cases hl
      refine⟨_,rfl,sE hf hb (by rw[eu];rfl) (nC eu ho (by kernel_rfl) oP) (nB eu (by kernel_rfl) (by kernel_rfl) (e:=Extern.MathFloor.toIntegral "math.archTrunc" .zero) (by kernel_rfl)) ?_,.dQ _ _⟩
      rename_i b _
      show(match FloatKind.f64.decode b with
       | .nan s t=>
        if FloatKind.f64.format.quiet t=t then pure (.float .f64 b) else do
        let kept←choose (.extern "math.Floor,Ceil,Trunc,RoundToEven.signallingNaN kept" 2)
        pure (.float .f64 (if kept==1 then b else FloatKind.f64.encode (.nan s (FloatKind.f64.format.quiet t))))
       | d=>pure (.float .f64 (FloatKind.f64.encode (d.integral .zero))):Sem Value).run P w=.ok (.float .f64 (iV b)) w
      unfold iV
      revert afa
      cases FloatKind.f64.decode b with
      | nan s t=>exact fun h=>(h rfl).elim
      | infinity s=>exact fun _=>rfl
      | number s m e=>exact fun _=>rfl
    ·cases hn
theorem Gr [Env] (hg:Good P Rn) (hr:R ρ σ w) (cx:ρ id=none) {a:Act} {a':Go.Act} (ha:bO ρ a a') (bH:fZ ρ ro F) (o:Oper) {q:V×Act×St→Prop}
  (h:((jn P o.op).f Rn ro a σ id).Holds q) {next:Go.Act→World→Prop} {Q:Exit→Go.Act→World→Prop} (hn:M3 id ρ σ w a' o q next):o.wpIn F 0 P a' w next Q:=by
 by_cases fp:∃c,o.op=.call c
 ·obtain⟨c,bP⟩:=fp
  rw[bP] at h
  have h':((vX P c).f Rn ro a σ id).Holds q:=h
  unfold vX at h'
  split at h'
  ·rename_i fo GS
   split at h'
   ·rename_i e he
    dsimp only at h'
    have h':=h'.bind
    cases ij:a.bR c.args.toList with
    | none=>rw[ij] at h';exact h'.elim
    | some vs=>
     rw[ij] at h'
     obtain⟨v,aX,hq⟩:∃v,si e vs=some v∧q (v,a,σ):=by
      revert h'
      show(aV σ "extern" (si e vs)).Holds _→_
      cases si e vs with
      | none=>exact fun h=>h.elim
      | some v=>exact fun h=>⟨v,rfl,h⟩
     obtain⟨f,v',SB,M4,aT⟩:=Ue (w:=w) he aX (ha.bR _ ij)
     refine⟨fun f _=>bH.fn f,?_⟩
     have hs:Oper.semAt F.round a'.eval o=execOp a'.eval o:=Oper.semAt_eq _ _ _ (fun c' h=>by rw[bP] at h;cases h)
     have yk:(execOp a'.eval o).run P w=.ok (.value v') w:=by
      rw[qJ o bP]
      unfold resolve
      rw[GS,SB]
      dsimp only
      rw[show c.args.map a'.eval=⟨c.args.toList.map a'.eval⟩ from Array.ext' (by simp)]
      show(callFunc f ((#[]++⟨c.args.toList.map a'.eval⟩:Array Value)++#[])).run P w=_
      rw[Array.append_empty,Array.empty_append]
      exact M4
     rw[hs,yk]
     exact hn _ _ _ _ _ _ _ hq aT ha rfl (bn.refl hr)
   dsimp only at h'
   unfold nQ at h'
   split at h'
   ·rename_i fv vs hf ij
    have h':=h'.bind
    obtain⟨d,hd,he⟩:=hg.apply h' hr (ha.eval fo hf) (ha.bR _ ij)
    refine rz bH ha bP (d:=d) ?_ he (fun _ h=>h) hn
    unfold resolve
    rw[GS]
    dsimp only
    rw[show c.args.map a'.eval=⟨c.args.toList.map a'.eval⟩ from Array.ext' (by simp)]
    exact hd
   ·exact h'.elim
  ·rename_i x name GS
   dsimp only at h'
   unfold oL at h'
   split at h'
   ·rename_i t v vs hx ij
    unfold ny at h'
    split at h'
    ·rename_i f recv hm
     have h':=h'.bind
     have hxr:=ha.eval x hx
     obtain⟨v',aX,hvv⟩:∃v',a'.eval x=.iface t v'∧au ρ v v':=by
      generalize a'.eval x=x' at hxr
      cases hxr with
      | iface h=>exact⟨_,rfl,h⟩
     obtain⟨recv',WX,dU⟩:=Gp hm hvv w
     obtain⟨M4,hc⟩:=hg.call h' hr (.cons dU (ha.bR _ ij))
     refine rz bH ha bP (d:={target:=.fn (.method name) #[],args:=#[a'.eval x]++c.args.map a'.eval}) ?_ (.inl ⟨f,_,?_,hc⟩) (fun _ h=>h) hn
     ·unfold resolve
      rw[GS]
      rfl
     ·have e1:(#[a'.eval x]++c.args.map a'.eval)[0]? =some (.iface t v'):=by rw[Array.getElem?_append_left (by simp),aX];rfl
      have e2:(#[recv']++(#[a'.eval x]++c.args.map a'.eval).extract 1 (#[a'.eval x]++c.args.map a'.eval).size:Array Value)=⟨recv'::c.args.toList.map a'.eval⟩:=by
       apply Array.ext';simp [List.take_of_length_le]
      simp only[invoke,e1,callMethod,Sem.run_bind]
      have yx:(program).run P w=.ok P w:=rfl
      simp only[yx,Result.andThen_ok,WX,e2,M4]
    ·exact h'.elim
   ·exact h'.elim
  ·rename_i b GS
   dsimp only at h'
   have h':=h'.bind
   cases ij:a.bR c.args.toList with
   | none=>rw[ij] at h';exact h'.elim
   | some vs=>
    rw[ij] at h'
    obtain⟨⟨v,σ'⟩,aX,hq⟩:=bL.Holds.of h'
    obtain⟨ρ',v',w',aP,aT,aH⟩:=Gq (P:=P) (ty:=o.type) (consts:=c.args.map fun | .const _=>true | _=>false) hr cx aX (ha.bR _ ij)
    refine⟨fun f _=>bH.fn f,?_⟩
    have hs:Oper.semAt F.round a'.eval o=execOp a'.eval o:=Oper.semAt_eq _ _ _ (fun c' h=>by rw[bP] at h;cases h)
    have yk:(execOp a'.eval o).run P w=.ok (.value v') w':=by
     rw[qJ o bP]
     unfold resolve
     rw[GS]
     dsimp only
     rw[show c.args.map a'.eval=⟨c.args.toList.map a'.eval⟩ from Array.ext' (by simp)]
     exact aP
    rw[hs,yk]
    exact hn _ _ _ _ _ _ _ hq aT (ha.mono aH.le) rfl aH
 ·by_cases Dk:∃c,o.op=.defer c
  ·obtain⟨c,bP⟩:=Dk
   rw[bP] at h
   exact(show False from h).elim
  ·have hc:∀c,o.op≠.call c:=fun c e=>fp ⟨c,e⟩
   have hd:∀c,o.op≠.defer c:=fun c e=>Dk ⟨c,e⟩
   rw[BC hc hd] at h
   have h':=bL.Holds.bind (r:=(mH P o.op).f a σ id) (f:=fI a) h
   obtain⟨v,σ',ρ',v',w',hq,aT,aH,aP⟩:=OZ hr cx ha o h' hc
   have hs:Oper.semAt F.round a'.eval o=execOp a'.eval o:=Oper.semAt_eq _ _ _ hd
   refine⟨fun f _=>bH.fn f,?_⟩
   rw[hs]
   have j8:q (v,a,σ'):=hq
   rcases aP with aP | ⟨rfl,aP⟩
   ·rw[aP]
    exact hn _ _ _ _ _ _ _ j8 aT (ha.mono aH.le) rfl aH
   ·rw[aP]
    exact hn _ _ _ _ _ _ _ j8 aT (ha.mono aH.le) rfl aH
theorem Dl (ops:Array Oper) (tmps:Array Value) (j:Nat):yielded ops tmps j=match (fW ops.toList j).bind (tmps[·]?) with
  | some (.bool b)=>some b
  | _=>none:=by
 unfold yielded fW
 rw[dG,Array.getElem?_toList]
 rfl
theorem Gs [Env] {v:V} {x:Value} (h:au ρ v x) (hn:∀i,v≠.any i) (want:Bool):sn want (some v)=some (((match some x with | some (.bool b)=>some b | _=>none:Option Bool)==some want)):=by
 cases h<;>first
  | rfl
  | (rename_i h;obtain⟨_,_,_,e⟩:=h.fX rfl;subst e;rfl)
  | exact absurd rfl (hn _)
theorem wa {dst:Option Tmp} {v:V} {a:Act} {aJ:St} {q:Act×St→Prop} (h:(l6 dst (v,a,aJ)).Holds q):∃ba,a.put dst v=some ba∧q (ba,aJ):=by
 have h':(qG aJ (a.put dst v)).Holds q:=h
 cases hp:a.put dst v with
 | none=>rw[hp] at h';exact h'.elim
 | some ba=>rw[hp] at h';exact⟨ba,rfl,h'⟩
def WY [Env] (id:Nat) (ρ:Ren) (σ:St) (w:World) (q:Act×St→Prop) (K:Go.Act→World→Prop):Prop:=
 ∀ba cc bC js fD,q (ba,cc)→bO bC ba js→bn (fun b=>b=id) ρ σ w bC cc fD→K js fD
theorem qK [Env] (hg:Good P Rn) (hr:R ρ σ w) (cx:ρ id=none) {a:Act} {a':Go.Act} (ha:bO ρ a a') (bH:fZ ρ ro F) {ops:Array Oper} {i:Nat} {o:Oper} (hi:ops[i]? =some o)
  {q:Act×St→Prop} (h:((jo P ops.toList o).f Rn ro a σ id).Holds q) {K:Go.Act→World→Prop} {Q:Exit→Go.Act→World→Prop} (hK:WY id ρ σ w q K):
  wpOpIn F 0 P ops Q i K a' w:=by
 unfold wpOpIn
 rw[hi]
 dsimp only
 have aP:((jn P o.op).f Rn ro a σ id).Holds (fun x=>(l6 o.dst x).Holds q)→o.wpIn F 0 P a' w K Q:=by
  intro h
  refine Gr hg hr cx ha bH o h ?_
  intro v bf σ' ρ' v' Cw w' hq hv abQ _ aH
  obtain⟨ba,hp,hq⟩:=wa hq
  exact hK _ _ _ _ _ hq (abQ.put hv hp) aH
 have abR:∀ba,a.put o.dst dg=some ba→q (ba,σ)→K (a'.put o.dst undef) w:=fun ba hp hq=>hK _ _ _ _ _ hq (ha.put Bz hp) (bn.refl hr)
 have yes:Region.wanted o (yielded ops a'.tmps)=true→((jn P o.op).f Rn ro a σ id).Holds (fun x=>(l6 o.dst x).Holds q)→
   (if Region.wanted o (yielded ops a'.tmps)=true then o.wpIn F 0 P a' w K Q else(∀f,o.about P w a'.eval=some f→F.fn f)∧K (a'.put o.dst undef) w):=by
  intro hw h;rw[if_pos hw];exact aP h
 have no:Region.wanted o (yielded ops a'.tmps)=false→(qG σ (a.put o.dst dg)).Holds q→
   (if Region.wanted o (yielded ops a'.tmps)=true then o.wpIn F 0 P a' w K Q else(∀f,o.about P w a'.eval=some f→F.fn f)∧K (a'.put o.dst undef) w):=by
  intro hw h
  rw[if_neg (by rw[hw];simp)]
  refine⟨fun f _=>bH.fn f,?_⟩
  unfold qG at h
  split at h
  ·rename_i ba hp;exact abR ba hp h
  ·exact h.elim
 unfold jo at h
 split at h
 ·rename_i WZ
  exact yes (by unfold Region.wanted;rw[WZ]) h.bind
 ·rename_i j want WZ
  have hwq:∀r,yielded ops a'.tmps j=r→Region.wanted o (yielded ops a'.tmps)=(r==some want):=by
   intro r hy;unfold Region.wanted;rw[WZ,←hy]
  have hy:=hwq _ (Dl ops a'.tmps j)
  unfold yf at h
  split at h
  ·rename_i d hd
   rw[hd] at hy
   dsimp only at h
   cases hv:a.tmps.get d with
   | none=>rw[hv] at h;exact h.elim
   | some v=>
    obtain⟨x,hx,aT⟩:=ha.tmps d v hv
    have SE:∀i,v≠.any i:=by
     rintro i rfl
     rw[hv] at h
     exact h.elim
    rw[hv,Gs aT SE want] at h
    rw[Option.bind_some,hx] at hy
    rw[←hy] at h
    unfold ri at h
    cases hb:Region.wanted o (yielded ops a'.tmps) with
    | true=>
     rw[hb] at h yes
     exact yes rfl h.bind
    | false=>
     rw[hb] at h no
     exact no rfl h
  ·rename_i hd
   rw[hd] at hy
   exact no (by rw[hy];rfl) h
theorem bn.O0 [Env] {ρ':Ren} {σ':St} {w':World} (h:bn (fun b=>b=σ.next) ρ σ w ρ' σ' w'):bn qh ρ σ w ρ' σ' w':=by
 refine⟨h.r,h.le,h.next,fun b l hb=>?_,h.size,h.os,h.tape,h.output,h.aV,h.wr,fun b k hb=>?_,h.iG⟩
 ·rcases h.jz b l hb with h1 | h1 | h1
  ·exact .inl h1
  ·exact .inr (.inl h1)
  ·exact .inr (.inl (by rw[h1];exact Nat.le_refl _))
 ·rcases h.jL b k hb with h1 | h1 | h1
  ·exact .inl h1
  ·exact .inr (.inl h1)
  ·exact .inr (.inl (by rw[h1];exact Nat.le_refl _))
theorem Kl [Env] (hg:Good P Rn) {ops:Array Oper} {p:Out×St→Prop} {bS:Ren} {σ₀:St} {fY:World}:∀(l:List Oper) (k:Nat) {a:Act} {σ:St} {ρ:Ren} {w:World} {a':Go.Act},
  ops.toList.drop k=l→((J8 P ops.toList l).f Rn ro a σ).Holds p→R ρ σ w→bO ρ a a'→fZ ρ ro F→bn qh bS σ₀ fY ρ σ w→
  wpOpsIn F 0 P ops (bW p bS σ₀ fY) (List.range' k l.length) a' w:=by
 intro l
 induction l with
 | nil=>
  intro k a σ ρ w a' _ h hr ha _ aH
  exact⟨.normal,_,_,_,h,rfl,ha,aH⟩
 | cons o l ih=>
  intro k a σ ρ w a' hd h hr ha bH aH
  have hk:k<ops.toList.length:=by
   have:=congrArg List.length hd
   simp only[List.length_drop,List.length_cons] at this
   omega
  have GU:=List.drop_eq_getElem_cons hk
  rw[hd] at GU
  injection GU with h1 h2
  have hi:ops[k]? =some o:=by
   rw[←Array.getElem?_toList,List.getElem?_eq_getElem hk,h1]
  rw[List.length_cons,List.range'_succ,wpOpsIn_cons]
  have h':(((jo P ops.toList o).f Rn ro a σ σ.next).bind (Sx ((J8 P ops.toList l).f Rn ro))).Holds p:=h
  refine qK hg hr (hr.fresh _ (Nat.le_refl _)) ha bH hi h'.bind ?_
  intro ba cc bC js fD hq abS nW
  exact ih (k+1) h2.symm hq nW.r abS (bH.mono nW.le) (aH.trans nW.O0)
theorem Dm [Env] (hg:Good P Rn) (hr:R ρ σ w) {a:Act} {a':Go.Act} (ha:bO ρ a a') (bH:fZ ρ ro F) {id:Nat} {ops:Array Oper} {p:Out×St→Prop}
  (h:((vY P ops.toList false).f Rn ro a σ).Holds p):(Code.region id ops false).wpIn F 0 P (bW p ρ σ w) a' w:=by
 refine wpIn_region ?_
 have:=Kl (F:=F) hg (ops:=ops) ops.toList 0 rfl h hr ha bH (bn.refl hr)
 rw[List.range_eq_range']
 simpa using this
end
end Go.Ev
end
section
namespace Go.Ev
open Go
noncomputable def St.ext (σ:St) (id:Nat):Option b9→St
 | none=>σ
 | some k=>σ.new id k
mutual
theorem V.beq_eq:∀ {a b:V},V.beq a b=true→a=b
 | .int ..,.int ..,h=>by simp [V.beq] at h;simp [h]
 | .bool _,.bool _,h=>by simp [V.beq] at h;simp [h]
 | .str _,.str _,h=>by simp [V.beq] at h;simp [h]
 | .ed,.ed,_=>rfl
 | .ptr ..,.ptr ..,h=>by simp [V.beq] at h;simp [h]
 | .aj,.aj,_=>rfl
 | .slice ..,.slice ..,h=>by simp [V.beq] at h;simp [h]
 | .own ..,.own ..,h=>by simp [V.beq] at h;simp [h]
 | .arr ..,.arr ..,h=>by simp [V.beq] at h;simp [h]
 | .dH,.dH,_=>rfl
 | .map _,.map _,h=>by simp [V.beq] at h;simp [h]
 | .func f x y,.func f' x' y',h=>by
  simp only[V.beq,Bool.and_eq_true,decide_eq_true_eq] at h
  rw[h.1.1,V.kB h.1.2,V.kB h.2]
 | .dr,.dr,_=>rfl
 | .any _,.any _,h=>by simp [V.beq] at h;simp [h]
 | .br x _ _,.br y _ _,h=>by
  simp only[V.beq,Bool.and_eq_true,beq_iff_eq] at h
  rw[V.kB h.1.1,h.1.2,h.2]
 | .aQ x _,.aQ y _,h=>by
  simp only[V.beq,Bool.and_eq_true,beq_iff_eq] at h
  rw[V.kB h.1,h.2]
 | .dQ ..,.dQ ..,h=>by simp [V.beq] at h;simp [h]
 | .iface t v,.iface t' v',h=>by
  simp only[V.beq,Bool.and_eq_true,beq_iff_eq] at h
  rw[h.1,V.beq_eq h.2]
 | .bd,.bd,_=>rfl
 | .agg x,.agg y,h=>by
  simp only[V.beq] at h
  rw[V.kB h]
 | .tuple x,.tuple y,h=>by
  simp only[V.beq] at h
  rw[V.kB h]
theorem V.kB:∀ {a b:List V},V.gS a b=true→a=b
 | [],[],_=>rfl
 | x::xs,y::ys,h=>by
  simp only[V.gS,Bool.and_eq_true] at h
  rw[V.beq_eq h.1,V.kB h.2]
end
def dZ (D:Nat→Prop) (σ σ':St):Prop:=∀b k,σ.heap.get b=some k→D b→σ'.heap.get b=some k
section
variable {P:Program} {ρ:Ren} {id:Nat}
def bU (id:Nat) (f:St→VS):Prop:=∀σ q,(f σ).Holds q→∃v κ,q (v,σ.ext id κ)∧∀σ',f σ'=.ok (v,σ'.ext id κ)
def jt (id:Nat) (D:Nat→Prop) (f:St→VS):Prop:=
 ∀σ q,(f σ).Holds q→∃v κ,q (v,σ.ext id κ)∧f σ=.ok (v,σ.ext id κ)∧∀σ',dZ D σ σ'→f σ'=.ok (v,σ'.ext id κ)
theorem bU.look {f:St→VS} (h:bU id f) (D:Nat→Prop):jt id D f:=by
 intro σ q hq
 obtain⟨v,κ,h1,h2⟩:=h σ q hq
 exact⟨v,κ,h1,h2 σ,fun σ' _=>h2 σ'⟩
theorem bU.aV [Env] (gr:String) (x:Option V):bU id fun σ=>aV σ gr x:=by
 intro σ q h
 obtain⟨v,hv,hq⟩:=dq h
 exact⟨v,none,hq,fun σ'=>by rw[hv];rfl⟩
theorem bU.fail (gr:String):bU id fun _=>(.fail gr:VS):=fun _ _ h=>h.elim
theorem bU.ok (v:V):bU id fun σ=>(.ok (v,σ):VS):=fun _ _ h=>⟨v,none,h,fun _=>rfl⟩
theorem bU.new (v:V) (k:b9):bU id fun σ=>(.ok (v,σ.new id k):VS):=fun _ _ h=>⟨v,some k,h,fun _=>rfl⟩
theorem bU.fh [Env] {gr:String} {x:Option V} {g:V→St→VS} (h:∀v,bU id (g v)):bU id fun σ=>fh gr x fun v=>g v σ:=by
 cases x with
 | none=>exact .fail _
 | some v=>exact h v
theorem bU.qa [Env] {gr:String} {x y:Option V} {g:V→V→St→VS} (h:∀v u,bU id (g v u)):bU id fun σ=>qa gr x y fun v u=>g v u σ:=by
 cases x with
 | none=>exact .fail _
 | some v=>cases y with
  | none=>exact .fail _
  | some u=>exact h v u
theorem jt.aV [Env] {D:Nat→Prop} (gr:String) {x:St→Option V} (h:∀σ σ' v,dZ D σ σ'→x σ=some v→x σ'=some v):jt id D fun σ=>aV σ gr (x σ):=by
 intro σ q hq
 obtain⟨v,hv,hp⟩:=dq hq
 exact⟨v,none,hp,by dsimp only;rw[hv];rfl,fun σ' hs=>by dsimp only;rw[h σ σ' v hs hv];rfl⟩
theorem w1 {a b:Act}:∀(l:List (Nat×Operand)),(∀q∈l,a.eval q.2=b.eval q.2)→a.parts l=b.parts l:=by
 intro l
 induction l with
 | nil=>intro _;rfl
 | cons q l ih=>
  intro h
  show k8 (vU a q) (a.parts l)=k8 (vU b q) (b.parts l)
  rw[ih fun q hq=>h q (List.mem_cons_of_mem _ hq)]
  unfold vU
  rw[h q List.mem_cons_self]
theorem nD {a b:Act}:∀(l:List Operand),(∀q∈l,a.eval q=b.eval q)→a.bR l=b.bR l:=by
 intro l
 induction l with
 | nil=>intro _;rfl
 | cons q l ih=>
  intro h
  show k8 (a.eval q) (a.bR l)=k8 (b.eval q) (b.bR l)
  rw[ih fun q hq=>h q (List.mem_cons_of_mem _ hq),h q List.mem_cons_self]
theorem sF {a b:Act} (x:Option Operand) (h:∀q∈x,a.eval q=b.eval q):iU a x=iU b x:=by
 cases x with
 | none=>rfl
 | some x=>show(a.eval x).map some=(b.eval x).map some;rw[h x rfl]
theorem uW [Env] {a b:Act} (o:Op) (h:∀x∈o.operands,a.eval x=b.eval x) (σ:St):(mH P o).f a σ id=(mH P o).f b σ id:=by
 cases o with
 | pick c x y=>
  simp only[Op.operands] at h
  have h1:=h c (by simp);have h2:=h x (by simp);have h3:=h y (by simp)
  show fh _ (a.eval c) (nO a σ x y)=fh _ (b.eval c) (nO b σ x y)
  rw[h1]
  congr 1
  funext v
  unfold nO
  split
  ·rename_i t;cases t<;>simp [h2,h3]
  ·rfl
 | build t ps=>
  show mO P σ t (a.parts ps.toList)=mO P σ t (b.parts ps.toList)
  rw[w1 _ fun q hq=>h q.2 (by simp only[Op.operands,List.mem_toArray,List.mem_map];exact⟨q,hq,rfl⟩)]
 | buildSlice t n ps=>
  show fV P σ id t n (a.parts ps.toList)=fV P σ id t n (b.parts ps.toList)
  rw[w1 _ fun q hq=>h q.2 (by simp only[Op.operands,List.mem_toArray,List.mem_map];exact⟨q,hq,rfl⟩)]
 | makeFunc fn f c=>
  show jm σ fn (a.bR f.toList) (a.bR c.toList)=jm σ fn (b.bR f.toList) (b.bR c.toList)
  rw[nD _ fun q hq=>h q (by simp only[Op.operands];exact Array.mem_append_left _ (by simpa using hq)),nD _ fun q hq=>h q (by simp only[Op.operands];exact Array.mem_append_right _ (by simpa using hq))]
 | makeMap t r=>rfl
 | slice t x lo hi mx=>
  show fh _ (a.eval x) (fH P a σ t lo hi mx)=fh _ (b.eval x) (fH P b σ t lo hi mx)
  rw[h x (by simp [Op.operands])]
  congr 1
  funext v
  unfold fH
  rw[sF lo fun q hq=>h q (by simp only[Op.operands];simp_all),sF hi fun q hq=>h q (by simp only[Op.operands];simp_all),sF mx fun q hq=>h q (by simp only[Op.operands];simp_all)]
 | call c=>
  show o5 P a σ id c=o5 P b σ id c
  unfold o5
  split
  ·rw[nD _ fun q hq=>h q (by simp only[Op.operands,Call.operands];simp_all)]
  ·rfl
 | _=>first
  | rfl
  | (simp only[Op.operands] at h
     simp [mH,h]
     done)
theorem GV {σ:St} {tys:List TypeId} {vs:List V}:gH P σ id .max tys vs=match vs with
  | [.int k x,.int _ y]=>some (.int k (if y>x then y else x),σ)
  | _=>none:=by
 rcases tys with _ | ⟨t,_ | ⟨t',tys⟩⟩<;>rcases vs with _ | ⟨x,_ | ⟨y,_ | ⟨z,l⟩⟩⟩<;>first | rfl | (cases x<;>first | rfl | (cases y<;>rfl))
theorem GW {σ:St} {tys:List TypeId} {vs:List V}:gH P σ id .min tys vs=match vs with
  | [.int k x,.int _ y]=>some (.int k (if y<x then y else x),σ)
  | _=>none:=by
 rcases tys with _ | ⟨t,_ | ⟨t',tys⟩⟩<;>rcases vs with _ | ⟨x,_ | ⟨y,_ | ⟨z,l⟩⟩⟩<;>first | rfl | (cases x<;>first | rfl | (cases y<;>rfl))
theorem uX {t:TypeId} (hp:rf P t=true) (lit:Bool) (x y:V) (σ σ':St):evalEq P σ t lit x y=evalEq P σ' t lit x y:=by
 unfold rf at hp
 unfold evalEq
 split at hp
 ·rename_i k hu;rw[hu];rfl
 ·rename_i hu;rw[hu];rfl
 ·rename_i hu;rw[hu];rfl
 ·cases hp
theorem Cn {t:TypeId} (hp:sk P (some t)=true) (x:V) (σ σ':St):eO P σ t x=eO P σ' t x:=by
 unfold sk at hp
 unfold eO
 dsimp only at hp
 split at hp
 ·rename_i hu;rw[hu]
 ·rename_i hu;rw[hu]
 ·rename_i hu;rw[hu]
 ·cases hp
theorem M5 {s d:TypeId} (hp:uD P s d=true) (x:V):bU id fun σ=>dh P σ id s d x:=by
 intro σ q h
 obtain⟨⟨v,aJ⟩,aX,hq⟩:=bL.Holds.of h
 unfold uD at hp
 split at hp
 ·rename_i h1 h2
  unfold evalConv at aX
  rw[h1,h2] at aX
  cases x<;>first
   | (cases aX;done)
   | (cases aX;exact⟨_,none,hq,fun σ'=>by unfold dh evalConv;rw[h1,h2];rfl⟩)
 ·rename_i h1 h2
  unfold evalConv at aX
  rw[h1,h2] at aX
  cases x<;>first
   | (cases aX;done)
   | (cases aX;exact⟨_,none,hq,fun σ'=>by unfold dh evalConv;rw[h1,h2];rfl⟩)
 ·rename_i h1 h2
  unfold evalConv at aX
  rw[h1,h2] at aX
  cases x with
  | dQ s b=>
   dsimp only at aX
   split at aX
   ·rename_i n hn
    split at aX
    ·rename_i cW
     cases aX
     exact⟨_,none,hq,fun σ'=>by unfold dh evalConv;rw[h1,h2];dsimp only;rw[hn];dsimp only;rw[if_pos cW];rfl⟩
    ·cases aX
   ·cases aX
  | _=>cases aX
 ·rename_i h1 h2
  unfold evalConv at aX
  rw[h1,h2] at aX
  cases x<;>first
   | (cases aX;done)
   | (cases aX;exact⟨_,none,hq,fun σ'=>by unfold dh evalConv;rw[h1,h2];rfl⟩)
 ·cases hp
theorem sG [Env] {a:Act} (o:Op) (h1:bt o=false) (h2:ee P o=false) (h3:nP o=false):bU id fun σ=>(mH P o).f a σ id:=by
 cases o with
 | move x=>exact .aV _ _
 | assign x=>exact .aV _ _
 | pick c x y=>
  refine bU.fh (g:=fun v σ=>nO a σ x y v) fun v=>?_
  unfold nO
  split
  ·exact .aV _ _
  ·exact .fail _
 | alloc e=>
  show bU id fun σ=>o4 P σ id e
  unfold o4
  split
  ·split
   ·exact .new _ _
   ·exact .fail _
  ·exact .fail _
 | box e x=>
  refine bU.fh (g:=fun v σ=>yc σ id v) fun v=>?_
  unfold yc
  split
  ·exact .new _ _
  ·exact .fail _
 | build t ps=>
  show bU id fun σ=>mO P σ t (a.parts ps.toList)
  unfold mO
  split
  ·exact .aV _ _
  ·exact .fail _
 | buildSlice t n ps=>
  show bU id fun σ=>fV P σ id t n (a.parts ps.toList)
  unfold fV
  split
  ·split
   ·split
    ·split
     ·unfold oI
      split
      ·exact .fail _
      ·split
       ·split
        ·exact .ok _
        ·exact .fail _
       ·exact .fail _
     ·unfold k9
      split
      ·exact .fail _
      ·split
       ·split
        ·exact .new _ _
        ·exact .fail _
       ·exact .fail _
    ·exact .fail _
   ·exact .fail _
  ·exact .fail _
 | load t x=>cases h3
 | nilCheck x=>
  refine bU.fh (g:=fun v σ=>oJ σ v) fun v=>?_
  unfold oJ
  split
  ·exact .ok _
  ·exact .ok _
  ·exact .ok _
  ·exact .fail _
  ·exact .ok _
  ·exact .ok _
  ·exact .fail _
 | binOp op t x y yt=>
  refine bU.qa (g:=fun v u σ=>vV P σ op t (isConst x||isConst y) v u) fun v u=>?_
  unfold vV evalBin
  split
  ·exact .aV _ _
  ·exact .aV _ _
  ·exact .aV _ _
  ·split
   ·have hp:rf P t=true:=by simpa [ee] using h2
    have e:(fun σ=>aV σ "binOp" ((evalEq P σ t (isConst x||isConst y) v u).map .bool))=fun σ=>aV σ "binOp" ((evalEq P ⟨.leaf,0⟩ t (isConst x||isConst y) v u).map .bool):=funext fun σ=>by rw[uX hp _ _ _ σ ⟨.leaf,0⟩]
    rw[e];exact .aV _ _
   ·have hp:rf P t=true:=by simpa [ee] using h2
    have e:(fun σ=>aV σ "binOp" ((evalEq P σ t (isConst x||isConst y) v u).map fun b=>.bool !b))=fun σ=>aV σ "binOp" ((evalEq P ⟨.leaf,0⟩ t (isConst x||isConst y) v u).map fun b=>.bool !b):=funext fun σ=>by rw[uX hp _ _ _ σ ⟨.leaf,0⟩]
    rw[e];exact .aV _ _
   ·exact .aV _ _
 | unOp op t x=>exact bU.fh (g:=fun v σ=>Wq σ op v) fun v=>.aV _ _
 | convert s d x=>exact bU.fh (g:=fun v σ=>dh P σ id s d v) fun v=>M5 (by simpa [ee] using h2) v
 | makeInterface t x=>
  refine bU.fh (g:=fun v σ=>ib P σ t v) fun v=>?_
  unfold ib
  split
  ·exact .fail _
  ·exact .ok _
  ·exact .fail _
 | makeFunc fn f c=>
  show bU id fun σ=>jm σ fn (a.bR f.toList) (a.bR c.toList)
  unfold jm
  split
  ·split
   ·exact .fail _
   ·exact .ok _
  ·exact .fail _
 | makeMap t r=>exact .fail _
 | makeSlice t l c=>
  refine bU.qa (g:=fun v u σ=>gI P σ id t v u) fun v u=>?_
  unfold gI
  split
  ·split
   ·split
    ·unfold l4
     split
     ·exact .new _ _
     ·exact .fail _
    ·exact .fail _
   ·exact .fail _
  ·exact .fail _
 | slice t x lo hi mx=>
  refine bU.fh (g:=fun v σ=>fH P a σ t lo hi mx v) fun v=>?_
  have hn:jX P t=none:=by
   unfold jX
   simp only[ee] at h2
   split at h2
   ·cases h2
   ·rename_i bN;split
    ·rename_i hu;exact absurd hu (bN _ _)
    ·rfl
  unfold fH
  rw[hn]
  split
  ·exact .aV _ _
  ·exact .fail _
 | fieldAddr s x f=>
  refine bU.fh (g:=fun v σ=>kQ P σ s f v) fun v=>?_
  unfold kQ
  split
  ·split
   ·split
    ·exact .ok _
    ·exact .fail _
   ·exact .fail _
  ·split
   ·split
    ·exact .ok _
    ·exact .fail _
   ·exact .fail _
  ·split
   ·split
    ·exact .ok _
    ·exact .fail _
   ·exact .fail _
  ·exact .fail _
 | field t x f=>
  refine bU.fh (g:=fun v σ=>re P σ t f v) fun v=>?_
  unfold re
  split
  ·split
   ·exact .aV _ _
   ·exact .fail _
  ·exact .fail _
 | indexAddr t x ix=>
  refine bU.qa (g:=fun v u σ=>jI P σ t v u) fun v u=>?_
  unfold jI
  split
  ·unfold jZ
   split
   ·split
    ·split
     ·exact .ok _
     ·exact .fail _
    ·exact .fail _
   ·exact .fail _
  ·unfold jY
   split
   ·split
    ·split
     ·exact .ok _
     ·exact .fail _
    ·exact .fail _
   ·exact .fail _
  ·unfold pe
   split
   ·split
    ·split
     ·exact .ok _
     ·exact .fail _
    ·exact .fail _
   ·exact .fail _
  ·unfold pg
   split
   ·split
    ·split
     ·split
      ·exact .ok _
      ·exact .fail _
     ·exact .fail _
    ·exact .fail _
   ·exact .fail _
  ·unfold pf
   split
   ·split
    ·split
     ·exact .ok _
     ·exact .fail _
    ·exact .fail _
   ·exact .fail _
  ·exact .fail _
 | index t x ix=>
  refine bU.qa (g:=fun v u σ=>o0 P σ t v u) fun v u=>?_
  unfold o0
  split
  ·unfold l5
   split
   ·split
    ·split
     ·exact .ok _
     ·exact .fail _
    ·exact .fail _
   ·exact .fail _
  ·unfold sj
   split
   ·split
    ·split
     ·exact .aV _ _
     ·exact .fail _
    ·exact .fail _
   ·exact .fail _
  ·exact .fail _
 | lookup t x k ok=>cases h2
 | typeAssert x xt t ok=>exact bU.fh (g:=fun v σ=>xw P σ t ok v) fun v=>.aV _ _
 | extract x i=>
  refine bU.fh (g:=fun v σ=>pZ σ i v) fun v=>?_
  unfold pZ
  split
  ·exact .aV _ _
  ·exact .fail _
 | call c=>
  show bU id fun σ=>o5 P a σ id c
  obtain⟨callee,nE,lq⟩:=c
  cases callee with
  | builtin b=>
   simp only[o5]
   cases hv:a.bR nE.toList with
   | none=>exact .fail _
   | some vs=>
    unfold ic
    intro σ q h
    obtain⟨⟨v,σ'⟩,aX,hq⟩:=bL.Holds.of h
    cases b<;>first
     | (simp [bt] at h1;done)
     | skip
    ·have hp:sk P lq[0]? =true:=by simpa [ee] using h2
     rcases uY:lq.toList with _ | ⟨t,l⟩
     ·rw[uY] at aX;rcases vs with _ | ⟨x,_ | ⟨y,_⟩⟩<;>cases aX
     ·have h0:lq[0]? =some t:=by rw[←Array.getElem?_toList,uY];rfl
      rw[h0] at hp
      rw[uY] at aX
      rcases vs with _ | ⟨x,_ | ⟨y,r⟩⟩
      ·cases aX
      ·have uZ:(eO P σ t x).map (·,σ)=some (v,σ'):=aX
       rw[Option.map_eq_some_iff] at uZ
       obtain⟨u,hu,he⟩:=uZ
       cases he
       exact⟨_,none,hq,fun σ'=>by
        show bL.of "builtin" ((eO P σ' t x).map (·,σ'))=_
        rw[Cn hp x σ' σ,hu];rfl⟩
      ·cases aX
    ·rw[GV] at aX
     split at aX
     ·cases aX
      exact⟨_,none,hq,fun σ'=>by show bL.of "builtin" (gH P σ' id .max lq.toList _)=_;rw[GV];rfl⟩
     ·cases aX
    ·rw[GW] at aX
     split at aX
     ·cases aX
      exact⟨_,none,hq,fun σ'=>by show bL.of "builtin" (gH P σ' id .min lq.toList _)=_;rw[GW];rfl⟩
     ·cases aX
  | value f=>simp [bt] at h1
  | invoke x name=>simp [bt] at h1
 | store t x y=>cases h1
 | insert t m k v=>cases h1
 | mapUpdate t m k v=>cases h1
 | range t x=>cases h1
 | next it s=>cases h1
 | entry it=>cases h1
 | defer c=>cases h1
 | _=>exact .fail _
def cY (ρ:Ren) (b:Nat):Prop:=ρ b≠none
theorem dZ.get {D:Nat→Prop} {σ σ':St} (h:dZ D σ σ') {b:Nat} {k:b9} (hb:σ.heap.get b=some k) (hd:D b):σ'.heap.get b=some k:=h b k hb hd
theorem dZ.cell [Env] {D:Nat→Prop} {σ σ':St} (h:dZ D σ σ') {b off:Nat} (hd:D b) {v:V} (hv:σ.cell b off=some v):σ'.cell b off=some v:=by
 unfold St.cell at hv⊢
 split at hv
 ·rename_i n z t p ro hb;rw[h.get hb hd];exact hv
 ·cases hv
theorem dZ.cells [Env] {D:Nat→Prop} {σ σ':St} (h:dZ D σ σ') {b off n:Nat} (hd:D b) {v:List V} (hv:σ.cells b off n=some v):σ'.cells b off n=some v:=by
 unfold St.cells at hv⊢
 split at hv
 ·rename_i m z t p ro hb;rw[h.get hb hd];exact hv
 ·cases hv
theorem dZ.et [Env] {σ σ':St} (h:dZ (cY ρ) σ σ') {t:TypeId} {x v:V} {x':Value} (hx:au ρ x x') (hv:et P σ t x=some v):et P σ' t x=some v:=by
 unfold Go.Ev.et at hv⊢
 cases x with
 | aQ cs off=>
  revert hv
  cases se P t with
  | none=>exact fun h=>h
  | some g=>cases bQ P t<;>cases g<;>exact fun h=>h
 | fF b i esz off=>
  cases hx with
  | fF hl=>
   have hd:cY ρ b:=by unfold cY;rw[hl];simp
   have key:∀cs,σ.jl b i esz=some cs→σ'.jl b i esz=some cs:=by
    intro cs hc
    unfold St.jl at hc⊢
    split at hc
    ·rename_i n f z p hb;rw[h.get hb hd];exact hc
    ·cases hc
   cases ha:se P t with
   | none=>rw[ha] at hv;simp at hv
   | some g=>
    rw[ha] at hv
    cases hs:bQ P t with
    | none=>
     rw[hs] at hv
     cases g with
     | true=>simp at hv
     | false=>
      dsimp only at hv⊢
      rw[Option.bind_eq_some_iff] at hv⊢
      obtain⟨cs,hc,hv⟩:=hv
      exact⟨cs,key cs hc,hv⟩
    | some n=>
     rw[hs] at hv
     cases g with
     | true=>
      dsimp only at hv⊢
      rw[Option.bind_eq_some_iff] at hv⊢
      obtain⟨cs,hc,hv⟩:=hv
      exact⟨cs,key cs hc,hv⟩
     | false=>
      dsimp only at hv⊢
      rw[Option.bind_eq_some_iff] at hv⊢
      obtain⟨cs,hc,hv⟩:=hv
      exact⟨cs,key cs hc,hv⟩
 | ptr b off=>
  cases hx with
  | ptr hl=>
   have hd:cY ρ b:=by unfold cY;rw[hl];simp
   cases ha:se P t with
   | none=>rw[ha] at hv;simp at hv
   | some g=>cases hs:bQ P t with
    | none=>
     rw[ha,hs] at hv
     cases g with
     | true=>simp at hv
     | false=>exact h.cell hd hv
    | some n=>
     rw[ha,hs] at hv
     cases g with
     | true=>
      rw[Option.map_eq_some_iff] at hv⊢
      obtain⟨l,cS,rfl⟩:=hv
      exact⟨l,h.cells hd cS,rfl⟩
     | false=>exact h.cell hd hv
 | _=>simp at hv
theorem dZ.ptrEq [Env] {σ σ':St} (h:dZ (cY ρ) σ σ') {e b o b' o':Nat} {r:Bool} (hb:cY ρ b) (bG:cY ρ b') (he:ptrEq P σ e b o b' o'=some r):ptrEq P σ' e b o b' o'=some r:=by
 unfold Go.Ev.ptrEq at he⊢
 split at he
 ·rename_i m hm
  split at he
  ·split at he
   ·rename_i hk;rw[h.get hk hb];exact he
   ·cases he
  ·split at he
   ·rename_i hk fB;rw[h.get hk hb,h.get fB bG];exact he
   ·cases he
 ·cases he
theorem dZ.evalEq [Env] {σ σ':St} (h:dZ (cY ρ) σ σ') {t:TypeId} {lit:Bool} {x y:V} {x' y':Value} (hx:au ρ x x') (hy:au ρ y y') {r:Bool} (he:evalEq P σ t lit x y=some r):evalEq P σ' t lit x y=some r:=by
 unfold Go.Ev.evalEq at he⊢
 cases hu:P.underlying t with
 | none=>rw[hu] at he;exact he
 | some d=>
  rw[hu] at he
  cases d with
  | pointer e=>
   cases x with
   | ptr b o=>
    cases y with
    | ptr b' o'=>
     cases hx with
     | ptr hl=>cases hy with
      | ptr cS=>
       have j6:Go.Ev.ptrEq P σ e b o b' o'=some r:=he
       exact h.ptrEq (by unfold cY;rw[hl];simp) (by unfold cY;rw[cS];simp) j6
    | _=>exact he
   | _=>exact he
  | _=>exact he
theorem dZ.evalBin [Env] {σ σ':St} (h:dZ (cY ρ) σ σ') {op:BinOp} {t:TypeId} {lit:Bool} {x y:V} {x' y':Value} (hx:au ρ x x') (hy:au ρ y y') {v:V} (he:evalBin P σ op t lit x y=some v):evalBin P σ' op t lit x y=some v:=by
 unfold Go.Ev.evalBin at he⊢
 split at he
 ·exact he
 ·exact he
 ·exact he
 ·split at he
  ·rw[Option.map_eq_some_iff] at he⊢
   obtain⟨b,hb,rfl⟩:=he
   exact⟨b,h.evalEq hx hy hb,rfl⟩
  ·rw[Option.map_eq_some_iff] at he⊢
   obtain⟨b,hb,rfl⟩:=he
   exact⟨b,h.evalEq hx hy hb,rfl⟩
  ·cases he
theorem dZ.eO [Env] {σ σ':St} (h:dZ (cY ρ) σ σ') {t:TypeId} {x:V} {x':Value} (hx:au ρ x x') {v:V} (he:eO P σ t x=some v):eO P σ' t x=some v:=by
 unfold Go.Ev.eO at he⊢
 cases hu:P.underlying t with
 | none=>rw[hu] at he;exact he
 | some d=>
  rw[hu] at he
  cases d with
  | map k e=>
   have j6:uB σ x=some v:=he
   show uB σ' x=some v
   unfold uB at j6⊢
   cases x with
   | dH=>exact j6
   | map r=>
    cases hx with
    | map hl=>
     dsimp only at j6⊢
     split at j6
     ·rename_i hb;rw[h.get hb (by unfold cY;rw[hl];simp)];exact j6
     ·cases j6
   | _=>cases j6
  | _=>exact he
theorem dZ.W0 [Env] {σ σ':St} (h:dZ (cY ρ) σ σ') {n:Nat} {e:TypeId} {lo hi mx:Option V} {x:V} {x':Value} (hx:au ρ x x') {v:V} (he:kv P σ n e lo hi mx x=some v):kv P σ' n e lo hi mx x=some v:=by
 unfold kv at he⊢
 split at he
 ·cases hx with
  | ptr hl=>
   split at he
   ·rename_i h1 h2 hb
    rw[h.get hb (by unfold cY;rw[hl];simp)]
    simp only[h1,h2]
    exact he
   ·cases he
 ·cases he
theorem M6 [Env] {src dst:TypeId} {x:V} {x':Value} (hx:au ρ x x'):jt id (cY ρ) fun σ=>dh P σ id src dst x:=by
 intro σ q h
 obtain⟨⟨v,aJ⟩,aX,hq⟩:=bL.Holds.of h
 have fin:∀κ,aJ=σ.ext id κ→(∀σ',dZ (cY ρ) σ σ'→evalConv P σ' id src dst x=some (v,σ'.ext id κ))→
   ∃v κ,q (v,σ.ext id κ)∧dh P σ id src dst x=.ok (v,σ.ext id κ)∧∀σ',dZ (cY ρ) σ σ'→dh P σ' id src dst x=.ok (v,σ'.ext id κ):=by
  intro κ u1 cN
  subst u1
  exact⟨v,κ,hq,by unfold dh;rw[aX];rfl,fun σ' hs=>by unfold dh;rw[cN σ' hs];rfl⟩
 unfold evalConv at aX
 split at aX
 ·rename_i h1 h2
  cases aX
  exact fin none rfl fun σ' _=>by unfold evalConv;rw[h1,h2];rfl
 ·rename_i h1 h2
  cases aX
  exact fin none rfl fun σ' _=>by unfold evalConv;rw[h1,h2];rfl
 ·rename_i h1 h2
  split at aX
  ·rename_i h3
   split at aX
   ·rename_i h4
    cases aX
    exact fin none rfl fun σ' _=>by unfold evalConv;rw[h1,h2];dsimp only;rw[h3];dsimp only;rw[if_pos h4];rfl
   ·cases aX
  ·cases aX
 ·rename_i h1 h2
  cases aX
  exact fin none rfl fun σ' _=>by unfold evalConv;rw[h1,h2];rfl
 ·rename_i h1 h2
  split at aX
  ·rename_i h3
   split at aX
   ·rename_i h4
    cases aX
    exact fin (some _) rfl fun σ' _=>by unfold evalConv;rw[h1,h2];dsimp only;rw[h3];dsimp only;rw[if_pos h4];rfl
   ·cases aX
  ·cases aX
 ·rename_i h1 h2
  split at aX
  ·rename_i h3
   cases aX
   exact fin none rfl fun σ' _=>by unfold evalConv;rw[h1,h2];dsimp only;rw[h3];rfl
  ·cases aX
 ·rename_i e b off n cap ex esz h1 h2
  split at aX
  ·rename_i h3
   split at aX
   ·rename_i l hl
    rw[Option.map_eq_some_iff] at aX
    obtain⟨s,hs,he⟩:=aX
    cases he
    cases hx with
    | slice W1 _ _ _ _=>
     exact fin none rfl fun σ' O1=>by
      unfold evalConv;rw[h1,h2];dsimp only;rw[h3];dsimp only
      rw[O1.cells (by unfold cY;rw[W1];simp) hl]
      dsimp only
      rw[hs];rfl
   ·cases aX
  ·cases aX
 ·rename_i e es esz ex h1 h2
  split at aX
  ·rename_i h3
   split at aX
   ·rename_i h4
    rw[Option.map_eq_some_iff] at aX
    obtain⟨s,hs,he⟩:=aX
    cases he
    exact fin none rfl fun σ' _=>by unfold evalConv;rw[h1,h2];dsimp only;rw[h3];dsimp only;rw[h4];dsimp only;rw[hs];rfl
   ·cases aX
  ·cases aX
 ·rename_i e b n esz h1 h2
  split at aX
  ·rename_i h3
   split at aX
   ·rename_i n' f z p hb
    split at aX
    ·rename_i hc
     rw[Option.map_eq_some_iff] at aX
     obtain⟨s,hs,he⟩:=aX
     cases he
     cases hx with
     | own W1 _ _=>
      exact fin none rfl fun σ' O1=>by
       unfold evalConv;rw[h1,h2];dsimp only;rw[h3];dsimp only
       rw[O1.get hb (by unfold cY;rw[W1];simp)]
       dsimp only
       rw[if_pos hc,hs];rfl
    ·cases aX
   ·cases aX
  ·cases aX
 ·cases aX
theorem Km [Env] {a:Act} (o:Op) (h1:bt o=false) (hD:∀x∈o.operands,∀v,a.eval x=some v→∃x',au ρ v x'):jt id (cY ρ) fun σ=>(mH P o).f a σ id:=by
 by_cases hr:nP o=true
 ·cases o<;>try (cases hr;done)
  rename_i t x
  show jt id (cY ρ) fun σ=>fh "load operand" (a.eval x) (ph P σ t)
  cases hx:a.eval x with
  | none=>exact(bU.fail _).look _
  | some v=>
   obtain⟨x',aT⟩:=hD x (by simp [Op.operands]) v hx
   exact jt.aV _ fun σ σ' u hs hu=>hs.et aT hu
 ·by_cases hl:ee P o=true
  ·cases o<;>try (cases hl;done)
   case binOp op t x y yt=>
    show jt id (cY ρ) fun σ=>qa "binOp operand" (a.eval x) (a.eval y) (vV P σ op t (isConst x||isConst y))
    cases hx:a.eval x with
    | none=>exact(bU.fail _).look _
    | some v=>cases hy:a.eval y with
     | none=>exact(bU.fail _).look _
     | some u=>
      obtain⟨x',aT⟩:=hD x (by simp [Op.operands]) v hx
      obtain⟨y',abT⟩:=hD y (by simp [Op.operands]) u hy
      exact jt.aV _ fun σ σ' u hs hu=>hs.evalBin aT abT hu
   case convert s d x=>
    show jt id (cY ρ) fun σ=>fh "convert operand" (a.eval x) (dh P σ id s d)
    cases hx:a.eval x with
    | none=>exact(bU.fail _).look _
    | some v=>
     obtain⟨x',aT⟩:=hD x (by simp [Op.operands]) v hx
     exact M6 aT
   case slice t x lo hi mx=>
    show jt id (cY ρ) fun σ=>fh "slice operand" (a.eval x) (fH P a σ t lo hi mx)
    cases hx:a.eval x with
    | none=>exact(bU.fail _).look _
    | some v=>
     obtain⟨x',aT⟩:=hD x (by simp [Op.operands]) v hx
     show jt id (cY ρ) fun σ=>fH P a σ t lo hi mx v
     unfold fH
     split
     ·split
      ·exact jt.aV _ fun σ σ' u hs hu=>hs.W0 aT hu
      ·exact(bU.aV _ _).look _
     ·exact(bU.fail _).look _
   case lookup t x k ok=>exact(bU.fail _).look _
   case call c=>
    obtain⟨callee,nE,lq⟩:=c
    cases callee with
    | builtin b=>
     cases b<;>try (simp [ee] at hl;done)
     show jt id (cY ρ) fun σ=>ic P σ id .len lq.toList (a.bR nE.toList)
     cases hv:a.bR nE.toList with
     | none=>exact(bU.fail _).look _
     | some vs=>
      have abU:∀(l:List Operand) (vs:List V),(∀x∈l,x∈nE.toList)→a.bR l=some vs→∀v∈vs,∃x',au ρ v x':=by
       intro l
       induction l with
       | nil=>intro vs _ h;cases h;intro v hv;cases hv
       | cons x l ih=>
        intro vs hl h
        obtain⟨u,r,h1,h2,rfl⟩:=oM (x:=a.eval x) (l:=a.bR l) h
        intro v hv
        rcases List.mem_cons.1 hv with rfl | hv
        ·exact hD x (by simp only[Op.operands,Call.operands];have:=hl x List.mem_cons_self;simp_all) v h1
        ·exact ih r (fun y hy=>hl y (List.mem_cons_of_mem _ hy)) h2 v hv
      intro σ q h
      obtain⟨⟨v,aJ⟩,aX,hq⟩:=bL.Holds.of h
      have abV:∃t l x u,lq.toList=t::l∧vs=[x]∧eO P σ t x=some u∧v=u∧aJ=σ:=by
       rcases uY:lq.toList with _ | ⟨t,l⟩
       ·rw[uY] at aX;rcases vs with _ | ⟨x,_ | ⟨y,_⟩⟩<;>cases aX
       ·rw[uY] at aX
        rcases vs with _ | ⟨x,_ | ⟨y,r⟩⟩
        ·cases aX
        ·have uZ:(eO P σ t x).map (·,σ)=some (v,aJ):=aX
         rw[Option.map_eq_some_iff] at uZ
         obtain⟨u,hu,he⟩:=uZ
         cases he
         exact⟨t,l,x,_,rfl,rfl,hu,rfl,rfl⟩
        ·cases aX
      obtain⟨t,l,x,u,uY,rfl,hu,rfl,rfl⟩:=abV
      obtain⟨x',aT⟩:=abU nE.toList [x] (fun _ h=>h) hv x (by simp)
      have mk:∀σ',eO P σ' t x=some v→ic P σ' id .len lq.toList (some [x])=.ok (v,σ'):=by
       intro σ' hl
       show bL.of "builtin" (gH P σ' id .len lq.toList [x])=_
       rw[uY]
       show bL.of "builtin" ((eO P σ' t x).map (·,σ'))=_
       rw[hl];rfl
      exact⟨v,none,hq,mk aJ hu,fun σ' hs=>mk σ' (hs.eO aT hu)⟩
    | value f=>simp [ee] at hl
    | invoke x name=>simp [ee] at hl
  ·exact(sG o h1 (by simpa using hl) (by simpa using hr)).look _
end
end Go.Ev
end
