/- Proved: parts of the way: Reg, DrawA. -/
import Derived.Test.YtbajncpfmemdgaaGreatDoorEvQ06
import Derived.OrdersIn
import Derived.KernelRfl
section
namespace Go.Ev
open Go
def fK (ρ:aA) (ro:Option Nat) (F:Fence):Prop:=
 match ro with
 | none=>F=Fence.wide
 | some l=>∃k,ρ l=some k∧F=Fence.wide.inRound k.c
theorem fK.mono {ρ ρ':aA} (eu:ρ.le ρ') {ro:Option Nat} {F:Fence} (h:fK ρ ro F):fK ρ' ro F:=by
 cases ro with
 | none=>exact h
 | some l=>obtain⟨k,hk,hF⟩:=h;exact⟨k,eu _ _ hk,hF⟩
theorem fK.fn {ρ:aA} {ro:Option Nat} {F:Fence} (h:fK ρ ro F) (f:FuncId):F.fn f:=by
 cases ro with
 | none=>cases h;trivial
 | some l=>obtain⟨k,_,rfl⟩:=h;trivial
theorem fK.depth {ρ:aA} {ro:Option Nat} {F:Fence} (h:fK ρ ro F) (n:Nat):F.depth.isSome=true→1≤n:=by
 cases ro with
 | none=>cases h;intro h;cases h
 | some l=>obtain⟨k,_,rfl⟩:=h;intro h;cases h
theorem fK.calls {ρ:aA} {ro:Option Nat} {F:Fence} (h:fK ρ ro F) {n:Nat} {P:Program} {f:FuncId} {args:Array Value} {w:World} {Q:Ending→World→Prop}
  (hc:CallsIn Fence.wide n P f args w Q):CallsIn F n P f args w Q:=by
 cases ro with
 | none=>cases h;exact hc
 | some l=>obtain⟨k,_,rfl⟩:=h;exact hc
theorem fK.rounds {ρ:aA} {ro:Option Nat} {F:Fence} (h:fK ρ ro F) {n:Nat} {P:Program} {l:Nat} {f:FuncId} {tmps:Array Value} {ak9 bo:Code} {w:World} {Q:Ending→World→Prop}
  (hc:RoundIn Fence.wide n P l f tmps ak9 bo w Q):RoundIn F n P l f tmps ak9 bo w Q:=by
 cases ro with
 | none=>cases h;exact hc
 | some l=>obtain⟨k,_,rfl⟩:=h;exact hc
def rX:Ex→Exit
 | .normal=>.normal
 | .exit i=>.exit i
 | .goto l=>.goto l
 | .ret=>.ret
def m9:Nat→Prop:=fun _=>False
def bP [Env] (p:Out×St→Prop) (ρ:aA) (σ:St) (w:World):Exit→Go.Act→World→Prop:=
 fun e a' w'=>∃x a σ' ρ',p (.exit x a,σ')∧e=rX x∧bD ρ' a a'∧aW m9 ρ σ w ρ' σ' w'
def cu [Env] (p:Out×St→Prop) (ρ:aA) (σ:St) (w:World):Ending→World→Prop:=
 fun e w'=>∃v σ' ρ' v',p (.val v,σ')∧e=.returned v'∧au ρ' v v'∧aW m9 ρ σ w ρ' σ' w'
def rY (P:Program) (d:Deferred) (w:World) (Q:Ending→World→Prop):Prop:=
 (∃f args,(invoke d.target d.args).run P w=.ok (.enter f args) w∧CallsIn Fence.wide 0 P f args w Q)∨
 (∃l f tmps ak9 bo,(invoke d.target d.args).run P w=.ok (.round l f tmps ak9 bo) w∧RoundIn Fence.wide 0 P l f tmps ak9 bo w Q)
def me (F:Fence) (P:Program) (x cur:Code) (Q:Exit→Go.Act→World→Prop) (a:Go.Act) (w:World):Prop:=
 ∀(b:Frame) (k:List Go.Item) (cs:List Frame),b.roundOf=F.round→F.fn b.fn→F.room (cs.length+1+0)→
  ∃e a' w',Q e a' w'∧ArrivesIn (Machine.fenced P F) P (lone (b.atR a (.code cur::.inScope x::k)) cs w) b k cs e a' w'
def kj (F:Fence) (P:Program) (x:Code) (Q:Exit→Go.Act→World→Prop) (a:Go.Act) (w:World):Prop:=
 ∀(b:Frame) (k:List Go.Item) (cs:List Frame),b.roundOf=F.round→F.fn b.fn→F.room (cs.length+1+0)→
  ∃e a' w',Q e a' w'∧ArrivesIn (Machine.fenced P F) P (lone (b.atR a (.inLoop x::k)) cs w) b k cs e a' w'
theorem kj.mono {F:Fence} {P:Program} {x:Code} {Q Q':Exit→Go.Act→World→Prop} {a:Go.Act} {w:World} (h:kj F P x Q a w) (hq:∀e a w,Q e a w→Q' e a w):kj F P x Q' a w:=
 fun b k cs iy hb hr=>let ⟨e,a',w',q,r⟩:=h b k cs iy hb hr;⟨e,a',w',hq _ _ _ q,r⟩
theorem me.mono {F:Fence} {P:Program} {x cur:Code} {Q Q':Exit→Go.Act→World→Prop} {a:Go.Act} {w:World} (h:me F P x cur Q a w) (hq:∀e a w,Q e a w→Q' e a w):me F P x cur Q' a w:=
 fun b k cs iy hb hr=>let ⟨e,a',w',q,r⟩:=h b k cs iy hb hr;⟨e,a',w',hq _ _ _ q,r⟩
structure Good [Env] (P:Program) (Rn:Task→St→Run):Prop where
 code:∀ {ro:Option Nat} {fn:FuncId} {c:Code} {a:Act} {σ:St} {p:Out×St→Prop},(Rn (.code ro fn c a) σ).ar p→
  ∀ {ρ:aA} {w:World} {a':Go.Act} {F:Fence},R ρ σ w→bD ρ a a'→fK ρ ro F→c.wpIn F 0 P (bP p ρ σ w) a' w
 loop:∀ {ro:Option Nat} {fn:FuncId} {x:Code} {a:Act} {σ:St} {p:Out×St→Prop},(Rn (.code ro fn (.loop x) a) σ).ar p→
  ∀ {ρ:aA} {w:World} {a':Go.Act} {F:Fence},R ρ σ w→bD ρ a a'→fK ρ ro F→kj F P x (bP p ρ σ w) a' w
 inScope:∀ {ro:Option Nat} {fn:FuncId} {x cur:Code} {a:Act} {σ:St} {p:Out×St→Prop},(Rn (.inScope ro fn x cur a) σ).ar p→
  ∀ {ρ:aA} {w:World} {a':Go.Act} {F:Fence},R ρ σ w→bD ρ a a'→fK ρ ro F→me F P x cur (bP p ρ σ w) a' w
 call:∀ {f:FuncId} {vs:List V} {σ:St} {p:Out×St→Prop},(Rn (.call f vs) σ).ar p→
  ∀ {ρ:aA} {w:World} {vs':List Value},R ρ σ w→ay ρ vs vs'→(callFunc f ⟨vs'⟩).run P w=.ok (.enter f ⟨vs'⟩) w∧CallsIn Fence.wide 0 P f ⟨vs'⟩ w (cu p ρ σ w)
 deferred:∀ {f:FuncId} {vs:List V} {σ:St} {p:Out×St→Prop},(Rn (.deferred f vs) σ).ar p→
  ∀ {ρ:aA} {w:World} {vs':List Value},R ρ σ w→ay ρ vs vs'→(callFunc f ⟨vs'⟩).run P w=.ok (.enter f ⟨vs'⟩) w∧
   ∀u,CallsDIn Fence.wide 0 P f ⟨vs'⟩ u w (fun e u' w'=>u'=u∧cu p ρ σ w e w')
 leave:∀ {fn:Func} {a:Act} {σ:St} {p:Out×St→Prop},(Rn (.leave fn a) σ).ar p→
  ∀ {ρ:aA} {w:World} {a':Go.Act},R ρ σ w→bD ρ a a'→LeavesInM Fence.wide 0 P fn a'.tmps (cu p ρ σ w) a'.defers .returning w
 apply:∀ {f:V} {vs:List V} {σ:St} {p:Out×St→Prop},(Rn (.apply f vs) σ).ar p→
  ∀ {ρ:aA} {w:World} {f':Value} {vs':List Value},R ρ σ w→au ρ f f'→ay ρ vs vs'→∃d,(Deferred.ofValue f' ⟨vs'⟩).run P w=.ok d w∧rY P d w (cu p ρ σ w)
 round:∀ {l:Nat} {vs:List V} {σ:St} {p:Out×St→Prop},(Rn (.round l vs) σ).ar p→
  ∀ {ρ:aA} {w:World} {k:Loc} {vs':List Value},R ρ σ w→ρ l=some k→ay ρ vs vs'→
   ∃g tmps ak9 bo,(Instr.yield k.c ⟨vs'⟩).run P w=.ok (.round k.c g tmps ak9 bo) w∧RoundIn Fence.wide 0 P k.c g tmps ak9 bo w (cu p ρ σ w)
section
variable {P:Program} {ρ:aA} {σ:St} {w:World} {id:Nat} {Rn:Task→St→Run} {F:Fence} {ro:Option Nat}
theorem cu.mono [Env] {p q:Out×St→Prop} {e:Ending} {w':World} (h:cu p ρ σ w e w') (hp:∀x,p x→q x):cu q ρ σ w e w':=by
 obtain⟨v,σ',ρ',v',h1,h2⟩:=h
 exact⟨v,σ',ρ',v',hp _ h1,h2⟩
theorem bP.mono [Env] {p q:Out×St→Prop} {e:Exit} {a':Go.Act} {w':World} (h:bP p ρ σ w e a' w') (hp:∀x,p x→q x):bP q ρ σ w e a' w':=by
 obtain⟨x,a,σ',ρ',h1,h2⟩:=h
 exact⟨x,a,σ',ρ',hp _ h1,h2⟩
theorem vz {t:TypeId} {b:Bool} (h:xS P t=some b):∃d,P.underlying t=some d∧(b=true→∃e,d=.pointer e)∧(b=false→∀e,d≠.pointer e):=by
 unfold xS at h
 split at h
 ·rename_i e hu;cases h;exact⟨_,hu,fun _=>⟨e,rfl⟩,fun h=>by cases h⟩
 ·rename_i d hn hu
  cases h
  exact⟨d,hu,fun h=>(by cases h),fun _ e he=>hn e he⟩
 ·cases h
theorem G1 [Env] {t:TypeId} {v recv:V} {name:String} {f:FuncId} (h:po P t v name=some (f,recv)) {v':Value} (hv:au ρ v v') (w:World):
  ∃recv',(method (P.types.size+Made.depth) t v' name).run P w=.ok (f,recv') w∧au ρ recv recv':=by
 unfold po at h
 rw[Option.bind_eq_some_iff] at h
 obtain⟨m,hm,h⟩:=h
 rw[Option.bind_eq_some_iff] at hm
 obtain⟨i,hi,hm⟩:=hm
 have hd:P.types.size+Made.depth=(P.types.size+(Made.depth-1))+1:=by
  have:0<Made.depth:=by decide
  omega
 rw[hd]
 unfold methodOf at h
 split at h
 ·rename_i hp
  have pN:m.path.toList=[]:=by simpa using hp
  split at h
  ·rename_i g hf rM
   cases h
   obtain⟨d,hu,h1,_⟩:=vz rM
   obtain⟨e,rfl⟩:=h1 rfl
   refine⟨v',?_,hv⟩
   simp only[method,Sem.run_bind,run_typeInfo hi,Result.andThen_ok,hm,pN,follow,Sem.run_pure,hf,receiverAt,run_underlying hu,Place.get]
  ·rename_i g hf rM
   cases h
   obtain⟨d,hu,_,h2⟩:=vz rM
   refine⟨v',?_,hv⟩
   simp only[method,Sem.run_bind,run_typeInfo hi,Result.andThen_ok,hm,pN,follow,Sem.run_pure,hf,receiverAt,run_underlying hu]
   cases d<;>first
    | exact absurd rfl (h2 rfl _)
    | simp only[Place.get,Sem.run_pure,Result.andThen_ok]
  ·cases h
 ·cases h
theorem UY [Env] {tys:Array TypeId} {ty t:TypeId} {x u:V} {x':Value} (ht:tys[0]? =some t) (h:Ac P t x=some u) (hx:au ρ x x'):∃v',(Builtin.cap_ tys ty #[x']).run P w=.ok v' w∧au ρ u v':=by
 have gV:(#[x']:Array Value)[0]? =some x':=rfl
 unfold Ac at h
 split at h
 ·rename_i e hu
  cases h;cases hx
  exact⟨_,by simp only[Builtin.cap_,ht,gV,Sem.run_bind,run_underlying hu,Result.andThen_ok];rfl,.int _ _⟩
 ·rename_i e b off n c esz hu
  cases h
  cases hx with
  | slice h1 hex cW hN hn=>
   have e1:=(hex rfl).1
   subst e1
   exact⟨_,by simp only[Builtin.cap_,ht,gV,Sem.run_bind,run_underlying hu,Result.andThen_ok];rfl,.int _ _⟩
 ·cases h
theorem G2 [Env] {b:Builtin} {tys:Array TypeId} {ty:TypeId} {consts:Array Bool} {args:List V} {v:V} {σ':St} (hr:R ρ σ w) (cg:ρ id=none)
  (h:gP P σ id b tys.toList args=some (v,σ')) {Tk:List Value} (ha:ay ρ args Tk):
  ∃ρ' v' w',(builtin b tys ty consts ⟨Tk⟩).run P w=.ok (.value v') w'∧au ρ' v v'∧aW (fun b=>b=id) ρ σ w ρ' σ' w':=by
 unfold gP at h
 split at h
 ·rename_i t l x oB
  have ht:tys[0]? =some t:=by rw[←Array.getElem?_toList,oB];rfl
  rw[Option.map_eq_some_iff] at h
  obtain⟨u,hu,he⟩:=h
  cases he
  cases ha with
  | cons hx hl=>
   cases hl
   obtain⟨v',aE,hv⟩:=UX (P:=P) (ty:=ty) hr ht hu hx
   exact⟨ρ,v',w,by simp [builtin,aE],hv,aW.refl hr⟩
 ·rename_i t t' l s x oB
  have ht:tys[0]? =some t:=by rw[←Array.getElem?_toList,oB];rfl
  have fj:tys[1]? =some t':=by rw[←Array.getElem?_toList,oB];rfl
  split at h
  ·cases ha with
   | cons hs hl=>
    cases hl with
    | cons hx hl=>
     cases hl
     obtain⟨ρ',v',w',aE,hv,aF⟩:=DT (P:=P) (ty:=ty) hr cg ht fj h hs hx
     exact⟨ρ',v',w',by simp [builtin,aE],hv,aF⟩
  ·rename_i oL
   cases ha with
   | cons hs hl=>
    cases hl with
    | cons hx hl=>
     cases hl
     obtain⟨ρ',v',w',aE,hv,aF⟩:=GX (P:=P) (ty:=ty) hr cg ht fj oL h hs hx
     exact⟨ρ',v',w',by simp [builtin,aE],hv,aF⟩
 ·rename_i t l d x oB
  have ht:tys[0]? =some t:=by rw[←Array.getElem?_toList,oB];rfl
  cases ha with
  | cons hs hl=>
   cases hl with
   | cons hx hl=>
    cases hl
    obtain⟨v',w',aE,hv,aF⟩:=Py (P:=P) (ty:=ty) (id:=id) hr ht h hs hx
    exact⟨ρ,v',w',by simp [builtin,aE],hv,aF⟩
 ·rename_i t l m k oB
  have ht:tys[0]? =some t:=by rw[←Array.getElem?_toList,oB];rfl
  cases ha with
  | cons hs hl=>
   cases hl with
   | cons hx hl=>
    cases hl
    obtain⟨w',aE,hv,aF⟩:=KR (P:=P) (ty:=ty) (id:=id) hr ht h hs hx
    subst hv
    exact⟨ρ,_,w',by simp [builtin,aE],.tuple .nil,aF⟩
 ·cases h
  cases ha with
  | cons hx hl=>
   cases hl with
   | cons hy hl=>
    cases hl;cases hx;cases hy
    exact⟨ρ,_,w,by simp [builtin,Builtin.max_,Builtin.max2],.int _ _,aW.refl hr⟩
 ·cases h
  cases ha with
  | cons hx hl=>
   cases hl with
   | cons hy hl=>
    cases hl;cases hx;cases hy
    exact⟨ρ,_,w,by simp [builtin,Builtin.min_,Builtin.min2],.int _ _,aW.refl hr⟩
 ·rename_i t l x oB
  have ht:tys[0]? =some t:=by rw[←Array.getElem?_toList,oB];rfl
  rw[Option.map_eq_some_iff] at h
  obtain⟨u,hu,he⟩:=h
  cases he
  cases ha with
  | cons hx hl=>
   cases hl
   obtain⟨v',aE,hv⟩:=UY (P:=P) (ty:=ty) (w:=w) ht hu hx
   exact⟨ρ,v',w,by simp [builtin,aE],hv,aW.refl hr⟩
 ·rename_i t l x oB
  have ht:tys[0]? =some t:=by rw[←Array.getElem?_toList,oB];rfl
  cases ha with
  | cons hx hl=>
   cases hl
   obtain⟨w',aE,rfl,aF⟩:=Nz (P:=P) (ty:=ty) (id:=id) hr ht h hx
   exact⟨ρ,_,w',by simp [builtin,aE],.tuple .nil,aF⟩
 ·cases h
theorem bw.ar.jr {α:Type} {gz:String} {p:α→Prop} {q:Prop} (h:(bw.fail gz:bw α).ar p):q:=h.elim
theorem bP.trans [Env] {p:Out×St→Prop} {ρ':aA} {σ':St} {w' xk:World} {e:Exit} {a:Go.Act} (h:aW m9 ρ σ w ρ' σ' w') (k:bP p ρ' σ' w' e a xk):bP p ρ σ w e a xk:=by
 obtain⟨x,b,τ,D6,h1,h2,h3,h4⟩:=k
 exact⟨x,b,τ,D6,h1,h2,h3,h.trans h4⟩
theorem cu.trans [Env] {p:Out×St→Prop} {ρ':aA} {σ':St} {w' xk:World} {e:Ending} (h:aW m9 ρ σ w ρ' σ' w') (k:cu p ρ' σ' w' e xk):cu p ρ σ w e xk:=by
 obtain⟨x,τ,D6,v',h1,h2,h3,h4⟩:=k
 exact⟨x,τ,D6,v',h1,h2,h3,h.trans h4⟩
theorem aW.nix [Env] {ids:Nat→Prop} {ρ':aA} {σ':St} {w':World} (h:aW m9 ρ σ w ρ' σ' w'):aW ids ρ σ w ρ' σ' w':=h.weaken fun _ h=>h.elim
theorem bw.ar.of {α:Type} {gz:String} {x:Option α} {p:α→Prop} (h:(bw.of gz x).ar p):∃a,x=some a∧p a:=by
 cases x with
 | none=>exact h.elim
 | some a=>exact⟨a,rfl,h⟩
theorem xo {a:Act} {q:V×Act×St→Prop} {x:Out×St} (h:(valOf a x).ar q):∃v σ',x=(.val v,σ')∧q (v,a,σ'):=by
 obtain⟨o,σ'⟩:=x
 cases o with
 | exit e a=>exact h.elim
 | val v=>exact⟨v,σ',rfl,h⟩
theorem q3 (o:Oper) {c:Call} (h:o.op=.call c) (e:Operand→Value):execOp e o=(do let d←resolve e c o.type;invoke d.target d.args):=by
 unfold execOp;rw[h]
theorem D7 (o:Oper) {c:Call} (h:o.op=.defer c) (e:Operand→Value):execOp e o=(do pure (.defer (←resolve e c o.type))):=by
 unfold execOp;rw[h]
def NI [Env] (id:Nat) (ρ:aA) (σ:St) (w:World) (a':Go.Act) (o:Oper) (q:V×Act×St→Prop) (next:Go.Act→World→Prop):Prop:=
 ∀v aT σ' ρ' v' C6 w',q (v,aT,σ')→au ρ' v v'→bD ρ' aT C6→C6.tmps=a'.tmps→aW (fun b=>b=id) ρ σ w ρ' σ' w'→next (C6.put o.dst v') w'
theorem B7 {o:Op} (hc:∀c,o≠.call c) (hd:∀c,o≠.defer c):jA P o=DG (m7 P o):=by
 cases o<;>first
  | rfl
  | exact absurd rfl (hc _)
  | exact absurd rfl (hd _)
theorem rZ [Env] {a:Act} {a':Go.Act} {o:Oper} {c:Call} {q:V×Act×St→Prop} {next:Go.Act→World→Prop} {Q:Exit→Go.Act→World→Prop} {d:Deferred} {pp:Out×St→Prop}
  (bq:fK ρ ro F) (ha:bD ρ a a') (bY:o.op=.call c) (PH:(resolve a'.eval c o.type).run P w=.ok d w) (he:rY P d w (cu pp ρ σ w))
  (yV:∀x,pp x→((valOf a x).ar q)) (hn:NI id ρ σ w a' o q next):o.wpIn F 0 P a' w next Q:=by
 refine⟨fun f _=>bq.fn f,?_⟩
 have hs:Oper.semAt F.round a'.eval o=execOp a'.eval o:=Oper.semAt_eq _ _ _ (fun c' h=>by rw[bY] at h;cases h)
 rw[hs,q3 o bY,Sem.run_bind,PH,Result.andThen_ok]
 have fin:∀ {e:Ending} {w':World},cu pp ρ σ w e w'→(match e with
   | .returned v=>next (a'.put o.dst v) w'
   | .panicked chain=>Q (.panic chain) a' w'
   | .outgrown=>LetsOut Q):=by
  intro e w' hv
  obtain⟨v,σ',ρ',v',hp,rfl,aO,aF⟩:=hv
  obtain⟨u,τ,hx,hq⟩:=xo (yV _ hp)
  cases hx
  exact hn _ _ _ _ _ _ _ hq aO (ha.mono aF.le) rfl aF.nix
 rcases he with ⟨f,args,hinv,eD⟩ | ⟨l,f,tmps,ak9,bo,hinv,D8⟩
 ·rw[hinv]
  exact⟨bq.depth 0,(bq.calls eD).mono fun e w' hv=>by have:=fin hv;cases e<;>exact this⟩
 ·rw[hinv]
  exact⟨bq.depth 0,(bq.rounds D8).mono fun e w' hv=>by have:=fin hv;cases e<;>exact this⟩
theorem KW {fo:Operand} {e:Ext} (h:oR P fo=some e):∃f fn,fo=.func f∧P.funcs[f]? =some fn∧fn.body=none∧fn.origin= ""∧xQ fn.name=some e:=by
 unfold oR at h
 split at h
 ·rename_i f
  split at h
  ·rename_i fn hf
   split at h
   ·rename_i hb
    split at h
    ·rename_i ho
     exact⟨f,fn,rfl,hf,hb,by simpa using ho,h⟩
    ·cases h
   ·cases h
  ·cases h
 ·cases h
theorem nS {fn:Func} {n:String} {e:Array Value→Sem Value} (hn:fn.name=n) (h1:Extern.allGenericRows.lookup n=none) (h2:Extern.allTypedRows.lookup n=none) (h3:Extern.allRows.lookup n=some e):Extern.find fn=some e:=by
 unfold Extern.find
 rw[hn]
 simp only[h1,h2,h3]
 rfl
theorem nT {fn:Func} {n:String} (hn:fn.name=n) (ho:fn.origin= "") (h1:Extern.allNextRows.lookup n=none) (h2:Extern.allNextRows.lookup ""=none):Extern.findNext fn=none:=by
 unfold Extern.findNext
 rw[hn,ho]
 simp only[h1,h2]
 rfl
theorem o4:Extern.allNextRows.lookup ""=none:=by kernel_rfl
theorem te {f:FuncId} {fn:Func} {e:Array Value→Sem Value} (hf:P.funcs[f]? =some fn) (hb:fn.body=none) (ed:(fn.name== "runtime.NumGoroutine")=false) (hn:Extern.findNext fn=none) (he:Extern.find fn=some e)
  {args:Array Value} {v:Value} (hv:(e args).run P w=.ok v w):(callFunc f args).run P w=.ok (.value v) w:=by
 unfold callFunc
 have yW:(program).run P w=.ok P w:=rfl
 have hm:(mark (.extern f)).run P w=.ok () w:=rfl
 simp only[Sem.run_bind,yW,Result.andThen_ok,hf,ed,hb,hn,he,hm,hv,Bool.false_eq_true,if_false,Option.isNone_none,if_true]
 rfl
theorem UZ [Env] {fo:Operand} {e:Ext} (h:oR P fo=some e) {vs:List V} {v:V} (hv:sM e vs=some v) {vs':List Value} (gA:ay ρ vs vs'):
  ∃f v',fo=.func f∧(callFunc f ⟨vs'⟩).run P w=.ok (.value v') w∧au ρ v v':=by
 obtain⟨f,fn,rfl,hf,hb,ho,hn⟩:=KW h
 refine⟨f,?_⟩
 unfold xQ at hn
 split at hn
 ·rename_i ed
  have ed:fn.name= "math.Float64frombits":=by simpa using ed
  cases hn
  unfold sM at hv
  split at hv<;>try (rename_i hx;cases hx;done)
  all_goals try (cases hv;done)
  cases hv
  cases gA;rename_i hx hl;cases hx;cases hl
  exact⟨_,rfl,te hf hb (by rw[ed];rfl) (nT ed ho (by kernel_rfl) o4) (nS ed (by kernel_rfl) (by kernel_rfl) (e:=Extern.MathFloatBits.float64frombits) (by kernel_rfl)) rfl,.dO _ _⟩
 ·split at hn
  ·rename_i ed
   have ed:fn.name= "math.Float64bits":=by simpa using ed
   cases hn
   unfold sM at hv
   split at hv<;>try (rename_i hx;cases hx;done)
   all_goals try (cases hv;done)
   cases hv
   cases gA;rename_i hx hl;cases hx;cases hl
   exact⟨_,rfl,te hf hb (by rw[ed];rfl) (nT ed ho (by kernel_rfl) o4) (nS ed (by kernel_rfl) (by kernel_rfl) (e:=Extern.MathFloatBits.float64bits) (by kernel_rfl)) rfl,.int _ _⟩
  ·split at hn
   ·rename_i ed
    have ed:fn.name= "internal/bytealg.abigen_runtime_cmpstring":=by simpa using ed
    cases hn
    unfold sM at hv
    split at hv<;>try (rename_i hx;cases hx;done)
    all_goals try (cases hv;done)
    cases hv
    cases gA;rename_i hx hl;cases hl;rename_i hy hl;cases hx;cases hy;cases hl
    exact⟨_,rfl,te hf hb (by rw[ed];rfl) (nT ed ho (by kernel_rfl) o4) (nS ed (by kernel_rfl) (by kernel_rfl) (e:=Extern.BytealgCompare.compare) (by kernel_rfl)) (Lib.run_compareString _ _ w),.int _ _⟩
   ·split at hn
    ·rename_i ed
     have ed:fn.name= "math.archTrunc":=by simpa using ed
     cases hn
     unfold sM at hv
     split at hv<;>try (rename_i hx;cases hx;done)
     all_goals try (cases hv;done)
     split at hv
     ·cases hv
     ·rename_i afw
      cases hv
      cases gA;rename_i hx hl;cases hx;cases hl
      refine⟨_,rfl,te hf hb (by rw[ed];rfl) (nT ed ho (by kernel_rfl) o4) (nS ed (by kernel_rfl) (by kernel_rfl) (e:=Extern.MathFloor.toIntegral "math.archTrunc" .zero) (by kernel_rfl)) ?_,.dO _ _⟩
      rename_i b _
      show(match FloatKind.f64.decode b with
       | .nan s t=>
        if FloatKind.f64.format.quiet t=t then pure (.float .f64 b) else do
        let kept←choose (.extern "math.Floor,Ceil,Trunc,RoundToEven.signallingNaN kept" 2)
        pure (.float .f64 (if kept==1 then b else FloatKind.f64.encode (.nan s (FloatKind.f64.format.quiet t))))
       | d=>pure (.float .f64 (FloatKind.f64.encode (d.integral .zero))):Sem Value).run P w=.ok (.float .f64 (ja b)) w
      unfold ja
      revert afw
      cases FloatKind.f64.decode b with
      | nan s t=>exact fun h=>(h rfl).elim
      | infinity s=>exact fun _=>rfl
      | number s m e=>exact fun _=>rfl
    ·cases hn
theorem G3 [Env] (hg:Good P Rn) (hr:R ρ σ w) (cg:ρ id=none) {a:Act} {a':Go.Act} (ha:bD ρ a a') (bq:fK ρ ro F) (o:Oper) {q:V×Act×St→Prop}
  (h:((jA P o.op).f Rn ro a σ id).ar q) {next:Go.Act→World→Prop} {Q:Exit→Go.Act→World→Prop} (hn:NI id ρ σ w a' o q next):o.wpIn F 0 P a' w next Q:=by
 by_cases eD:∃c,o.op=.call c
 ·obtain⟨c,bY⟩:=eD
  rw[bY] at h
  have h':((wG P c).f Rn ro a σ id).ar q:=h
  unfold wG at h'
  split at h'
  ·rename_i fo B8
   split at h'
   ·rename_i e he
    dsimp only at h'
    have h':=h'.bind
    cases gA:a.bQ c.args.toList with
    | none=>rw[gA] at h';exact h'.elim
    | some vs=>
     rw[gA] at h'
     obtain⟨v,bf,hq⟩:∃v,sM e vs=some v∧q (v,a,σ):=by
      revert h'
      show(aQ σ "extern" (sM e vs)).ar _→_
      cases sM e vs with
      | none=>exact fun h=>h.elim
      | some v=>exact fun h=>⟨v,rfl,h⟩
     obtain⟨f,v',Tg,yX,aO⟩:=UZ (w:=w) he bf (ha.bQ _ gA)
     refine⟨fun f _=>bq.fn f,?_⟩
     have hs:Oper.semAt F.round a'.eval o=execOp a'.eval o:=Oper.semAt_eq _ _ _ (fun c' h=>by rw[bY] at h;cases h)
     have yH:(execOp a'.eval o).run P w=.ok (.value v') w:=by
      rw[q3 o bY]
      unfold resolve
      rw[B8,Tg]
      dsimp only
      rw[show c.args.map a'.eval=⟨c.args.toList.map a'.eval⟩ from Array.ext' (by simp)]
      show(callFunc f ((#[]++⟨c.args.toList.map a'.eval⟩:Array Value)++#[])).run P w=_
      rw[Array.append_empty,Array.empty_append]
      exact yX
     rw[hs,yH]
     exact hn _ _ _ _ _ _ _ hq aO ha rfl (aW.refl hr)
   dsimp only at h'
   unfold n6 at h'
   split at h'
   ·rename_i fv vs hf gA
    have h':=h'.bind
    obtain⟨d,hd,he⟩:=hg.apply h' hr (ha.eval fo hf) (ha.bQ _ gA)
    refine rZ bq ha bY (d:=d) ?_ he (fun _ h=>h) hn
    unfold resolve
    rw[B8]
    dsimp only
    rw[show c.args.map a'.eval=⟨c.args.toList.map a'.eval⟩ from Array.ext' (by simp)]
    exact hd
   ·exact h'.elim
  ·rename_i x name B8
   dsimp only at h'
   unfold oV at h'
   split at h'
   ·rename_i t v vs hx gA
    unfold nN at h'
    split at h'
    ·rename_i f recv hm
     have h':=h'.bind
     have hxr:=ha.eval x hx
     obtain⟨v',bf,hvv⟩:∃v',a'.eval x=.iface t v'∧au ρ v v':=by
      generalize a'.eval x=x' at hxr
      cases hxr with
      | iface h=>exact⟨_,rfl,h⟩
     obtain⟨recv',XF,ei⟩:=G1 hm hvv w
     obtain⟨yX,hc⟩:=hg.call h' hr (.cons ei (ha.bQ _ gA))
     refine rZ bq ha bY (d:={target:=.fn (.method name) #[],args:=#[a'.eval x]++c.args.map a'.eval}) ?_ (.inl ⟨f,_,?_,hc⟩) (fun _ h=>h) hn
     ·unfold resolve
      rw[B8]
      rfl
     ·have e1:(#[a'.eval x]++c.args.map a'.eval)[0]? =some (.iface t v'):=by rw[Array.getElem?_append_left (by simp),bf];rfl
      have e2:(#[recv']++(#[a'.eval x]++c.args.map a'.eval).extract 1 (#[a'.eval x]++c.args.map a'.eval).size:Array Value)=⟨recv'::c.args.toList.map a'.eval⟩:=by
       apply Array.ext';simp [List.take_of_length_le]
      simp only[invoke,e1,callMethod,Sem.run_bind]
      have yW:(program).run P w=.ok P w:=rfl
      simp only[yW,Result.andThen_ok,XF,e2,yX]
    ·exact h'.elim
   ·exact h'.elim
  ·rename_i b B8
   dsimp only at h'
   have h':=h'.bind
   cases gA:a.bQ c.args.toList with
   | none=>rw[gA] at h';exact h'.elim
   | some vs=>
    rw[gA] at h'
    obtain⟨⟨v,σ'⟩,bf,hq⟩:=bw.ar.of h'
    obtain⟨ρ',v',w',aE,aO,aF⟩:=G2 (P:=P) (ty:=o.type) (consts:=c.args.map fun | .const _=>true | _=>false) hr cg bf (ha.bQ _ gA)
    refine⟨fun f _=>bq.fn f,?_⟩
    have hs:Oper.semAt F.round a'.eval o=execOp a'.eval o:=Oper.semAt_eq _ _ _ (fun c' h=>by rw[bY] at h;cases h)
    have yH:(execOp a'.eval o).run P w=.ok (.value v') w':=by
     rw[q3 o bY]
     unfold resolve
     rw[B8]
     dsimp only
     rw[show c.args.map a'.eval=⟨c.args.toList.map a'.eval⟩ from Array.ext' (by simp)]
     exact aE
    rw[hs,yH]
    exact hn _ _ _ _ _ _ _ hq aO (ha.mono aF.le) rfl aF
 ·by_cases D9:∃c,o.op=.defer c
  ·obtain⟨c,bY⟩:=D9
   rw[bY] at h
   have h':((jM c).f Rn ro a σ id).ar q:=h
   unfold jM at h'
   split at h'
   ·rename_i fo B8
    dsimp only at h'
    unfold DF at h'
    split at h'
    ·rename_i fn first captured vs hf gA
     split at h'
     ·have hF:F=Fence.wide:=bq
      subst hF
      obtain⟨t,s,ds⟩:=a
      have hfv:=ha.eval fo hf
      generalize bf:a'.eval fo=f' at hfv
      cases hfv with
      | func yY hx hy=>
       rename_i fn' x' y'
       refine⟨fun f _=>trivial,?_⟩
       have PH:(resolve a'.eval c o.type).run P w=.ok {target:=.fn fn' ⟨y'⟩,args:=⟨x'++c.args.toList.map a'.eval⟩} w:=by
        unfold resolve
        rw[B8]
        dsimp only
        rw[bf]
        rw[show c.args.map a'.eval=⟨c.args.toList.map a'.eval⟩ from Array.ext' (by simp)]
        simp [Deferred.ofValue]
       have hs:Oper.semAt Fence.wide.round a'.eval o=execOp a'.eval o:=rfl
       rw[hs,D7 o bY,Sem.run_bind,PH]
       have hh:=hn _ _ _ ρ _ ({a' with defers:={target:=.fn fn' ⟨y'⟩,args:=⟨x'++c.args.toList.map a'.eval⟩}::a'.defers}) w h' oe
        ⟨ha.tmps,ha.size,.cons (.call 0 yY hy (by rw[fi];exact hx.append (ha.bQ _ gA))) ha.defers⟩ rfl (aW.refl hr)
       exact hh
     ·exact h'.elim
    ·exact h'.elim
   ·exact h'.elim
  ·have hc:∀c,o.op≠.call c:=fun c e=>eD ⟨c,e⟩
   have hd:∀c,o.op≠.defer c:=fun c e=>D9 ⟨c,e⟩
   rw[B7 hc hd] at h
   have h':=bw.ar.bind (r:=(m7 P o.op).f a σ id) (f:=fT a) h
   obtain⟨v,σ',ρ',v',w',hq,aO,aF,aE⟩:=PG hr cg ha o h' hc
   have hs:Oper.semAt F.round a'.eval o=execOp a'.eval o:=Oper.semAt_eq _ _ _ hd
   refine⟨fun f _=>bq.fn f,?_⟩
   rw[hs]
   have og:q (v,a,σ'):=hq
   rcases aE with aE | ⟨rfl,aE⟩
   ·rw[aE]
    exact hn _ _ _ _ _ _ _ og aO (ha.mono aF.le) rfl aF
   ·rw[aE]
    exact hn _ _ _ _ _ _ _ og aO (ha.mono aF.le) rfl aF
theorem Ea (ops:Array Oper) (tmps:Array Value) (j:Nat):yielded ops tmps j=match (gl ops.toList j).bind (tmps[·]?) with
  | some (.bool b)=>some b
  | _=>none:=by
 unfold yielded gl
 rw[ea,Array.getElem?_toList]
 rfl
theorem G4 [Env] {v:V} {x:Value} (h:au ρ v x) (hn:∀i,v≠.any i) (want:Bool):sQ want (some v)=some (((match some x with | some (.bool b)=>some b | _=>none:Option Bool)==some want)):=by
 cases h<;>first
  | rfl
  | (rename_i h;obtain⟨_,_,_,e⟩:=h.dG rfl;subst e;rfl)
  | exact absurd rfl (hn _)
theorem wN {dst:Option Tmp} {v:V} {a:Act} {aI:St} {q:Act×St→Prop} (h:(mz dst (v,a,aI)).ar q):∃aY,a.put dst v=some aY∧q (aY,aI):=by
 have h':(qY aI (a.put dst v)).ar q:=h
 cases hp:a.put dst v with
 | none=>rw[hp] at h';exact h'.elim
 | some aY=>rw[hp] at h';exact⟨aY,rfl,h'⟩
def XG [Env] (id:Nat) (ρ:aA) (σ:St) (w:World) (q:Act×St→Prop) (K:Go.Act→World→Prop):Prop:=
 ∀aY bL bm jF fr,q (aY,bL)→bD bm aY jF→aW (fun b=>b=id) ρ σ w bm bL fr→K jF fr
theorem q4 [Env] (hg:Good P Rn) (hr:R ρ σ w) (cg:ρ id=none) {a:Act} {a':Go.Act} (ha:bD ρ a a') (bq:fK ρ ro F) {ops:Array Oper} {i:Nat} {o:Oper} (hi:ops[i]? =some o)
  {q:Act×St→Prop} (h:((jB P ops.toList o).f Rn ro a σ id).ar q) {K:Go.Act→World→Prop} {Q:Exit→Go.Act→World→Prop} (hK:XG id ρ σ w q K):
  wpOpIn F 0 P ops Q i K a' w:=by
 unfold wpOpIn
 rw[hi]
 dsimp only
 have aE:((jA P o.op).f Rn ro a σ id).ar (fun x=>(mz o.dst x).ar q)→o.wpIn F 0 P a' w K Q:=by
  intro h
  refine G3 hg hr cg ha bq o h ?_
  intro v aT σ' ρ' v' C6 w' hq hv yZ _ aF
  obtain⟨aY,hp,hq⟩:=wN hq
  exact hK _ _ _ _ _ hq (yZ.put hv hp) aF
 have ab9:∀aY,a.put o.dst cI=some aY→q (aY,σ)→K (a'.put o.dst undef) w:=fun aY hp hq=>hK _ _ _ _ _ hq (ha.put oe hp) (aW.refl hr)
 have yes:Region.wanted o (yielded ops a'.tmps)=true→((jA P o.op).f Rn ro a σ id).ar (fun x=>(mz o.dst x).ar q)→
   (if Region.wanted o (yielded ops a'.tmps)=true then o.wpIn F 0 P a' w K Q else(∀f,o.about P w a'.eval=some f→F.fn f)∧K (a'.put o.dst undef) w):=by
  intro hw h;rw[if_pos hw];exact aE h
 have no:Region.wanted o (yielded ops a'.tmps)=false→(qY σ (a.put o.dst cI)).ar q→
   (if Region.wanted o (yielded ops a'.tmps)=true then o.wpIn F 0 P a' w K Q else(∀f,o.about P w a'.eval=some f→F.fn f)∧K (a'.put o.dst undef) w):=by
  intro hw h
  rw[if_neg (by rw[hw];simp)]
  refine⟨fun f _=>bq.fn f,?_⟩
  unfold qY at h
  split at h
  ·rename_i aY hp;exact ab9 aY hp h
  ·exact h.elim
 unfold jB at h
 split at h
 ·rename_i XH
  exact yes (by unfold Region.wanted;rw[XH]) h.bind
 ·rename_i j want XH
  have hwq:∀r,yielded ops a'.tmps j=r→Region.wanted o (yielded ops a'.tmps)=(r==some want):=by
   intro r hy;unfold Region.wanted;rw[XH,←hy]
  have hy:=hwq _ (Ea ops a'.tmps j)
  unfold yF at h
  split at h
  ·rename_i d hd
   rw[hd] at hy
   dsimp only at h
   cases hv:a.tmps.get d with
   | none=>rw[hv] at h;exact h.elim
   | some v=>
    obtain⟨x,hx,aO⟩:=ha.tmps d v hv
    have Tl:∀i,v≠.any i:=by
     rintro i rfl
     rw[hv] at h
     exact h.elim
    rw[hv,G4 aO Tl want] at h
    rw[Option.bind_some,hx] at hy
    rw[←hy] at h
    unfold rI at h
    cases hb:Region.wanted o (yielded ops a'.tmps) with
    | true=>
     rw[hb] at h yes
     exact yes rfl h.bind
    | false=>
     rw[hb] at h no
     exact no rfl h
  ·rename_i hd
   rw[hd] at hy
   exact no (by rw[hy];rfl) h
theorem aW.xW [Env] {ρ':aA} {σ':St} {w':World} (h:aW (fun b=>b=σ.next) ρ σ w ρ' σ' w'):aW m9 ρ σ w ρ' σ' w':=by
 refine⟨h.r,h.le,h.next,fun b l hb=>?_,h.size,h.os,h.tape,h.output,h.aQ,h.wr,fun b k hb=>?_,h.hH⟩
 ·rcases h.jn b l hb with h1 | h1 | h1
  ·exact .inl h1
  ·exact .inr (.inl h1)
  ·exact .inr (.inl (by rw[h1];exact Nat.le_refl _))
 ·rcases h.jC b k hb with h1 | h1 | h1
  ·exact .inl h1
  ·exact .inr (.inl h1)
  ·exact .inr (.inl (by rw[h1];exact Nat.le_refl _))
theorem KX [Env] (hg:Good P Rn) {ops:Array Oper} {p:Out×St→Prop} {bT:aA} {σ₀:St} {fx:World}:∀(l:List Oper) (k:Nat) {a:Act} {σ:St} {ρ:aA} {w:World} {a':Go.Act},
  ops.toList.drop k=l→((KI P ops.toList l).f Rn ro a σ).ar p→R ρ σ w→bD ρ a a'→fK ρ ro F→aW m9 bT σ₀ fx ρ σ w→
  wpOpsIn F 0 P ops (bP p bT σ₀ fx) (List.range' k l.length) a' w:=by
 intro l
 induction l with
 | nil=>
  intro k a σ ρ w a' _ h hr ha _ aF
  exact⟨.normal,_,_,_,h,rfl,ha,aF⟩
 | cons o l ih=>
  intro k a σ ρ w a' hd h hr ha bq aF
  have hk:k<ops.toList.length:=by
   have:=congrArg List.length hd
   simp only[List.length_drop,List.length_cons] at this
   omega
  have vA:=List.drop_eq_getElem_cons hk
  rw[hd] at vA
  injection vA with h1 h2
  have hi:ops[k]? =some o:=by
   rw[←Array.getElem?_toList,List.getElem?_eq_getElem hk,h1]
  rw[List.length_cons,List.range'_succ,wpOpsIn_cons]
  have h':(((jB P ops.toList o).f Rn ro a σ σ.next).bind (Tb ((KI P ops.toList l).f Rn ro))).ar p:=h
  refine q4 hg hr (hr.fresh _ (Nat.le_refl _)) ha bq hi h'.bind ?_
  intro aY bL bm jF fr hq Tm iD
  exact ih (k+1) h2.symm hq iD.r Tm (bq.mono iD.le) (aF.trans iD.xW)
theorem Eb [Env] (hg:Good P Rn) (hr:R ρ σ w) {a:Act} {a':Go.Act} (ha:bD ρ a a') (bq:fK ρ ro F) {id:Nat} {ops:Array Oper} {p:Out×St→Prop}
  (h:((wI P ops.toList false).f Rn ro a σ).ar p):(Code.region id ops false).wpIn F 0 P (bP p ρ σ w) a' w:=by
 refine wpIn_region ?_
 have:=KX (F:=F) hg (ops:=ops) ops.toList 0 rfl h hr ha bq (aW.refl hr)
 rw[List.range_eq_range']
 simpa using this
end
end Go.Ev
end
section
namespace Go.Ev
open Go
noncomputable def St.ext (σ:St) (id:Nat):Option bU→St
 | none=>σ
 | some k=>σ.new id k
mutual
theorem V.beq_eq:∀ {a b:V},V.beq a b=true→a=b
 | .int ..,.int ..,h=>by simp [V.beq] at h;simp [h]
 | .bool _,.bool _,h=>by simp [V.beq] at h;simp [h]
 | .str _,.str _,h=>by simp [V.beq] at h;simp [h]
 | .dA,.dA,_=>rfl
 | .ptr ..,.ptr ..,h=>by simp [V.beq] at h;simp [h]
 | .ak,.ak,_=>rfl
 | .slice ..,.slice ..,h=>by simp [V.beq] at h;simp [h]
 | .own ..,.own ..,h=>by simp [V.beq] at h;simp [h]
 | .arr ..,.arr ..,h=>by simp [V.beq] at h;simp [h]
 | .dc,.dc,_=>rfl
 | .map _,.map _,h=>by simp [V.beq] at h;simp [h]
 | .func f x y,.func f' x' y',h=>by
  simp only[V.beq,Bool.and_eq_true,decide_eq_true_eq] at h
  rw[h.1.1,V.kM h.1.2,V.kM h.2]
 | .cR,.cR,_=>rfl
 | .any _,.any _,h=>by simp [V.beq] at h;simp [h]
 | .bX x _ _,.bX y _ _,h=>by
  simp only[V.beq,Bool.and_eq_true,beq_iff_eq] at h
  rw[V.kM h.1.1,h.1.2,h.2]
 | .aU x _,.aU y _,h=>by
  simp only[V.beq,Bool.and_eq_true,beq_iff_eq] at h
  rw[V.kM h.1,h.2]
 | .dO ..,.dO ..,h=>by simp [V.beq] at h;simp [h]
 | .iface t v,.iface t' v',h=>by
  simp only[V.beq,Bool.and_eq_true,beq_iff_eq] at h
  rw[h.1,V.beq_eq h.2]
 | .bh,.bh,_=>rfl
 | .agg x,.agg y,h=>by
  simp only[V.beq] at h
  rw[V.kM h]
 | .tuple x,.tuple y,h=>by
  simp only[V.beq] at h
  rw[V.kM h]
theorem V.kM:∀ {a b:List V},V.fJ a b=true→a=b
 | [],[],_=>rfl
 | x::xs,y::ys,h=>by
  simp only[V.fJ,Bool.and_eq_true] at h
  rw[V.beq_eq h.1,V.kM h.2]
end
def dN (D:Nat→Prop) (σ σ':St):Prop:=∀b k,σ.heap.get b=some k→D b→σ'.heap.get b=some k
section
variable {P:Program} {ρ:aA} {id:Nat}
def bZ (id:Nat) (f:St→VS):Prop:=∀σ q,(f σ).ar q→∃v κ,q (v,σ.ext id κ)∧∀σ',f σ'=.ok (v,σ'.ext id κ)
def iT (id:Nat) (D:Nat→Prop) (f:St→VS):Prop:=
 ∀σ q,(f σ).ar q→∃v κ,q (v,σ.ext id κ)∧f σ=.ok (v,σ.ext id κ)∧∀σ',dN D σ σ'→f σ'=.ok (v,σ'.ext id κ)
theorem bZ.look {f:St→VS} (h:bZ id f) (D:Nat→Prop):iT id D f:=by
 intro σ q hq
 obtain⟨v,κ,h1,h2⟩:=h σ q hq
 exact⟨v,κ,h1,h2 σ,fun σ' _=>h2 σ'⟩
theorem bZ.aQ [Env] (gz:String) (x:Option V):bZ id fun σ=>aQ σ gz x:=by
 intro σ q h
 obtain⟨v,hv,hq⟩:=dp h
 exact⟨v,none,hq,fun σ'=>by rw[hv];rfl⟩
theorem bZ.fail (gz:String):bZ id fun _=>(.fail gz:VS):=fun _ _ h=>h.elim
theorem bZ.ok (v:V):bZ id fun σ=>(.ok (v,σ):VS):=fun _ _ h=>⟨v,none,h,fun _=>rfl⟩
theorem bZ.new (v:V) (k:bU):bZ id fun σ=>(.ok (v,σ.new id k):VS):=fun _ _ h=>⟨v,some k,h,fun _=>rfl⟩
theorem bZ.eH [Env] {gz:String} {x:Option V} {g:V→St→VS} (h:∀v,bZ id (g v)):bZ id fun σ=>eH gz x fun v=>g v σ:=by
 cases x with
 | none=>exact .fail _
 | some v=>exact h v
theorem bZ.m6 [Env] {gz:String} {x y:Option V} {g:V→V→St→VS} (h:∀v u,bZ id (g v u)):bZ id fun σ=>m6 gz x y fun v u=>g v u σ:=by
 cases x with
 | none=>exact .fail _
 | some v=>cases y with
  | none=>exact .fail _
  | some u=>exact h v u
theorem iT.aQ [Env] {D:Nat→Prop} (gz:String) {x:St→Option V} (h:∀σ σ' v,dN D σ σ'→x σ=some v→x σ'=some v):iT id D fun σ=>aQ σ gz (x σ):=by
 intro σ q hq
 obtain⟨v,hv,hp⟩:=dp hq
 exact⟨v,none,hp,by dsimp only;rw[hv];rfl,fun σ' hs=>by dsimp only;rw[h σ σ' v hs hv];rfl⟩
theorem xp {a b:Act}:∀(l:List (Nat×Operand)),(∀q∈l,a.eval q.2=b.eval q.2)→a.parts l=b.parts l:=by
 intro l
 induction l with
 | nil=>intro _;rfl
 | cons q l ih=>
  intro h
  show lD (wD a q) (a.parts l)=lD (wD b q) (b.parts l)
  rw[ih fun q hq=>h q (List.mem_cons_of_mem _ hq)]
  unfold wD
  rw[h q List.mem_cons_self]
theorem lk {a b:Act}:∀(l:List Operand),(∀q∈l,a.eval q=b.eval q)→a.bQ l=b.bQ l:=by
 intro l
 induction l with
 | nil=>intro _;rfl
 | cons q l ih=>
  intro h
  show lD (a.eval q) (a.bQ l)=lD (b.eval q) (b.bQ l)
  rw[ih fun q hq=>h q (List.mem_cons_of_mem _ hq),h q List.mem_cons_self]
theorem tf {a b:Act} (x:Option Operand) (h:∀q∈x,a.eval q=b.eval q):iZ a x=iZ b x:=by
 cases x with
 | none=>rfl
 | some x=>show(a.eval x).map some=(b.eval x).map some;rw[h x rfl]
theorem vB [Env] {a b:Act} (o:Op) (h:∀x∈o.operands,a.eval x=b.eval x) (σ:St):(m7 P o).f a σ id=(m7 P o).f b σ id:=by
 cases o with
 | pick c x y=>
  simp only[Op.operands] at h
  have h1:=h c (by simp);have h2:=h x (by simp);have h3:=h y (by simp)
  show eH _ (a.eval c) (n4 a σ x y)=eH _ (b.eval c) (n4 b σ x y)
  rw[h1]
  congr 1
  funext v
  unfold n4
  split
  ·rename_i t;cases t<;>simp [h2,h3]
  ·rfl
 | build t ps=>
  show nj P σ t (a.parts ps.toList)=nj P σ t (b.parts ps.toList)
  rw[xp _ fun q hq=>h q.2 (by simp only[Op.operands,List.mem_toArray,List.mem_map];exact⟨q,hq,rfl⟩)]
 | buildSlice t n ps=>
  show gk P σ id t n (a.parts ps.toList)=gk P σ id t n (b.parts ps.toList)
  rw[xp _ fun q hq=>h q.2 (by simp only[Op.operands,List.mem_toArray,List.mem_map];exact⟨q,hq,rfl⟩)]
 | makeFunc fn f c=>
  show jz σ fn (a.bQ f.toList) (a.bQ c.toList)=jz σ fn (b.bQ f.toList) (b.bQ c.toList)
  rw[lk _ fun q hq=>h q (by simp only[Op.operands];exact Array.mem_append_left _ (by simpa using hq)),lk _ fun q hq=>h q (by simp only[Op.operands];exact Array.mem_append_right _ (by simpa using hq))]
 | makeMap t r=>
  show jm P a σ id t r=jm P b σ id t r
  cases r with
  | none=>rfl
  | some x=>
   unfold jm
   dsimp only
   rw[h x (by simp [Op.operands])]
 | slice t x lo hi mx=>
  show eH _ (a.eval x) (fS P a σ t lo hi mx)=eH _ (b.eval x) (fS P b σ t lo hi mx)
  rw[h x (by simp [Op.operands])]
  congr 1
  funext v
  unfold fS
  rw[tf lo fun q hq=>h q (by simp only[Op.operands];simp_all),tf hi fun q hq=>h q (by simp only[Op.operands];simp_all),tf mx fun q hq=>h q (by simp only[Op.operands];simp_all)]
 | call c=>
  show pn P a σ id c=pn P b σ id c
  unfold pn
  split
  ·rw[lk _ fun q hq=>h q (by simp only[Op.operands,Call.operands];simp_all)]
  ·rfl
 | _=>first
  | rfl
  | (simp only[Op.operands] at h
     simp [m7,h]
     done)
theorem HE {σ:St} {tys:List TypeId} {vs:List V}:gP P σ id .max tys vs=match vs with
  | [.int k x,.int _ y]=>some (.int k (if y>x then y else x),σ)
  | _=>none:=by
 rcases tys with _ | ⟨t,_ | ⟨t',tys⟩⟩<;>rcases vs with _ | ⟨x,_ | ⟨y,_ | ⟨z,l⟩⟩⟩<;>first | rfl | (cases x<;>first | rfl | (cases y<;>rfl))
theorem HF {σ:St} {tys:List TypeId} {vs:List V}:gP P σ id .min tys vs=match vs with
  | [.int k x,.int _ y]=>some (.int k (if y<x then y else x),σ)
  | _=>none:=by
 rcases tys with _ | ⟨t,_ | ⟨t',tys⟩⟩<;>rcases vs with _ | ⟨x,_ | ⟨y,_ | ⟨z,l⟩⟩⟩<;>first | rfl | (cases x<;>first | rfl | (cases y<;>rfl))
theorem vC {t:TypeId} (hp:rH P t=true) (lit:Bool) (x y:V) (σ σ':St):evalEq P σ t lit x y=evalEq P σ' t lit x y:=by
 unfold rH at hp
 unfold evalEq
 split at hp
 ·rename_i k hu;rw[hu];rfl
 ·rename_i hu;rw[hu];rfl
 ·rename_i hu;rw[hu];rfl
 ·cases hp
theorem CP {t:TypeId} (hp:sO P (some t)=true) (x:V) (σ σ':St):eT P σ t x=eT P σ' t x:=by
 unfold sO at hp
 unfold eT
 dsimp only at hp
 split at hp
 ·rename_i hu;rw[hu]
 ·rename_i hu;rw[hu]
 ·rename_i hu;rw[hu]
 ·cases hp
theorem NJ {s d:TypeId} (hp:vb P s d=true) (x:V):bZ id fun σ=>dw P σ id s d x:=by
 intro σ q h
 obtain⟨⟨v,aI⟩,bf,hq⟩:=bw.ar.of h
 unfold vb at hp
 split at hp
 ·rename_i h1 h2
  unfold evalConv at bf
  rw[h1,h2] at bf
  cases x<;>first
   | (cases bf;done)
   | (cases bf;exact⟨_,none,hq,fun σ'=>by unfold dw evalConv;rw[h1,h2];rfl⟩)
 ·rename_i h1 h2
  unfold evalConv at bf
  rw[h1,h2] at bf
  cases x<;>first
   | (cases bf;done)
   | (cases bf;exact⟨_,none,hq,fun σ'=>by unfold dw evalConv;rw[h1,h2];rfl⟩)
 ·rename_i h1 h2
  unfold evalConv at bf
  rw[h1,h2] at bf
  cases x with
  | dO s b=>
   dsimp only at bf
   split at bf
   ·rename_i n hn
    split at bf
    ·rename_i cW
     cases bf
     exact⟨_,none,hq,fun σ'=>by unfold dw evalConv;rw[h1,h2];dsimp only;rw[hn];dsimp only;rw[if_pos cW];rfl⟩
    ·cases bf
   ·cases bf
  | _=>cases bf
 ·rename_i h1 h2
  unfold evalConv at bf
  rw[h1,h2] at bf
  cases x<;>first
   | (cases bf;done)
   | (cases bf;exact⟨_,none,hq,fun σ'=>by unfold dw evalConv;rw[h1,h2];rfl⟩)
 ·cases hp
theorem tg [Env] {a:Act} (o:Op) (h1:bC o=false) (h2:et P o=false) (h3:n5 o=false):bZ id fun σ=>(m7 P o).f a σ id:=by
 cases o with
 | move x=>exact .aQ _ _
 | assign x=>exact .aQ _ _
 | pick c x y=>
  refine bZ.eH (g:=fun v σ=>n4 a σ x y v) fun v=>?_
  unfold n4
  split
  ·exact .aQ _ _
  ·exact .fail _
 | alloc e=>
  show bZ id fun σ=>pk P σ id e
  unfold pk
  split
  ·split
   ·exact .new _ _
   ·exact .fail _
  ·exact .fail _
 | box e x=>
  refine bZ.eH (g:=fun v σ=>yB σ id v) fun v=>?_
  unfold yB
  split
  ·exact .new _ _
  ·exact .fail _
 | build t ps=>
  show bZ id fun σ=>nj P σ t (a.parts ps.toList)
  unfold nj
  split
  ·exact .aQ _ _
  ·exact .fail _
 | buildSlice t n ps=>
  show bZ id fun σ=>gk P σ id t n (a.parts ps.toList)
  unfold gk
  split
  ·split
   ·split
    ·split
     ·unfold oT
      split
      ·exact .fail _
      ·split
       ·split
        ·exact .ok _
        ·exact .fail _
       ·exact .fail _
     ·unfold lE
      split
      ·exact .fail _
      ·split
       ·split
        ·exact .new _ _
        ·exact .fail _
       ·exact .fail _
    ·exact .fail _
   ·exact .fail _
  ·exact .fail _
 | load t x=>cases h3
 | nilCheck x=>
  refine bZ.eH (g:=fun v σ=>oU σ v) fun v=>?_
  unfold oU
  split
  ·exact .ok _
  ·exact .ok _
  ·exact .ok _
  ·exact .fail _
  ·exact .ok _
  ·exact .ok _
  ·exact .fail _
 | binOp op t x y yt=>
  refine bZ.m6 (g:=fun v u σ=>wF P σ op t (isConst x||isConst y) v u) fun v u=>?_
  unfold wF evalBin
  split
  ·exact .aQ _ _
  ·exact .aQ _ _
  ·exact .aQ _ _
  ·split
   ·have hp:rH P t=true:=by simpa [et] using h2
    have e:(fun σ=>aQ σ "binOp" ((evalEq P σ t (isConst x||isConst y) v u).map .bool))=fun σ=>aQ σ "binOp" ((evalEq P ⟨.leaf,0⟩ t (isConst x||isConst y) v u).map .bool):=funext fun σ=>by rw[vC hp _ _ _ σ ⟨.leaf,0⟩]
    rw[e];exact .aQ _ _
   ·have hp:rH P t=true:=by simpa [et] using h2
    have e:(fun σ=>aQ σ "binOp" ((evalEq P σ t (isConst x||isConst y) v u).map fun b=>.bool !b))=fun σ=>aQ σ "binOp" ((evalEq P ⟨.leaf,0⟩ t (isConst x||isConst y) v u).map fun b=>.bool !b):=funext fun σ=>by rw[vC hp _ _ _ σ ⟨.leaf,0⟩]
    rw[e];exact .aQ _ _
   ·exact .aQ _ _
 | unOp op t x=>exact bZ.eH (g:=fun v σ=>Xd σ op v) fun v=>.aQ _ _
 | convert s d x=>exact bZ.eH (g:=fun v σ=>dw P σ id s d v) fun v=>NJ (by simpa [et] using h2) v
 | makeInterface t x=>
  refine bZ.eH (g:=fun v σ=>iu P σ t v) fun v=>?_
  unfold iu
  split
  ·exact .fail _
  ·exact .ok _
  ·exact .fail _
 | makeFunc fn f c=>
  show bZ id fun σ=>jz σ fn (a.bQ f.toList) (a.bQ c.toList)
  unfold jz
  split
  ·split
   ·exact .fail _
   ·exact .ok _
  ·exact .fail _
 | makeMap t r=>
  show bZ id fun σ=>jm P a σ id t r
  unfold jm
  split
  ·exact .new _ _
  ·split
   ·exact .new _ _
   ·exact .fail _
 | makeSlice t l c=>
  refine bZ.m6 (g:=fun v u σ=>gQ P σ id t v u) fun v u=>?_
  unfold gQ
  split
  ·split
   ·split
    ·unfold mu
     split
     ·exact .new _ _
     ·exact .fail _
    ·exact .fail _
   ·exact .fail _
  ·exact .fail _
 | slice t x lo hi mx=>
  refine bZ.eH (g:=fun v σ=>fS P a σ t lo hi mx v) fun v=>?_
  have hn:j6 P t=none:=by
   unfold j6
   simp only[et] at h2
   split at h2
   ·cases h2
   ·rename_i bS;split
    ·rename_i hu;exact absurd hu (bS _ _)
    ·rfl
  unfold fS
  rw[hn]
  split
  ·exact .aQ _ _
  ·exact .fail _
 | fieldAddr s x f=>
  refine bZ.eH (g:=fun v σ=>k8 P σ s f v) fun v=>?_
  unfold k8
  split
  ·split
   ·split
    ·exact .ok _
    ·exact .fail _
   ·exact .fail _
  ·split
   ·split
    ·exact .ok _
    ·exact .fail _
   ·exact .fail _
  ·split
   ·split
    ·exact .ok _
    ·exact .fail _
   ·exact .fail _
  ·exact .fail _
 | field t x f=>
  refine bZ.eH (g:=fun v σ=>rG P σ t f v) fun v=>?_
  unfold rG
  split
  ·split
   ·exact .aQ _ _
   ·exact .fail _
  ·exact .fail _
 | indexAddr t x ix=>
  refine bZ.m6 (g:=fun v u σ=>jU P σ t v u) fun v u=>?_
  unfold jU
  split
  ·unfold j8
   split
   ·split
    ·split
     ·exact .ok _
     ·exact .fail _
    ·exact .fail _
   ·exact .fail _
  ·unfold j7
   split
   ·split
    ·split
     ·exact .ok _
     ·exact .fail _
    ·exact .fail _
   ·exact .fail _
  ·unfold px
   split
   ·split
    ·split
     ·exact .ok _
     ·exact .fail _
    ·exact .fail _
   ·exact .fail _
  ·unfold pz
   split
   ·split
    ·split
     ·split
      ·exact .ok _
      ·exact .fail _
     ·exact .fail _
    ·exact .fail _
   ·exact .fail _
  ·unfold py
   split
   ·split
    ·split
     ·exact .ok _
     ·exact .fail _
    ·exact .fail _
   ·exact .fail _
  ·exact .fail _
 | index t x ix=>
  refine bZ.m6 (g:=fun v u σ=>pj P σ t v u) fun v u=>?_
  unfold pj
  split
  ·unfold mw
   split
   ·split
    ·split
     ·exact .ok _
     ·exact .fail _
    ·exact .fail _
   ·exact .fail _
  ·unfold sN
   split
   ·split
    ·split
     ·exact .aQ _ _
     ·exact .fail _
    ·exact .fail _
   ·exact .fail _
  ·exact .fail _
 | lookup t x k ok=>cases h2
 | typeAssert x xt t ok=>exact bZ.eH (g:=fun v σ=>xR P σ t ok v) fun v=>.aQ _ _
 | extract x i=>
  refine bZ.eH (g:=fun v σ=>qu σ i v) fun v=>?_
  unfold qu
  split
  ·exact .aQ _ _
  ·exact .fail _
 | call c=>
  show bZ id fun σ=>pn P a σ id c
  obtain⟨callee,nU,lO⟩:=c
  cases callee with
  | builtin b=>
   simp only[pn]
   cases hv:a.bQ nU.toList with
   | none=>exact .fail _
   | some vs=>
    unfold iw
    intro σ q h
    obtain⟨⟨v,σ'⟩,bf,hq⟩:=bw.ar.of h
    cases b<;>first
     | (simp [bC] at h1;done)
     | skip
    ·have hp:sO P lO[0]? =true:=by simpa [et] using h2
     rcases vD:lO.toList with _ | ⟨t,l⟩
     ·rw[vD] at bf;rcases vs with _ | ⟨x,_ | ⟨y,_⟩⟩<;>cases bf
     ·have h0:lO[0]? =some t:=by rw[←Array.getElem?_toList,vD];rfl
      rw[h0] at hp
      rw[vD] at bf
      rcases vs with _ | ⟨x,_ | ⟨y,r⟩⟩
      ·cases bf
      ·have vE:(eT P σ t x).map (·,σ)=some (v,σ'):=bf
       rw[Option.map_eq_some_iff] at vE
       obtain⟨u,hu,he⟩:=vE
       cases he
       exact⟨_,none,hq,fun σ'=>by
        show bw.of "builtin" ((eT P σ' t x).map (·,σ'))=_
        rw[CP hp x σ' σ,hu];rfl⟩
      ·cases bf
    ·rw[HE] at bf
     split at bf
     ·cases bf
      exact⟨_,none,hq,fun σ'=>by show bw.of "builtin" (gP P σ' id .max lO.toList _)=_;rw[HE];rfl⟩
     ·cases bf
    ·rw[HF] at bf
     split at bf
     ·cases bf
      exact⟨_,none,hq,fun σ'=>by show bw.of "builtin" (gP P σ' id .min lO.toList _)=_;rw[HF];rfl⟩
     ·cases bf
  | value f=>simp [bC] at h1
  | invoke x name=>simp [bC] at h1
 | store t x y=>cases h1
 | insert t m k v=>cases h1
 | mapUpdate t m k v=>cases h1
 | range t x=>cases h1
 | next it s=>cases h1
 | entry it=>cases h1
 | defer c=>cases h1
 | _=>exact .fail _
def cP (ρ:aA) (b:Nat):Prop:=ρ b≠none
theorem dN.get {D:Nat→Prop} {σ σ':St} (h:dN D σ σ') {b:Nat} {k:bU} (hb:σ.heap.get b=some k) (hd:D b):σ'.heap.get b=some k:=h b k hb hd
theorem dN.cell [Env] {D:Nat→Prop} {σ σ':St} (h:dN D σ σ') {b off:Nat} (hd:D b) {v:V} (hv:σ.cell b off=some v):σ'.cell b off=some v:=by
 unfold St.cell at hv⊢
 split at hv
 ·rename_i n z t p ro hb;rw[h.get hb hd];exact hv
 ·cases hv
theorem dN.cells [Env] {D:Nat→Prop} {σ σ':St} (h:dN D σ σ') {b off n:Nat} (hd:D b) {v:List V} (hv:σ.cells b off n=some v):σ'.cells b off n=some v:=by
 unfold St.cells at hv⊢
 split at hv
 ·rename_i m z t p ro hb;rw[h.get hb hd];exact hv
 ·cases hv
theorem dN.eC [Env] {σ σ':St} (h:dN (cP ρ) σ σ') {t:TypeId} {x v:V} {x':Value} (hx:au ρ x x') (hv:eC P σ t x=some v):eC P σ' t x=some v:=by
 unfold Go.Ev.eC at hv⊢
 cases x with
 | aU cs off=>
  revert hv
  cases sH P t with
  | none=>exact fun h=>h
  | some g=>cases bV P t<;>cases g<;>exact fun h=>h
 | fH b i esz off=>
  cases hx with
  | fH hl=>
   have hd:cP ρ b:=by unfold cP;rw[hl];simp
   have key:∀cs,σ.jy b i esz=some cs→σ'.jy b i esz=some cs:=by
    intro cs hc
    unfold St.jy at hc⊢
    split at hc
    ·rename_i n f z p hb;rw[h.get hb hd];exact hc
    ·cases hc
   cases ha:sH P t with
   | none=>rw[ha] at hv;simp at hv
   | some g=>
    rw[ha] at hv
    cases hs:bV P t with
    | none=>
     rw[hs] at hv
     cases g with
     | true=>simp at hv
     | false=>
      dsimp only at hv⊢
      rw[Option.bind_eq_some_iff] at hv⊢
      obtain⟨cs,hc,hv⟩:=hv
      exact⟨cs,key cs hc,hv⟩
    | some n=>
     rw[hs] at hv
     cases g with
     | true=>
      dsimp only at hv⊢
      rw[Option.bind_eq_some_iff] at hv⊢
      obtain⟨cs,hc,hv⟩:=hv
      exact⟨cs,key cs hc,hv⟩
     | false=>
      dsimp only at hv⊢
      rw[Option.bind_eq_some_iff] at hv⊢
      obtain⟨cs,hc,hv⟩:=hv
      exact⟨cs,key cs hc,hv⟩
 | ptr b off=>
  cases hx with
  | ptr hl=>
   have hd:cP ρ b:=by unfold cP;rw[hl];simp
   cases ha:sH P t with
   | none=>rw[ha] at hv;simp at hv
   | some g=>cases hs:bV P t with
    | none=>
     rw[ha,hs] at hv
     cases g with
     | true=>simp at hv
     | false=>exact h.cell hd hv
    | some n=>
     rw[ha,hs] at hv
     cases g with
     | true=>
      rw[Option.map_eq_some_iff] at hv⊢
      obtain⟨l,cm,rfl⟩:=hv
      exact⟨l,h.cells hd cm,rfl⟩
     | false=>exact h.cell hd hv
 | _=>simp at hv
theorem dN.entries [Env] {σ σ':St} (h:dN (cP ρ) σ σ') {x:V} {x':Value} (hx:au ρ x x') {es:Entries} (he:entriesOf σ x=some es):entriesOf σ' x=some es:=by
 unfold entriesOf at he⊢
 cases x with
 | dc=>exact he
 | map r=>
  cases hx with
  | map hl=>
   dsimp only at he⊢
   split at he
   ·rename_i es' clock hb
    rw[h.get hb (by unfold cP;rw[hl];simp)]
    exact he
   ·cases he
 | _=>cases he
theorem dN.ptrEq [Env] {σ σ':St} (h:dN (cP ρ) σ σ') {e b o b' o':Nat} {r:Bool} (hb:cP ρ b) (bA:cP ρ b') (he:ptrEq P σ e b o b' o'=some r):ptrEq P σ' e b o b' o'=some r:=by
 unfold Go.Ev.ptrEq at he⊢
 split at he
 ·rename_i m hm
  split at he
  ·split at he
   ·rename_i hk;rw[h.get hk hb];exact he
   ·cases he
  ·split at he
   ·rename_i hk eV;rw[h.get hk hb,h.get eV bA];exact he
   ·cases he
 ·cases he
theorem dN.evalEq [Env] {σ σ':St} (h:dN (cP ρ) σ σ') {t:TypeId} {lit:Bool} {x y:V} {x' y':Value} (hx:au ρ x x') (hy:au ρ y y') {r:Bool} (he:evalEq P σ t lit x y=some r):evalEq P σ' t lit x y=some r:=by
 unfold Go.Ev.evalEq at he⊢
 cases hu:P.underlying t with
 | none=>rw[hu] at he;exact he
 | some d=>
  rw[hu] at he
  cases d with
  | pointer e=>
   cases x with
   | ptr b o=>
    cases y with
    | ptr b' o'=>
     cases hx with
     | ptr hl=>cases hy with
      | ptr cm=>
       have kh:Go.Ev.ptrEq P σ e b o b' o'=some r:=he
       exact h.ptrEq (by unfold cP;rw[hl];simp) (by unfold cP;rw[cm];simp) kh
    | _=>exact he
   | _=>exact he
  | _=>exact he
theorem dN.evalBin [Env] {σ σ':St} (h:dN (cP ρ) σ σ') {op:BinOp} {t:TypeId} {lit:Bool} {x y:V} {x' y':Value} (hx:au ρ x x') (hy:au ρ y y') {v:V} (he:evalBin P σ op t lit x y=some v):evalBin P σ' op t lit x y=some v:=by
 unfold Go.Ev.evalBin at he⊢
 split at he
 ·exact he
 ·exact he
 ·exact he
 ·split at he
  ·rw[Option.map_eq_some_iff] at he⊢
   obtain⟨b,hb,rfl⟩:=he
   exact⟨b,h.evalEq hx hy hb,rfl⟩
  ·rw[Option.map_eq_some_iff] at he⊢
   obtain⟨b,hb,rfl⟩:=he
   exact⟨b,h.evalEq hx hy hb,rfl⟩
  ·cases he
theorem dN.eT [Env] {σ σ':St} (h:dN (cP ρ) σ σ') {t:TypeId} {x:V} {x':Value} (hx:au ρ x x') {v:V} (he:eT P σ t x=some v):eT P σ' t x=some v:=by
 unfold Go.Ev.eT at he⊢
 cases hu:P.underlying t with
 | none=>rw[hu] at he;exact he
 | some d=>
  rw[hu] at he
  cases d with
  | map k e=>
   have kh:u9 σ x=some v:=he
   show u9 σ' x=some v
   unfold u9 at kh⊢
   cases x with
   | dc=>exact kh
   | map r=>
    cases hx with
    | map hl=>
     dsimp only at kh⊢
     split at kh
     ·rename_i hb;rw[h.get hb (by unfold cP;rw[hl];simp)];exact kh
     ·cases kh
   | _=>cases kh
  | _=>exact he
theorem dN.XI [Env] {σ σ':St} (h:dN (cP ρ) σ σ') {n:Nat} {e:TypeId} {lo hi mx:Option V} {x:V} {x':Value} (hx:au ρ x x') {v:V} (he:kI P σ n e lo hi mx x=some v):kI P σ' n e lo hi mx x=some v:=by
 unfold kI at he⊢
 split at he
 ·cases hx with
  | ptr hl=>
   split at he
   ·rename_i h1 h2 hb
    rw[h.get hb (by unfold cP;rw[hl];simp)]
    simp only[h1,h2]
    exact he
   ·cases he
 ·cases he
theorem NL [Env] {src dst:TypeId} {x:V} {x':Value} (hx:au ρ x x'):iT id (cP ρ) fun σ=>dw P σ id src dst x:=by
 intro σ q h
 obtain⟨⟨v,aI⟩,bf,hq⟩:=bw.ar.of h
 have fin:∀κ,aI=σ.ext id κ→(∀σ',dN (cP ρ) σ σ'→evalConv P σ' id src dst x=some (v,σ'.ext id κ))→
   ∃v κ,q (v,σ.ext id κ)∧dw P σ id src dst x=.ok (v,σ.ext id κ)∧∀σ',dN (cP ρ) σ σ'→dw P σ' id src dst x=.ok (v,σ'.ext id κ):=by
  intro κ vF cH
  subst vF
  exact⟨v,κ,hq,by unfold dw;rw[bf];rfl,fun σ' hs=>by unfold dw;rw[cH σ' hs];rfl⟩
 unfold evalConv at bf
 split at bf
 ·rename_i h1 h2
  cases bf
  exact fin none rfl fun σ' _=>by unfold evalConv;rw[h1,h2];rfl
 ·rename_i h1 h2
  cases bf
  exact fin none rfl fun σ' _=>by unfold evalConv;rw[h1,h2];rfl
 ·rename_i h1 h2
  split at bf
  ·rename_i h3
   split at bf
   ·rename_i h4
    cases bf
    exact fin none rfl fun σ' _=>by unfold evalConv;rw[h1,h2];dsimp only;rw[h3];dsimp only;rw[if_pos h4];rfl
   ·cases bf
  ·cases bf
 ·rename_i h1 h2
  cases bf
  exact fin none rfl fun σ' _=>by unfold evalConv;rw[h1,h2];rfl
 ·rename_i h1 h2
  split at bf
  ·rename_i h3
   split at bf
   ·rename_i h4
    cases bf
    exact fin (some _) rfl fun σ' _=>by unfold evalConv;rw[h1,h2];dsimp only;rw[h3];dsimp only;rw[if_pos h4];rfl
   ·cases bf
  ·cases bf
 ·rename_i h1 h2
  split at bf
  ·rename_i h3
   cases bf
   exact fin none rfl fun σ' _=>by unfold evalConv;rw[h1,h2];dsimp only;rw[h3];rfl
  ·cases bf
 ·rename_i e b off n cap ex esz h1 h2
  split at bf
  ·rename_i h3
   split at bf
   ·rename_i l hl
    rw[Option.map_eq_some_iff] at bf
    obtain⟨s,hs,he⟩:=bf
    cases he
    cases hx with
    | slice XJ _ _ _ _=>
     exact fin none rfl fun σ' PI=>by
      unfold evalConv;rw[h1,h2];dsimp only;rw[h3];dsimp only
      rw[PI.cells (by unfold cP;rw[XJ];simp) hl]
      dsimp only
      rw[hs];rfl
   ·cases bf
  ·cases bf
 ·rename_i e es esz ex h1 h2
  split at bf
  ·rename_i h3
   split at bf
   ·rename_i h4
    rw[Option.map_eq_some_iff] at bf
    obtain⟨s,hs,he⟩:=bf
    cases he
    exact fin none rfl fun σ' _=>by unfold evalConv;rw[h1,h2];dsimp only;rw[h3];dsimp only;rw[h4];dsimp only;rw[hs];rfl
   ·cases bf
  ·cases bf
 ·rename_i e b n esz h1 h2
  split at bf
  ·rename_i h3
   split at bf
   ·rename_i n' f z p hb
    split at bf
    ·rename_i hc
     rw[Option.map_eq_some_iff] at bf
     obtain⟨s,hs,he⟩:=bf
     cases he
     cases hx with
     | own XJ _ _=>
      exact fin none rfl fun σ' PI=>by
       unfold evalConv;rw[h1,h2];dsimp only;rw[h3];dsimp only
       rw[PI.get hb (by unfold cP;rw[XJ];simp)]
       dsimp only
       rw[if_pos hc,hs];rfl
    ·cases bf
   ·cases bf
  ·cases bf
 ·cases bf
theorem KY [Env] {a:Act} (o:Op) (h1:bC o=false) (hD:∀x∈o.operands,∀v,a.eval x=some v→∃x',au ρ v x'):iT id (cP ρ) fun σ=>(m7 P o).f a σ id:=by
 by_cases hr:n5 o=true
 ·cases o<;>try (cases hr;done)
  rename_i t x
  show iT id (cP ρ) fun σ=>eH "load operand" (a.eval x) (pA P σ t)
  cases hx:a.eval x with
  | none=>exact(bZ.fail _).look _
  | some v=>
   obtain⟨x',aO⟩:=hD x (by simp [Op.operands]) v hx
   exact iT.aQ _ fun σ σ' u hs hu=>hs.eC aO hu
 ·by_cases hl:et P o=true
  ·cases o<;>try (cases hl;done)
   case binOp op t x y yt=>
    show iT id (cP ρ) fun σ=>m6 "binOp operand" (a.eval x) (a.eval y) (wF P σ op t (isConst x||isConst y))
    cases hx:a.eval x with
    | none=>exact(bZ.fail _).look _
    | some v=>cases hy:a.eval y with
     | none=>exact(bZ.fail _).look _
     | some u=>
      obtain⟨x',aO⟩:=hD x (by simp [Op.operands]) v hx
      obtain⟨y',aca⟩:=hD y (by simp [Op.operands]) u hy
      exact iT.aQ _ fun σ σ' u hs hu=>hs.evalBin aO aca hu
   case convert s d x=>
    show iT id (cP ρ) fun σ=>eH "convert operand" (a.eval x) (dw P σ id s d)
    cases hx:a.eval x with
    | none=>exact(bZ.fail _).look _
    | some v=>
     obtain⟨x',aO⟩:=hD x (by simp [Op.operands]) v hx
     exact NL aO
   case slice t x lo hi mx=>
    show iT id (cP ρ) fun σ=>eH "slice operand" (a.eval x) (fS P a σ t lo hi mx)
    cases hx:a.eval x with
    | none=>exact(bZ.fail _).look _
    | some v=>
     obtain⟨x',aO⟩:=hD x (by simp [Op.operands]) v hx
     show iT id (cP ρ) fun σ=>fS P a σ t lo hi mx v
     unfold fS
     split
     ·split
      ·exact iT.aQ _ fun σ σ' u hs hu=>hs.XI aO hu
      ·exact(bZ.aQ _ _).look _
     ·exact(bZ.fail _).look _
   case lookup t x k ok=>
    show iT id (cP ρ) fun σ=>m6 "lookup operand" (a.eval x) (a.eval k) (gv P σ t ok)
    cases hx:a.eval x with
    | none=>exact(bZ.fail _).look _
    | some m=>cases hk:a.eval k with
     | none=>exact(bZ.fail _).look _
     | some kv=>
      obtain⟨x',aO⟩:=hD x (by simp [Op.operands]) m hx
      intro σ q h
      have h':(gv P σ t ok m kv).ar q:=h
      have key:∀σ',dN (cP ρ) σ σ'→∀v,gv P σ t ok m kv=.ok (v,σ)→gv P σ' t ok m kv=.ok (v,σ'):=by
       intro σ' hs v hv
       unfold gv at hv⊢
       cases yR:u5 P t with
       | none=>rw[yR] at hv;cases hv
       | some q=>cases XK:entriesOf σ m with
        | none=>rw[yR,XK] at hv;cases hv
        | some es=>
         rw[yR,XK] at hv
         rw[hs.entries aO XK]
         dsimp only at hv⊢
         split at hv
         ·split at hv
          ·cases hv;rfl
          ·split at hv
           ·cases hv;rfl
           ·cases hv
          ·cases hv
         ·cases hv
      have shape:∃v,gv P σ t ok m kv=.ok (v,σ)∧q (v,σ):=by
       unfold gv at h'⊢
       split at h'
       ·split at h'
        ·split at h'
         ·exact⟨_,rfl,h'⟩
         ·split at h'
          ·exact⟨_,rfl,h'⟩
          ·exact h'.elim
         ·exact h'.elim
        ·exact h'.elim
       ·exact h'.elim
      obtain⟨v,hv,hq⟩:=shape
      exact⟨v,none,hq,hv,fun σ' hs=>key σ' hs v hv⟩
   case call c=>
    obtain⟨callee,nU,lO⟩:=c
    cases callee with
    | builtin b=>
     cases b<;>try (simp [et] at hl;done)
     show iT id (cP ρ) fun σ=>iw P σ id .len lO.toList (a.bQ nU.toList)
     cases hv:a.bQ nU.toList with
     | none=>exact(bZ.fail _).look _
     | some vs=>
      have acb:∀(l:List Operand) (vs:List V),(∀x∈l,x∈nU.toList)→a.bQ l=some vs→∀v∈vs,∃x',au ρ v x':=by
       intro l
       induction l with
       | nil=>intro vs _ h;cases h;intro v hv;cases hv
       | cons x l ih=>
        intro vs hl h
        obtain⟨u,r,h1,h2,rfl⟩:=oY (x:=a.eval x) (l:=a.bQ l) h
        intro v hv
        rcases List.mem_cons.1 hv with rfl | hv
        ·exact hD x (by simp only[Op.operands,Call.operands];have:=hl x List.mem_cons_self;simp_all) v h1
        ·exact ih r (fun y hy=>hl y (List.mem_cons_of_mem _ hy)) h2 v hv
      intro σ q h
      obtain⟨⟨v,aI⟩,bf,hq⟩:=bw.ar.of h
      have wL:∃t l x u,lO.toList=t::l∧vs=[x]∧eT P σ t x=some u∧v=u∧aI=σ:=by
       rcases vD:lO.toList with _ | ⟨t,l⟩
       ·rw[vD] at bf;rcases vs with _ | ⟨x,_ | ⟨y,_⟩⟩<;>cases bf
       ·rw[vD] at bf
        rcases vs with _ | ⟨x,_ | ⟨y,r⟩⟩
        ·cases bf
        ·have vE:(eT P σ t x).map (·,σ)=some (v,aI):=bf
         rw[Option.map_eq_some_iff] at vE
         obtain⟨u,hu,he⟩:=vE
         cases he
         exact⟨t,l,x,_,rfl,rfl,hu,rfl,rfl⟩
        ·cases bf
      obtain⟨t,l,x,u,vD,rfl,hu,rfl,rfl⟩:=wL
      obtain⟨x',aO⟩:=acb nU.toList [x] (fun _ h=>h) hv x (by simp)
      have mk:∀σ',eT P σ' t x=some v→iw P σ' id .len lO.toList (some [x])=.ok (v,σ'):=by
       intro σ' hl
       show bw.of "builtin" (gP P σ' id .len lO.toList [x])=_
       rw[vD]
       show bw.of "builtin" ((eT P σ' t x).map (·,σ'))=_
       rw[hl];rfl
      exact⟨v,none,hq,mk aI hu,fun σ' hs=>mk σ' (hs.eT aO hu)⟩
    | value f=>simp [et] at hl
    | invoke x name=>simp [et] at hl
  ·exact(tg o h1 (by simpa using hl) (by simpa using hr)).look _
end
end Go.Ev
end
