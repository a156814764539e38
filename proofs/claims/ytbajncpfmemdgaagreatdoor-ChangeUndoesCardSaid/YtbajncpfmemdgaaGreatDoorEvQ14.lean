/- Proved: parts of the way: BEq3, BP0, BP1, BP2, BP3, BP4, BP5, BP6, Frame, Byt, BP7. -/
import Derived.Test.YtbajncpfmemdgaaGreatDoorEvQ13
import Derived.IntWalk
set_option linter.unusedVariables false
set_option linter.unusedSimpArgs false
section
namespace Go.Proofs.YtbajncpfmemdgaaGreatDoor
open Go Go.Ev
def yW:Nat→List Nat:=(fun i=>match i with | 0=>[3,9,10,11] | _=>[])
theorem Zb [Env] (A:Nat→List SV→Prop) (Q:V→St→Prop) (n:Nat) (g:Nat→aj):WE Tryz.prog 179 Tryz.f179 B8 0 yW A Q [V.arr n (fun i=>aj.enc (g i)) 7 false false] Go.Ev.start=
  (((0≤(((n:Nat):Int))∧(((n:Nat):Int))≤(((n:Nat):Int))∧(((n:Nat):Int)).toNat*16≤1099511627776∧(((n:Nat):Int))≤1099511627776)∧(((((n:Nat):Int)).toNat≤(((n:Nat):Int)).toNat∧(((n:Nat):Int)).toNat*1=(((n:Nat):Int)).toNat*1)∧A 0 [.row ((((n:Nat):Int)).toNat) (fun _=>.agg [.str ([])]) 1,.val (V.arr n (fun i=>aj.enc (g i)) 7 false false),.val (.int .i64 (((n:Nat):Int))),.val (.int .i64 (0:Int))]))):=by kernel_rfl
theorem Zc [Env] (A:Nat→List SV→Prop) (Q:V→St→Prop) (n:Nat) (g:Nat→aj) (f:Nat→V) (m i:Int):WL Tryz.prog 179 Tryz.f179 B8 0 yW A Q 0 [.row n f 1,.val (V.arr n (fun i=>aj.enc (g i)) 7 false false),.val (.int .i64 m),.val (.int .i64 i)]=
  (((.i64:IntKind)=.i64∧ae (decide (i<m)) (((0≤i∧i<((n:Nat):Int))∧((0≤i∧i<((n:Nat):Int))∧(i.toNat<n∧((n=n∧1=1)∧A 0 [.row n (fe f i.toNat (.str ((g i.toNat).f0))) 1,.val (V.arr n (fun i=>aj.enc (g i)) 7 false false),.val (.int .i64 m),.val (.int .i64 (IntKind.i64.wrap (i+(1:Int))))]))))) (Q (.own 0 n 1) ⟨(St.new Go.Ev.start 0 (.row n f 1 false)).heap,1⟩))):=by kernel_rfl
def LG [Env] (vs:List V) (σ:St) (k:ah):Prop:=
 match vs with
 | [.arr n f 7 false false]=>∃q:Nat→aj,f=(fun i=>aj.enc (q i))∧n≤1000∧k (.arr n (fun i=>V.str (q i).f0) 1 false false) σ
 | _=>False
def Hm [Env]:=kS 179 LG B8
def Ej:Nat→List Nat:=(fun _=>[])
theorem Zd [Env] (A:Nat→List SV→Prop) (Q:V→Prop) (e:aj):WE Tryz.prog 181 Tryz.f181 Hm 0 Ej A (fun v _=>Q v) [aj.enc e] Go.Ev.start=
  (Q (.bool e.f2)):=by kernel_rfl
def LH [Env] (vs:List V) (σ:St) (k:ah):Prop:=
 (∃e:aj,vs=[aj.enc e])∧match vs with
 | [.agg [_,_,.bool b,_,_,_,_]]=>k (.bool b) σ
 | _=>False
def B9 [Env]:=kS 181 LH Hm
def yX:Nat→List Nat:=(fun i=>match i with | 0=>[0,1,7,8] | _=>[])
theorem Ze [Env] (A:Nat→List SV→Prop) (Q:V→Prop) (n:Nat) (g:Nat→aj):WE Tryz.prog 223 Tryz.f223 B9 0 yX A (fun v _=>Q v) [V.arr n (fun i=>aj.enc (g i)) 7 false false,.func (.func 181) [] []] Go.Ev.start=
  (A 0 [.val (V.arr n (fun i=>aj.enc (g i)) 7 false false),.val (.func (.func 181) [] []),.val (.int .i64 (((n:Nat):Int))),.val (.int .i64 (0:Int))]):=by kernel_rfl
theorem Zf [Env] (A:Nat→List SV→Prop) (Q:V→Prop) (n:Nat) (g:Nat→aj) (m i:Int):WL Tryz.prog 223 Tryz.f223 B9 0 yX A (fun v _=>Q v) 0 [.val (V.arr n (fun i=>aj.enc (g i)) 7 false false),.val (.func (.func 181) [] []),.val (.int .i64 m),.val (.int .i64 i)]=
  (((.i64:IntKind)=.i64∧ae (decide (i<m)) (((0≤i∧i<((n:Nat):Int))∧((∃q:aj,[aj.enc (g i.toNat)]=[aj.enc q])∧ae ((g i.toNat).f2) (Q (.int .i64 i)) (A 0 [.val (V.arr n (fun i=>aj.enc (g i)) 7 false false),.val (.func (.func 181) [] []),.val (.int .i64 m),.val (.int .i64 (IntKind.i64.wrap (i+(1:Int))))])))) (Q (.int .i64 (-1:Int))))):=by kernel_rfl
def LI [Env] (vs:List V) (σ:St) (k:ah):Prop:=
 match vs with
 | [.arr n f 7 false false,.func (.func 181) [] []]=>∃q:Nat→aj,f=(fun i=>aj.enc (q i))∧n≤1000∧∀c:Int,(0≤c↔eO q n=true)→k (.int .i64 c) σ
 | _=>False
def Hn [Env]:=kS 223 LI B9
def Ek:Nat→List Nat:=(fun _=>[])
theorem Zg [Env] (A:Nat→List SV→Prop) (Q:V→Prop) (n:Nat) (g:Nat→aj):WE Tryz.prog 180 Tryz.f180 Hn 0 Ek A (fun v _=>Q v) [V.arr n (fun i=>aj.enc (g i)) 7 false false,.func (.func 181) [] []] Go.Ev.start=
  ((∃q:Nat→aj,(fun i=>aj.enc (g i))=(fun i=>aj.enc (q i))∧n≤1000∧∀c:Int,(0≤c↔eO q n=true)→((.i64:IntKind)=.i64∧ae (decide (c≥(0:Int))) (Q (.bool true)) (Q (.bool false))))):=by kernel_rfl
def LJ [Env] (vs:List V) (σ:St) (k:ah):Prop:=
 match vs with
 | [.arr n f 7 false false,.func (.func 181) [] []]=>∃q:Nat→aj,f=(fun i=>aj.enc (q i))∧n≤1000∧k (.bool (eO q n)) σ
 | _=>False
def Ho [Env]:=kS 180 LJ Hn
def El:Nat→List Nat:=(fun _=>[])
theorem Zh [Env] (A:Nat→List SV→Prop) (Q:V→Prop) (e:aj):WE Tryz.prog 177 Tryz.f177 Ho 0 El A (fun v _=>Q v) [aj.enc e] Go.Ev.start=
  (((.i64:IntKind)=.i64∧ae (decide ((aP e.f0)≠(0:Int))) (Q (.iface 216 (.agg [.int .i64 (aP e.f0)]))) (((.i64:IntKind)=.i64∧ae (decide (e.f1<(1:Int))) (Q (.iface 216 (.agg [.int .i64 (5:Int)]))) (((.i64:IntKind)=.i64∧ae (decide (e.f1>(5:Int))) (Q (.iface 216 (.agg [.int .i64 (5:Int)]))) (((0≤e.f3.f2∧e.f3.f2<18446744073709551616)∧((.i64:IntKind)=.i64∧ae (decide ((cq ⟨e.f3.f0,e.f3.f1,e.f3.f2,e.f3.f3⟩)≠(0:Int))) (Q (.iface 216 (.agg [.int .i64 (cq ⟨e.f3.f0,e.f3.f1,e.f3.f2,e.f3.f3⟩)]))) (((.i64:IntKind)=.i64∧ae (decide (e.f3.f0≠(0:Int))) (((.i64:IntKind)=.i64∧ae (decide (e.f3.f0≠e.f1)) (Q (.iface 216 (.agg [.int .i64 (11:Int)]))) (Q (.aW)))) (Q (.aW))))))))))))):=by kernel_rfl
def LK [Env] (vs:List V) (σ:St) (k:ah):Prop:=
 ∃e:aj,vs=[aj.enc e]∧tY e∧(bV e=0→k .aW σ)∧(bV e≠0→k (.iface 216 (.agg [.int .i64 (bV e)])) σ)
def Ca [Env]:=kS 177 LK Ho
def yY:Nat→List Nat:=(fun i=>match i with | 0=>[1,42,43,44] | _=>[])
theorem Zi [Env] (A:Nat→List SV→Prop) (Q:V→Prop) (e:aa):WE Tryz.prog 134 Tryz.f134 Ca 0 yY A (fun v _=>Q v) [aa.enc e] Go.Ev.start=
  (((.i64:IntKind)=.i64∧ae (decide ((aP e.f0)≠(0:Int))) (Q (.iface 216 (.agg [.int .i64 (aP e.f0)]))) (((.i64:IntKind)=.i64∧ae (decide ((((e.f2.length:Nat):Int))<(1:Int))) (Q (.iface 216 (.agg [.int .i64 (2:Int)]))) (((.i64:IntKind)=.i64∧ae (decide ((((e.f2.length:Nat):Int))>(8:Int))) (Q (.iface 216 (.agg [.int .i64 (2:Int)]))) (((.i64:IntKind)=.i64∧ae (decide (e.f1<(1:Int))) (Q (.iface 216 (.agg [.int .i64 (1:Int)]))) (((.i64:IntKind)=.i64∧ae (decide (e.f1>((if (((e.f2.length:Nat):Int))<(3:Int) then(((e.f2.length:Nat):Int)) else(3:Int))))) (Q (.iface 216 (.agg [.int .i64 (1:Int)]))) (A 0 [.box [.str e.f0,.int .i64 e.f1,af aj.enc 7 e.f2],.val (af aj.enc 7 e.f2),.val (.int .i64 (((e.f2.length:Nat):Int))),.val (.int .i64 (0:Int))]))))))))))):=by kernel_rfl
theorem Zj [Env] (A:Nat→List SV→Prop) (Q:V→Prop) (e:aa) (m i:Int):WL Tryz.prog 134 Tryz.f134 Ca 0 yY A (fun v _=>Q v) 0 [.box [.str e.f0,.int .i64 e.f1,af aj.enc 7 e.f2],.val (af aj.enc 7 e.f2),.val (.int .i64 m),.val (.int .i64 i)]=
  (((.i64:IntKind)=.i64∧ae (decide (i<m)) (((0≤i∧i<((e.f2.length:Nat):Int))∧(∃q5:aj,[.agg [.str ((e.f2.getD i.toNat default).f0),.int .i64 ((e.f2.getD i.toNat default).f1),.bool (e.f2.getD i.toNat default).f2,.int .i64 ((e.f2.getD i.toNat default).f3.f0),.int .i64 ((e.f2.getD i.toNat default).f3.f1),.int .u64 ((e.f2.getD i.toNat default).f3.f2),.str ((e.f2.getD i.toNat default).f3.f3)]]=[aj.enc q5]∧tY q5∧(bV q5=0→A 0 [.box [.str e.f0,.int .i64 e.f1,af aj.enc 7 e.f2],.val (af aj.enc 7 e.f2),.val (.int .i64 m),.val (.int .i64 (IntKind.i64.wrap (i+(1:Int))))])∧(bV q5≠0→Q (.iface 216 (.agg [.int .i64 (bV q5)])))))) ((∃q6:Nat→aj,(fun i=>aj.enc (e.f2.getD i default))=(fun i=>aj.enc (q6 i))∧e.f2.length≤1000∧(∃q7:Nat→List UInt8,(fun i=>V.str ((fun i=>(q6 i).f0) i))=(fun i=>V.str (q7 i))∧e.f2.length≤1000000∧ae ((!(gS q7 e.f2.length))) (Q (.iface 216 (.agg [.int .i64 (12:Int)]))) (((0≤(0:Int)∧(0:Int)≤e.f1∧e.f1≤((e.f2.length:Nat):Int)∧((e.f2.length:Nat):Int)≤((e.f2.length:Nat):Int))∧(∃q:Nat→aj,(fun i=>aj.enc ((fun i=>e.f2.getD (Nat.add (0:Int).toNat i) default) i))=(fun i=>aj.enc (q i))∧e.f1.toNat-(0:Int).toNat≤1000∧ae ((eO q (e.f1.toNat-(0:Int).toNat))) (Q (.iface 216 (.agg [.int .i64 (11:Int)]))) (Q (.aW)))))))))):=by kernel_rfl
def LL [Env] (vs:List V) (σ:St) (k:ah):Prop:=
 ∃e:aa,vs=[aa.enc e]∧ie e∧(bB e=0→k .aW σ)∧(bB e≠0→k (.iface 216 (.agg [.int .i64 (bB e)])) σ)
def RW [Env]:=kS 134 LL Ca
def LM [Env] (vs:List V) (σ:St) (k:ah):Prop:=
 match vs with
 | [.aW]=>k (.int .i64 0) σ
 | [.iface 216 (.agg [.int .i64 n])]=>k (.int .i64 n) σ
 | _=>False
def Hp [Env]:=kS 133 LM RW
def JP:Nat→List Nat:=(fun _=>[])
theorem e81 [Env] (A:Nat→List SV→Prop) (Q:V→Prop) (e:aa):WE Tryz.prog 81 Tryz.f81 Hp 0 JP A (fun v _=>Q v) [aa.enc e] Go.Ev.start=
  ((∃q8:aa,[.agg [.str e.f0,.int .i64 e.f1,af aj.enc 7 e.f2]]=[aa.enc q8]∧ie q8∧(bB q8=0→Q (.int .i64 (0:Int)))∧(bB q8≠0→Q (.int .i64 (bB q8))))):=by kernel_rfl
def RX [Env] (vs:List V) (σ:St) (k:ah):Prop:=
 ∃e:aa,vs=[aa.enc e]∧ie e∧k (.int .i64 (bB e)) σ
def Hq [Env]:=kS 81 RX Hp
end Go.Proofs.YtbajncpfmemdgaaGreatDoor
end
section
namespace Go.Proofs.YtbajncpfmemdgaaGreatDoor
open Go Go.Ev Go.IntWalk
instance acO:Go.Ev.eF Tryz.prog:=⟨by kernel_rfl⟩
section
variable [Env]
def dE (v:V):Prop:=∀(ρ ρ':Ren) (x:Value),aq ρ v x→aq ρ' v x
theorem dE.int (k:IntKind) (n:Int):dE (.int k n):=fun _ _ _ h=>by cases h;exact .int _ _
theorem dE.bool (b:Bool):dE (.bool b):=fun _ _ _ h=>by cases h;exact .bool _
theorem dE.str (s:List UInt8):dE (.str s):=fun _ _ _ h=>by cases h;exact .str _
theorem dE.aW:dE .aW:=fun _ _ _ h=>by cases h;exact .aW
theorem Om {l:List V} (h:∀v∈l,dE v) {ρ ρ':Ren} {xs:List Value} (hx:au ρ l xs):au ρ' l xs:=by
 induction l generalizing xs with
 | nil=>cases hx;exact .nil
 | cons v l ih=>
  cases hx with
  | cons h1 h2=>exact .cons (h v List.mem_cons_self _ _ _ h1) (ih (fun u hu=>h u (List.mem_cons_of_mem _ hu)) h2)
theorem dE.tuple {l:List V} (h:∀v∈l,dE v):dE (.tuple l):=fun _ _ _ hx=>by cases hx with | tuple hx=>exact .tuple (Om h hx)
theorem dE.agg {l:List V} (h:∀v∈l,dE v):dE (.agg l):=fun _ _ _ hx=>by cases hx with | agg hx=>exact .agg (Om h hx)
theorem dE.iface {t:TypeId} {v:V} (h:dE v):dE (.iface t v):=fun _ _ _ hx=>by cases hx with | iface hx=>exact .iface (h _ _ _ hx)
theorem ig:∀v∈([]:List V),dE v:=fun _ h=>by cases h
theorem bU {v:V} {l:List V} (h:dE v) (hl:∀u∈l,dE u):∀u∈v::l,dE u:=fun u hu=>by
 rcases List.mem_cons.1 hu with rfl | hu
 ·exact h
 ·exact hl u hu
variable {vs us:List V} {σ:St} {k:ah} {f:FuncId} {P:Program}
theorem ag.aU {A:V→Prop} (hf:bn σ vs us) (hA:∀v,A v→dE v) (h:ag P f us (fun v _=>A v) Go.Ev.start) (hk:∀v,A v→k v σ):ag P f vs k σ:=
 (ag.Oc (Q:=A) hf (fun v hv ρ ρ' x hx=>hA v hv ρ ρ' x hx) h).mono fun v τ ⟨h1,h2⟩=>by subst h2;exact hk v h1
theorem ag.eJ {v:V} (hf:bn σ vs us) (hA:dE v) (h:ag P f us (fun u _=>u=v) Go.Ev.start) (hk:k v σ):ag P f vs k σ:=
 ag.aU hf (fun u e=>by rw[e];exact hA) h fun u e=>by rw[e];exact hk
theorem bm:bn σ [] []:=.nil
theorem aA {v:V} {l l':List V} (h:Go.Ev.Clean v) (hl:bn σ l l'):bn σ (v::l) (v::l'):=.cons (.clean h) hl
theorem bW:∀s∈([]:List SV),s.clean:=fun _ h=>by cases h
theorem ax {s:SV} {l:List SV} (h:s.clean) (hl:∀u∈l,u.clean):∀u∈s::l,u.clean:=fun u hu=>by
 rcases List.mem_cons.1 hu with rfl | hu
 ·exact h
 ·exact hl u hu
theorem aF {kd:IntKind} {n:Int} {l:List SV} (hl:∀u∈l,u.clean):∀u∈SV.val (.int kd n)::l,u.clean:=ax (Go.Ev.Clean.int _ _) hl
theorem oL {s:List UInt8} {l:List SV} (hl:∀u∈l,u.clean):∀u∈SV.val (.str s)::l,u.clean:=ax (Go.Ev.Clean.str _) hl
end
theorem av {c:Prop} [Decidable c] {A B:Prop} (h1:c→A) (h2:¬c→B):ae (decide c) A B:=ae.mk (fun e=>h1 (of_decide_eq_true e)) fun e=>h2 (of_decide_eq_false e)
def cF:List SV→Nat
 | []=>0
 | [.val (.int _ i)]=>i.toNat
 | _::r=>cF r
theorem eu (n:Nat):((n:Nat):Int).toNat=n:=rfl
theorem qa (s:List UInt8) (i:Nat):0≤aI s i∧aI s i<256:=by
 unfold aI
 cases nth s i with
 | none=>exact⟨by decide,by decide⟩
 | some c=>have:=c.toNat_lt;exact⟨by simp,by show(c.toNat:Int)<256;omega⟩
theorem ay.aG [Env] (e:ay):Go.Ev.Clean (ay.enc e):=Go.Ev.Clean.agg e.clean
theorem aj.aG [Env] (e:aj):Go.Ev.Clean (aj.enc e):=Go.Ev.Clean.agg e.clean
theorem aa.aG [Env] (e:aa):Go.Ev.Clean (aa.enc e):=Go.Ev.Clean.agg e.clean
end Go.Proofs.YtbajncpfmemdgaaGreatDoor
end
section
namespace Go.Proofs.YtbajncpfmemdgaaGreatDoor
open Go Go.Ev Go.IntWalk
theorem F273:bS Tryz.prog 273 Tryz.f273:=.of (by kernel_rfl) (by kernel_rfl)
theorem F260:bS Tryz.prog 260 Tryz.f260:=.of (by kernel_rfl) (by kernel_rfl)
theorem F235:bS Tryz.prog 235 Tryz.f235:=.of (by kernel_rfl) (by kernel_rfl)
theorem F195:bS Tryz.prog 195 Tryz.f195:=.of (by kernel_rfl) (by kernel_rfl)
section
variable [Env] {vs:List V} {σ:St} {k:ah}
theorem JQ:∀ {f:FuncId} {vs:List V} {σ:St} {k:ah},Of f vs σ k→ag Tryz.prog f vs k σ:=fun h=>h.elim
def RY (c:Int) (v:V):Prop:=∃r:Int,v=.tuple [.int .i64 (iZ c),.int .i64 r,.int .u8 (rV c),.int .u8 (rW c)]
omit [Env] in
theorem Zk {c a b d:Int} (r:Int) (h1:iZ c=a) (h2:rV c=b) (h3:rW c=d):RY c (.tuple [.int .i64 a,.int .i64 r,.int .u8 b,.int .u8 d]):=⟨r,by rw[h1,h2,h3]⟩
theorem O9 (h:Lv vs σ k):ag Tryz.prog 273 vs k σ:=by
 unfold Lv at h
 split at h
 ·rename_i c
  obtain⟨hc,h⟩:=h
  refine ag.aU (A:=RY c) (aA (Go.Ev.Clean.int _ _) bm) (fun v hv=>by obtain⟨r,rfl⟩:=hv;exact .tuple (bU (.int _ _) (bU (.int _ _) (bU (.int _ _) (bU (.int _ _) ig)))))
   (F273.flat (live:=Ed) (call:=Of) (n₀:=0) (σ:=Go.Ev.start) (fun h=>JQ h) rfl (by kernel_rfl) ?_) fun v hv=>by obtain⟨r,rfl⟩:=hv;exact h r
  rw[YX]
  refine⟨rfl,av (fun h1=>?_) fun h1=>⟨rfl,av (fun h2=>?_) fun h2=>⟨rfl,av (fun h3=>?_) fun h3=>⟨rfl,av (fun h4=>?_) fun h4=>⟨rfl,av (fun h5=>?_) fun h5=>⟨rfl,av (fun h6=>?_) fun h6=>⟨rfl,av (fun h7=>?_) fun h7=>⟨rfl,av (fun h8=>?_) fun h8=>⟨rfl,av (fun h9=>?_) fun h9=>?_⟩⟩⟩⟩⟩⟩⟩⟩⟩
  all_goals (refine Zk _ ?_ ?_ ?_)
  all_goals first
   | (unfold iZ;(repeat' split)<;>omega)
   | (unfold rV;(repeat' split)<;>omega)
   | (unfold rW;(repeat' split)<;>omega)
 ·exact h.elim
theorem JR:∀ {f:FuncId} {vs:List V} {σ:St} {k:ah},JL f vs σ k→ag Tryz.prog f vs k σ:=fun h=>aR O9 JQ h
def tZ (s:List UInt8) (v:V):Prop:=(dw s≠0∧∃r:Int,v=.tuple [.int .i64 r,.int .i64 (dw s),.int .i64 0])∨(dw s=0∧∃e:Int,e≠0∧v=.tuple [.int .i64 0,.int .i64 0,.int .i64 e])
theorem tZ.fY (s:List UInt8):∀v,tZ s v→dE v:=fun v hv=>by
 rcases hv with ⟨_,r,rfl⟩ | ⟨_,e,_,rfl⟩<;>exact .tuple (bU (.int _ _) (bU (.int _ _) (bU (.int _ _) ig)))
omit [Env] in
theorem tZ.bad {s:List UInt8} {e:Int} (h:dw s=0) (he:e≠0):tZ s (.tuple [.int .i64 0,.int .i64 0,.int .i64 e]):=.inr ⟨h,e,he,rfl⟩
omit [Env] in
theorem tZ.Cb {s:List UInt8} {r w:Int} (h:dw s=w) (hw:w≠0):tZ s (.tuple [.int .i64 r,.int .i64 w,.int .i64 0]):=.inl ⟨by rw[h];exact hw,r,by rw[h]⟩
omit [Env] in
theorem ua (c:Int):0≤iZ c∧iZ c≤4:=by unfold iZ;(repeat' split)<;>omega
omit [Env] in
theorem rX {s:List UInt8} (h:s.length≠0):dw s=if mG s (rV (aI s 0)) (rW (aI s 0)) ((iZ (aI s 0)).toNat-1) 1=true then iZ (aI s 0) else 0:=by unfold dw;rw[if_neg h]
omit [Env] in
theorem xQ (s:List UInt8) (lo hi:Int) (m i:Nat):mG s lo hi (m+1) i=(decide (i<s.length∧lo≤aI s i∧aI s i≤hi)&&mG s 128 191 m (i+1)):=rfl
def Zl (s:List UInt8):Nat→List SV→Prop
 | 0,ss=>∃(r lo hi:Int) (i:Nat),s.length≠0∧1≤i∧(i:Int)≤iZ (aI s 0)∧mG s (rV (aI s 0)) (rW (aI s 0)) ((iZ (aI s 0)).toNat-1) 1=mG s lo hi ((iZ (aI s 0)).toNat-i) i∧
   ss=[.val (.str s),.val (.int .i64 (iZ (aI s 0))),.val (.int .i64 r),.val (.int .u8 lo),.val (.int .u8 hi),.val (.int .i64 0),.val (.int .i64 i)]
 | _,_=>False
theorem Pa (h:Lw vs σ k):ag Tryz.prog 260 vs k σ:=by
 unfold Lw at h
 split at h
 ·rename_i s
  refine ag.aU (A:=tZ s) (aA (Go.Ev.Clean.str _) bm) (tZ.fY s)
   (F260.cG (live:=yS) (call:=JL) (n₀:=0) (σ:=Go.Ev.start) (fun h=>JR h) rfl 1 (by kernel_rfl) Nat.lt_wfRel.wf (fun _ ss=>5-cF ss) (Zl s) ?_ ?_ ?_) fun v hv=>by
    rcases hv with ⟨h0,r,rfl⟩ | ⟨h0,e,he,rfl⟩
    ·exact h.1 h0 r
    ·exact h.2 h0 e he
  ·intro k ss hI
   cases k with
   | zero=>obtain⟨r,lo,hi,i,_,_,_,_,rfl⟩:=hI;exact oL (aF (aF (aF (aF (aF (aF bW))))))
   | succ k=>exact hI.elim
  ·rw[YY]
   have hb:=qa s 0
   have hw:=ua (aI s 0)
   refine av (fun h0=>.bad (by rw[h0];rfl) (by decide)) fun h0=>?_
   have hl:s.length≠0:=fun e=>h0 (List.eq_nil_of_length_eq_zero e)
   refine⟨⟨by decide,by rw[aZ];omega⟩,hb,fun r=>⟨rfl,av (fun h1=>.bad ?_ (by decide)) fun h1=>?_⟩⟩
   ·rw[rX hl]
    have h1:iZ (aI s 0)=0:=h1
    rw[h1];split<;>rfl
   ·have h1:iZ (aI s 0)≠0:=h1
    exact⟨r,_,_,1,hl,by omega,by omega,rfl,rfl⟩
  ·intro k hk ss hI
   obtain rfl:k=0:=by omega
   obtain⟨r,lo,hi,i,hl,h1,h2,hc,rfl⟩:=hI
   have hw:=ua (aI s 0)
   rw[YZ]
   refine⟨rfl,av (fun h3=>?_) fun h3=>?_⟩
   ·obtain⟨m,hm⟩:∃m,(iZ (aI s 0)).toNat-i=m+1:=⟨(iZ (aI s 0)).toNat-i-1,by omega⟩
    rw[hm,xQ] at hc
    have bad:¬(i<s.length∧lo≤aI s i∧aI s i≤hi)→dw s=0:=fun hn=>by
     rw[rX hl,hc,decide_eq_false hn,Bool.false_and,if_neg (by simp)]
    refine⟨rfl,av (fun h4=>⟨rfl,.bad (bad fun hh=>?_) (by decide)⟩) fun h4=>?_⟩
    ·rw[aZ] at h4;omega
    ·rw[aZ] at h4
     have eN:(0≤(i:Int)∧(i:Int)<((len s:Nat):Int)):=⟨by omega,by rw[aZ];omega⟩
     refine⟨eN,rfl,av (fun h5=>⟨rfl,.bad (bad fun hh=>?_) (by decide)⟩) fun h5=>⟨eN,rfl,av (fun h6=>⟨rfl,.bad (bad fun hh=>?_) (by decide)⟩) fun h6=>⟨by decide,eN,?_⟩⟩⟩
     ·have h5:aI s i<lo:=h5
      omega
     ·have h6:aI s i>hi:=h6
      omega
     ·have h5:¬aI s i<lo:=h5
      have h6:¬aI s i>hi:=h6
      have gx:mG s (rV (aI s 0)) (rW (aI s 0)) ((iZ (aI s 0)).toNat-1) 1=mG s 128 191 ((iZ (aI s 0)).toNat-(i+1)) (i+1):=by
       rw[hc,decide_eq_true ⟨by omega,by omega,by omega⟩,Bool.true_and,show(iZ (aI s 0)).toNat-(i+1)=m by omega]
      rw[i64_in ((i:Int)+1) (by omega)]
      refine⟨⟨_,128,191,i+1,hl,by omega,by omega,gx,rfl⟩,?_⟩
      show 5-((i:Int)+1).toNat<5-(i:Int).toNat
      omega
   ·refine⟨rfl,.Cb ?_ (by omega)⟩
    rw[rX hl,hc,show(iZ (aI s 0)).toNat-i=0 by omega]
    rfl
 ·exact h.elim
theorem JS:∀ {f:FuncId} {vs:List V} {σ:St} {k:ah},JM f vs σ k→ag Tryz.prog f vs k σ:=fun h=>aR Pa JR h
omit [Env] in
theorem wG (s:List UInt8):0≤dw s∧dw s≤s.length∧dw s≤4:=by
 have hw:=ua (aI s 0)
 by_cases h:s.length=0
 ·unfold dw;rw[if_pos h];omega
 ·rw[rX h]
  split
  ·rename_i hc
   have key:∀(m i:Nat) (lo hi:Int),mG s lo hi m i=true→m=0∨i+m≤s.length:=by
    intro m
    induction m with
    | zero=>intro i lo hi _;exact .inl rfl
    | succ m ih=>
     intro i lo hi hh
     rw[xQ,Bool.and_eq_true] at hh
     have h1:=of_decide_eq_true hh.1
     rcases ih _ _ _ hh.2 with h2 | h2
     ·right;omega
     ·right;omega
   rcases key _ _ _ _ hc with h1 | h1<;>omega
  ·omega
omit [Env] in
theorem JT {n:Nat} {s:List UInt8} (h:s.length≤n) (h0:s.length≠0) (hn:dw s=0):fP n s=false:=by
 cases n with
 | zero=>omega
 | succ n=>show(if _ then _ else if _ then _ else _)=_;rw[if_neg h0,if_pos hn]
omit [Env] in
theorem JU:∀ {n m:Nat} {s:List UInt8},s.length≤n→s.length≤m→fP n s=fP m s:=by
 intro n
 induction n with
 | zero=>
  intro m s h1 h2
  have h0:s.length=0:=by omega
  cases m with
  | zero=>rfl
  | succ m=>show decide _=if _ then _ else _;rw[if_pos h0,decide_eq_true h0]
 | succ n ih=>
  intro m s h1 h2
  by_cases h0:s.length=0
  ·cases m with
   | zero=>show(if _ then _ else _)=decide _;rw[if_pos h0,decide_eq_true h0]
   | succ m=>show(if _ then _ else _)=if _ then _ else _;rw[if_pos h0,if_pos h0]
  ·cases m with
   | zero=>omega
   | succ m=>
    show(if _ then _ else if _ then _ else _)=if _ then _ else if _ then _ else _
    rw[if_neg h0,if_neg h0]
    by_cases hn:dw s=0
    ·rw[if_pos hn,if_pos hn]
    ·rw[if_neg hn,if_neg hn]
     have:=wG s
     exact ih (by rw[List.length_drop];omega) (by rw[List.length_drop];omega)
omit [Env] in
theorem JV {s:List UInt8} (h0:s.length≠0) (hn:dw s≠0):fP s.length s=fP (s.drop (dw s).toNat).length (s.drop (dw s).toNat):=by
 have:=wG s
 obtain⟨m,hm⟩:∃m,s.length=m+1:=⟨s.length-1,by omega⟩
 have e:fP s.length s=fP m (s.drop (dw s).toNat):=by
  rw[hm]
  show(if _ then _ else if _ then _ else _)=_
  rw[if_neg h0,if_neg hn]
 rw[e]
 exact JU (by rw[List.length_drop];omega) (Nat.le_refl _)
def Zm (s:List UInt8) (v:V):Prop:=∃c:Int,(0≤c↔fP s.length s=true)∧v=.int .i64 c
def Zn (s:List UInt8):Nat→List SV→Prop
 | 0,ss=>∃(t:List UInt8) (i:Int),0≤i∧i+t.length≤64∧fP s.length s=fP t.length t∧ss=[.val (.str t),.val (.int .i64 i)]
 | _,_=>False
def RZ:List SV→Nat
 | .val (.str s)::_=>s.length
 | _=>0
theorem Pb (h:Lx vs σ k):ag Tryz.prog 235 vs k σ:=by
 unfold Lx at h
 split at h
 ·rename_i s
  obtain⟨hs,h⟩:=h
  refine ag.aU (A:=Zm s) (aA (Go.Ev.Clean.str _) bm) (fun v hv=>by obtain⟨c,_,rfl⟩:=hv;exact .int _ _)
   (F235.cG (live:=yT) (call:=JM) (n₀:=0) (σ:=Go.Ev.start) (fun h=>JS h) rfl 1 (by kernel_rfl) Nat.lt_wfRel.wf (fun _ ss=>RZ ss) (Zn s) ?_ ?_ ?_) fun v hv=>by obtain⟨c,hc,rfl⟩:=hv;exact h c hc
  ·intro k ss hI
   cases k with
   | zero=>obtain⟨t,i,_,_,_,rfl⟩:=hI;exact oL (aF bW)
   | succ k=>exact hI.elim
  ·rw[Y0]
   exact⟨s,0,by omega,by omega,rfl,rfl⟩
  ·intro k hk ss hI
   obtain rfl:k=0:=by omega
   obtain⟨t,i,h0,h1,he,rfl⟩:=hI
   rw[Y1]
   refine av (fun ht=>?_) fun ht=>?_
   ·have eU:t.length≠0:=fun e=>ht (List.eq_nil_of_length_eq_zero e)
    have hn:=wG t
    refine⟨fun bQ r=>⟨rfl,⟨hn.1,by rw[aZ];omega,by omega⟩,?_⟩,fun hz e bQ=>⟨rfl,av (fun _=>?_) fun hh=>absurd bQ hh⟩⟩
    ·have hd:di (dw t).toNat (dA t ((len t:Nat):Int).toNat)=t.drop (dw t).toNat:=by
      rw[ek,eL,aZ,Int.toNat_natCast,List.take_length]
     rw[hd,i64_in (i+1) (by omega)]
     refine⟨⟨_,i+1,by omega,?_,?_,rfl⟩,?_⟩
     ·rw[List.length_drop];omega
     ·rw[he];exact JV eU bQ
     ·show(t.drop (dw t).toNat).length<t.length
      rw[List.length_drop];omega
    ·refine⟨-1,⟨fun h=>by omega,fun h=>?_⟩,rfl⟩
     rw[he,JT (Nat.le_refl _) eU hz] at h;cases h
   ·have ht:t=[]:=Decidable.not_not.1 ht
    subst ht
    exact⟨i,⟨fun _=>by rw[he];rfl,fun _=>h0⟩,rfl⟩
 ·exact h.elim
theorem JW:∀ {f:FuncId} {vs:List V} {σ:St} {k:ah},Og f vs σ k→ag Tryz.prog f vs k σ:=fun h=>aR Pb JS h
theorem Pc (h:Ly vs σ k):ag Tryz.prog 195 vs k σ:=by
 unfold Ly at h
 split at h
 ·rename_i s
  obtain⟨hs,h⟩:=h
  refine ag.eJ (aA (Go.Ev.Clean.str _) bm) (.bool _) (F195.flat (live:=Ee) (call:=Og) (n₀:=0) (σ:=Go.Ev.start) (fun h=>JW h) rfl (by kernel_rfl) ?_) h
  rw[Y2]
  refine⟨hs,fun c hc=>⟨rfl,av (fun h1=>?_) fun h1=>?_⟩⟩
  ·rw[hc.1 h1]
  ·have:fP s.length s=false:=by
    cases hb:fP s.length s with
    | false=>rfl
    | true=>exact absurd (hc.2 hb) h1
   rw[this]
 ·exact h.elim
theorem JX:∀ {f:FuncId} {vs:List V} {σ:St} {k:ah},Oh f vs σ k→ag Tryz.prog f vs k σ:=fun h=>aR Pc JW h
end
end Go.Proofs.YtbajncpfmemdgaaGreatDoor
end
section
namespace Go.Proofs.YtbajncpfmemdgaaGreatDoor
open Go Go.Ev Go.IntWalk
section
variable [Env] {vs:List V} {σ:St} {k:ah}
end
end Go.Proofs.YtbajncpfmemdgaaGreatDoor
end
section
namespace Go.Proofs.YtbajncpfmemdgaaGreatDoor
open Go Go.Ev Go.IntWalk
section
variable [Env] {vs:List V} {σ:St} {k:ah}
end
end Go.Proofs.YtbajncpfmemdgaaGreatDoor
end
section
namespace Go.Proofs.YtbajncpfmemdgaaGreatDoor
open Go Go.Ev Go.IntWalk
theorem F194:bS Tryz.prog 194 Tryz.f194:=.of (by kernel_rfl) (by kernel_rfl)
theorem wrap_u64 (n:Int):IntKind.u64.wrap n=n%18446744073709551616:=by
 unfold IntKind.wrap
 show(if (false&&_)=true then _ else _)=_
 rfl
theorem Hr (x:Nat):(FloatKind.f64.format.order x x != some .eq)=decide (9218868437227405312<x%9223372036854775808):=by
 show((Ieee.double.read x).order (Ieee.double.read x) != some .eq)=_
 have h1:Ieee.double.signWeight=9223372036854775808:=by decide
 have h2:Ieee.double.binade=4503599627370496:=by decide
 have h3:Ieee.double.infRung=9218868437227405312:=by decide
 have num:∀(s:Bool) (m:Nat) (i:Int),((Ieee.Datum.number s m i).order (.number s m i) != some .eq)=false:=by
  intro s m i
  show(some (compare _ _) != some .eq)=false
  rw[show ∀a:Int,compare a a=.eq from fun a=>by simp [compare,compareOfLessAndEq]]
  rfl
 unfold Ieee.Format.read
 rw[h1,h2,h3]
 dsimp only
 split
 ·rw[num,decide_eq_false (by omega)]
 ·split
  ·rw[num,decide_eq_false (by omega)]
  ·split
   ·rw[decide_eq_false (by omega)]
    show(some (compare _ _) != some .eq)=false
    rw[show ∀a:Nat,compare a a=.eq from fun a=>by simp [compare,compareOfLessAndEq]]
    rfl
   ·rw[decide_eq_true (by omega)];rfl
theorem Em (x:Int) (h:0≤x∧x<18446744073709551616):Hj x↔9218868437227405312<x.toNat%9223372036854775808:=by
 unfold Hj Od Oe
 omega
section
variable [Env] {vs:List V} {σ:St} {k:ah}
theorem Pd (h:Lz vs σ k):ag Tryz.prog 194 vs k σ:=by
 unfold Lz at h
 split at h
 ·rename_i x
  obtain⟨hx,h⟩:=h
  refine ag.eJ (aA (Go.Ev.Clean.int _ _) bm) (.int _ _) (F194.flat (live:=Ef) (call:=Oh) (n₀:=0) (σ:=Go.Ev.start) (fun h=>JX h) rfl (by kernel_rfl) ?_) h
  rw[Y3,Hr]
  unfold jB
  refine av (fun h1=>?_) fun h1=>?_
  ·rw[if_pos ((Em x hx).2 h1)]
  ·rw[if_neg fun hh=>h1 ((Em x hx).1 hh)]
 ·exact h.elim
theorem JY:∀ {f:FuncId} {vs:List V} {σ:St} {k:ah},Oi f vs σ k→ag Tryz.prog f vs k σ:=fun h=>aR Pd JX h
end
end Go.Proofs.YtbajncpfmemdgaaGreatDoor
end
section
namespace Go.Proofs.YtbajncpfmemdgaaGreatDoor
open Go Go.Ev Go.IntWalk
theorem F193:bS Tryz.prog 193 Tryz.f193:=.of (by kernel_rfl) (by kernel_rfl)
theorem F148:bS Tryz.prog 148 Tryz.f148:=.of (by kernel_rfl) (by kernel_rfl)
theorem En (v:ay):(iP v).f1=v.f1↔(v.f1=0∨v.f0=1∨v.f0=2):=by
 unfold iP;(repeat' split)<;>simp_all<;>omega
theorem Eo (v:ay):(iP v).f2=v.f2↔(v.f2=0∨v.f0=3):=by
 unfold iP;(repeat' split)<;>simp_all<;>omega
theorem Ep (v:ay):(iP v).f3=v.f3↔(v.f3=[]∨v.f0=4∨v.f0=5):=by
 unfold iP
 (repeat' split)
 ·exact⟨fun h=>.inl h.symm,fun h=>by rcases h with h | h | h<;>first | exact h.symm | omega⟩
 ·exact⟨fun h=>.inl h.symm,fun h=>by rcases h with h | h | h<;>first | exact h.symm | omega⟩
 ·rename_i h;exact⟨fun _=>.inr h,fun _=>rfl⟩
 ·exact⟨fun h=>.inl h.symm,fun h=>by rcases h with h | h | h<;>first | exact h.symm | omega⟩
theorem Pe (v:ay):(iP v).f0=v.f0:=by
 unfold iP;(repeat' split)<;>rfl
theorem Xn {v:ay} (h:v.f0<0∨v.f0≥6):cq v=5:=if_pos h
theorem R0 {v:ay} (h:¬(v.f0<0∨v.f0≥6)) (h1:¬lH v):cq v=4:=by unfold cq;rw[if_neg h,if_pos h1]
theorem ve6 {v:ay} (h:¬(v.f0<0∨v.f0≥6)) (h1:lH v) (h2:v.f0=1∧v.f1≠0∧v.f1≠1):cq v=6:=by unfold cq;rw[if_neg h,if_neg (fun hh=>hh h1),if_pos h2]
theorem Zo {v:ay} (h:¬(v.f0<0∨v.f0≥6)) (h1:lH v) (h2:¬(v.f0=1∧v.f1≠0∧v.f1≠1)) (h3:jB v.f2≠v.f2):cq v=4:=by unfold cq;rw[if_neg h,if_neg (fun hh=>hh h1),if_neg h2,if_pos h3]
theorem ve2 {v:ay} (h:¬(v.f0<0∨v.f0≥6)) (h1:lH v) (h2:¬(v.f0=1∧v.f1≠0∧v.f1≠1)) (h3:jB v.f2=v.f2) (h4:v.f3.length>64):cq v=2:=by
 unfold cq;rw[if_neg h,if_neg (fun hh=>hh h1),if_neg h2,if_neg (fun hh=>hh h3),if_pos h4]
theorem ve7 {v:ay} (h:¬(v.f0<0∨v.f0≥6)) (h1:lH v) (h2:¬(v.f0=1∧v.f1≠0∧v.f1≠1)) (h3:jB v.f2=v.f2) (h4:¬v.f3.length>64) (h5:v.f0=5) (h6:fP v.f3.length v.f3=false):cq v=7:=by
 unfold cq;rw[if_neg h,if_neg (fun hh=>hh h1),if_neg h2,if_neg (fun hh=>hh h3),if_neg h4,if_pos ⟨h5,h6⟩]
theorem Xo {v:ay} (h:¬(v.f0<0∨v.f0≥6)) (h1:lH v) (h2:¬(v.f0=1∧v.f1≠0∧v.f1≠1)) (h3:jB v.f2=v.f2) (h4:¬v.f3.length>64) (h5:¬(v.f0=5∧fP v.f3.length v.f3=false)):cq v=0:=by
 unfold cq;rw[if_neg h,if_neg (fun hh=>hh h1),if_neg h2,if_neg (fun hh=>hh h3),if_neg h4,if_neg h5]
theorem ub {v:ay} {c:Int} (h:cq v=c):V.int .i64 c=.int .i64 (cq v):=by rw[h]
section
variable [Env] {vs:List V} {σ:St} {k:ah}
theorem Pf (h:LA vs σ k):ag Tryz.prog 193 vs k σ:=by
 unfold LA at h
 split at h
 ·rename_i a b c s
  have hs:∀e:ay,dE (ay.enc e):=fun e=>.agg (bU (.int _ _) (bU (.int _ _) (bU (.int _ _) (bU (.str _) ig))))
  refine ag.eJ (us:=[ay.enc ⟨a,b,c,s⟩]) (aA (ay.aG ⟨a,b,c,s⟩) bm) (hs (iP ⟨a,b,c,s⟩)) (F193.flat (live:=Eg) (call:=Oi) (n₀:=0) (σ:=Go.Ev.start) (fun h=>JY h) rfl (by kernel_rfl) ?_) h
  rw[Y4]
  unfold iP
  refine⟨rfl,av (fun h1=>?_) fun h1=>⟨rfl,av (fun h2=>?_) fun h2=>⟨rfl,av (fun h3=>?_) fun h3=>⟨rfl,av (fun h4=>?_) fun h4=>⟨rfl,av (fun h5=>?_) fun h5=>?_⟩⟩⟩⟩⟩
  ·rw[if_pos (.inl h1)];rfl
  ·rw[if_pos (.inr h2)];rfl
  ·rw[if_neg (by simp_all),if_pos h3];rfl
  ·rw[if_neg (by simp_all),if_neg h3,if_pos (.inl h4)];rfl
  ·rw[if_neg (by simp_all),if_neg h3,if_pos (.inr h5)];rfl
  ·rw[if_neg (by simp_all),if_neg h3,if_neg (by simp_all)];rfl
 ·exact h.elim
theorem JZ:∀ {f:FuncId} {vs:List V} {σ:St} {k:ah},Oj f vs σ k→ag Tryz.prog f vs k σ:=fun h=>aR Pf JY h
theorem Pg (h:LB vs σ k):ag Tryz.prog 148 vs k σ:=by
 unfold LB at h
 split at h
 ·rename_i a b c s
  obtain⟨hc,h⟩:=h
  refine ag.eJ (us:=[ay.enc ⟨a,b,c,s⟩]) (aA (ay.aG ⟨a,b,c,s⟩) bm) (.int _ _) (F148.flat (live:=Eh) (call:=Oj) (n₀:=0) (σ:=Go.Ev.start) (fun h=>JZ h) rfl (by kernel_rfl) ?_) h
  generalize he:(⟨a,b,c,s⟩:ay)=e
  have gx:0≤e.f2∧e.f2<18446744073709551616:=by subst he;exact hc
  have hb:∀ {A:Prop},A→ae (V.beq (.agg [.int .i64 e.f0,.int .i64 e.f1,.int .u64 e.f2,.str e.f3]) (.agg [.int .i64 e.f0,.int .i64 e.f1,.int .u64 e.f2,.str e.f3])&&true) A False:=fun hA=>ae.mk (fun _=>hA) fun h=>by simp [V.beq,V.gz] at h
  have Q2:∀ {A:Prop},A→ae (V.beq (.int .u64 e.f2) (.int .u64 e.f2)&&true) A False:=fun hA=>ae.mk (fun _=>hA) fun h=>by simp [V.beq] at h
  rw[Y5];unfold Ol
  refine⟨rfl,av (fun h1=>ub (Xn (.inl h1))) fun h1=>⟨rfl,av (fun h2=>ub (Xn (.inr h2))) fun h2=>hb ?_⟩⟩
  have h0:¬(e.f0<0∨e.f0≥6):=by omega
  refine⟨rfl,av (fun _=>⟨rfl,av (fun a1=>⟨rfl,av (fun a2=>av (fun a3=>?_) fun a3=>?_) fun a2=>?_⟩) fun a1=>?_⟩) fun a0=>absurd (Pe e) a0⟩
  ·have ho:lH e:=⟨(En e).1 a1,(Eo e).1 a2,(Ep e).1 a3⟩
   refine⟨rfl,av (fun k1=>⟨rfl,av (fun k2=>⟨rfl,av (fun k3=>ub (ve6 h0 ho ⟨k1,k2,k3⟩)) fun k3=>?_⟩) fun k2=>?_⟩) fun k1=>?_⟩
   all_goals have hk:¬(e.f0=1∧e.f1≠0∧e.f1≠1):=by omega
   all_goals refine⟨gx,Q2 ⟨rfl,av (fun c1=>ub (Zo h0 ho hk c1)) fun c1=>⟨rfl,av (fun c2=>?_) fun c2=>⟨rfl,av (fun c3=>⟨?_,ae.mk (fun c4=>?_) fun c4=>?_⟩) fun c3=>?_⟩⟩⟩⟩
   all_goals have c1:=Decidable.not_not.1 c1
   all_goals (rw[aZ] at c2)
   all_goals first
    | exact ub (ve2 h0 ho hk c1 (by omega))
    | (show e.f3.length≤64;omega)
    | exact ub (ve7 h0 ho hk c1 (by omega) c3 (by simpa using c4))
    | exact ub (Xo h0 ho hk c1 (by omega) fun hh=>by rw[hh.2] at c4;cases c4)
    | exact ub (Xo h0 ho hk c1 (by omega) fun hh=>c3 hh.1)
  ·exact ub (R0 h0 fun ho=>a3 ((Ep e).2 ho.2.2))
  ·exact ub (R0 h0 fun ho=>a2 ((Eo e).2 ho.2.1))
  ·exact ub (R0 h0 fun ho=>a1 ((En e).2 ho.1))
 ·exact h.elim
theorem Cc:∀ {f:FuncId} {vs:List V} {σ:St} {k:ah},Ei f vs σ k→ag Tryz.prog f vs k σ:=fun h=>aR Pg JZ h
end
end Go.Proofs.YtbajncpfmemdgaaGreatDoor
end
section
namespace Go.Proofs.YtbajncpfmemdgaaGreatDoor
open Go Go.Ev Go.IntWalk
theorem F176:bS Tryz.prog 176 Tryz.f176:=.of (by kernel_rfl) (by kernel_rfl)
theorem F222:bS Tryz.prog 222 Tryz.f222:=.of (by kernel_rfl) (by kernel_rfl)
theorem F178:bS Tryz.prog 178 Tryz.f178:=.of (by kernel_rfl) (by kernel_rfl)
def rY (b:Int) (i:Nat):Prop:=(97≤b∧b≤122)∨(i≠0∧((48≤b∧b≤57)∨b=95))
theorem LN (b:Int) (i:Nat):(Hk b||(decide (i≠0)&&Hl b))=true↔rY b i:=by
 unfold rY Hk Hl
 rw[Bool.or_eq_true,Bool.and_eq_true,decide_eq_true_iff,decide_eq_true_iff,decide_eq_true_iff]
theorem uc (s:List UInt8):∀n,AP s n=true↔∀i,i<n→rY (aI s i) i
 | 0=>⟨fun _ i hi=>absurd hi (Nat.not_lt_zero i),fun _=>rfl⟩
 | n+1=>by
  show(AP s n&&(Hk (aI s n)||(decide (n≠0)&&Hl (aI s n))))=true↔_
  rw[Bool.and_eq_true,LN,uc s n]
  constructor
  ·intro h i hi
   by_cases e:i=n
   ·rw[e];exact h.2
   ·exact h.1 i (by omega)
  ·exact fun h=>⟨fun i hi=>h i (by omega),h n (by omega)⟩
theorem On {s:List UInt8} (h:s.length=0∨s.length>16):aP s=8:=if_pos h
theorem R1 {s:List UInt8} {i:Nat} (hi:i<s.length) (h:¬rY (aI s i) i):aP s=8:=by
 by_cases h0:s.length=0∨s.length>16
 ·exact On h0
 ·unfold aP
  rw[if_neg h0,if_neg fun hh=>h ((uc s _).1 hh i hi)]
theorem VR {s:List UInt8} (h0:¬(s.length=0∨s.length>16)) (h:∀i,i<s.length→rY (aI s i) i):aP s=0:=by
 unfold aP
 rw[if_neg h0,if_pos ((uc s _).2 h)]
theorem yZ (s:List UInt8) (q:Nat→List UInt8):∀n,0≤jX s q n∧jX s q n≤n∧(0<jX s q n↔∃i,i<n∧q i=s)
 | 0=>⟨by show(0:Int)≤0;omega,by show(0:Int)≤0;omega,⟨fun h=>by have h:(0:Int)<0:=h;omega,fun⟨i,hi,_⟩=>absurd hi (Nat.not_lt_zero i)⟩⟩
 | n+1=>by
  obtain⟨h1,h2,h3⟩:=yZ s q n
  have e:jX s q (n+1)=jX s q n+if q n=s then 1 else 0:=rfl
  rw[e]
  by_cases hq:q n=s
  ·rw[if_pos hq]
   exact⟨by omega,by omega,⟨fun _=>⟨n,by omega,hq⟩,fun _=>by omega⟩⟩
  ·rw[if_neg hq]
   refine⟨by omega,by omega,⟨fun h=>?_,fun⟨i,hi,he⟩=>?_⟩⟩
   ·obtain⟨i,hi,he⟩:=h3.1 (by omega)
    exact⟨i,by omega,he⟩
   ·have:i≠n:=fun e=>hq (by rw[←e];exact he)
    have:=h3.2 ⟨i,by omega,he⟩
    omega
theorem wH (s:List UInt8) (q:Nat→List UInt8):∀n,1<jX s q n↔∃i j,i<j∧j<n∧q i=s∧q j=s
 | 0=>⟨fun h=>by have h:(1:Int)<0:=h;omega,fun⟨i,j,_,hj,_⟩=>absurd hj (Nat.not_lt_zero j)⟩
 | n+1=>by
  obtain⟨h1,h2,h3⟩:=yZ s q n
  have ih:=wH s q n
  have e:jX s q (n+1)=jX s q n+if q n=s then 1 else 0:=rfl
  rw[e]
  by_cases hq:q n=s
  ·rw[if_pos hq]
   constructor
   ·intro h
    obtain⟨i,hi,he⟩:=h3.1 (by omega)
    exact⟨i,n,hi,by omega,he,hq⟩
   ·rintro⟨i,j,jA,hj,e1,e2⟩
    have:=h3.2 ⟨i,by omega,e1⟩
    omega
  ·rw[if_neg hq,Int.add_zero,ih]
   constructor
   ·rintro⟨i,j,jA,hj,e1,e2⟩;exact⟨i,j,jA,by omega,e1,e2⟩
   ·rintro⟨i,j,jA,hj,e1,e2⟩
    have:j≠n:=fun e=>hq (by rw[←e];exact e2)
    exact⟨i,j,jA,by omega,e1,e2⟩
theorem jN (s:List UInt8) (q:Nat→List UInt8):∀n,(∀i,i<n→q i≠s)→cb s q n= -1
 | 0,_=>rfl
 | n+1,h=>by
  show(if cb s q n≠ -1 then cb s q n else if q n=s then(n:Int) else -1)= -1
  rw[jN s q n fun i hi=>h i (by omega),if_neg (by decide),if_neg (h n (by omega))]
theorem nS (s:List UInt8) (q:Nat→List UInt8):∀n i,i<n→q i=s→(∀j,j<i→q j≠s)→cb s q n=i
 | 0,i,hi,_,_=>absurd hi (Nat.not_lt_zero i)
 | n+1,i,hi,he,hl=>by
  show(if cb s q n≠ -1 then cb s q n else if q n=s then(n:Int) else -1)=i
  by_cases e:i=n
  ·subst e
   rw[jN s q i hl,if_neg (by decide),if_pos he]
  ·rw[nS s q n i (by omega) he hl,if_pos (by omega)]
theorem gV (s:List UInt8) (q:Nat→List UInt8) (n:Nat):(cb s q n= -1∧∀i,i<n→q i≠s)∨∃i:Nat,cb s q n=i∧i<n∧q i=s∧∀j,j<i→q j≠s:=by
 by_cases h:∃i,i<n∧q i=s
 ·right
  obtain⟨i,hi,he⟩:=h
  induction i using Nat.strongRecOn with
  | _ i ih=>
   by_cases hl:∃j,j<i∧q j=s
   ·obtain⟨j,hj,hej⟩:=hl
    exact ih j hj (by omega) hej
   ·have cD:∀j,j<i→q j≠s:=fun j hj e=>hl ⟨j,hj,e⟩
    exact⟨i,nS s q n i hi he cD,hi,he,cD⟩
 ·left
  have h':∀i,i<n→q i≠s:=fun i hi e=>h ⟨i,hi,e⟩
  exact⟨jN s q n h',h'⟩
theorem pA (q:Nat→List UInt8):∀n,gS q n=true↔∀i j,i<j→j<n→q i≠q j
 | 0=>⟨fun _ i j _ hj=>absurd hj (Nat.not_lt_zero j),fun _=>rfl⟩
 | n+1=>by
  show(gS q n&&decide (cb (q n) q n= -1))=true↔_
  rw[Bool.and_eq_true,pA q n,decide_eq_true_iff]
  constructor
  ·rintro⟨h1,h2⟩ i j jA hj
   by_cases e:j=n
   ·subst e
    rcases gV (q j) q j with ⟨_,h⟩ | ⟨m,hm,_⟩
    ·exact h i jA
    ·rw[h2] at hm;omega
   ·exact h1 i j jA (by omega)
  ·exact fun h=>⟨fun i j jA hj=>h i j jA (by omega),jN _ _ _ fun i hi=>h i n hi (by omega)⟩
section
variable [Env] {vs:List V} {σ:St} {k:ah}
theorem n4 (n:Nat) (h:Nat→List UInt8):Go.Ev.Clean (V.arr n (fun i=>V.str (h i)) 1 false false):=
 Go.Ev.Clean.arr fun i _ u hu=>by
  have hu:u∈[V.str (h i)]:=hu
  rw[List.mem_singleton] at hu
  subst hu;exact Go.Ev.Clean.str _
def R2 (s:List UInt8):Nat→List SV→Prop
 | 0,ss=>∃i:Nat,i≤s.length∧(∀j,j<i→rY (aI s j) j)∧ss=[.row (len s) (du s) 1,.val (.int .i64 ((len s:Nat):Int)),.val (.int .i64 i)]
 | _,_=>False
theorem Ph (h:LC vs σ k):ag Tryz.prog 176 vs k σ:=by
 unfold LC at h
 split at h
 ·rename_i s
  refine ag.eJ (aA (Go.Ev.Clean.str _) bm) (.int _ _) ?_ h
  by_cases h0:s.length=0∨s.length>16
  ·refine F176.cG (live:=u7) (call:=Ei) (n₀:=0) (σ:=Go.Ev.start) (fun h=>Cc h) rfl 1 (by kernel_rfl) Nat.lt_wfRel.wf (fun _ _=>0) (fun _ _=>False) (fun _ _ h=>h.elim) ?_ fun _ _ _ h=>h.elim
   rw[RS,On h0]
   refine av (fun _=>rfl) fun h1=>⟨rfl,av (fun _=>rfl) fun h2=>?_⟩
   rw[aZ] at h2
   rcases h0 with h0 | h0
   ·exact absurd (List.eq_nil_of_length_eq_zero h0) h1
   ·omega
  ·refine F176.cG (live:=u7) (call:=Ei) (n₀:=0) (σ:=Go.Ev.start) (fun h=>Cc h) rfl 1 (by kernel_rfl) Nat.lt_wfRel.wf (fun _ ss=>20-cF ss) (R2 s) ?_ ?_ ?_
   ·intro k ss hI
    cases k with
    | zero=>
     obtain⟨i,_,_,rfl⟩:=hI
     refine ax (fun j _ u hu=>?_) (aF (aF bW))
     have hu:u∈[du s j]:=hu
     rw[List.mem_singleton] at hu
     subst hu;exact Go.Ev.Clean.int _ _
    | succ k=>exact hI.elim
   ·rw[RS]
    refine av (fun h1=>absurd (by rw[h1];rfl:s.length=0) fun e=>h0 (.inl e)) fun h1=>⟨rfl,av (fun h2=>?_) fun h2=>⟨?_,⟨rfl,rfl⟩,0,by omega,fun j hj=>absurd hj (Nat.not_lt_zero j),rfl⟩⟩
    ·rw[aZ] at h2;omega
    ·rw[aZ];omega
   ·intro k hk ss hI
    obtain rfl:k=0:=by omega
    obtain⟨i,hi,hj,rfl⟩:=hI
    rw[Y6];unfold RV RU RT
    refine⟨rfl,av (fun h1=>?_) fun h1=>?_⟩
    ·rw[aZ] at h1
     rw[Int.toNat_natCast]
     refine⟨⟨by omega,by rw[aZ];omega⟩,by rw[aZ];omega,?_⟩
     have bad:¬rY (aI s i) i→V.int .i64 8=.int .i64 (aP s):=fun hn=>by rw[R1 (by omega) hn]
     have cont:rY (aI s i) i→(len s=len s∧1=1)∧(R2 s 0 [.row (len s) (du s) 1,.val (.int .i64 ((len s:Nat):Int)),.val (.int .i64 (IntKind.i64.wrap ((i:Int)+1)))]∧
       (fun x1 x2:Nat=>x1<x2) (20-cF [.row (len s) (du s) 1,.val (.int .i64 ((len s:Nat):Int)),.val (.int .i64 (IntKind.i64.wrap ((i:Int)+1)))]) (20-cF [.row (len s) (du s) 1,.val (.int .i64 ((len s:Nat):Int)),.val (.int .i64 i)])):=fun hc=>by
      rw[i64_in ((i:Int)+1) (by omega)]
      refine⟨⟨rfl,rfl⟩,⟨i+1,by omega,fun j jg=>?_,rfl⟩,?_⟩
      ·by_cases e:j=i
       ·rw[e];exact hc
       ·exact hj j (by omega)
      ·show 20-((i:Int)+1).toNat<20-(i:Int).toNat
       omega
     unfold rY at bad cont
     repeat' first
      | exact cont (by omega)
      | exact bad (by omega)
      | refine⟨rfl,av (fun _=>?_) (fun _=>?_)⟩
    ·rw[aZ] at h1
     rw[VR h0 fun j jg=>hj j (by omega)]
 ·exact h.elim
theorem J0:∀ {f:FuncId} {vs:List V} {σ:St} {k:ah},JN f vs σ k→ag Tryz.prog f vs k σ:=fun h=>aR Ph Cc h
end
end Go.Proofs.YtbajncpfmemdgaaGreatDoor
end
section
namespace Go.Ev
open Go
section
variable [Env] {P:Program} {σ:St}
structure bH (P:Program) (f:FuncId) (vs:List V) (Q:ah) (σ:St):Prop where
 ex:∃v τ,Q v τ
 h:∀(ρ:Ren) (w:World) (vs':List Value),R ρ σ w→au ρ vs vs'→(callFunc f ⟨vs'⟩).run P w=.ok (.enter f ⟨vs'⟩) w∧
  CallsIn Fence.wide 0 P f ⟨vs'⟩ w fun e w'=>∃v τ ρ' v',Q v τ∧e=.returned v'∧aq ρ' v v'∧gC 0 ρ σ w ρ' τ w'
theorem ag.n {f:FuncId} {vs:List V} {Q:ah} (h:ag P f vs Q σ):bH P f vs Q σ:=by
 have h:=h.h
 refine⟨?_,fun ρ w vs' hr hv=>?_⟩
 ·obtain⟨⟨o,τ⟩,hx⟩:=h.1
  cases o with
  | val v=>exact⟨v,τ,hx⟩
  | exit e a=>exact hx.elim
 ·obtain⟨g1,g2⟩:=cj.at h ρ w vs' hr hv
  refine⟨g1,g2.mono fun e w' hx=>?_⟩
  obtain⟨v,τ,ρ',v',h1,h2,h3,h4⟩:=hx
  exact⟨v,τ,ρ',v',h1,h2,h3,gC.of (Nat.zero_le _) h4⟩
theorem bH.code [eF P] {f:FuncId} {g:Func} {c:Code} {vs:List V} {Q:ah} (hf:P.funcs[f]? =some g) (hb:g.body=some c) (hn:(g.name== "runtime.NumGoroutine")=false)
  (h:bG P 0 c (oI P g Q) (lb g.ntmps vs) σ):bH P f vs Q σ:=by
 have yE:∀ {a:Act} {τ:St},(match a.defers with
   | []=>BO Q τ (eQ P a τ g.results.toList)
   | _=>nP P (.leave g a) (l9 Q) τ)→cj P (.leave g a) τ (l9 Q):=fun h=>oJ h
 refine⟨?_,fun ρ w vs' hr hv=>⟨oD hf hb hn _,callsIn_of_wp_marks hf hb trivial (wpIn_mono (h.h (Nat.zero_le _) ρ w _ hr (zQ hv g.ntmps)) fun e aY bd eX=>?_)⟩⟩
 ·obtain⟨e,a,τ,hx⟩:=h.ex
  have key:cj P (.leave g a) τ (l9 Q)→∃v τ,Q v τ:=fun h=>by
   obtain⟨⟨o,τ⟩,hx⟩:=h.1
   cases o with
   | val v=>exact⟨v,τ,hx⟩
   | exit e a=>exact hx.elim
  cases e with
  | normal=>exact key (yE hx)
  | ret=>exact key (yE hx)
  | exit i=>exact hx.elim
  | goto i=>exact hx.elim
 ·obtain⟨e,b,σ',ρ',h1,rfl,h3,h4⟩:=eX
  have fin:cj P (.leave g b) σ' (l9 Q)→LeavesInM Fence.wide 0 P g aY.tmps (fun e w'=>∃v τ ρ' v',Q v τ∧e=.returned v'∧aq ρ' v v'∧gC 0 ρ σ w ρ' τ w') aY.defers .returning bd:=fun h=>
   LeavesInM.mono (cj.at h ρ' bd aY h4.r h3) fun e w' hx=>by
    obtain⟨v,τ,Bh,v',k1,k2,k3,k4⟩:=hx
    exact⟨v,τ,Bh,v',k1,k2,k3,h4.trans (gC.of (Nat.zero_le _) k4)⟩
  cases e with
  | normal=>exact fin (yE h1)
  | ret=>exact fin (yE h1)
  | exit i=>exact h1.elim
  | goto l=>exact h1.elim
theorem bS.j9 [eF P] {f:FuncId} {g:Func} {call:FuncId→List V→St→ah→Prop} {vs:List V} {Q:ah} {live:Nat→List Nat} (F:bS P f g) (eV:∀ {f vs σ k},call f vs σ k→ag P f vs k σ) (N:Nat) (hN:aD (g.body.getD .skip)=N)
  {α:Type} {r:α→α→Prop} (wf:WellFounded r) (μ:Nat→List SV→α) (I:Nat→List SV→Prop) (hc:∀k ss,I k ss→∀s∈ss,s.clean)
  (tX:WE P f g call 0 live I Q vs σ)
  (lA:∀k,k<N→∀ss,I k ss→WL P f g call 0 live (fun k' ed=>I k' ed∧r (μ k' ed) (μ k ss)) Q k ss):
  bH P f vs Q σ:=by
 have hL:=cV.cG (fn:=f) (call:=call) (n₀:=0) (size:=g.ntmps) (live:=live) (Q:=oI P g Q) (fun h=>eV h) F.hp wf μ I hc fun k x hx ss hI=>by
  have hk:k<N:=by
   rw[←hN,←dK]
   exact(List.getElem?_eq_some_iff.1 hx).1
  have e:x=lp (g.body.getD .skip) k:=by unfold lp;rw[hx];rfl
  subst e
  exact lA k hk ss hI
 have hK:(KF P call 0 g.ntmps live I).JE 0:=⟨⟨fun h=>eV h,fun h=>h⟩,fun h=>bG.of h⟩
 exact bH.code F.hf F.hb F.hn (bG.gw hK (g.body.getD .skip) (i:=0) (fun _ _ _ h=>h) (fun j z hz a τ dD hA=>by
  rw[Nat.zero_add] at hA
  obtain⟨ed,g1,g3⟩:=rU (show lG 0 g.ntmps (live j) a τ _ from hA)
  obtain⟨m,hf⟩:=g3 (hc j ed g1)
  exact(hL j z hz ed g1).D7 hf) tX)
theorem bS.cg [eF P] {f:FuncId} {g:Func} {call:FuncId→List V→St→ah→Prop} {vs:List V} {Q:ah} {live:Nat→List Nat} (F:bS P f g) (eV:∀ {f vs σ k},call f vs σ k→ag P f vs k σ) (hN:aD (g.body.getD .skip)=0)
  (h:WE P f g call 0 live (fun _ _=>False) Q vs σ):bH P f vs Q σ:=
 F.j9 eV 0 hN Nat.lt_wfRel.wf (fun _ _=>0) (fun _ _=>False) (fun _ _ h=>h.elim) h fun k hk=>absurd hk (Nat.not_lt_zero k)
theorem ag.frame {f:FuncId} {vs us:List V} {σ₀:St} {Q R3:ah} {m:Nat→Option Nat} (hm:∀i j c,m i=some c→m j=some c→i=j) (Rg:∀i,σ₀.next≤i→m i=none)
  (hb:∀i k,σ₀.heap.get i=some k→∃c k',m i=some c∧σ.heap.get c=some k'∧eZ m k k') (hv:eE m us vs)
  (h:bH P f us R3 σ₀) (hq:∀v τ,R3 v τ→∃(m':Nat→Option Nat) (v':V) (σ':St),eB m' v' v∧σ.next≤σ'.next∧(∀i j c,m' i=some c→m' j=some c→i=j)∧(∀i,σ'.next≤i→m' i=none)∧(∀i,i<σ.next→m' i=none)∧
   (∀i k,σ'.heap.get i=some k→(σ.heap.get i=some k∧∀j k',σ₀.heap.get j=some k'→m j≠some i)∨∃c k',m' i=some c∧τ.heap.get c=some k'∧eZ m' k k')∧Q v' σ'):ag P f vs Q σ:=by
 refine⟨⟨?_,?_⟩⟩
 ·obtain⟨v,τ,hx⟩:=h.ex
  obtain⟨_,v',σ',_,_,_,_,_,_,h3⟩:=hq v τ hx
  exact⟨(.val v',σ'),h3⟩
 ·intro ρ w vs' hr gJ
  have AQ:∀ {c},Wr (ρ.pull m) σ₀ c→Wr ρ σ c:=by
   rintro c ⟨i,k,l,h1,_,h3,h4⟩
   obtain⟨j,k',e1,e2,_⟩:=hb i k h1
   exact⟨j,k',l,e2,rfl,(Ren.dg e1).symm.trans h3,h4⟩
  have xP:R (ρ.pull m) σ₀ w:=by
   refine⟨fun i k hk=>?_,fun i j k k' l l' h1 h2 g1 g2 e=>?_,fun i hi=>?_,fun i l hl=>?_,fun c o x hx=>⟨(hr.aL c o x hx).1,fun hw=>(hr.aL c o x hx).2 (AQ hw)⟩,hr.laid⟩
   ·obtain⟨c,k',e1,e2,e3⟩:=hb i k hk
    obtain⟨l,hl,dq⟩:=hr.cS c k' e2
    exact⟨l,(Ren.dg e1).trans hl,e3.ok dq⟩
   ·obtain⟨c,q,e1,e2,_⟩:=hb i k h1
    obtain⟨d,q',JC,RK,_⟩:=hb j k' h2
    have:=hr.inj c d q q' l l' e2 RK ((Ren.dg e1).symm.trans g1) ((Ren.dg JC).symm.trans g2) e
    subst this
    exact hm i j c e1 JC
   ·show(m i).bind ρ.at'=none
    rw[Rg i hi];rfl
   ·obtain⟨c,_,hc⟩:=Ren.px hl
    exact hr.valid c l hc
  obtain⟨g1,g2⟩:=h.h (ρ.pull m) w vs' xP (hv.rel gJ)
  refine⟨g1,g2.mono fun e w' hx=>?_⟩
  obtain⟨v,τ,bI,x,hx,rfl,lE,az⟩:=hx
  obtain⟨m',v',σ',lV,hn,Zp,R4,LO,u9,h3⟩:=hq v τ hx
  let bg:Ren:=⟨fun i=>if i<σ.next then ρ i else(m' i).bind bI.at',bI.aL⟩
  have wE:∀c o x,ρ.aL c o=some x→bI.aL c o=some x:=az.aL
  have hold:∀c,c<w.heap.size→¬Wr (ρ.pull m) σ₀ c→w'.heap[c]? =w.heap[c]? :=az.aJ
  have bz:∀ {b l},ρ b=some l→b<σ.next:=fun {b l} hb=>by
   refine Nat.lt_of_not_le fun hle=>?_
   rw[hr.fresh b hle] at hb;cases hb
  have hle:ρ.le bg:=⟨fun b l hb=>by
   show(if b<σ.next then ρ b else _)=some l
   rw[if_pos (bz hb)];exact hb,wE⟩
  have Hs:(bI.pull m').le bg:=⟨fun b l hb=>by
   show(if b<σ.next then ρ b else(m' b).bind bI.at')=some l
   by_cases Oo:b<σ.next
   ·obtain⟨c,hc,_⟩:=Ren.px hb
    rw[LO b Oo] at hc;cases hc
   ·rw[if_neg Oo];exact hb,fun c o x h=>h⟩
  have AR:∀ {i k l},σ.heap.get i=some k→(∀j k',σ₀.heap.get j=some k'→m j≠some i)→ρ i=some l→¬Wr (ρ.pull m) σ₀ l.c:=by
   rintro i k l hk mT hl ⟨j,k',l',h1,_,h3,h4⟩
   obtain⟨c,q,e1,e2,_⟩:=hb j k' h1
   have hc:ρ c=some l':=(Ren.dg e1).symm.trans h3
   have:=hr.inj c i q k l' l e2 hk hc hl h4
   subst this
   exact mT j k' h1 e1
  have ft:∀ {i c l},m' i=some c→bg i=some l→bI c=some l∧σ.next≤i:=by
   intro i c l hi hl
   have iy:¬i<σ.next:=fun bz=>by rw[LO i bz] at hi;cases hi
   replace hl:(if i<σ.next then ρ i else(m' i).bind bI.at')=some l:=hl
   rw[if_neg iy,hi] at hl
   exact⟨hl,by omega⟩
  have VT:∀ {i c l},m' i=some c→bI c=some l→bg i=some l:=by
   intro i c l hi hl
   exact Hs i l ((Ren.dg hi).trans hl)
  have kY:∀ {i l},i<σ.next→bg i=some l→ρ i=some l:=by
   intro i l hi hl
   replace hl:(if i<σ.next then ρ i else(m' i).bind bI.at')=some l:=hl
   rw[if_pos hi] at hl;exact hl
  have LP:∀ {i c k' l},m' i=some c→τ.heap.get c=some k'→bg i=some l→l.c<w.heap.size→Wr (ρ.pull m) σ₀ l.c:=by
   intro i c k' l hi hk hl bz
   exact az.wr l.c bz ⟨c,k',l,hk,rfl,(ft hi hl).1,rfl⟩
  have qM:∀ {i k},σ.heap.get i=some k→∃l,ρ i=some l∧i<σ.next∧l.c<w.heap.size:=by
   intro i k hk
   obtain⟨l,hl,_⟩:=hr.cS i k hk
   exact⟨l,hl,bz hl,hr.valid i l hl⟩
  have VU:R bg σ' w':=by
   refine⟨fun i k hk=>?_,fun i j k k' l l' h1 h2 g1 g2 e=>?_,fun i hi=>?_,fun i l hl=>?_,fun c o x hx=>⟨(az.r.aL c o x hx).1,?_⟩,az.r.laid⟩
   ·rcases u9 i k hk with ⟨h1,mT⟩ | ⟨c,k',h1,h2,h4⟩
    ·obtain⟨l,hl,dq⟩:=hr.cS i k h1
     exact⟨l,hle i l hl,dq.same hle (hold l.c (hr.valid i l hl) (AR h1 mT hl))⟩
    ·obtain⟨l,hl,dq⟩:=az.r.cS c k' h2
     exact⟨l,VT h1 hl,cz.same (h4.ok dq) Hs rfl⟩
   ·rcases u9 i k h1 with ⟨a1,Oq⟩ | ⟨c,q,a1,a2,_⟩<;>rcases u9 j k' h2 with ⟨b1,no2⟩ | ⟨d,q',b1,b2,_⟩
    ·obtain⟨_,_,li,_⟩:=qM a1
     obtain⟨_,_,lj,_⟩:=qM b1
     exact hr.inj i j k k' l l' a1 b1 (kY li g1) (kY lj g2) e
    ·obtain⟨_,e1,li,lc⟩:=qM a1
     have gi:=kY li g1
     rw[gi] at e1;cases e1
     exact absurd (by rw[e];exact LP b1 b2 g2 (by rw[←e];exact lc)) (AR a1 Oq gi)
    ·obtain⟨_,e1,lj,lc⟩:=qM b1
     have gj:=kY lj g2
     rw[gj] at e1;cases e1
     exact absurd (by rw[←e];exact LP a1 a2 g1 (by rw[e];exact lc)) (AR b1 no2 gj)
    ·have:=az.r.inj c d q q' l l' a2 b2 (ft a1 g1).1 (ft b1 g2).1 e
     subst this
     exact Zp i j c a1 b1
   ·show(if i<σ.next then ρ i else(m' i).bind bI.at')=none
    rw[if_neg (by omega),R4 i hi];rfl
   ·by_cases hi:i<σ.next
    ·exact Nat.lt_of_lt_of_le (hr.valid i l (kY hi hl)) az.size
    ·replace hl:(if i<σ.next then ρ i else(m' i).bind bI.at')=some l:=hl
     rw[if_neg hi] at hl
     obtain⟨c,_,hc⟩:=Ren.px (ρ:=bI) (m:=m') hl
     exact az.r.valid c l hc
   ·rintro⟨i,k,l,h1,_,hl,rfl⟩
    rcases u9 i k h1 with ⟨a1,Oq⟩ | ⟨c,q,a1,a2,_⟩
    ·obtain⟨_,e1,li,lc⟩:=qM a1
     have gi:=kY li hl
     rw[gi] at e1;cases e1
     rcases az.gq l.c o x hx with h5 | h5 | h5
     ·exact(hr.aL l.c o x h5).2 ⟨i,k,l,a1,rfl,gi,rfl⟩
     ·omega
     ·exact AR a1 Oq gi h5
    ·exact(az.r.aL l.c o x hx).2 ⟨c,q,l,a2,rfl,(ft a1 hl).1,rfl⟩
  refine⟨v',σ',bg,x,h3,rfl,aq.mono Hs (lV.rel lE),⟨VU,hle,hn,fun b l hb=>?_,az.size,az.os,az.tape,az.output,fun c hc hnw=>hold c hc fun hw=>hnw (AQ hw),fun c hc hw=>?_,fun b k hb=>?_,fun c o x hx=>?_⟩⟩
  ·by_cases Oo:b<σ.next
   ·exact .inl (kY Oo hb)
   ·exact .inr (.inl (by omega))
  ·obtain⟨i,k,l,h1,_,hl,rfl⟩:=hw
   rcases u9 i k h1 with ⟨a1,Oq⟩ | ⟨c',q,a1,a2,_⟩
   ·obtain⟨_,_,li,_⟩:=qM a1
    exact⟨i,k,l,a1,rfl,kY li hl,rfl⟩
   ·exact AQ (LP a1 a2 hl hc)
  ·rcases u9 b k hb with ⟨a1,_⟩ | ⟨c',q,a1,a2,_⟩
   ·exact .inl ⟨k,a1⟩
   ·refine .inr (.inl (Nat.le_of_not_lt fun bz=>?_))
    rw[LO b bz] at a1;cases a1
  ·rcases az.gq c o x hx with h5 | h5 | h5
   ·exact .inl h5
   ·exact .inr (.inl h5)
   ·exact .inr (.inr (AQ h5))
omit [Env] in
theorem pB (σ:St) (id:Nat) (k:bR):(σ.new id k).next=max σ.next (id+1):=DI _ _
def pC (esz:Nat) (v:V) (τ:St) (n:Nat) (g:Nat→V):Prop:=
 ∃b k,τ.heap.get b=some k∧∀(m:Nat→Option Nat) (i:Nat),m i=some b→eB m (.own i n esz) v∧eZ m (.row n g esz false) k
theorem pC.own {esz b n:Nat} {g:Nat→V} {p:Bool} {τ:St} (hb:τ.heap.get b=some (.row n g esz p)) (hc:∀i,i<n→∀u∈(g i).cells,Clean u):pC esz (.own b n esz) τ n g:=
 ⟨b,_,hb,fun _ _ hm=>⟨.own hm,.row (fun h=>by cases h) fun i hi=>eE.clean (hc i hi)⟩⟩
theorem pC.slice {esz b n:Nat} {g:Nat→V} {z:List V} {t:Trie V} {p:Bool} {τ:St} (hb:τ.heap.get b=some (.cells (n*esz) z t p false)) (hn:n≠0) (hu:∀i,i<n→(g i).cells.length=esz)
  (hc:∀i,i<n→∀k v,(g i).cells[k]? =some v→cellOf (n*esz) z t (i*esz+k)=some v∧Clean v):pC esz (.slice b 0 n n false esz) τ n g:=
 ⟨b,_,hb,fun _ _ hm=>⟨.G4 hm hn,.uT (fun h=>by cases h) hu fun i hi k v hv=>⟨v,(hc i hi k v hv).1,.clean (hc i hi k v hv).2⟩⟩⟩
def eD (esz:Nat) (A:Nat→(Nat→V)→Prop) (v:V) (τ:St):Prop:=∃n g,pC esz v τ n g∧A n g
theorem R5 {esz:Nat} {A:Nat→(Nat→V)→Prop} {κ:St} {σ₀:St} {m:Nat→Option Nat} {k:ah} (tH:∀i k,κ.heap.get i=some k→σ.heap.get i=some k∧∀j k',σ₀.heap.get j=some k'→m j≠some i) (hn:κ.next=σ.next)
  (hk:∀n g,A n g→k (.own σ.next n esz) (κ.new σ.next (.row n g esz false))):∀v τ,eD esz A v τ→∃(m':Nat→Option Nat) (v':V) (σ':St),eB m' v' v∧σ.next≤σ'.next∧(∀i j c,m' i=some c→m' j=some c→i=j)∧(∀i,σ'.next≤i→m' i=none)∧(∀i,i<σ.next→m' i=none)∧
   (∀i k,σ'.heap.get i=some k→(σ.heap.get i=some k∧∀j k',σ₀.heap.get j=some k'→m j≠some i)∨∃c k',m' i=some c∧τ.heap.get c=some k'∧eZ m' k k')∧k v' σ':=by
 rintro v τ ⟨n,g,⟨b,q,hb,hr⟩,hA⟩
 have hr:=hr (fun i=>if i=σ.next then some b else none) σ.next (if_pos rfl)
 refine⟨fun i=>if i=σ.next then some b else none,.own σ.next n esz,κ.new σ.next (.row n g esz false),hr.1,?_,fun i j c h1 h2=>?_,fun i hi=>?_,fun i hi=>if_neg (by omega),fun i k hi=>?_,hk n g hA⟩
 ·rw[pB];omega
 ·by_cases e1:i=σ.next
  ·by_cases e2:j=σ.next
   ·rw[e1,e2]
   ·simp only[if_neg e2] at h2;cases h2
  ·simp only[if_neg e1] at h1;cases h1
 ·rw[pB] at hi
  exact if_neg (by omega)
 ·rw[ia] at hi
  by_cases e:i=σ.next
  ·rw[if_pos e] at hi;cases hi
   exact .inr ⟨b,_,if_pos e,hb,hr.2⟩
  ·rw[if_neg e] at hi
   exact .inl (tH i k hi)
end
end Go.Ev
end
section
namespace Go.Proofs.YtbajncpfmemdgaaGreatDoor
open Go Go.Ev
def vS (n:Nat) (f:Nat→V) (L:List UInt8):Prop:=n=L.length∧∀i,i<n→(f i).cells=[V.int .u8 (aI L i)]
theorem iz {L:List UInt8} {i:Nat} (h:i<L.length):aI L i=(L[i]:UInt8).toNat:=by
 unfold aI
 rw[dz,List.getElem?_eq_getElem h]
theorem vT:∀L:List UInt8,eH (L.map fun c=>V.int .u8 c.toNat)=some L
 | []=>rfl
 | c::L=>by
  show(eH (L.map fun c=>V.int .u8 c.toNat)).map _=_
  rw[vT L]
  show some (UInt8.ofNat ((c.toNat:Nat):Int).toNat::L)=_
  rw[Int.toNat_natCast,UInt8.ofNat_toNat]
theorem sC:∀(es:List V) (us:List V),es.length=us.length→(∀(i:Nat) (v u:V),es[i]? =some v→us[i]? =some u→v.cells=[u])→ar es=us
 | [],[],_,_=>rfl
 | v::es,u::us,hl,h=>by
  rw[bO,h 0 v u rfl rfl,sC es us (by simpa using hl) fun i a b ha hb=>h (i+1) a b ha hb]
  rfl
theorem vS.cells {n:Nat} {f:Nat→V} {L:List UInt8} (h:vS n f L):ar (bY n f)=L.map fun c=>V.int .u8 c.toNat:=by
 refine sC _ _ (by rw[aT,List.length_map];exact h.1) fun i v u hv hu=>?_
 have hi:i<n:=by
  have:=(List.getElem?_eq_some_iff.1 hv).1
  rwa [aT] at this
 rw[c9 hi] at hv
 cases hv
 rw[h.2 i hi]
 have hL:i<L.length:=by rw[←h.1];exact hi
 rw[List.getElem?_map,List.getElem?_eq_getElem hL] at hu
 cases hu
 rw[iz hL]
theorem vS.bytes {n:Nat} {f:Nat→V} {L:List UInt8} (h:vS n f L):eH (ar (bY n f))=some L:=by rw[h.cells,vT]
def byteOf (x:Int):UInt8:=UInt8.ofNat x.toNat
theorem ud {x:Int} (h0:0≤x) (h1:x<256):((byteOf x).toNat:Int)=x:=by
 unfold byteOf
 rw[UInt8.toNat_ofNat']
 omega
theorem vS.one {g:Nat→V} {x:Int} (h0:0≤x) (h1:x<256) (hg:(g 0).cells=[V.int .u8 x]):vS 1 g [byteOf x]:=
 ⟨rfl,fun i hi=>by
  obtain rfl:i=0:=by omega
  rw[hg,iz (by simp)]
  show _=[V.int .u8 ((byteOf x).toNat:Int)]
  rw[ud h0 h1]⟩
theorem n0 (n:Nat) (f g:Nat→V) (j:Nat):dU n f g j=if j<n then f j else g (j-n):=by
 have e:dU n f g j=Bool.rec (g (j-n)) (f j) (Nat.blt j n):=rfl
 rw[e]
 by_cases h:j<n
 ·rw[if_pos h,show Nat.blt j n=true from Nat.ble_eq_true_of_le h]
 ·rw[if_neg h]
  have:Nat.blt j n=false:=by
   cases hb:Nat.blt j n with
   | false=>rfl
   | true=>exact absurd (Nat.le_of_ble_eq_true hb) h
  rw[this]
theorem rZ {L M:List UInt8} {i:Nat} (h:i<L.length):aI (L++M) i=aI L i:=by
 rw[iz (by rw[List.length_append];omega),iz h,List.getElem_append_left h]
theorem vU {L M:List UInt8} {i:Nat} (h:L.length≤i) (h2:i<L.length+M.length):aI (L++M) i=aI M (i-L.length):=by
 rw[iz (by rw[List.length_append];omega),iz (by omega),List.getElem_append_right h]
theorem vS.append {n m:Nat} {f g:Nat→V} {L M:List UInt8} (h:vS n f L) (k:vS m g M):vS (n+m) (dU n f g) (L++M):=by
 refine⟨by rw[List.length_append,h.1,k.1],fun i hi=>?_⟩
 have hl:=h.1
 have km:=k.1
 rw[n0]
 by_cases dy:i<n
 ·rw[if_pos dy,h.2 i dy,rZ (by omega)]
 ·rw[if_neg dy,k.2 (i-n) (by omega),vU (by omega) (by omega),←hl]
end Go.Proofs.YtbajncpfmemdgaaGreatDoor
end
section
namespace Go.Proofs.YtbajncpfmemdgaaGreatDoor
open Go Go.Ev Go.IntWalk
section
variable [Env] {vs:List V} {σ:St} {k:ah}
theorem va {n:Nat} {h:Nat→List UInt8} {l:List SV} (hl:∀u∈l,u.clean):∀u∈SV.val (V.arr n (fun i=>V.str (h i)) 1 false false)::l,u.clean:=ax (n4 n h) hl
def Zq (s:List UInt8) (n:Nat) (q:Nat→List UInt8):Nat→List SV→Prop
 | 0,ss=>∃i:Nat,i≤n∧ss=[.val (.str s),.val (.int .i64 (jX s q i)),.val (V.arr n (fun i=>V.str (q i)) 1 false false),.val (.int .i64 ((n:Nat):Int)),.val (.int .i64 i)]
 | _,_=>False
theorem Pj (h:LD vs σ k):ag Tryz.prog 222 vs k σ:=by
 unfold LD at h
 split at h
 ·rename_i s n f
  obtain⟨q,rfl,hn,h⟩:=h
  refine ag.eJ (aA (Go.Ev.Clean.str _) (aA (n4 n q) bm)) (.int _ _) ?_ h
  refine F222.cG (live:=yU) (call:=JN) (n₀:=0) (σ:=Go.Ev.start) (fun h=>J0 h) rfl 1 (by kernel_rfl) Nat.lt_wfRel.wf (fun _ ss=>n-cF ss) (Zq s n q) ?_ ?_ ?_
  ·intro k ss hI
   cases k with
   | zero=>obtain⟨i,_,rfl⟩:=hI;exact oL (aF (va (aF (aF bW))))
   | succ k=>exact hI.elim
  ·rw[Y7]
   exact⟨0,by omega,rfl⟩
  ·intro k hk ss hI
   obtain rfl:k=0:=by omega
   obtain⟨i,hi,rfl⟩:=hI
   have hc:=yZ s q i
   rw[Y8]
   refine⟨rfl,av (fun h1=>⟨⟨by omega,by omega⟩,av (fun h2=>?_) fun h2=>?_⟩) fun h1=>?_⟩
   ·rw[eu] at h2
    rw[i64_in ((i:Int)+1) (by omega),i64_in (jX s q i+1) (by omega)]
    refine⟨⟨i+1,by omega,?_⟩,?_⟩
    ·show _=[_,SV.val (.int .i64 (jX s q i+if q i=s then 1 else 0)),_,_,_]
     rw[if_pos h2];rfl
    ·show n-((i:Int)+1).toNat<n-(i:Int).toNat
     omega
   ·rw[eu] at h2
    rw[i64_in ((i:Int)+1) (by omega)]
    refine⟨⟨i+1,by omega,?_⟩,?_⟩
    ·show _=[_,SV.val (.int .i64 (jX s q i+if q i=s then 1 else 0)),_,_,_]
     rw[if_neg h2,Int.add_zero];rfl
    ·show n-((i:Int)+1).toNat<n-(i:Int).toNat
     omega
   ·obtain rfl:i=n:=by omega
    rfl
 ·exact h.elim
theorem J1:∀ {f:FuncId} {vs:List V} {σ:St} {k:ah},JO f vs σ k→ag Tryz.prog f vs k σ:=fun h=>aR Pj J0 h
def Zr (n:Nat) (q:Nat→List UInt8):Nat→List SV→Prop
 | 0,ss=>∃i:Nat,i≤n∧(∀j,j<i→jX (q j) q n≤1)∧ss=[.val (V.arr n (fun i=>V.str (q i)) 1 false false),.val (V.arr n (fun i=>V.str (q i)) 1 false false),.val (.int .i64 ((n:Nat):Int)),.val (.int .i64 i)]
 | _,_=>False
theorem Pk (h:LF vs σ k):ag Tryz.prog 178 vs k σ:=by
 unfold LF at h
 split at h
 ·rename_i n f
  obtain⟨q,rfl,hn,h⟩:=h
  refine ag.eJ (aA (n4 n q) bm) (.bool _) ?_ h
  refine F178.cG (live:=yV) (call:=JO) (n₀:=0) (σ:=Go.Ev.start) (fun h=>J1 h) rfl 1 (by kernel_rfl) Nat.lt_wfRel.wf (fun _ ss=>n-cF ss) (Zr n q) ?_ ?_ ?_
  ·intro k ss hI
   cases k with
   | zero=>obtain⟨i,_,_,rfl⟩:=hI;exact va (va (aF (aF bW)))
   | succ k=>exact hI.elim
  ·rw[Y9]
   exact⟨0,by omega,fun j hj=>absurd hj (Nat.not_lt_zero j),rfl⟩
  ·intro k hk ss hI
   obtain rfl:k=0:=by omega
   obtain⟨i,hi,hj,rfl⟩:=hI
   rw[Za]
   refine⟨rfl,av (fun h1=>⟨⟨by omega,by omega⟩,q,rfl,hn,rfl,av (fun h2=>?_) fun h2=>?_⟩) fun h1=>?_⟩
   ·rw[eu] at h2
    have:gS q n=false:=by
     cases hu:gS q n with
     | false=>rfl
     | true=>
      obtain⟨a,b,BQ,hb,e1,e2⟩:=(wH (q i) q n).1 h2
      exact absurd (e1.trans e2.symm) ((pA q n).1 hu a b BQ hb)
    rw[this]
   ·rw[eu] at h2
    rw[i64_in ((i:Int)+1) (by omega)]
    refine⟨⟨i+1,by omega,fun j jg=>?_,rfl⟩,?_⟩
    ·by_cases e:j=i
     ·rw[e];omega
     ·exact hj j (by omega)
    ·show n-((i:Int)+1).toNat<n-(i:Int).toNat
     omega
   ·obtain rfl:i=n:=by omega
    have:gS q i=true:=(pA q i).2 fun a b BQ hb e=>by
     have:=hj b hb
     have:=(wH (q b) q i).2 ⟨a,b,BQ,hb,e,rfl⟩
     omega
    rw[this]
 ·exact h.elim
theorem Er:∀ {f:FuncId} {vs:List V} {σ:St} {k:ah},B8 f vs σ k→ag Tryz.prog f vs k σ:=fun h=>aR Pk J1 h
end
end Go.Proofs.YtbajncpfmemdgaaGreatDoor
end
