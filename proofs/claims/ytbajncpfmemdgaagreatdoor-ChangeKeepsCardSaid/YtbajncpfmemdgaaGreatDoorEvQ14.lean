/- Proved: parts of the way: BEq3, BP0, BP1, BP2, BP3, BP4, BP5, BP6, Frame, Byt. -/
import Derived.Test.YtbajncpfmemdgaaGreatDoorEvQ13
import Derived.IntWalk
set_option linter.unusedVariables false
set_option linter.unusedSimpArgs false
section
namespace Go.Proofs.YtbajncpfmemdgaaGreatDoor
open Go Go.Ev
def zy:Nat→List Nat:=(fun i=>match i with | 0=>[3,9,10,11] | _=>[])
theorem aaa [Env] (A:Nat→List SV→Prop) (Q:V→St→Prop) (n:Nat) (g:Nat→aj):WE Tryz.prog 179 Tryz.f179 CL 0 zy A Q [V.arr n (fun i=>aj.enc (g i)) 7 false false] Go.Ev.start=
  (((0≤(((n:Nat):Int))∧(((n:Nat):Int))≤(((n:Nat):Int))∧(((n:Nat):Int)).toNat*16≤1099511627776∧(((n:Nat):Int))≤1099511627776)∧(((((n:Nat):Int)).toNat≤(((n:Nat):Int)).toNat∧(((n:Nat):Int)).toNat*1=(((n:Nat):Int)).toNat*1)∧A 0 [.row ((((n:Nat):Int)).toNat) (fun _=>.agg [.str ([])]) 1,.val (V.arr n (fun i=>aj.enc (g i)) 7 false false),.val (.int .i64 (((n:Nat):Int))),.val (.int .i64 (0:Int))]))):=by kernel_rfl
theorem aab [Env] (A:Nat→List SV→Prop) (Q:V→St→Prop) (n:Nat) (g:Nat→aj) (f:Nat→V) (m i:Int):WL Tryz.prog 179 Tryz.f179 CL 0 zy A Q 0 [.row n f 1,.val (V.arr n (fun i=>aj.enc (g i)) 7 false false),.val (.int .i64 m),.val (.int .i64 i)]=
  (((.i64:IntKind)=.i64∧af (decide (i<m)) (((0≤i∧i<((n:Nat):Int))∧((0≤i∧i<((n:Nat):Int))∧(i.toNat<n∧((n=n∧1=1)∧A 0 [.row n (fq f i.toNat (.str ((g i.toNat).f0))) 1,.val (V.arr n (fun i=>aj.enc (g i)) 7 false false),.val (.int .i64 m),.val (.int .i64 (IntKind.i64.wrap (i+(1:Int))))]))))) (Q (.own 0 n 1) ⟨(St.new Go.Ev.start 0 (.row n f 1 false)).heap,1⟩))):=by kernel_rfl
def Mq [Env] (vs:List V) (σ:St) (k:ah):Prop:=
 match vs with
 | [.arr n f 7 false false]=>∃q:Nat→aj,f=(fun i=>aj.enc (q i))∧n≤1000∧k (.arr n (fun i=>V.str (q i).f0) 1 false false) σ
 | _=>False
def HZ [Env]:=kS 179 Mq CL
def EY:Nat→List Nat:=(fun _=>[])
theorem aac [Env] (A:Nat→List SV→Prop) (Q:V→Prop) (e:aj):WE Tryz.prog 181 Tryz.f181 HZ 0 EY A (fun v _=>Q v) [aj.enc e] Go.Ev.start=
  (Q (.bool e.f2)):=by kernel_rfl
def Mr [Env] (vs:List V) (σ:St) (k:ah):Prop:=
 (∃e:aj,vs=[aj.enc e])∧match vs with
 | [.agg [_,_,.bool b,_,_,_,_]]=>k (.bool b) σ
 | _=>False
def CM [Env]:=kS 181 Mr HZ
def zz:Nat→List Nat:=(fun i=>match i with | 0=>[0,1,7,8] | _=>[])
theorem aad [Env] (A:Nat→List SV→Prop) (Q:V→Prop) (n:Nat) (g:Nat→aj):WE Tryz.prog 223 Tryz.f223 CM 0 zz A (fun v _=>Q v) [V.arr n (fun i=>aj.enc (g i)) 7 false false,.func (.func 181) [] []] Go.Ev.start=
  (A 0 [.val (V.arr n (fun i=>aj.enc (g i)) 7 false false),.val (.func (.func 181) [] []),.val (.int .i64 (((n:Nat):Int))),.val (.int .i64 (0:Int))]):=by kernel_rfl
theorem aae [Env] (A:Nat→List SV→Prop) (Q:V→Prop) (n:Nat) (g:Nat→aj) (m i:Int):WL Tryz.prog 223 Tryz.f223 CM 0 zz A (fun v _=>Q v) 0 [.val (V.arr n (fun i=>aj.enc (g i)) 7 false false),.val (.func (.func 181) [] []),.val (.int .i64 m),.val (.int .i64 i)]=
  (((.i64:IntKind)=.i64∧af (decide (i<m)) (((0≤i∧i<((n:Nat):Int))∧((∃q:aj,[aj.enc (g i.toNat)]=[aj.enc q])∧af ((g i.toNat).f2) (Q (.int .i64 i)) (A 0 [.val (V.arr n (fun i=>aj.enc (g i)) 7 false false),.val (.func (.func 181) [] []),.val (.int .i64 m),.val (.int .i64 (IntKind.i64.wrap (i+(1:Int))))])))) (Q (.int .i64 (-1:Int))))):=by kernel_rfl
def Ms [Env] (vs:List V) (σ:St) (k:ah):Prop:=
 match vs with
 | [.arr n f 7 false false,.func (.func 181) [] []]=>∃q:Nat→aj,f=(fun i=>aj.enc (q i))∧n≤1000∧∀c:Int,(0≤c↔eS q n=true)→k (.int .i64 c) σ
 | _=>False
def H0 [Env]:=kS 223 Ms CM
def EZ:Nat→List Nat:=(fun _=>[])
theorem aaf [Env] (A:Nat→List SV→Prop) (Q:V→Prop) (n:Nat) (g:Nat→aj):WE Tryz.prog 180 Tryz.f180 H0 0 EZ A (fun v _=>Q v) [V.arr n (fun i=>aj.enc (g i)) 7 false false,.func (.func 181) [] []] Go.Ev.start=
  ((∃q:Nat→aj,(fun i=>aj.enc (g i))=(fun i=>aj.enc (q i))∧n≤1000∧∀c:Int,(0≤c↔eS q n=true)→((.i64:IntKind)=.i64∧af (decide (c≥(0:Int))) (Q (.bool true)) (Q (.bool false))))):=by kernel_rfl
def Mt [Env] (vs:List V) (σ:St) (k:ah):Prop:=
 match vs with
 | [.arr n f 7 false false,.func (.func 181) [] []]=>∃q:Nat→aj,f=(fun i=>aj.enc (q i))∧n≤1000∧k (.bool (eS q n)) σ
 | _=>False
def H2 [Env]:=kS 180 Mt H0
def E0:Nat→List Nat:=(fun _=>[])
theorem aag [Env] (A:Nat→List SV→Prop) (Q:V→Prop) (e:aj):WE Tryz.prog 177 Tryz.f177 H2 0 E0 A (fun v _=>Q v) [aj.enc e] Go.Ev.start=
  (((.i64:IntKind)=.i64∧af (decide ((aD e.f0)≠(0:Int))) (Q (.iface 216 (.agg [.int .i64 (aD e.f0)]))) (((.i64:IntKind)=.i64∧af (decide (e.f1<(1:Int))) (Q (.iface 216 (.agg [.int .i64 (5:Int)]))) (((.i64:IntKind)=.i64∧af (decide (e.f1>(5:Int))) (Q (.iface 216 (.agg [.int .i64 (5:Int)]))) (((0≤e.f3.f2∧e.f3.f2<18446744073709551616)∧((.i64:IntKind)=.i64∧af (decide ((bZ ⟨e.f3.f0,e.f3.f1,e.f3.f2,e.f3.f3⟩)≠(0:Int))) (Q (.iface 216 (.agg [.int .i64 (bZ ⟨e.f3.f0,e.f3.f1,e.f3.f2,e.f3.f3⟩)]))) (((.i64:IntKind)=.i64∧af (decide (e.f3.f0≠(0:Int))) (((.i64:IntKind)=.i64∧af (decide (e.f3.f0≠e.f1)) (Q (.iface 216 (.agg [.int .i64 (11:Int)]))) (Q (.aV)))) (Q (.aV))))))))))))):=by kernel_rfl
def Mu [Env] (vs:List V) (σ:St) (k:ah):Prop:=
 ∃e:aj,vs=[aj.enc e]∧tT e∧(bR e=0→k .aV σ)∧(bR e≠0→k (.iface 216 (.agg [.int .i64 (bR e)])) σ)
def CN [Env]:=kS 177 Mu H2
def zA:Nat→List Nat:=(fun i=>match i with | 0=>[1,42,43,44] | _=>[])
theorem aah [Env] (A:Nat→List SV→Prop) (Q:V→Prop) (e:aa):WE Tryz.prog 134 Tryz.f134 CN 0 zA A (fun v _=>Q v) [aa.enc e] Go.Ev.start=
  (((.i64:IntKind)=.i64∧af (decide ((aD e.f0)≠(0:Int))) (Q (.iface 216 (.agg [.int .i64 (aD e.f0)]))) (((.i64:IntKind)=.i64∧af (decide ((((e.f2.length:Nat):Int))<(1:Int))) (Q (.iface 216 (.agg [.int .i64 (2:Int)]))) (((.i64:IntKind)=.i64∧af (decide ((((e.f2.length:Nat):Int))>(8:Int))) (Q (.iface 216 (.agg [.int .i64 (2:Int)]))) (((.i64:IntKind)=.i64∧af (decide (e.f1<(1:Int))) (Q (.iface 216 (.agg [.int .i64 (1:Int)]))) (((.i64:IntKind)=.i64∧af (decide (e.f1>((if (((e.f2.length:Nat):Int))<(3:Int) then(((e.f2.length:Nat):Int)) else(3:Int))))) (Q (.iface 216 (.agg [.int .i64 (1:Int)]))) (A 0 [.box [.str e.f0,.int .i64 e.f1,ae aj.enc 7 e.f2],.val (ae aj.enc 7 e.f2),.val (.int .i64 (((e.f2.length:Nat):Int))),.val (.int .i64 (0:Int))]))))))))))):=by kernel_rfl
theorem aai [Env] (A:Nat→List SV→Prop) (Q:V→Prop) (e:aa) (m i:Int):WL Tryz.prog 134 Tryz.f134 CN 0 zA A (fun v _=>Q v) 0 [.box [.str e.f0,.int .i64 e.f1,ae aj.enc 7 e.f2],.val (ae aj.enc 7 e.f2),.val (.int .i64 m),.val (.int .i64 i)]=
  (((.i64:IntKind)=.i64∧af (decide (i<m)) (((0≤i∧i<((e.f2.length:Nat):Int))∧(∃q5:aj,[.agg [.str ((e.f2.getD i.toNat default).f0),.int .i64 ((e.f2.getD i.toNat default).f1),.bool (e.f2.getD i.toNat default).f2,.int .i64 ((e.f2.getD i.toNat default).f3.f0),.int .i64 ((e.f2.getD i.toNat default).f3.f1),.int .u64 ((e.f2.getD i.toNat default).f3.f2),.str ((e.f2.getD i.toNat default).f3.f3)]]=[aj.enc q5]∧tT q5∧(bR q5=0→A 0 [.box [.str e.f0,.int .i64 e.f1,ae aj.enc 7 e.f2],.val (ae aj.enc 7 e.f2),.val (.int .i64 m),.val (.int .i64 (IntKind.i64.wrap (i+(1:Int))))])∧(bR q5≠0→Q (.iface 216 (.agg [.int .i64 (bR q5)])))))) ((∃q6:Nat→aj,(fun i=>aj.enc (e.f2.getD i default))=(fun i=>aj.enc (q6 i))∧e.f2.length≤1000∧(∃q7:Nat→List UInt8,(fun i=>V.str ((fun i=>(q6 i).f0) i))=(fun i=>V.str (q7 i))∧e.f2.length≤1000000∧af ((!(gX q7 e.f2.length))) (Q (.iface 216 (.agg [.int .i64 (12:Int)]))) (((0≤(0:Int)∧(0:Int)≤e.f1∧e.f1≤((e.f2.length:Nat):Int)∧((e.f2.length:Nat):Int)≤((e.f2.length:Nat):Int))∧(∃q:Nat→aj,(fun i=>aj.enc ((fun i=>e.f2.getD (Nat.add (0:Int).toNat i) default) i))=(fun i=>aj.enc (q i))∧e.f1.toNat-(0:Int).toNat≤1000∧af ((eS q (e.f1.toNat-(0:Int).toNat))) (Q (.iface 216 (.agg [.int .i64 (11:Int)]))) (Q (.aV)))))))))):=by kernel_rfl
def Mv [Env] (vs:List V) (σ:St) (k:ah):Prop:=
 ∃e:aa,vs=[aa.enc e]∧gH e∧(bu e=0→k .aV σ)∧(bu e≠0→k (.iface 216 (.agg [.int .i64 (bu e)])) σ)
def SJ [Env]:=kS 134 Mv CN
def Mw [Env] (vs:List V) (σ:St) (k:ah):Prop:=
 match vs with
 | [.aV]=>k (.int .i64 0) σ
 | [.iface 216 (.agg [.int .i64 n])]=>k (.int .i64 n) σ
 | _=>False
def H3 [Env]:=kS 133 Mw SJ
def Kt:Nat→List Nat:=(fun _=>[])
theorem e81 [Env] (A:Nat→List SV→Prop) (Q:V→Prop) (e:aa):WE Tryz.prog 81 Tryz.f81 H3 0 Kt A (fun v _=>Q v) [aa.enc e] Go.Ev.start=
  ((∃q8:aa,[.agg [.str e.f0,.int .i64 e.f1,ae aj.enc 7 e.f2]]=[aa.enc q8]∧gH q8∧(bu q8=0→Q (.int .i64 (0:Int)))∧(bu q8≠0→Q (.int .i64 (bu q8))))):=by kernel_rfl
def SK [Env] (vs:List V) (σ:St) (k:ah):Prop:=
 ∃e:aa,vs=[aa.enc e]∧gH e∧k (.int .i64 (bu e)) σ
def H4 [Env]:=kS 81 SK H3
end Go.Proofs.YtbajncpfmemdgaaGreatDoor
end
section
namespace Go.Proofs.YtbajncpfmemdgaaGreatDoor
open Go Go.Ev Go.IntWalk
instance adM:Go.Ev.eJ Tryz.prog:=⟨by kernel_rfl⟩
section
variable [Env]
def dG (v:V):Prop:=∀(ρ ρ':Ren) (x:Value),aq ρ v x→aq ρ' v x
theorem dG.int (k:IntKind) (n:Int):dG (.int k n):=fun _ _ _ h=>by cases h;exact .int _ _
theorem dG.bool (b:Bool):dG (.bool b):=fun _ _ _ h=>by cases h;exact .bool _
theorem dG.str (s:List UInt8):dG (.str s):=fun _ _ _ h=>by cases h;exact .str _
theorem dG.aV:dG .aV:=fun _ _ _ h=>by cases h;exact .aV
theorem Pb {l:List V} (h:∀v∈l,dG v) {ρ ρ':Ren} {xs:List Value} (hx:au ρ l xs):au ρ' l xs:=by
 induction l generalizing xs with
 | nil=>cases hx;exact .nil
 | cons v l ih=>
  cases hx with
  | cons h1 h2=>exact .cons (h v List.mem_cons_self _ _ _ h1) (ih (fun u hu=>h u (List.mem_cons_of_mem _ hu)) h2)
theorem dG.tuple {l:List V} (h:∀v∈l,dG v):dG (.tuple l):=fun _ _ _ hx=>by cases hx with | tuple hx=>exact .tuple (Pb h hx)
theorem dG.agg {l:List V} (h:∀v∈l,dG v):dG (.agg l):=fun _ _ _ hx=>by cases hx with | agg hx=>exact .agg (Pb h hx)
theorem dG.iface {t:TypeId} {v:V} (h:dG v):dG (.iface t v):=fun _ _ _ hx=>by cases hx with | iface hx=>exact .iface (h _ _ _ hx)
theorem ik:∀v∈([]:List V),dG v:=fun _ h=>by cases h
theorem bX {v:V} {l:List V} (h:dG v) (hl:∀u∈l,dG u):∀u∈v::l,dG u:=fun u hu=>by
 rcases List.mem_cons.1 hu with rfl | hu
 ·exact h
 ·exact hl u hu
variable {vs us:List V} {σ:St} {k:ah} {f:FuncId} {P:Program}
theorem ag.aT {A:V→Prop} (hf:bn σ vs us) (hA:∀v,A v→dG v) (h:ag P f us (fun v _=>A v) Go.Ev.start) (hk:∀v,A v→k v σ):ag P f vs k σ:=
 (ag.O3 (Q:=A) hf (fun v hv ρ ρ' x hx=>hA v hv ρ ρ' x hx) h).mono fun v τ ⟨h1,h2⟩=>by subst h2;exact hk v h1
theorem ag.eG {v:V} (hf:bn σ vs us) (hA:dG v) (h:ag P f us (fun u _=>u=v) Go.Ev.start) (hk:k v σ):ag P f vs k σ:=
 ag.aT hf (fun u e=>by rw[e];exact hA) h fun u e=>by rw[e];exact hk
theorem bm:bn σ [] []:=.nil
theorem aA {v:V} {l l':List V} (h:Go.Ev.Clean v) (hl:bn σ l l'):bn σ (v::l) (v::l'):=.cons (.clean h) hl
theorem bM:∀s∈([]:List SV),s.clean:=fun _ h=>by cases h
theorem aw {s:SV} {l:List SV} (h:s.clean) (hl:∀u∈l,u.clean):∀u∈s::l,u.clean:=fun u hu=>by
 rcases List.mem_cons.1 hu with rfl | hu
 ·exact h
 ·exact hl u hu
theorem aE {kd:IntKind} {n:Int} {l:List SV} (hl:∀u∈l,u.clean):∀u∈SV.val (.int kd n)::l,u.clean:=aw (Go.Ev.Clean.int _ _) hl
theorem nw {s:List UInt8} {l:List SV} (hl:∀u∈l,u.clean):∀u∈SV.val (.str s)::l,u.clean:=aw (Go.Ev.Clean.str _) hl
end
theorem av {c:Prop} [Decidable c] {A B:Prop} (h1:c→A) (h2:¬c→B):af (decide c) A B:=af.mk (fun e=>h1 (of_decide_eq_true e)) fun e=>h2 (of_decide_eq_false e)
def cu:List SV→Nat
 | []=>0
 | [.val (.int _ i)]=>i.toNat
 | _::r=>cu r
theorem dU (n:Nat):((n:Nat):Int).toNat=n:=rfl
theorem qi (s:List UInt8) (i:Nat):0≤aH s i∧aH s i<256:=by
 unfold aH
 cases nth s i with
 | none=>exact⟨by decide,by decide⟩
 | some c=>have:=c.toNat_lt;exact⟨by simp,by show(c.toNat:Int)<256;omega⟩
theorem ay.aG [Env] (e:ay):Go.Ev.Clean (ay.enc e):=Go.Ev.Clean.agg e.clean
theorem aj.aG [Env] (e:aj):Go.Ev.Clean (aj.enc e):=Go.Ev.Clean.agg e.clean
theorem aa.aG [Env] (e:aa):Go.Ev.Clean (aa.enc e):=Go.Ev.Clean.agg e.clean
end Go.Proofs.YtbajncpfmemdgaaGreatDoor
end
section
namespace Go.Proofs.YtbajncpfmemdgaaGreatDoor
open Go Go.Ev Go.IntWalk
theorem F273:bU Tryz.prog 273 Tryz.f273:=.of (by kernel_rfl) (by kernel_rfl)
theorem F260:bU Tryz.prog 260 Tryz.f260:=.of (by kernel_rfl) (by kernel_rfl)
theorem F235:bU Tryz.prog 235 Tryz.f235:=.of (by kernel_rfl) (by kernel_rfl)
theorem F195:bU Tryz.prog 195 Tryz.f195:=.of (by kernel_rfl) (by kernel_rfl)
section
variable [Env] {vs:List V} {σ:St} {k:ah}
theorem Ku:∀ {f:FuncId} {vs:List V} {σ:St} {k:ah},O5 f vs σ k→ag Tryz.prog f vs k σ:=fun h=>h.elim
def SL (c:Int) (v:V):Prop:=∃r:Int,v=.tuple [.int .i64 (iB c),.int .i64 r,.int .u8 (sn c),.int .u8 (so c)]
omit [Env] in
theorem aaj {c a b d:Int} (r:Int) (h1:iB c=a) (h2:sn c=b) (h3:so c=d):SL c (.tuple [.int .i64 a,.int .i64 r,.int .u8 b,.int .u8 d]):=⟨r,by rw[h1,h2,h3]⟩
theorem PV (h:Mg vs σ k):ag Tryz.prog 273 vs k σ:=by
 unfold Mg at h
 split at h
 ·rename_i c
  obtain⟨hc,h⟩:=h
  refine ag.aT (A:=SL c) (aA (Go.Ev.Clean.int _ _) bm) (fun v hv=>by obtain⟨r,rfl⟩:=hv;exact .tuple (bX (.int _ _) (bX (.int _ _) (bX (.int _ _) (bX (.int _ _) ik)))))
   (F273.flat (live:=ES) (call:=O5) (n₀:=0) (σ:=Go.Ev.start) (fun h=>Ku h) rfl (by kernel_rfl) ?_) fun v hv=>by obtain⟨r,rfl⟩:=hv;exact h r
  rw[ZW]
  refine⟨rfl,av (fun h1=>?_) fun h1=>⟨rfl,av (fun h2=>?_) fun h2=>⟨rfl,av (fun h3=>?_) fun h3=>⟨rfl,av (fun h4=>?_) fun h4=>⟨rfl,av (fun h5=>?_) fun h5=>⟨rfl,av (fun h6=>?_) fun h6=>⟨rfl,av (fun h7=>?_) fun h7=>⟨rfl,av (fun h8=>?_) fun h8=>⟨rfl,av (fun h9=>?_) fun h9=>?_⟩⟩⟩⟩⟩⟩⟩⟩⟩
  all_goals (refine aaj _ ?_ ?_ ?_)
  all_goals first
   | (unfold iB;(repeat' split)<;>omega)
   | (unfold sn;(repeat' split)<;>omega)
   | (unfold so;(repeat' split)<;>omega)
 ·exact h.elim
theorem Kv:∀ {f:FuncId} {vs:List V} {σ:St} {k:ah},Kp f vs σ k→ag Tryz.prog f vs k σ:=fun h=>aP PV Ku h
def tU (s:List UInt8) (v:V):Prop:=(cW s≠0∧∃r:Int,v=.tuple [.int .i64 r,.int .i64 (cW s),.int .i64 0])∨(cW s=0∧∃e:Int,e≠0∧v=.tuple [.int .i64 0,.int .i64 0,.int .i64 e])
theorem tU.gb (s:List UInt8):∀v,tU s v→dG v:=fun v hv=>by
 rcases hv with ⟨_,r,rfl⟩ | ⟨_,e,_,rfl⟩<;>exact .tuple (bX (.int _ _) (bX (.int _ _) (bX (.int _ _) ik)))
omit [Env] in
theorem tU.bad {s:List UInt8} {e:Int} (h:cW s=0) (he:e≠0):tU s (.tuple [.int .i64 0,.int .i64 0,.int .i64 e]):=.inr ⟨h,e,he,rfl⟩
omit [Env] in
theorem tU.CO {s:List UInt8} {r w:Int} (h:cW s=w) (hw:w≠0):tU s (.tuple [.int .i64 r,.int .i64 w,.int .i64 0]):=.inl ⟨by rw[h];exact hw,r,by rw[h]⟩
omit [Env] in
theorem tV (c:Int):0≤iB c∧iB c≤4:=by unfold iB;(repeat' split)<;>omega
omit [Env] in
theorem sq {s:List UInt8} (h:s.length≠0):cW s=if mY s (sn (aH s 0)) (so (aH s 0)) ((iB (aH s 0)).toNat-1) 1=true then iB (aH s 0) else 0:=by unfold cW;rw[if_neg h]
omit [Env] in
theorem yw (s:List UInt8) (lo hi:Int) (m i:Nat):mY s lo hi (m+1) i=(decide (i<s.length∧lo≤aH s i∧aH s i≤hi)&&mY s 128 191 m (i+1)):=rfl
def aak (s:List UInt8):Nat→List SV→Prop
 | 0,ss=>∃(r lo hi:Int) (i:Nat),s.length≠0∧1≤i∧(i:Int)≤iB (aH s 0)∧mY s (sn (aH s 0)) (so (aH s 0)) ((iB (aH s 0)).toNat-1) 1=mY s lo hi ((iB (aH s 0)).toNat-i) i∧
   ss=[.val (.str s),.val (.int .i64 (iB (aH s 0))),.val (.int .i64 r),.val (.int .u8 lo),.val (.int .u8 hi),.val (.int .i64 0),.val (.int .i64 i)]
 | _,_=>False
theorem PW (h:Mh vs σ k):ag Tryz.prog 260 vs k σ:=by
 unfold Mh at h
 split at h
 ·rename_i s
  refine ag.aT (A:=tU s) (aA (Go.Ev.Clean.str _) bm) (tU.gb s)
   (F260.cx (live:=zt) (call:=Kp) (n₀:=0) (σ:=Go.Ev.start) (fun h=>Kv h) rfl 1 (by kernel_rfl) Nat.lt_wfRel.wf (fun _ ss=>5-cu ss) (aak s) ?_ ?_ ?_) fun v hv=>by
    rcases hv with ⟨h0,r,rfl⟩ | ⟨h0,e,he,rfl⟩
    ·exact h.1 h0 r
    ·exact h.2 h0 e he
  ·intro k ss hI
   cases k with
   | zero=>obtain⟨r,lo,hi,i,_,_,_,_,rfl⟩:=hI;exact nw (aE (aE (aE (aE (aE (aE bM))))))
   | succ k=>exact hI.elim
  ·rw[ZX]
   have hb:=qi s 0
   have hw:=tV (aH s 0)
   refine av (fun h0=>.bad (by rw[h0];rfl) (by decide)) fun h0=>?_
   have hl:s.length≠0:=fun e=>h0 (List.eq_nil_of_length_eq_zero e)
   refine⟨⟨by decide,by rw[bc];omega⟩,hb,fun r=>⟨rfl,av (fun h1=>.bad ?_ (by decide)) fun h1=>?_⟩⟩
   ·rw[sq hl]
    have h1:iB (aH s 0)=0:=h1
    rw[h1];split<;>rfl
   ·have h1:iB (aH s 0)≠0:=h1
    exact⟨r,_,_,1,hl,by omega,by omega,rfl,rfl⟩
  ·intro k hk ss hI
   obtain rfl:k=0:=by omega
   obtain⟨r,lo,hi,i,hl,h1,h2,hc,rfl⟩:=hI
   have hw:=tV (aH s 0)
   rw[ZY]
   refine⟨rfl,av (fun h3=>?_) fun h3=>?_⟩
   ·obtain⟨m,hm⟩:∃m,(iB (aH s 0)).toNat-i=m+1:=⟨(iB (aH s 0)).toNat-i-1,by omega⟩
    rw[hm,yw] at hc
    have bad:¬(i<s.length∧lo≤aH s i∧aH s i≤hi)→cW s=0:=fun hn=>by
     rw[sq hl,hc,decide_eq_false hn,Bool.false_and,if_neg (by simp)]
    refine⟨rfl,av (fun h4=>⟨rfl,.bad (bad fun hh=>?_) (by decide)⟩) fun h4=>?_⟩
    ·rw[bc] at h4;omega
    ·rw[bc] at h4
     have eR:(0≤(i:Int)∧(i:Int)<((len s:Nat):Int)):=⟨by omega,by rw[bc];omega⟩
     refine⟨eR,rfl,av (fun h5=>⟨rfl,.bad (bad fun hh=>?_) (by decide)⟩) fun h5=>⟨eR,rfl,av (fun h6=>⟨rfl,.bad (bad fun hh=>?_) (by decide)⟩) fun h6=>⟨by decide,eR,?_⟩⟩⟩
     ·have h5:aH s i<lo:=h5
      omega
     ·have h6:aH s i>hi:=h6
      omega
     ·have h5:¬aH s i<lo:=h5
      have h6:¬aH s i>hi:=h6
      have gB:mY s (sn (aH s 0)) (so (aH s 0)) ((iB (aH s 0)).toNat-1) 1=mY s 128 191 ((iB (aH s 0)).toNat-(i+1)) (i+1):=by
       rw[hc,decide_eq_true ⟨by omega,by omega,by omega⟩,Bool.true_and,show(iB (aH s 0)).toNat-(i+1)=m by omega]
      rw[i64_in ((i:Int)+1) (by omega)]
      refine⟨⟨_,128,191,i+1,hl,by omega,by omega,gB,rfl⟩,?_⟩
      show 5-((i:Int)+1).toNat<5-(i:Int).toNat
      omega
   ·refine⟨rfl,.CO ?_ (by omega)⟩
    rw[sq hl,hc,show(iB (aH s 0)).toNat-i=0 by omega]
    rfl
 ·exact h.elim
theorem Kw:∀ {f:FuncId} {vs:List V} {σ:St} {k:ah},Kq f vs σ k→ag Tryz.prog f vs k σ:=fun h=>aP PW Kv h
omit [Env] in
theorem xa (s:List UInt8):0≤cW s∧cW s≤s.length∧cW s≤4:=by
 have hw:=tV (aH s 0)
 by_cases h:s.length=0
 ·unfold cW;rw[if_pos h];omega
 ·rw[sq h]
  split
  ·rename_i hc
   have key:∀(m i:Nat) (lo hi:Int),mY s lo hi m i=true→m=0∨i+m≤s.length:=by
    intro m
    induction m with
    | zero=>intro i lo hi _;exact .inl rfl
    | succ m ih=>
     intro i lo hi hh
     rw[yw,Bool.and_eq_true] at hh
     have h1:=of_decide_eq_true hh.1
     rcases ih _ _ _ hh.2 with h2 | h2
     ·right;omega
     ·right;omega
   rcases key _ _ _ _ hc with h1 | h1<;>omega
  ·omega
omit [Env] in
theorem Kx {n:Nat} {s:List UInt8} (h:s.length≤n) (h0:s.length≠0) (hn:cW s=0):eU n s=false:=by
 cases n with
 | zero=>omega
 | succ n=>show(if _ then _ else if _ then _ else _)=_;rw[if_neg h0,if_pos hn]
omit [Env] in
theorem Ky:∀ {n m:Nat} {s:List UInt8},s.length≤n→s.length≤m→eU n s=eU m s:=by
 intro n
 induction n with
 | zero=>
  intro m s h1 h2
  have h0:s.length=0:=by omega
  cases m with
  | zero=>rfl
  | succ m=>show decide _=if _ then _ else _;rw[if_pos h0,decide_eq_true h0]
 | succ n ih=>
  intro m s h1 h2
  by_cases h0:s.length=0
  ·cases m with
   | zero=>show(if _ then _ else _)=decide _;rw[if_pos h0,decide_eq_true h0]
   | succ m=>show(if _ then _ else _)=if _ then _ else _;rw[if_pos h0,if_pos h0]
  ·cases m with
   | zero=>omega
   | succ m=>
    show(if _ then _ else if _ then _ else _)=if _ then _ else if _ then _ else _
    rw[if_neg h0,if_neg h0]
    by_cases hn:cW s=0
    ·rw[if_pos hn,if_pos hn]
    ·rw[if_neg hn,if_neg hn]
     have:=xa s
     exact ih (by rw[List.length_drop];omega) (by rw[List.length_drop];omega)
omit [Env] in
theorem Kz {s:List UInt8} (h0:s.length≠0) (hn:cW s≠0):eU s.length s=eU (s.drop (cW s).toNat).length (s.drop (cW s).toNat):=by
 have:=xa s
 obtain⟨m,hm⟩:∃m,s.length=m+1:=⟨s.length-1,by omega⟩
 have e:eU s.length s=eU m (s.drop (cW s).toNat):=by
  rw[hm]
  show(if _ then _ else if _ then _ else _)=_
  rw[if_neg h0,if_neg hn]
 rw[e]
 exact Ky (by rw[List.length_drop];omega) (Nat.le_refl _)
def aal (s:List UInt8) (v:V):Prop:=∃c:Int,(0≤c↔eU s.length s=true)∧v=.int .i64 c
def aam (s:List UInt8):Nat→List SV→Prop
 | 0,ss=>∃(t:List UInt8) (i:Int),0≤i∧i+t.length≤64∧eU s.length s=eU t.length t∧ss=[.val (.str t),.val (.int .i64 i)]
 | _,_=>False
def SM:List SV→Nat
 | .val (.str s)::_=>s.length
 | _=>0
theorem PX (h:Mi vs σ k):ag Tryz.prog 235 vs k σ:=by
 unfold Mi at h
 split at h
 ·rename_i s
  obtain⟨hs,h⟩:=h
  refine ag.aT (A:=aal s) (aA (Go.Ev.Clean.str _) bm) (fun v hv=>by obtain⟨c,_,rfl⟩:=hv;exact .int _ _)
   (F235.cx (live:=zu) (call:=Kq) (n₀:=0) (σ:=Go.Ev.start) (fun h=>Kw h) rfl 1 (by kernel_rfl) Nat.lt_wfRel.wf (fun _ ss=>SM ss) (aam s) ?_ ?_ ?_) fun v hv=>by obtain⟨c,hc,rfl⟩:=hv;exact h c hc
  ·intro k ss hI
   cases k with
   | zero=>obtain⟨t,i,_,_,_,rfl⟩:=hI;exact nw (aE bM)
   | succ k=>exact hI.elim
  ·rw[ZZ]
   exact⟨s,0,by omega,by omega,rfl,rfl⟩
  ·intro k hk ss hI
   obtain rfl:k=0:=by omega
   obtain⟨t,i,h0,h1,he,rfl⟩:=hI
   rw[Z0]
   refine av (fun ht=>?_) fun ht=>?_
   ·have e8:t.length≠0:=fun e=>ht (List.eq_nil_of_length_eq_zero e)
    have hn:=xa t
    refine⟨fun bQ r=>⟨rfl,⟨hn.1,by rw[bc];omega,by omega⟩,?_⟩,fun hz e bQ=>⟨rfl,av (fun _=>?_) fun hh=>absurd bQ hh⟩⟩
    ·have hd:dq (cW t).toNat (dB t ((len t:Nat):Int).toNat)=t.drop (cW t).toNat:=by
      rw[ew,eP,bc,Int.toNat_natCast,List.take_length]
     rw[hd,i64_in (i+1) (by omega)]
     refine⟨⟨_,i+1,by omega,?_,?_,rfl⟩,?_⟩
     ·rw[List.length_drop];omega
     ·rw[he];exact Kz e8 bQ
     ·show(t.drop (cW t).toNat).length<t.length
      rw[List.length_drop];omega
    ·refine⟨-1,⟨fun h=>by omega,fun h=>?_⟩,rfl⟩
     rw[he,Kx (Nat.le_refl _) e8 hz] at h;cases h
   ·have ht:t=[]:=Decidable.not_not.1 ht
    subst ht
    exact⟨i,⟨fun _=>by rw[he];rfl,fun _=>h0⟩,rfl⟩
 ·exact h.elim
theorem KA:∀ {f:FuncId} {vs:List V} {σ:St} {k:ah},O6 f vs σ k→ag Tryz.prog f vs k σ:=fun h=>aP PX Kw h
theorem PY (h:Mj vs σ k):ag Tryz.prog 195 vs k σ:=by
 unfold Mj at h
 split at h
 ·rename_i s
  obtain⟨hs,h⟩:=h
  refine ag.eG (aA (Go.Ev.Clean.str _) bm) (.bool _) (F195.flat (live:=ET) (call:=O6) (n₀:=0) (σ:=Go.Ev.start) (fun h=>KA h) rfl (by kernel_rfl) ?_) h
  rw[Z1]
  refine⟨hs,fun c hc=>⟨rfl,av (fun h1=>?_) fun h1=>?_⟩⟩
  ·rw[hc.1 h1]
  ·have:eU s.length s=false:=by
    cases hb:eU s.length s with
    | false=>rfl
    | true=>exact absurd (hc.2 hb) h1
   rw[this]
 ·exact h.elim
theorem KB:∀ {f:FuncId} {vs:List V} {σ:St} {k:ah},O7 f vs σ k→ag Tryz.prog f vs k σ:=fun h=>aP PY KA h
end
end Go.Proofs.YtbajncpfmemdgaaGreatDoor
end
section
namespace Go.Proofs.YtbajncpfmemdgaaGreatDoor
open Go Go.Ev Go.IntWalk
section
variable [Env] {vs:List V} {σ:St} {k:ah}
end
end Go.Proofs.YtbajncpfmemdgaaGreatDoor
end
section
namespace Go.Proofs.YtbajncpfmemdgaaGreatDoor
open Go Go.Ev Go.IntWalk
section
variable [Env] {vs:List V} {σ:St} {k:ah}
end
end Go.Proofs.YtbajncpfmemdgaaGreatDoor
end
section
namespace Go.Proofs.YtbajncpfmemdgaaGreatDoor
open Go Go.Ev Go.IntWalk
theorem F194:bU Tryz.prog 194 Tryz.f194:=.of (by kernel_rfl) (by kernel_rfl)
theorem wrap_u64 (n:Int):IntKind.u64.wrap n=n%18446744073709551616:=by
 unfold IntKind.wrap
 show(if (false&&_)=true then _ else _)=_
 rfl
theorem H5 (x:Nat):(FloatKind.f64.format.order x x != some .eq)=decide (9218868437227405312<x%9223372036854775808):=by
 show((Ieee.double.read x).order (Ieee.double.read x) != some .eq)=_
 have h1:Ieee.double.signWeight=9223372036854775808:=by decide
 have h2:Ieee.double.binade=4503599627370496:=by decide
 have h3:Ieee.double.infRung=9218868437227405312:=by decide
 have num:∀(s:Bool) (m:Nat) (i:Int),((Ieee.Datum.number s m i).order (.number s m i) != some .eq)=false:=by
  intro s m i
  show(some (compare _ _) != some .eq)=false
  rw[show ∀a:Int,compare a a=.eq from fun a=>by simp [compare,compareOfLessAndEq]]
  rfl
 unfold Ieee.Format.read
 rw[h1,h2,h3]
 dsimp only
 split
 ·rw[num,decide_eq_false (by omega)]
 ·split
  ·rw[num,decide_eq_false (by omega)]
  ·split
   ·rw[decide_eq_false (by omega)]
    show(some (compare _ _) != some .eq)=false
    rw[show ∀a:Nat,compare a a=.eq from fun a=>by simp [compare,compareOfLessAndEq]]
    rfl
   ·rw[decide_eq_true (by omega)];rfl
theorem E3 (x:Int) (h:0≤x∧x<18446744073709551616):CI x↔9218868437227405312<x.toNat%9223372036854775808:=by
 unfold CI HW O4
 omega
section
variable [Env] {vs:List V} {σ:St} {k:ah}
theorem PZ (h:Mk vs σ k):ag Tryz.prog 194 vs k σ:=by
 unfold Mk at h
 split at h
 ·rename_i x
  obtain⟨hx,h⟩:=h
  refine ag.eG (aA (Go.Ev.Clean.int _ _) bm) (.int _ _) (F194.flat (live:=EU) (call:=O7) (n₀:=0) (σ:=Go.Ev.start) (fun h=>KB h) rfl (by kernel_rfl) ?_) h
  rw[Z2,H5]
  unfold dR
  refine av (fun h1=>?_) fun h1=>?_
  ·rw[if_pos ((E3 x hx).2 h1)]
  ·rw[if_neg fun hh=>h1 ((E3 x hx).1 hh)]
 ·exact h.elim
theorem KC:∀ {f:FuncId} {vs:List V} {σ:St} {k:ah},O8 f vs σ k→ag Tryz.prog f vs k σ:=fun h=>aP PZ KB h
end
end Go.Proofs.YtbajncpfmemdgaaGreatDoor
end
section
namespace Go.Proofs.YtbajncpfmemdgaaGreatDoor
open Go Go.Ev Go.IntWalk
theorem F193:bU Tryz.prog 193 Tryz.f193:=.of (by kernel_rfl) (by kernel_rfl)
theorem F148:bU Tryz.prog 148 Tryz.f148:=.of (by kernel_rfl) (by kernel_rfl)
theorem yx:dR 0=0:=by decide
theorem E4 (v:ay):(iS v).f1=v.f1↔(v.f1=0∨v.f0=1∨v.f0=2):=by
 unfold iS;(repeat' split)<;>simp_all<;>omega
theorem E5 (v:ay):(iS v).f2=v.f2↔(v.f2=0∨v.f0=3):=by
 unfold iS;(repeat' split)<;>simp_all<;>omega
theorem E6 (v:ay):(iS v).f3=v.f3↔(v.f3=[]∨v.f0=4∨v.f0=5):=by
 unfold iS
 (repeat' split)
 ·exact⟨fun h=>.inl h.symm,fun h=>by rcases h with h | h | h<;>first | exact h.symm | omega⟩
 ·exact⟨fun h=>.inl h.symm,fun h=>by rcases h with h | h | h<;>first | exact h.symm | omega⟩
 ·rename_i h;exact⟨fun _=>.inr h,fun _=>rfl⟩
 ·exact⟨fun h=>.inl h.symm,fun h=>by rcases h with h | h | h<;>first | exact h.symm | omega⟩
theorem P0 (v:ay):(iS v).f0=v.f0:=by
 unfold iS;(repeat' split)<;>rfl
theorem SN {v:ay} (h:v.f0<0∨v.f0≥6):bZ v=5:=if_pos h
theorem Pc {v:ay} (h:¬(v.f0<0∨v.f0≥6)) (h1:¬jJ v):bZ v=4:=by unfold bZ;rw[if_neg h,if_pos h1]
theorem Yo {v:ay} (h:¬(v.f0<0∨v.f0≥6)) (h1:jJ v) (h2:v.f0=1∧v.f1≠0∧v.f1≠1):bZ v=6:=by unfold bZ;rw[if_neg h,if_neg (fun hh=>hh h1),if_pos h2]
theorem SO {v:ay} (h:¬(v.f0<0∨v.f0≥6)) (h1:jJ v) (h2:¬(v.f0=1∧v.f1≠0∧v.f1≠1)) (h3:dR v.f2≠v.f2):bZ v=4:=by unfold bZ;rw[if_neg h,if_neg (fun hh=>hh h1),if_neg h2,if_pos h3]
theorem Yp {v:ay} (h:¬(v.f0<0∨v.f0≥6)) (h1:jJ v) (h2:¬(v.f0=1∧v.f1≠0∧v.f1≠1)) (h3:dR v.f2=v.f2) (h4:v.f3.length>64):bZ v=2:=by
 unfold bZ;rw[if_neg h,if_neg (fun hh=>hh h1),if_neg h2,if_neg (fun hh=>hh h3),if_pos h4]
theorem Yq {v:ay} (h:¬(v.f0<0∨v.f0≥6)) (h1:jJ v) (h2:¬(v.f0=1∧v.f1≠0∧v.f1≠1)) (h3:dR v.f2=v.f2) (h4:¬v.f3.length>64) (h5:v.f0=5) (h6:eU v.f3.length v.f3=false):bZ v=7:=by
 unfold bZ;rw[if_neg h,if_neg (fun hh=>hh h1),if_neg h2,if_neg (fun hh=>hh h3),if_neg h4,if_pos ⟨h5,h6⟩]
theorem E7 {v:ay} (h:¬(v.f0<0∨v.f0≥6)) (h1:jJ v) (h2:¬(v.f0=1∧v.f1≠0∧v.f1≠1)) (h3:dR v.f2=v.f2) (h4:¬v.f3.length>64) (h5:¬(v.f0=5∧eU v.f3.length v.f3=false)):bZ v=0:=by
 unfold bZ;rw[if_neg h,if_neg (fun hh=>hh h1),if_neg h2,if_neg (fun hh=>hh h3),if_neg h4,if_neg h5]
theorem tW {v:ay} {c:Int} (h:bZ v=c):V.int .i64 c=.int .i64 (bZ v):=by rw[h]
section
variable [Env] {vs:List V} {σ:St} {k:ah}
theorem P1 (h:Ml vs σ k):ag Tryz.prog 193 vs k σ:=by
 unfold Ml at h
 split at h
 ·rename_i a b c s
  have hs:∀e:ay,dG (ay.enc e):=fun e=>.agg (bX (.int _ _) (bX (.int _ _) (bX (.int _ _) (bX (.str _) ik))))
  refine ag.eG (us:=[ay.enc ⟨a,b,c,s⟩]) (aA (ay.aG ⟨a,b,c,s⟩) bm) (hs (iS ⟨a,b,c,s⟩)) (F193.flat (live:=EV) (call:=O8) (n₀:=0) (σ:=Go.Ev.start) (fun h=>KC h) rfl (by kernel_rfl) ?_) h
  rw[Z3]
  unfold iS
  refine⟨rfl,av (fun h1=>?_) fun h1=>⟨rfl,av (fun h2=>?_) fun h2=>⟨rfl,av (fun h3=>?_) fun h3=>⟨rfl,av (fun h4=>?_) fun h4=>⟨rfl,av (fun h5=>?_) fun h5=>?_⟩⟩⟩⟩⟩
  ·rw[if_pos (.inl h1)];rfl
  ·rw[if_pos (.inr h2)];rfl
  ·rw[if_neg (by simp_all),if_pos h3];rfl
  ·rw[if_neg (by simp_all),if_neg h3,if_pos (.inl h4)];rfl
  ·rw[if_neg (by simp_all),if_neg h3,if_pos (.inr h5)];rfl
  ·rw[if_neg (by simp_all),if_neg h3,if_neg (by simp_all)];rfl
 ·exact h.elim
theorem KD:∀ {f:FuncId} {vs:List V} {σ:St} {k:ah},O9 f vs σ k→ag Tryz.prog f vs k σ:=fun h=>aP P1 KC h
theorem P2 (h:Mm vs σ k):ag Tryz.prog 148 vs k σ:=by
 unfold Mm at h
 split at h
 ·rename_i a b c s
  obtain⟨hc,h⟩:=h
  refine ag.eG (us:=[ay.enc ⟨a,b,c,s⟩]) (aA (ay.aG ⟨a,b,c,s⟩) bm) (.int _ _) (F148.flat (live:=EW) (call:=O9) (n₀:=0) (σ:=Go.Ev.start) (fun h=>KD h) rfl (by kernel_rfl) ?_) h
  generalize he:(⟨a,b,c,s⟩:ay)=e
  have gB:0≤e.f2∧e.f2<18446744073709551616:=by subst he;exact hc
  have hb:∀ {A:Prop},A→af (V.beq (.agg [.int .i64 e.f0,.int .i64 e.f1,.int .u64 e.f2,.str e.f3]) (.agg [.int .i64 e.f0,.int .i64 e.f1,.int .u64 e.f2,.str e.f3])&&true) A False:=fun hA=>af.mk (fun _=>hA) fun h=>by simp [V.beq,V.gD] at h
  have RO:∀ {A:Prop},A→af (V.beq (.int .u64 e.f2) (.int .u64 e.f2)&&true) A False:=fun hA=>af.mk (fun _=>hA) fun h=>by simp [V.beq] at h
  rw[Z4];unfold Pa
  refine⟨rfl,av (fun h1=>tW (SN (.inl h1))) fun h1=>⟨rfl,av (fun h2=>tW (SN (.inr h2))) fun h2=>hb ?_⟩⟩
  have h0:¬(e.f0<0∨e.f0≥6):=by omega
  refine⟨rfl,av (fun _=>⟨rfl,av (fun a1=>⟨rfl,av (fun a2=>av (fun a3=>?_) fun a3=>?_) fun a2=>?_⟩) fun a1=>?_⟩) fun a0=>absurd (P0 e) a0⟩
  ·have ho:jJ e:=⟨(E4 e).1 a1,(E5 e).1 a2,(E6 e).1 a3⟩
   refine⟨rfl,av (fun k1=>⟨rfl,av (fun k2=>⟨rfl,av (fun k3=>tW (Yo h0 ho ⟨k1,k2,k3⟩)) fun k3=>?_⟩) fun k2=>?_⟩) fun k1=>?_⟩
   all_goals have hk:¬(e.f0=1∧e.f1≠0∧e.f1≠1):=by omega
   all_goals refine⟨gB,RO ⟨rfl,av (fun c1=>tW (SO h0 ho hk c1)) fun c1=>⟨rfl,av (fun c2=>?_) fun c2=>⟨rfl,av (fun c3=>⟨?_,af.mk (fun c4=>?_) fun c4=>?_⟩) fun c3=>?_⟩⟩⟩⟩
   all_goals have c1:=Decidable.not_not.1 c1
   all_goals (rw[bc] at c2)
   all_goals first
    | exact tW (Yp h0 ho hk c1 (by omega))
    | (show e.f3.length≤64;omega)
    | exact tW (Yq h0 ho hk c1 (by omega) c3 (by simpa using c4))
    | exact tW (E7 h0 ho hk c1 (by omega) fun hh=>by rw[hh.2] at c4;cases c4)
    | exact tW (E7 h0 ho hk c1 (by omega) fun hh=>c3 hh.1)
  ·exact tW (Pc h0 fun ho=>a3 ((E6 e).2 ho.2.2))
  ·exact tW (Pc h0 fun ho=>a2 ((E5 e).2 ho.2.1))
  ·exact tW (Pc h0 fun ho=>a1 ((E4 e).2 ho.1))
 ·exact h.elim
theorem CP:∀ {f:FuncId} {vs:List V} {σ:St} {k:ah},EX f vs σ k→ag Tryz.prog f vs k σ:=fun h=>aP P2 KD h
end
end Go.Proofs.YtbajncpfmemdgaaGreatDoor
end
section
namespace Go.Proofs.YtbajncpfmemdgaaGreatDoor
open Go Go.Ev Go.IntWalk
theorem F176:bU Tryz.prog 176 Tryz.f176:=.of (by kernel_rfl) (by kernel_rfl)
theorem F222:bU Tryz.prog 222 Tryz.f222:=.of (by kernel_rfl) (by kernel_rfl)
theorem F178:bU Tryz.prog 178 Tryz.f178:=.of (by kernel_rfl) (by kernel_rfl)
theorem F42:bU Tryz.prog 42 Tryz.f42:=.of (by kernel_rfl) (by kernel_rfl)
def sr (b:Int) (i:Nat):Prop:=(97≤b∧b≤122)∨(i≠0∧((48≤b∧b≤57)∨b=95))
theorem Mx (b:Int) (i:Nat):(HX b||(decide (i≠0)&&HY b))=true↔sr b i:=by
 unfold sr HX HY
 rw[Bool.or_eq_true,Bool.and_eq_true,decide_eq_true_iff,decide_eq_true_iff,decide_eq_true_iff]
theorem tX (s:List UInt8):∀n,Bo s n=true↔∀i,i<n→sr (aH s i) i
 | 0=>⟨fun _ i hi=>absurd hi (Nat.not_lt_zero i),fun _=>rfl⟩
 | n+1=>by
  show(Bo s n&&(HX (aH s n)||(decide (n≠0)&&HY (aH s n))))=true↔_
  rw[Bool.and_eq_true,Mx,tX s n]
  constructor
  ·intro h i hi
   by_cases e:i=n
   ·rw[e];exact h.2
   ·exact h.1 i (by omega)
  ·exact fun h=>⟨fun i hi=>h i (by omega),h n (by omega)⟩
theorem Pd {s:List UInt8} (h:s.length=0∨s.length>16):aD s=8:=if_pos h
theorem SQ {s:List UInt8} {i:Nat} (hi:i<s.length) (h:¬sr (aH s i) i):aD s=8:=by
 by_cases h0:s.length=0∨s.length>16
 ·exact Pd h0
 ·unfold aD
  rw[if_neg h0,if_neg fun hh=>h ((tX s _).1 hh i hi)]
theorem WV {s:List UInt8} (h0:¬(s.length=0∨s.length>16)) (h:∀i,i<s.length→sr (aH s i) i):aD s=0:=by
 unfold aD
 rw[if_neg h0,if_pos ((tX s _).2 h)]
theorem zB (s:List UInt8) (q:Nat→List UInt8):∀n,0≤j7 s q n∧j7 s q n≤n∧(0<j7 s q n↔∃i,i<n∧q i=s)
 | 0=>⟨by show(0:Int)≤0;omega,by show(0:Int)≤0;omega,⟨fun h=>by have h:(0:Int)<0:=h;omega,fun⟨i,hi,_⟩=>absurd hi (Nat.not_lt_zero i)⟩⟩
 | n+1=>by
  obtain⟨h1,h2,h3⟩:=zB s q n
  have e:j7 s q (n+1)=j7 s q n+if q n=s then 1 else 0:=rfl
  rw[e]
  by_cases hq:q n=s
  ·rw[if_pos hq]
   exact⟨by omega,by omega,⟨fun _=>⟨n,by omega,hq⟩,fun _=>by omega⟩⟩
  ·rw[if_neg hq]
   refine⟨by omega,by omega,⟨fun h=>?_,fun⟨i,hi,he⟩=>?_⟩⟩
   ·obtain⟨i,hi,he⟩:=h3.1 (by omega)
    exact⟨i,by omega,he⟩
   ·have:i≠n:=fun e=>hq (by rw[←e];exact he)
    have:=h3.2 ⟨i,by omega,he⟩
    omega
theorem xb (s:List UInt8) (q:Nat→List UInt8):∀n,1<j7 s q n↔∃i j,i<j∧j<n∧q i=s∧q j=s
 | 0=>⟨fun h=>by have h:(1:Int)<0:=h;omega,fun⟨i,j,_,hj,_⟩=>absurd hj (Nat.not_lt_zero j)⟩
 | n+1=>by
  obtain⟨h1,h2,h3⟩:=zB s q n
  have ih:=xb s q n
  have e:j7 s q (n+1)=j7 s q n+if q n=s then 1 else 0:=rfl
  rw[e]
  by_cases hq:q n=s
  ·rw[if_pos hq]
   constructor
   ·intro h
    obtain⟨i,hi,he⟩:=h3.1 (by omega)
    exact⟨i,n,hi,by omega,he,hq⟩
   ·rintro⟨i,j,jH,hj,e1,e2⟩
    have:=h3.2 ⟨i,by omega,e1⟩
    omega
  ·rw[if_neg hq,Int.add_zero,ih]
   constructor
   ·rintro⟨i,j,jH,hj,e1,e2⟩;exact⟨i,j,jH,by omega,e1,e2⟩
   ·rintro⟨i,j,jH,hj,e1,e2⟩
    have:j≠n:=fun e=>hq (by rw[←e];exact e2)
    exact⟨i,j,jH,by omega,e1,e2⟩
theorem iT (s:List UInt8) (q:Nat→List UInt8):∀n,(∀i,i<n→q i≠s)→cd s q n= -1
 | 0,_=>rfl
 | n+1,h=>by
  show(if cd s q n≠ -1 then cd s q n else if q n=s then(n:Int) else -1)= -1
  rw[iT s q n fun i hi=>h i (by omega),if_neg (by decide),if_neg (h n (by omega))]
theorem lW (s:List UInt8) (q:Nat→List UInt8):∀n i,i<n→q i=s→(∀j,j<i→q j≠s)→cd s q n=i
 | 0,i,hi,_,_=>absurd hi (Nat.not_lt_zero i)
 | n+1,i,hi,he,hl=>by
  show(if cd s q n≠ -1 then cd s q n else if q n=s then(n:Int) else -1)=i
  by_cases e:i=n
  ·subst e
   rw[iT s q i hl,if_neg (by decide),if_pos he]
  ·rw[lW s q n i (by omega) he hl,if_pos (by omega)]
theorem hG (s:List UInt8) (q:Nat→List UInt8) (n:Nat):(cd s q n= -1∧∀i,i<n→q i≠s)∨∃i:Nat,cd s q n=i∧i<n∧q i=s∧∀j,j<i→q j≠s:=by
 by_cases h:∃i,i<n∧q i=s
 ·right
  obtain⟨i,hi,he⟩:=h
  induction i using Nat.strongRecOn with
  | _ i ih=>
   by_cases hl:∃j,j<i∧q j=s
   ·obtain⟨j,hj,hej⟩:=hl
    exact ih j hj (by omega) hej
   ·have cF:∀j,j<i→q j≠s:=fun j hj e=>hl ⟨j,hj,e⟩
    exact⟨i,lW s q n i hi he cF,hi,he,cF⟩
 ·left
  have h':∀i,i<n→q i≠s:=fun i hi e=>h ⟨i,hi,e⟩
  exact⟨iT s q n h',h'⟩
theorem pI (q:Nat→List UInt8):∀n,gX q n=true↔∀i j,i<j→j<n→q i≠q j
 | 0=>⟨fun _ i j _ hj=>absurd hj (Nat.not_lt_zero j),fun _=>rfl⟩
 | n+1=>by
  show(gX q n&&decide (cd (q n) q n= -1))=true↔_
  rw[Bool.and_eq_true,pI q n,decide_eq_true_iff]
  constructor
  ·rintro⟨h1,h2⟩ i j jH hj
   by_cases e:j=n
   ·subst e
    rcases hG (q j) q j with ⟨_,h⟩ | ⟨m,hm,_⟩
    ·exact h i jH
    ·rw[h2] at hm;omega
   ·exact h1 i j jH (by omega)
  ·exact fun h=>⟨fun i j jH hj=>h i j jH (by omega),iT _ _ _ fun i hi=>h i n hi (by omega)⟩
section
variable [Env] {vs:List V} {σ:St} {k:ah}
theorem mD (n:Nat) (h:Nat→List UInt8):Go.Ev.Clean (V.arr n (fun i=>V.str (h i)) 1 false false):=
 Go.Ev.Clean.arr fun i _ u hu=>by
  have hu:u∈[V.str (h i)]:=hu
  rw[List.mem_singleton] at hu
  subst hu;exact Go.Ev.Clean.str _
def SR (s:List UInt8):Nat→List SV→Prop
 | 0,ss=>∃i:Nat,i≤s.length∧(∀j,j<i→sr (aH s j) j)∧ss=[.row (len s) (dx s) 1,.val (.int .i64 ((len s:Nat):Int)),.val (.int .i64 i)]
 | _,_=>False
theorem P3 (h:Mn vs σ k):ag Tryz.prog 176 vs k σ:=by
 unfold Mn at h
 split at h
 ·rename_i s
  refine ag.eG (aA (Go.Ev.Clean.str _) bm) (.int _ _) ?_ h
  by_cases h0:s.length=0∨s.length>16
  ·refine F176.cx (live:=vm) (call:=EX) (n₀:=0) (σ:=Go.Ev.start) (fun h=>CP h) rfl 1 (by kernel_rfl) Nat.lt_wfRel.wf (fun _ _=>0) (fun _ _=>False) (fun _ _ h=>h.elim) ?_ fun _ _ _ h=>h.elim
   rw[SE,Pd h0]
   refine av (fun _=>rfl) fun h1=>⟨rfl,av (fun _=>rfl) fun h2=>?_⟩
   rw[bc] at h2
   rcases h0 with h0 | h0
   ·exact absurd (List.eq_nil_of_length_eq_zero h0) h1
   ·omega
  ·refine F176.cx (live:=vm) (call:=EX) (n₀:=0) (σ:=Go.Ev.start) (fun h=>CP h) rfl 1 (by kernel_rfl) Nat.lt_wfRel.wf (fun _ ss=>20-cu ss) (SR s) ?_ ?_ ?_
   ·intro k ss hI
    cases k with
    | zero=>
     obtain⟨i,_,_,rfl⟩:=hI
     refine aw (fun j _ u hu=>?_) (aE (aE bM))
     have hu:u∈[dx s j]:=hu
     rw[List.mem_singleton] at hu
     subst hu;exact Go.Ev.Clean.int _ _
    | succ k=>exact hI.elim
   ·rw[SE]
    refine av (fun h1=>absurd (by rw[h1];rfl:s.length=0) fun e=>h0 (.inl e)) fun h1=>⟨rfl,av (fun h2=>?_) fun h2=>⟨?_,⟨rfl,rfl⟩,0,by omega,fun j hj=>absurd hj (Nat.not_lt_zero j),rfl⟩⟩
    ·rw[bc] at h2;omega
    ·rw[bc];omega
   ·intro k hk ss hI
    obtain rfl:k=0:=by omega
    obtain⟨i,hi,hj,rfl⟩:=hI
    rw[Z5];unfold SH SG SF
    refine⟨rfl,av (fun h1=>?_) fun h1=>?_⟩
    ·rw[bc] at h1
     rw[Int.toNat_natCast]
     refine⟨⟨by omega,by rw[bc];omega⟩,by rw[bc];omega,?_⟩
     have bad:¬sr (aH s i) i→V.int .i64 8=.int .i64 (aD s):=fun hn=>by rw[SQ (by omega) hn]
     have cont:sr (aH s i) i→(len s=len s∧1=1)∧(SR s 0 [.row (len s) (dx s) 1,.val (.int .i64 ((len s:Nat):Int)),.val (.int .i64 (IntKind.i64.wrap ((i:Int)+1)))]∧
       (fun x1 x2:Nat=>x1<x2) (20-cu [.row (len s) (dx s) 1,.val (.int .i64 ((len s:Nat):Int)),.val (.int .i64 (IntKind.i64.wrap ((i:Int)+1)))]) (20-cu [.row (len s) (dx s) 1,.val (.int .i64 ((len s:Nat):Int)),.val (.int .i64 i)])):=fun hc=>by
      rw[i64_in ((i:Int)+1) (by omega)]
      refine⟨⟨rfl,rfl⟩,⟨i+1,by omega,fun j iY=>?_,rfl⟩,?_⟩
      ·by_cases e:j=i
       ·rw[e];exact hc
       ·exact hj j (by omega)
      ·show 20-((i:Int)+1).toNat<20-(i:Int).toNat
       omega
     unfold sr at bad cont
     repeat' first
      | exact cont (by omega)
      | exact bad (by omega)
      | refine⟨rfl,av (fun _=>?_) (fun _=>?_)⟩
    ·rw[bc] at h1
     rw[WV h0 fun j iY=>hj j (by omega)]
 ·exact h.elim
theorem KE:∀ {f:FuncId} {vs:List V} {σ:St} {k:ah},Kr f vs σ k→ag Tryz.prog f vs k σ:=fun h=>aP P3 CP h
end
end Go.Proofs.YtbajncpfmemdgaaGreatDoor
end
section
namespace Go.Ev
open Go
section
variable [Env] {P:Program} {σ:St}
structure bI (P:Program) (f:FuncId) (vs:List V) (Q:ah) (σ:St):Prop where
 ex:∃v τ,Q v τ
 h:∀(ρ:Ren) (w:World) (vs':List Value),R ρ σ w→au ρ vs vs'→(callFunc f ⟨vs'⟩).run P w=.ok (.enter f ⟨vs'⟩) w∧
  CallsIn Fence.wide 0 P f ⟨vs'⟩ w fun e w'=>∃v τ ρ' v',Q v τ∧e=.returned v'∧aq ρ' v v'∧gG 0 ρ σ w ρ' τ w'
theorem ag.n {f:FuncId} {vs:List V} {Q:ah} (h:ag P f vs Q σ):bI P f vs Q σ:=by
 have h:=h.h
 refine⟨?_,fun ρ w vs' hr hv=>?_⟩
 ·obtain⟨⟨o,τ⟩,hx⟩:=h.1
  cases o with
  | val v=>exact⟨v,τ,hx⟩
  | exit e a=>exact hx.elim
 ·obtain⟨g1,g2⟩:=cm.at h ρ w vs' hr hv
  refine⟨g1,g2.mono fun e w' hx=>?_⟩
  obtain⟨v,τ,ρ',v',h1,h2,h3,h4⟩:=hx
  exact⟨v,τ,ρ',v',h1,h2,h3,gG.of (Nat.zero_le _) h4⟩
theorem bI.code [eJ P] {f:FuncId} {g:Func} {c:Code} {vs:List V} {Q:ah} (hf:P.funcs[f]? =some g) (hb:g.body=some c) (hn:(g.name== "runtime.NumGoroutine")=false)
  (h:bH P 0 c (oW P g Q) (lC g.ntmps vs) σ):bI P f vs Q σ:=by
 have ze:∀ {a:Act} {τ:St},(match a.defers with
   | []=>Co Q τ (eW P a τ g.results.toList)
   | _=>oa P (.leave g a) (mw Q) τ)→cm P (.leave g a) τ (mw Q):=fun h=>oX h
 refine⟨?_,fun ρ w vs' hr hv=>⟨oR hf hb hn _,callsIn_of_wp_marks hf hb trivial (wpIn_mono (h.h (Nat.zero_le _) ρ w _ hr (Av hv g.ntmps)) fun e aZ bg fe=>?_)⟩⟩
 ·obtain⟨e,a,τ,hx⟩:=h.ex
  have key:cm P (.leave g a) τ (mw Q)→∃v τ,Q v τ:=fun h=>by
   obtain⟨⟨o,τ⟩,hx⟩:=h.1
   cases o with
   | val v=>exact⟨v,τ,hx⟩
   | exit e a=>exact hx.elim
  cases e with
  | normal=>exact key (ze hx)
  | ret=>exact key (ze hx)
  | exit i=>exact hx.elim
  | goto i=>exact hx.elim
 ·obtain⟨e,b,σ',ρ',h1,rfl,h3,h4⟩:=fe
  have fin:cm P (.leave g b) σ' (mw Q)→LeavesInM Fence.wide 0 P g aZ.tmps (fun e w'=>∃v τ ρ' v',Q v τ∧e=.returned v'∧aq ρ' v v'∧gG 0 ρ σ w ρ' τ w') aZ.defers .returning bg:=fun h=>
   LeavesInM.mono (cm.at h ρ' bg aZ h4.r h3) fun e w' hx=>by
    obtain⟨v,τ,BR,v',k1,k2,k3,k4⟩:=hx
    exact⟨v,τ,BR,v',k1,k2,k3,h4.trans (gG.of (Nat.zero_le _) k4)⟩
  cases e with
  | normal=>exact fin (ze h1)
  | ret=>exact fin (ze h1)
  | exit i=>exact h1.elim
  | goto l=>exact h1.elim
theorem bU.kp [eJ P] {f:FuncId} {g:Func} {call:FuncId→List V→St→ah→Prop} {vs:List V} {Q:ah} {live:Nat→List Nat} (F:bU P f g) (e9:∀ {f vs σ k},call f vs σ k→ag P f vs k σ) (N:Nat) (hN:aF (g.body.getD .skip)=N)
  {α:Type} {r:α→α→Prop} (wf:WellFounded r) (μ:Nat→List SV→α) (I:Nat→List SV→Prop) (hc:∀k ss,I k ss→∀s∈ss,s.clean)
  (tS:WE P f g call 0 live I Q vs σ)
  (lP:∀k,k<N→∀ss,I k ss→WL P f g call 0 live (fun k' ei=>I k' ei∧r (μ k' ei) (μ k ss)) Q k ss):
  bI P f vs Q σ:=by
 have hL:=cV.cx (fn:=f) (call:=call) (n₀:=0) (size:=g.ntmps) (live:=live) (Q:=oW P g Q) (fun h=>e9 h) F.hp wf μ I hc fun k x hx ss hI=>by
  have hk:k<N:=by
   rw[←hN,←dN]
   exact(List.getElem?_eq_some_iff.1 hx).1
  have e:x=lp (g.body.getD .skip) k:=by unfold lp;rw[hx];rfl
  subst e
  exact lP k hk ss hI
 have hK:(KF P call 0 g.ntmps live I).Ki 0:=⟨⟨fun h=>e9 h,fun h=>h⟩,fun h=>bH.of h⟩
 exact bI.code F.hf F.hb F.hn (bH.gA hK (g.body.getD .skip) (i:=0) (fun _ _ _ h=>h) (fun j z hz a τ dF hA=>by
  rw[Nat.zero_add] at hA
  obtain⟨ei,g1,g3⟩:=sm (show lV 0 g.ntmps (live j) a τ _ from hA)
  obtain⟨m,hf⟩:=g3 (hc j ei g1)
  exact(hL j z hz ei g1).EL hf) tS)
theorem bU.ck [eJ P] {f:FuncId} {g:Func} {call:FuncId→List V→St→ah→Prop} {vs:List V} {Q:ah} {live:Nat→List Nat} (F:bU P f g) (e9:∀ {f vs σ k},call f vs σ k→ag P f vs k σ) (hN:aF (g.body.getD .skip)=0)
  (h:WE P f g call 0 live (fun _ _=>False) Q vs σ):bI P f vs Q σ:=
 F.kp e9 0 hN Nat.lt_wfRel.wf (fun _ _=>0) (fun _ _=>False) (fun _ _ h=>h.elim) h fun k hk=>absurd hk (Nat.not_lt_zero k)
theorem ag.frame {f:FuncId} {vs us:List V} {σ₀:St} {Q SS:ah} {m:Nat→Option Nat} (hm:∀i j c,m i=some c→m j=some c→i=j) (R1:∀i,σ₀.next≤i→m i=none)
  (hb:∀i k,σ₀.heap.get i=some k→∃c k',m i=some c∧σ.heap.get c=some k'∧ff m k k') (hv:eI m us vs)
  (h:bI P f us SS σ₀) (hq:∀v τ,SS v τ→∃(m':Nat→Option Nat) (v':V) (σ':St),eE m' v' v∧σ.next≤σ'.next∧(∀i j c,m' i=some c→m' j=some c→i=j)∧(∀i,σ'.next≤i→m' i=none)∧(∀i,i<σ.next→m' i=none)∧
   (∀i k,σ'.heap.get i=some k→(σ.heap.get i=some k∧∀j k',σ₀.heap.get j=some k'→m j≠some i)∨∃c k',m' i=some c∧τ.heap.get c=some k'∧ff m' k k')∧Q v' σ'):ag P f vs Q σ:=by
 refine⟨⟨?_,?_⟩⟩
 ·obtain⟨v,τ,hx⟩:=h.ex
  obtain⟨_,v',σ',_,_,_,_,_,_,h3⟩:=hq v τ hx
  exact⟨(.val v',σ'),h3⟩
 ·intro ρ w vs' hr gO
  have Bp:∀ {c},Wr (ρ.pull m) σ₀ c→Wr ρ σ c:=by
   rintro c ⟨i,k,l,h1,_,h3,h4⟩
   obtain⟨j,k',e1,e2,_⟩:=hb i k h1
   exact⟨j,k',l,e2,rfl,(Ren.dj e1).symm.trans h3,h4⟩
  have sg:R (ρ.pull m) σ₀ w:=by
   refine⟨fun i k hk=>?_,fun i j k k' l l' h1 h2 g1 g2 e=>?_,fun i hi=>?_,fun i l hl=>?_,fun c o x hx=>⟨(hr.aL c o x hx).1,fun hw=>(hr.aL c o x hx).2 (Bp hw)⟩,hr.laid⟩
   ·obtain⟨c,k',e1,e2,e3⟩:=hb i k hk
    obtain⟨l,hl,dD⟩:=hr.cP c k' e2
    exact⟨l,(Ren.dj e1).trans hl,e3.ok dD⟩
   ·obtain⟨c,q,e1,e2,_⟩:=hb i k h1
    obtain⟨d,q',Kg,Sw,_⟩:=hb j k' h2
    have:=hr.inj c d q q' l l' e2 Sw ((Ren.dj e1).symm.trans g1) ((Ren.dj Kg).symm.trans g2) e
    subst this
    exact hm i j c e1 Kg
   ·show(m i).bind ρ.at'=none
    rw[R1 i hi];rfl
   ·obtain⟨c,_,hc⟩:=Ren.pF hl
    exact hr.valid c l hc
  obtain⟨g1,g2⟩:=h.h (ρ.pull m) w vs' sg (hv.rel gO)
  refine⟨g1,g2.mono fun e w' hx=>?_⟩
  obtain⟨v,τ,bD,x,hx,rfl,kl,az⟩:=hx
  obtain⟨m',v',σ',mf,hn,aan,SU,My,vn,h3⟩:=hq v τ hx
  let bh:Ren:=⟨fun i=>if i<σ.next then ρ i else(m' i).bind bD.at',bD.aL⟩
  have w8:∀c o x,ρ.aL c o=some x→bD.aL c o=some x:=az.aL
  have hold:∀c,c<w.heap.size→¬Wr (ρ.pull m) σ₀ c→w'.heap[c]? =w.heap[c]? :=az.aJ
  have bB:∀ {b l},ρ b=some l→b<σ.next:=fun {b l} hb=>by
   refine Nat.lt_of_not_le fun hle=>?_
   rw[hr.fresh b hle] at hb;cases hb
  have hle:ρ.le bh:=⟨fun b l hb=>by
   show(if b<σ.next then ρ b else _)=some l
   rw[if_pos (bB hb)];exact hb,w8⟩
  have H6:(bD.pull m').le bh:=⟨fun b l hb=>by
   show(if b<σ.next then ρ b else(m' b).bind bD.at')=some l
   by_cases Pe:b<σ.next
   ·obtain⟨c,hc,_⟩:=Ren.pF hb
    rw[My b Pe] at hc;cases hc
   ·rw[if_neg Pe];exact hb,fun c o x h=>h⟩
  have Bq:∀ {i k l},σ.heap.get i=some k→(∀j k',σ₀.heap.get j=some k'→m j≠some i)→ρ i=some l→¬Wr (ρ.pull m) σ₀ l.c:=by
   rintro i k l hk nr hl ⟨j,k',l',h1,_,h3,h4⟩
   obtain⟨c,q,e1,e2,_⟩:=hb j k' h1
   have hc:ρ c=some l':=(Ren.dj e1).symm.trans h3
   have:=hr.inj c i q k l' l e2 hk hc hl h4
   subst this
   exact nr j k' h1 e1
  have fD:∀ {i c l},m' i=some c→bh i=some l→bD c=some l∧σ.next≤i:=by
   intro i c l hi hl
   have iz:¬i<σ.next:=fun bB=>by rw[My i bB] at hi;cases hi
   replace hl:(if i<σ.next then ρ i else(m' i).bind bD.at')=some l:=hl
   rw[if_neg iz,hi] at hl
   exact⟨hl,by omega⟩
  have WW:∀ {i c l},m' i=some c→bD c=some l→bh i=some l:=by
   intro i c l hi hl
   exact H6 i l ((Ren.dj hi).trans hl)
  have lk:∀ {i l},i<σ.next→bh i=some l→ρ i=some l:=by
   intro i l hi hl
   replace hl:(if i<σ.next then ρ i else(m' i).bind bD.at')=some l:=hl
   rw[if_pos hi] at hl;exact hl
  have Mz:∀ {i c k' l},m' i=some c→τ.heap.get c=some k'→bh i=some l→l.c<w.heap.size→Wr (ρ.pull m) σ₀ l.c:=by
   intro i c k' l hi hk hl bB
   exact az.wr l.c bB ⟨c,k',l,hk,rfl,(fD hi hl).1,rfl⟩
  have qY:∀ {i k},σ.heap.get i=some k→∃l,ρ i=some l∧i<σ.next∧l.c<w.heap.size:=by
   intro i k hk
   obtain⟨l,hl,_⟩:=hr.cP i k hk
   exact⟨l,hl,bB hl,hr.valid i l hl⟩
  have WX:R bh σ' w':=by
   refine⟨fun i k hk=>?_,fun i j k k' l l' h1 h2 g1 g2 e=>?_,fun i hi=>?_,fun i l hl=>?_,fun c o x hx=>⟨(az.r.aL c o x hx).1,?_⟩,az.r.laid⟩
   ·rcases vn i k hk with ⟨h1,nr⟩ | ⟨c,k',h1,h2,h4⟩
    ·obtain⟨l,hl,dD⟩:=hr.cP i k h1
     exact⟨l,hle i l hl,dD.same hle (hold l.c (hr.valid i l hl) (Bq h1 nr hl))⟩
    ·obtain⟨l,hl,dD⟩:=az.r.cP c k' h2
     exact⟨l,WW h1 hl,cC.same (h4.ok dD) H6 rfl⟩
   ·rcases vn i k h1 with ⟨a1,Pf⟩ | ⟨c,q,a1,a2,_⟩<;>rcases vn j k' h2 with ⟨b1,no2⟩ | ⟨d,q',b1,b2,_⟩
    ·obtain⟨_,_,li,_⟩:=qY a1
     obtain⟨_,_,lj,_⟩:=qY b1
     exact hr.inj i j k k' l l' a1 b1 (lk li g1) (lk lj g2) e
    ·obtain⟨_,e1,li,lc⟩:=qY a1
     have gi:=lk li g1
     rw[gi] at e1;cases e1
     exact absurd (by rw[e];exact Mz b1 b2 g2 (by rw[←e];exact lc)) (Bq a1 Pf gi)
    ·obtain⟨_,e1,lj,lc⟩:=qY b1
     have gj:=lk lj g2
     rw[gj] at e1;cases e1
     exact absurd (by rw[←e];exact Mz a1 a2 g1 (by rw[e];exact lc)) (Bq b1 no2 gj)
    ·have:=az.r.inj c d q q' l l' a2 b2 (fD a1 g1).1 (fD b1 g2).1 e
     subst this
     exact aan i j c a1 b1
   ·show(if i<σ.next then ρ i else(m' i).bind bD.at')=none
    rw[if_neg (by omega),SU i hi];rfl
   ·by_cases hi:i<σ.next
    ·exact Nat.lt_of_lt_of_le (hr.valid i l (lk hi hl)) az.size
    ·replace hl:(if i<σ.next then ρ i else(m' i).bind bD.at')=some l:=hl
     rw[if_neg hi] at hl
     obtain⟨c,_,hc⟩:=Ren.pF (ρ:=bD) (m:=m') hl
     exact az.r.valid c l hc
   ·rintro⟨i,k,l,h1,_,hl,rfl⟩
    rcases vn i k h1 with ⟨a1,Pf⟩ | ⟨c,q,a1,a2,_⟩
    ·obtain⟨_,e1,li,lc⟩:=qY a1
     have gi:=lk li hl
     rw[gi] at e1;cases e1
     rcases az.gv l.c o x hx with h5 | h5 | h5
     ·exact(hr.aL l.c o x h5).2 ⟨i,k,l,a1,rfl,gi,rfl⟩
     ·omega
     ·exact Bq a1 Pf gi h5
    ·exact(az.r.aL l.c o x hx).2 ⟨c,q,l,a2,rfl,(fD a1 hl).1,rfl⟩
  refine⟨v',σ',bh,x,h3,rfl,aq.mono H6 (mf.rel kl),⟨WX,hle,hn,fun b l hb=>?_,az.size,az.os,az.tape,az.output,fun c hc hnw=>hold c hc fun hw=>hnw (Bp hw),fun c hc hw=>?_,fun b k hb=>?_,fun c o x hx=>?_⟩⟩
  ·by_cases Pe:b<σ.next
   ·exact .inl (lk Pe hb)
   ·exact .inr (.inl (by omega))
  ·obtain⟨i,k,l,h1,_,hl,rfl⟩:=hw
   rcases vn i k h1 with ⟨a1,Pf⟩ | ⟨c',q,a1,a2,_⟩
   ·obtain⟨_,_,li,_⟩:=qY a1
    exact⟨i,k,l,a1,rfl,lk li hl,rfl⟩
   ·exact Bp (Mz a1 a2 hl hc)
  ·rcases vn b k hb with ⟨a1,_⟩ | ⟨c',q,a1,a2,_⟩
   ·exact .inl ⟨k,a1⟩
   ·refine .inr (.inl (Nat.le_of_not_lt fun bB=>?_))
    rw[My b bB] at a1;cases a1
  ·rcases az.gv c o x hx with h5 | h5 | h5
   ·exact .inl h5
   ·exact .inr (.inl h5)
   ·exact .inr (.inr (Bp h5))
omit [Env] in
theorem pJ (σ:St) (id:Nat) (k:bV):(σ.new id k).next=max σ.next (id+1):=El _ _
def pK (esz:Nat) (v:V) (τ:St) (n:Nat) (g:Nat→V):Prop:=
 ∃b k,τ.heap.get b=some k∧∀(m:Nat→Option Nat) (i:Nat),m i=some b→eE m (.own i n esz) v∧ff m (.row n g esz false) k
theorem pK.own {esz b n:Nat} {g:Nat→V} {p:Bool} {τ:St} (hb:τ.heap.get b=some (.row n g esz p)) (hc:∀i,i<n→∀u∈(g i).cells,Clean u):pK esz (.own b n esz) τ n g:=
 ⟨b,_,hb,fun _ _ hm=>⟨.own hm,.row (fun h=>by cases h) fun i hi=>eI.clean (hc i hi)⟩⟩
theorem pK.slice {esz b n:Nat} {g:Nat→V} {z:List V} {t:Trie V} {p:Bool} {τ:St} (hb:τ.heap.get b=some (.cells (n*esz) z t p false)) (hn:n≠0) (hu:∀i,i<n→(g i).cells.length=esz)
  (hc:∀i,i<n→∀k v,(g i).cells[k]? =some v→cellOf (n*esz) z t (i*esz+k)=some v∧Clean v):pK esz (.slice b 0 n n false esz) τ n g:=
 ⟨b,_,hb,fun _ _ hm=>⟨.HH hm hn,.vb (fun h=>by cases h) hu fun i hi k v hv=>⟨v,(hc i hi k v hv).1,.clean (hc i hi k v hv).2⟩⟩⟩
def eH (esz:Nat) (A:Nat→(Nat→V)→Prop) (v:V) (τ:St):Prop:=∃n g,pK esz v τ n g∧A n g
theorem SX {esz:Nat} {A:Nat→(Nat→V)→Prop} {κ:St} {σ₀:St} {m:Nat→Option Nat} {k:ah} (tC:∀i k,κ.heap.get i=some k→σ.heap.get i=some k∧∀j k',σ₀.heap.get j=some k'→m j≠some i) (hn:κ.next=σ.next)
  (hk:∀n g,A n g→k (.own σ.next n esz) (κ.new σ.next (.row n g esz false))):∀v τ,eH esz A v τ→∃(m':Nat→Option Nat) (v':V) (σ':St),eE m' v' v∧σ.next≤σ'.next∧(∀i j c,m' i=some c→m' j=some c→i=j)∧(∀i,σ'.next≤i→m' i=none)∧(∀i,i<σ.next→m' i=none)∧
   (∀i k,σ'.heap.get i=some k→(σ.heap.get i=some k∧∀j k',σ₀.heap.get j=some k'→m j≠some i)∨∃c k',m' i=some c∧τ.heap.get c=some k'∧ff m' k k')∧k v' σ':=by
 rintro v τ ⟨n,g,⟨b,q,hb,hr⟩,hA⟩
 have hr:=hr (fun i=>if i=σ.next then some b else none) σ.next (if_pos rfl)
 refine⟨fun i=>if i=σ.next then some b else none,.own σ.next n esz,κ.new σ.next (.row n g esz false),hr.1,?_,fun i j c h1 h2=>?_,fun i hi=>?_,fun i hi=>if_neg (by omega),fun i k hi=>?_,hk n g hA⟩
 ·rw[pJ];omega
 ·by_cases e1:i=σ.next
  ·by_cases e2:j=σ.next
   ·rw[e1,e2]
   ·simp only[if_neg e2] at h2;cases h2
  ·simp only[if_neg e1] at h1;cases h1
 ·rw[pJ] at hi
  exact if_neg (by omega)
 ·rw[ie] at hi
  by_cases e:i=σ.next
  ·rw[if_pos e] at hi;cases hi
   exact .inr ⟨b,_,if_pos e,hb,hr.2⟩
  ·rw[if_neg e] at hi
   exact .inl (tC i k hi)
end
end Go.Ev
end
section
namespace Go.Proofs.YtbajncpfmemdgaaGreatDoor
open Go Go.Ev
def wF (n:Nat) (f:Nat→V) (L:List UInt8):Prop:=n=L.length∧∀i,i<n→(f i).cells=[V.int .u8 (aH L i)]
theorem iC {L:List UInt8} {i:Nat} (h:i<L.length):aH L i=(L[i]:UInt8).toNat:=by
 unfold aH
 rw[dA,List.getElem?_eq_getElem h]
theorem wG:∀L:List UInt8,eL (L.map fun c=>V.int .u8 c.toNat)=some L
 | []=>rfl
 | c::L=>by
  show(eL (L.map fun c=>V.int .u8 c.toNat)).map _=_
  rw[wG L]
  show some (UInt8.ofNat ((c.toNat:Nat):Int).toNat::L)=_
  rw[Int.toNat_natCast,UInt8.ofNat_toNat]
theorem sT:∀(es:List V) (us:List V),es.length=us.length→(∀(i:Nat) (v u:V),es[i]? =some v→us[i]? =some u→v.cells=[u])→ar es=us
 | [],[],_,_=>rfl
 | v::es,u::us,hl,h=>by
  rw[bS,h 0 v u rfl rfl,sT es us (by simpa using hl) fun i a b ha hb=>h (i+1) a b ha hb]
  rfl
theorem wF.cells {n:Nat} {f:Nat→V} {L:List UInt8} (h:wF n f L):ar (b9 n f)=L.map fun c=>V.int .u8 c.toNat:=by
 refine sT _ _ (by rw[aS,List.length_map];exact h.1) fun i v u hv hu=>?_
 have hi:i<n:=by
  have:=(List.getElem?_eq_some_iff.1 hv).1
  rwa [aS] at this
 rw[dg hi] at hv
 cases hv
 rw[h.2 i hi]
 have hL:i<L.length:=by rw[←h.1];exact hi
 rw[List.getElem?_map,List.getElem?_eq_getElem hL] at hu
 cases hu
 rw[iC hL]
theorem wF.bytes {n:Nat} {f:Nat→V} {L:List UInt8} (h:wF n f L):eL (ar (b9 n f))=some L:=by rw[h.cells,wG]
def byteOf (x:Int):UInt8:=UInt8.ofNat x.toNat
theorem pL {x:Int} (h0:0≤x) (h1:x<256):((byteOf x).toNat:Int)=x:=by
 unfold byteOf
 rw[UInt8.toNat_ofNat']
 omega
theorem wF.one {g:Nat→V} {x:Int} (h0:0≤x) (h1:x<256) (hg:(g 0).cells=[V.int .u8 x]):wF 1 g [byteOf x]:=
 ⟨rfl,fun i hi=>by
  obtain rfl:i=0:=by omega
  rw[hg,iC (by simp)]
  show _=[V.int .u8 ((byteOf x).toNat:Int)]
  rw[pL h0 h1]⟩
theorem ou (n:Nat) (f g:Nat→V) (j:Nat):dY n f g j=if j<n then f j else g (j-n):=by
 have e:dY n f g j=Bool.rec (g (j-n)) (f j) (Nat.blt j n):=rfl
 rw[e]
 by_cases h:j<n
 ·rw[if_pos h,show Nat.blt j n=true from Nat.ble_eq_true_of_le h]
 ·rw[if_neg h]
  have:Nat.blt j n=false:=by
   cases hb:Nat.blt j n with
   | false=>rfl
   | true=>exact absurd (Nat.le_of_ble_eq_true hb) h
  rw[this]
theorem su {L M:List UInt8} {i:Nat} (h:i<L.length):aH (L++M) i=aH L i:=by
 rw[iC (by rw[List.length_append];omega),iC h,List.getElem_append_left h]
theorem wH {L M:List UInt8} {i:Nat} (h:L.length≤i) (h2:i<L.length+M.length):aH (L++M) i=aH M (i-L.length):=by
 rw[iC (by rw[List.length_append];omega),iC (by omega),List.getElem_append_right h]
theorem wF.append {n m:Nat} {f g:Nat→V} {L M:List UInt8} (h:wF n f L) (k:wF m g M):wF (n+m) (dY n f g) (L++M):=by
 refine⟨by rw[List.length_append,h.1,k.1],fun i hi=>?_⟩
 have hl:=h.1
 have km:=k.1
 rw[ou]
 by_cases dy:i<n
 ·rw[if_pos dy,h.2 i dy,su (by omega)]
 ·rw[if_neg dy,k.2 (i-n) (by omega),wH (by omega) (by omega),←hl]
end Go.Proofs.YtbajncpfmemdgaaGreatDoor
end
