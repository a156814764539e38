/- Proved: parts of the way: XC, BD11. -/
import Derived.Test.YtbajncpfmemdgaaGreatDoorEvQ27
section
namespace Go.Proofs.YtbajncpfmemdgaaGreatDoor
open Go Go.Ev
theorem abR {n:Int} (h:(Lit.int .u64 n).wf=true):0≤n∧n<18446744073709551616:=by
 have h:(decide (IntKind.u64.min≤n)&&decide (n≤IntKind.u64.max))=true:=h
 rw[Bool.and_eq_true,decide_eq_true_iff,decide_eq_true_iff] at h
 have h1:IntKind.u64.min=0:=by decide
 have h2:IntKind.u64.max=18446744073709551615:=by decide
 omega
def okD (c:aj):Prop:=zP c.f3
theorem adz {n:Int} (h:(Lit.int .i64 n).wf=true):dR n:=by
 have h:(decide (IntKind.i64.min≤n)&&decide (n≤IntKind.i64.max))=true:=h
 rw[Bool.and_eq_true,decide_eq_true_iff,decide_eq_true_iff] at h
 have h1:IntKind.i64.min= -9223372036854775808:=by decide
 have h2:IntKind.i64.max=9223372036854775807:=by decide
 unfold dR
 omega
section
variable [Env] {P:Program} {d:Nat} {t:TypeId} {us:List V}
omit [Env] in
theorem cy.abT {k:IntKind} (hu:P.underlying t=some (.int k)) (h:cy P d t us):∃n,us=[.int k n]∧(Lit.int k n).wf=true:=by
 cases d with
 | zero=>exact h.elim
 | succ d=>unfold cy at h;rw[hu] at h;exact h
theorem cy.pV {e:TypeId} {α:Type} [Inhabited α] {Pr:α→Prop} {enc:α→V} {esz:Nat} (hu:P.underlying t=some (.slice e)) (dH:P.cellsOf e=esz) (bk:∀a,(enc a).cells.length=esz)
  (H:∀ {d:Nat} {us:List V},cy P d e us→∃a,Pr a∧gr us (enc a).cells) (h:cy P d t us):∃l:List α,(∀x∈l,Pr x)∧gr us [ae enc esz l]:=by
 cases d with
 | zero=>exact h.elim
 | succ d=>
  unfold cy at h
  rw[hu] at h
  obtain⟨es,rfl,_,vr⟩:=h
  have key:∀es:List (List V),(∀x∈es,cy P d e x)→∃l:List α,l.length=es.length∧(∀x∈l,Pr x)∧∀(ρ:aA) (ys:List Value),ay ρ (ax (es.map (rj P e))) ys→ay ρ (ax (l.map enc)) ys:=by
   intro es
   induction es with
   | nil=>exact fun _=>⟨[],rfl,fun x hx=>(by cases hx),fun _ _ h=>h⟩
   | cons x es ih=>
    intro hx
    obtain⟨l,h1,hp,h2⟩:=ih fun y hy=>hx y (List.mem_cons_of_mem _ hy)
    obtain⟨a,hpa,ha⟩:=H (hx x List.mem_cons_self)
    refine⟨a::l,by simp [h1],fun y hy=>?_,?_⟩
    ·rcases List.mem_cons.1 hy with rfl | hy
     ·exact hpa
     ·exact hp y hy
    have hc:=(hx x List.mem_cons_self).cells
    intro ρ ys hy
    rw[List.map_cons,ca] at hy⊢
    rw[hc] at hy
    exact gr.append (fun ρ xs h=>ha ρ xs h) (fun ρ xs h=>h2 ρ xs h) ρ ys hy
  obtain⟨l,h1,hp,h2⟩:=key es vr
  refine⟨l,hp,fun ρ xs hx=>?_⟩
  cases hx with
  | cons hx hl=>
   cases hl
   refine .cons (.arr (fun h=>by cases h) (AL (ρ':=ρ) (fun _ _ _ h=>h) (dH▸hx) (fun ys hy=>?_) ?_ ?_ fun h=>by cases h)) .nil
   ·rw[pg];exact h2 ρ ys hy
   ·rw[pg]
    intro v hv
    obtain⟨a,_,rfl⟩:=List.mem_map.1 hv
    exact bk a
   ·rw[bg,List.length_map,h1]
end
section
variable [Env]
theorem X9 {d:Nat} {us:List V} (h:cy Tryz.prog d 9 us):∃a:(List UInt8),True∧gr us [.str (a)]:=by
 obtain⟨n,rfl⟩:=h.str (by kernel_rfl)
 exact⟨n,trivial,gr.refl _⟩
theorem X3 {d:Nat} {us:List V} (h:cy Tryz.prog d 3 us):∃a:Int,dR a∧gr us [.int .i64 (a)]:=by
 obtain⟨n,rfl,hn⟩:=cy.abT (k:=.i64) (by kernel_rfl) h
 exact⟨n,adz hn,gr.refl _⟩
theorem X4 {d:Nat} {us:List V} (h:cy Tryz.prog d 4 us):∃a:Bool,True∧gr us [.bool a]:=by
 obtain⟨n,rfl⟩:=h.bool (by kernel_rfl)
 exact⟨n,trivial,gr.refl _⟩
theorem X44 {d:Nat} {us:List V} (h:cy Tryz.prog d 44 us):∃a:Int,(0≤a∧a<18446744073709551616)∧gr us [.int .u64 (a)]:=by
 obtain⟨n,rfl,hn⟩:=cy.abT (k:=.u64) (by kernel_rfl) h
 exact⟨n,abR hn,gr.refl _⟩
theorem X46 {d:Nat} {us:List V} (h:cy Tryz.prog d 46 us):∃a:az,zP a∧gr us a.cells:=by
 obtain⟨d',ps,rfl,ha⟩:=h.struct (tys:=[3,3,44,9]) (by kernel_rfl)
 obtain⟨p0,_,rfl,h0,ha⟩:=ha.cons
 obtain⟨p1,_,rfl,h1,ha⟩:=ha.cons
 obtain⟨p2,_,rfl,h2,ha⟩:=ha.cons
 obtain⟨p3,_,rfl,h3,ha⟩:=ha.cons
 obtain rfl:=ha.nil
 obtain⟨a0,r0,i0⟩:=X3 h0
 obtain⟨a1,r1,i1⟩:=X3 h1
 obtain⟨a2,r2,i2⟩:=X44 h2
 obtain⟨a3,r3,i3⟩:=X9 h3
 exact⟨⟨a0,a1,a2,a3⟩,⟨r2,r1⟩,i0.append (i1.append (i2.append (i3.append (gr.refl []))))⟩
theorem X48 {d:Nat} {us:List V} (h:cy Tryz.prog d 48 us):∃a:aj,okD a∧gr us a.cells:=by
 obtain⟨d',ps,rfl,ha⟩:=h.struct (tys:=[9,3,4,46]) (by kernel_rfl)
 obtain⟨p0,_,rfl,h0,ha⟩:=ha.cons
 obtain⟨p1,_,rfl,h1,ha⟩:=ha.cons
 obtain⟨p2,_,rfl,h2,ha⟩:=ha.cons
 obtain⟨p3,_,rfl,h3,ha⟩:=ha.cons
 obtain rfl:=ha.nil
 obtain⟨a0,r0,i0⟩:=X9 h0
 obtain⟨a1,r1,i1⟩:=X3 h1
 obtain⟨a2,r2,i2⟩:=X4 h2
 obtain⟨a3,r3,i3⟩:=X46 h3
 exact⟨⟨a0,a1,a2,a3⟩,r3,i0.append (i1.append (i2.append (i3.append (gr.refl []))))⟩
theorem X49 {d:Nat} {us:List V} (h:cy Tryz.prog d 49 us):∃a:(List aj),(∀x∈a,okD x)∧gr us [ae aj.enc 7 (a)]:=by
 obtain⟨l,h1,h2⟩:=cy.pV (Pr:=fun x=>okD x) (enc:=aj.enc) (esz:=7) (by kernel_rfl) (by kernel_rfl) (fun a=>aj.size a) (fun h=>X48 h) h
 exact⟨l,h1,h2⟩
theorem X51 {d:Nat} {us:List V} (h:cy Tryz.prog d 51 us):∃a:af,e8 a∧gr us a.cells:=by
 obtain⟨d',ps,rfl,ha⟩:=h.struct (tys:=[9,3,49]) (by kernel_rfl)
 obtain⟨p0,_,rfl,h0,ha⟩:=ha.cons
 obtain⟨p1,_,rfl,h1,ha⟩:=ha.cons
 obtain⟨p2,_,rfl,h2,ha⟩:=ha.cons
 obtain rfl:=ha.nil
 obtain⟨a0,r0,i0⟩:=X9 h0
 obtain⟨a1,r1,i1⟩:=X3 h1
 obtain⟨a2,r2,i2⟩:=X49 h2
 exact⟨⟨a0,a1,a2⟩,r2,i0.append (i1.append (i2.append (gr.refl [])))⟩
theorem X42 {d:Nat} {us:List V} (h:cy Tryz.prog d 42 us):∃a:(List af),(∀x∈a,e8 x)∧gr us [ae af.enc 3 (a)]:=by
 obtain⟨l,h1,h2⟩:=cy.pV (Pr:=fun x=>e8 x) (enc:=af.enc) (esz:=3) (by kernel_rfl) (by kernel_rfl) (fun a=>af.size a) (fun h=>X51 h) h
 exact⟨l,h1,h2⟩
theorem X43 {d:Nat} {us:List V} (h:cy Tryz.prog d 43 us):∃a:(List (List UInt8)),True∧gr us [ae V.str 1 (a)]:=by
 obtain⟨l,h1,h2⟩:=cy.pV (Pr:=fun _=>True) (enc:=V.str) (esz:=1) (by kernel_rfl) (by kernel_rfl) (fun a=>rfl) (fun h=>X9 h) h
 exact⟨l,trivial,h2⟩
theorem X53 {d:Nat} {us:List V} (h:cy Tryz.prog d 53 us):∃a:an,gL a∧gr us a.cells:=by
 obtain⟨d',ps,rfl,ha⟩:=h.struct (tys:=[3,9,9,9,9,9,3,43,48,51]) (by kernel_rfl)
 obtain⟨p0,_,rfl,h0,ha⟩:=ha.cons
 obtain⟨p1,_,rfl,h1,ha⟩:=ha.cons
 obtain⟨p2,_,rfl,h2,ha⟩:=ha.cons
 obtain⟨p3,_,rfl,h3,ha⟩:=ha.cons
 obtain⟨p4,_,rfl,h4,ha⟩:=ha.cons
 obtain⟨p5,_,rfl,h5,ha⟩:=ha.cons
 obtain⟨p6,_,rfl,h6,ha⟩:=ha.cons
 obtain⟨p7,_,rfl,h7,ha⟩:=ha.cons
 obtain⟨p8,_,rfl,h8,ha⟩:=ha.cons
 obtain⟨p9,_,rfl,h9,ha⟩:=ha.cons
 obtain rfl:=ha.nil
 obtain⟨a0,r0,i0⟩:=X3 h0
 obtain⟨a1,r1,i1⟩:=X9 h1
 obtain⟨a2,r2,i2⟩:=X9 h2
 obtain⟨a3,r3,i3⟩:=X9 h3
 obtain⟨a4,r4,i4⟩:=X9 h4
 obtain⟨a5,r5,i5⟩:=X9 h5
 obtain⟨a6,r6,i6⟩:=X3 h6
 obtain⟨a7,r7,i7⟩:=X43 h7
 obtain⟨a8,r8,i8⟩:=X48 h8
 obtain⟨a9,r9,i9⟩:=X51 h9
 exact⟨⟨a0,a1,a2,a3,a4,a5,a6,a7,a8,a9⟩,⟨r8,r9⟩,i0.append (i1.append (i2.append (i3.append (i4.append (i5.append (i6.append (i7.append (i8.append (i9.append (gr.refl []))))))))))⟩
end
end Go.Proofs.YtbajncpfmemdgaaGreatDoor
end
section
namespace Go.Proofs.YtbajncpfmemdgaaGreatDoor
open Go Go.Ev
def Kz:Nat×Nat×Value:=(0,0,.iface 292 (.agg #[.pointer (some ⟨3,179,none⟩)]))
theorem GI [Env] {P:Program} {f:FuncId} {vs:List V} {xs:List Value} {w:World} (hl:∀q∈Env.laid,w.cell? ⟨q.1,q.2.1,none⟩=some q.2.2) (hv:ay (iH w) vs xs) (h:ag P f vs (fun u _=>u=.bool true) Go.Ev.start):Calls P f ⟨xs⟩ w fun e w'=>e=.returned (.bool true)∧RowKit.Below w.heap.size w w':=by
 obtain⟨_,hc⟩:=cC.at h.h (iH w) w xs (zz w hl) hv
 refine callsIn_wide.1 (hc.mono fun e w' hp=>?_)
 obtain⟨v',σ',ρ',x',h1,rfl,h2,h3⟩:=hp
 have h1:v'=.bool true:=h1
 subst h1
 cases h2
 refine⟨rfl,h3.os,h3.tape,h3.output,h3.size,fun k hk=>h3.aQ k hk ?_⟩
 rintro⟨b,k,l,hb,_⟩
 rw[eR] at hb
 cases hb
theorem Xb:lu Tryz.prog 12 42=true:=by kernel_rfl
theorem Xc:lu Tryz.prog 12 53=true:=by kernel_rfl
theorem Pl [Env] {P:Program} {t:TypeId} {k:Nat} {A:List V→Prop} (hp:lu P k t=true) (hX:∀ {us:List V},cy P k t us→∃vs,A vs∧gr us vs)
  {H:Type} {enc:TypeId×Value→H} {W:World} {cs:List Value} {d:DataW H} {p:List MemPlace} (h:DataW.Trod enc P W 0 (fun _=>true) true t (.agg ⟨cs⟩) d p):∃vs,A vs∧au (iH W) (.agg vs) (.agg ⟨cs⟩):=by
 obtain⟨fuel,h⟩:=h
 obtain⟨us,h1,h2⟩:=wU k hp h
 obtain⟨vs,h3,h4⟩:=hX h2
 exact⟨vs,h3,.agg (h4 _ _ h1)⟩
theorem Pm [Env] {P:Program} {t:TypeId} {k:Nat} {A:V→Prop} (hp:lu P k t=true) (hX:∀ {us:List V},cy P k t us→∃u,A u∧gr us [u])
  {H:Type} {enc:TypeId×Value→H} {W:World} {v:Value} {d:DataW H} {p:List MemPlace} (hv:v.oneCell'=true) (h:DataW.Trod enc P W 0 (fun _=>true) true t v d p):∃u,A u∧au (iH W) u v:=by
 obtain⟨fuel,h⟩:=h
 obtain⟨us,h1,h2⟩:=wU k hp h
 have hc:v.cells.toList=[v]:=by cases v<;>first | rfl | cases hv
 rw[hc] at h1
 obtain⟨u,h3,h4⟩:=hX h2
 cases h4 _ _ h1 with
 | cons h5 h6=>exact⟨u,h3,h5⟩
theorem ah9 [Env] {k:Nat} {us:List V} (h:cy Tryz.prog k 42 us):∃u,(∃l:List af,(∀t∈l,e8 t)∧u=ae af.enc 3 l)∧gr us [u]:=by
 obtain⟨l,h1,h2⟩:=X42 h
 exact⟨_,⟨l,h1,rfl⟩,h2⟩
theorem aia [Env] {k:Nat} {us:List V} (h:cy Tryz.prog k 53 us):∃vs,(∃c:an,gL c∧vs=c.cells)∧gr us vs:=by
 obtain⟨a,h1,h2⟩:=X53 h
 exact⟨_,⟨a,h1,rfl⟩,h2⟩
theorem uO {H:Type} {enc:TypeId×Value→H} {W:World} {v0:Value} {c1:List Value} {d0 d1:DataW H} {p0 p1:List MemPlace} (hL:W.cell? ⟨0,0,none⟩=some (.iface 292 (.agg #[.pointer (some ⟨3,179,none⟩)])))
  (h0:v0.oneCell'=true∧DataW.Trod enc Tryz.prog W 0 (fun _=>true) true 42 v0 d0 p0) (h1:DataW.Trod enc Tryz.prog W 0 (fun _=>true) true 53 (.agg ⟨c1⟩) d1 p1):
  Calls Tryz.prog 5 #[v0,.agg ⟨c1⟩] W fun e W'=>e=.returned (.bool true)∧RowKit.Below W.heap.size W W':=by
 letI:Env:=o7 [] (fun x hx=>by cases hx) (l:=[Kz])
 letI:aZ:=⟨List.mem_singleton.2 rfl⟩
 obtain⟨u0,⟨l,hl,rfl⟩,r0⟩:=Pm (k:=12) (A:=fun u=>∃l:List af,(∀t∈l,e8 t)∧u=ae af.enc 3 l) Xb (ah9 (k:=12)) h0.1 h0.2
 obtain⟨v1,⟨c,hc,rfl⟩,r1⟩:=Pl (k:=12) (A:=fun vs=>∃c:an,gL c∧vs=c.cells) Xc (aia (k:=12)) h1
 refine GI (fun q hq=>?_) (.cons r0 (.cons r1 .nil)) (S5 l c hl hc)
 have hq:q∈[Kz]:=hq
 obtain rfl:=List.mem_singleton.1 hq
 exact hL
end Go.Proofs.YtbajncpfmemdgaaGreatDoor
end
