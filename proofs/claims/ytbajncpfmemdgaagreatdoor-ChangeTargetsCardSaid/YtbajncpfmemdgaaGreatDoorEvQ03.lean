/- Proved: parts of the way: OpsB. -/
import Derived.Test.YtbajncpfmemdgaaGreatDoorEvQ02
import Derived.Lib.Strings
namespace Go.Ev
open Go
section
variable {P:Program} {ρ:aA} {σ:St} {w:World} {id:Nat} {p:V×St→Prop}
theorem GO [Env] {op:BinOp} {k k':IntKind} {a b:Int} {v:V} (h:nd op k a k' b=some v) (t:TypeId):∃v',(∀w,(binOp op t (.int k a) (.int k' b)).run P w=.ok v' w)∧au ρ v v':=by
 unfold nd at h
 split at h
 ·split at h
  ·cases h
  ·rename_i hb;cases h;exact⟨_,fun w=>by simp [binOp,Op.shift,hb],.int _ _⟩
 ·split at h
  ·cases h
  ·rename_i hb;cases h;exact⟨_,fun w=>by simp [binOp,Op.shift,hb],.int _ _⟩
 ·split at h
  ·cases h
  ·rename_i hk
   have hk:k=k':=by simpa using hk
   subst hk
   split at h<;>first
    | (cases h;refine⟨_,fun w=>?_,.int _ _⟩;(simp [binOp,Op.intArith];done))
    | (cases h;refine⟨_,fun w=>?_,.int _ _⟩;(simp only[binOp,ne_eq,not_true,if_false,Op.intBits];rfl))
    | (cases h;refine⟨_,fun w=>?_,.bool _⟩;(simp [binOp,Op.intCmp];done))
    | (cases h;refine⟨_,fun w=>?_,.bool _⟩;(simp [binOp,Op.intCmp];rfl))
    | (split at h
       ·cases h
       ·rename_i hb;cases h;refine⟨_,fun w=>?_,.int _ _⟩;(simp [binOp,Op.intDiv,hb];done))
    | cases h
theorem DO (a b:List UInt8):(⟨⟨a⟩⟩++⟨⟨b⟩⟩:ByteArray)=⟨⟨a++b⟩⟩:=by
 apply ByteArray.ext
 simp [ByteArray.data_append]
theorem yK (a:List UInt8):(⟨⟨a⟩⟩:ByteArray).size=a.length:=rfl
theorem GP [Env] {op:BinOp} {a b:List UInt8} {v:V} (h:ng op a b=some v) (t:TypeId):∃v',(∀w,(binOp op t (.string ⟨⟨a⟩⟩) (.string ⟨⟨b⟩⟩)).run P w=.ok v' w)∧au ρ v v':=by
 unfold ng at h
 split at h
 ·split at h
  ·rename_i hlen
   cases h
   refine⟨.string ⟨⟨a++b⟩⟩,fun w=>?_,.str _⟩
   have pH:¬(((a.length+b.length:Nat):Int)>IntKind.i64.max):=by
    have:IntKind.i64.max=9223372036854775807:=by decide
    rw[this];omega
   simp only[binOp,Op.stringOp,yK,if_neg pH,DO]
   rfl
  ·cases h
 all_goals first
  | (cases h;refine⟨_,fun w=>?_,.bool _⟩;(simp [binOp,Op.stringOp];done))
  | cases h
theorem GQ [Env] {op:BinOp} {k k':FloatKind} {a b:Nat} {v:V} (h:rD op k a k' b=some v) (t:TypeId):∃v',(∀w,(binOp op t (.float k a) (.float k' b)).run P w=.ok v' w)∧au ρ v v':=by
 unfold rD at h
 split at h
 ·cases h
 ·rename_i hk
  have hk:k=k':=Classical.not_not.1 hk
  subst hk
  cases op<;>first
   | (cases h;done)
   | (cases h;refine⟨_,fun w=>?_,.bool _⟩;(simp [binOp,Op.floatCmp];done))
theorem GR {op:BinOp} (bY:op=.eql∨op=.neq) {t:TypeId} {x y:Operand} {a b:Value} (h1:a=.nilIface→b=.nilIface→(isConst x||isConst y)=true)
  (h2:∀ak9 bs,a=.agg ak9→b=.agg bs→P.eqGuardType P.depth t=false):(eqGuard op t x y a b).run P w=.ok () w:=by
 rcases bY with rfl | rfl
 all_goals
  cases a<;>cases b<;>first
   | rfl
   | (have h:=h1 rfl rfl;cases x<;>cases y<;>first | rfl | (simp [isConst] at h;done))
   | (have h:=h2 _ _ rfl rfl;simp [eqGuard,h];done)
theorem DP {t:TypeId} {lit:Bool} {x y:V} {b:Bool} (h:evalEq P σ t lit x y=some b):
  (x=.bh→y=.bh→lit=true)∧(∀xs ys,x=.agg xs→y=.agg ys→P.eqGuardType P.depth t=false):=by
 unfold evalEq at h
 cases hu:P.underlying t with
 | none=>rw[hu] at h;cases h
 | some d=>
  rw[hu] at h
  constructor
  ·rintro rfl rfl
   cases d<;>first
    | (cases h;done)
    | (cases lit<;>first | rfl | (have h':(none:Option Bool)=some b:=h;cases h'))
    | (have h':(match P.eqGuardType P.depth t with | false=>gZ P (ir P cD) t _ .bh .bh | true=>none)=some b:=h
       split at h'
       ·unfold gZ at h'
        split at h'<;>cases h'
       ·cases h')
    | (rename_i n' e';have h':kH P t e' n' .bh .bh=some b:=h
       unfold kH at h'
       split at h'
       ·cases h'
       ·split at h'<;>cases h')
  ·rintro xs ys rfl rfl
   cases d<;>first
    | (cases h;done)
    | (have h':(match P.eqGuardType P.depth t with | false=>gZ P (ir P cD) t _ (.agg xs) (.agg ys) | true=>none)=some b:=h
       split at h'
       ·assumption
       ·cases h')
    | (rename_i n' e';have h':kH P t e' n' (.agg xs) (.agg ys)=some b:=h
       unfold kH at h'
       split at h'
       ·cases h'
       ·assumption)
theorem vl [Env] {x:V} (h:au ρ x .nilIface):x=.bh∨∃i,x=.any i:=by
 generalize hz:Value.nilIface=z at h
 cases h<;>first
  | exact .inl rfl
  | exact .inr ⟨_,rfl⟩
  | (rename_i h;obtain⟨_,_,_,e⟩:=h.dG rfl;subst e;cases hz)
  | cases hz
theorem Hu [Env] {x:V} {ak9:Array Value} (h:au ρ x (.agg ak9)):(∃l,x=.agg l)∨∃i,x=.any i:=by
 generalize hz:Value.agg ak9=z at h
 cases h<;>first
  | exact .inl ⟨_,rfl⟩
  | exact .inr ⟨_,rfl⟩
  | (rename_i h;obtain⟨_,_,_,e⟩:=h.dG rfl;subst e;cases hz)
  | cases hz
theorem kK {t:TypeId} {lit:Bool} {x y:V} {b:Bool} (h:evalEq P σ t lit x y=some b):(∀i,x≠.any i)∧∀i,y≠.any i:=by
 unfold evalEq wC gZ kH at h
 constructor
 ·rintro i rfl
  repeat' split at h
  all_goals first
   | (cases h;done)
   | simp_all
 ·rintro i rfl
  repeat' split at h
  all_goals first
   | (cases h;done)
   | simp_all
theorem GS [Env] (hr:R ρ σ w) {op:BinOp} {t:TypeId} {ox oy:Operand} {x y v:V} (h:evalBin P σ op t (isConst ox||isConst oy) x y=some v) {x' y':Value} (hx:au ρ x x') (hy:au ρ y y'):
  ∃v',((do eqGuard op t ox oy x' y';binOp op t x' y':Sem Value)).run P w=.ok v' w∧au ρ v v':=by
 unfold evalBin at h
 split at h
 ·cases hx;cases hy
  obtain⟨v',aE,hv⟩:=GO (P:=P) (ρ:=ρ) h t
  refine⟨v',?_,hv⟩
  have hg:∀k a k' b,(eqGuard op t ox oy (.int k a) (.int k' b)).run P w=.ok () w:=by intros;cases op<;>rfl
  rw[Sem.run_bind,hg]
  exact aE w
 ·cases hx;cases hy
  obtain⟨v',aE,hv⟩:=GP (P:=P) (ρ:=ρ) h t
  refine⟨v',?_,hv⟩
  have hg:∀a b,(eqGuard op t ox oy (.string a) (.string b)).run P w=.ok () w:=by intros;cases op<;>rfl
  rw[Sem.run_bind,hg]
  exact aE w
 ·cases hx;cases hy
  obtain⟨v',aE,hv⟩:=GQ (P:=P) (ρ:=ρ) h t
  refine⟨v',?_,hv⟩
  have hg:∀k a k' b,(eqGuard op t ox oy (.float k a) (.float k' b)).run P w=.ok () w:=by intros;cases op<;>rfl
  rw[Sem.run_bind,hg]
  exact aE w
 ·rename_i jq Tc Hv
  have Xk:(∀i,x≠.any i)→(∀i,y≠.any i)→binOp .eql t x' y'=(do pure (.bool (←Op.equal t x' y'))):=by
   intro Xm Ns
   cases hx<;>first
    | exact absurd rfl (Xm _)
    | (cases hy<;>first | exact absurd rfl (Ns _) | rfl | exact(jq _ _ _ _ rfl rfl).elim | exact(Tc _ _ rfl rfl).elim | exact(Hv _ _ _ _ rfl rfl).elim | (rename_i h2;obtain⟨_,_,_,e⟩:=h2.dG rfl;subst e;rfl))
    | (rename_i h1;obtain⟨_,_,_,e⟩:=h1.dG rfl;subst e;cases hy<;>first | exact absurd rfl (Ns _) | rfl | (rename_i h2;obtain⟨_,_,_,e⟩:=h2.dG rfl;subst e;rfl))
  have Nt:(∀i,x≠.any i)→(∀i,y≠.any i)→binOp .neq t x' y'=(do pure (.bool (!(←Op.equal t x' y')))):=by
   intro Xm Ns
   cases hx<;>first
    | exact absurd rfl (Xm _)
    | (cases hy<;>first | exact absurd rfl (Ns _) | rfl | exact(jq _ _ _ _ rfl rfl).elim | exact(Tc _ _ rfl rfl).elim | exact(Hv _ _ _ _ rfl rfl).elim | (rename_i h2;obtain⟨_,_,_,e⟩:=h2.dG rfl;subst e;rfl))
    | (rename_i h1;obtain⟨_,_,_,e⟩:=h1.dG rfl;subst e;cases hy<;>first | exact absurd rfl (Ns _) | rfl | (rename_i h2;obtain⟨_,_,_,e⟩:=h2.dG rfl;subst e;rfl))
  have key:∀op,(op=.eql∨op=.neq)→∀b,evalEq P σ t (isConst ox||isConst oy) x y=some b→(Op.equal t x' y').run P w=.ok b w∧(eqGuard op t ox oy x' y').run P w=.ok () w:=by
   intro op bY b hb
   obtain⟨s1,s2⟩:=DP hb
   refine⟨KK hr hb hx hy,GR bY ?_ ?_⟩
   ·rintro rfl rfl
    obtain⟨n1,n2⟩:=kK hb
    obtain rfl:=(vl hx).resolve_right fun⟨i,e⟩=>n1 i e
    obtain rfl:=(vl hy).resolve_right fun⟨i,e⟩=>n2 i e
    exact s1 rfl rfl
   ·rintro ak9 bs rfl rfl
    obtain⟨n1,n2⟩:=kK hb
    obtain⟨l1,rfl⟩:=(Hu hx).resolve_right fun⟨i,e⟩=>n1 i e
    obtain⟨l2,rfl⟩:=(Hu hy).resolve_right fun⟨i,e⟩=>n2 i e
    exact s2 _ _ rfl rfl
  split at h
  ·rw[Option.map_eq_some_iff] at h
   obtain⟨b,hb,rfl⟩:=h
   obtain⟨he,hg⟩:=key .eql (.inl rfl) b hb
   exact⟨.bool b,by rw[Sem.run_bind,hg];simp [Xk (kK hb).1 (kK hb).2,he],.bool b⟩
  ·rw[Option.map_eq_some_iff] at h
   obtain⟨b,hb,rfl⟩:=h
   obtain⟨he,hg⟩:=key .neq (.inr rfl) b hb
   exact⟨.bool !b,by rw[Sem.run_bind,hg];simp [Nt (kK hb).1 (kK hb).2,he],.bool _⟩
  ·cases h
theorem KL [Env] {op:UnOp} {x v:V} (h:DA op x=some v) {x':Value} (hx:au ρ x x'):∃v',(∀w,(Op.unary op x').run P w=.ok v' w)∧au ρ v v':=by
 unfold DA at h
 split at h
 ·cases h;cases hx;exact⟨_,fun w=>rfl,.int _ _⟩
 ·cases h;cases hx;exact⟨_,fun w=>rfl,.int _ _⟩
 ·cases h;cases hx;exact⟨_,fun w=>rfl,.bool _⟩
 ·cases h
end
end Go.Ev
