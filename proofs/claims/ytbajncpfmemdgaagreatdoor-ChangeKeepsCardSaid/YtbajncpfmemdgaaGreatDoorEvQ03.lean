/- Proved: parts of the way: OpsB. -/
import Derived.Test.YtbajncpfmemdgaaGreatDoorEvQ02
import Derived.Lib.Strings
set_option linter.unusedVariables false
set_option linter.unusedSimpArgs false
namespace Go.Ev
open Go
section
variable {P:Program} {ρ:Ren} {σ:St} {w:World} {id:Nat} {p:V×St→Prop}
theorem DO [Env] {op:BinOp} {k k':IntKind} {a b:Int} {v:V} (h:mg op k a k' b=some v) (t:TypeId):∃v',(∀w,(binOp op t (.int k a) (.int k' b)).run P w=.ok v' w)∧aq ρ v v':=by
 unfold mg at h
 split at h
 ·split at h
  ·cases h
  ·rename_i hb;cases h;exact⟨_,fun w=>by simp [binOp,Op.shift,hb],.int _ _⟩
 ·split at h
  ·cases h
  ·rename_i hb;cases h;exact⟨_,fun w=>by simp [binOp,Op.shift,hb],.int _ _⟩
 ·split at h
  ·cases h
  ·rename_i hk
   have hk:k=k':=by simpa using hk
   subst hk
   split at h<;>first
    | (cases h;refine⟨_,fun w=>?_,.int _ _⟩;(simp [binOp,Op.intArith];done))
    | (cases h;refine⟨_,fun w=>?_,.int _ _⟩;(simp only[binOp,ne_eq,not_true,if_false,Op.intBits];rfl))
    | (cases h;refine⟨_,fun w=>?_,.bool _⟩;(simp [binOp,Op.intCmp];done))
    | (cases h;refine⟨_,fun w=>?_,.bool _⟩;(simp [binOp,Op.intCmp];rfl))
    | (split at h
       ·cases h
       ·rename_i hb;cases h;refine⟨_,fun w=>?_,.int _ _⟩;(simp [binOp,Op.intDiv,hb];done))
    | cases h
theorem BI (a b:List UInt8):(⟨⟨a⟩⟩++⟨⟨b⟩⟩:ByteArray)=⟨⟨a++b⟩⟩:=by
 apply ByteArray.ext
 simp [ByteArray.data_append]
theorem xL (a:List UInt8):(⟨⟨a⟩⟩:ByteArray).size=a.length:=rfl
theorem DP [Env] {op:BinOp} {a b:List UInt8} {v:V} (h:mh op a b=some v) (t:TypeId):∃v',(∀w,(binOp op t (.string ⟨⟨a⟩⟩) (.string ⟨⟨b⟩⟩)).run P w=.ok v' w)∧aq ρ v v':=by
 unfold mh at h
 split at h
 ·split at h
  ·rename_i hlen
   cases h
   refine⟨.string ⟨⟨a++b⟩⟩,fun w=>?_,.str _⟩
   have nr:¬(((a.length+b.length:Nat):Int)>IntKind.i64.max):=by
    have:IntKind.i64.max=9223372036854775807:=by decide
    rw[this];omega
   simp only[binOp,Op.stringOp,xL,if_neg nr,BI]
   rfl
  ·cases h
 all_goals first
  | (cases h;refine⟨_,fun w=>?_,.bool _⟩;(simp [binOp,Op.stringOp];done))
  | cases h
theorem DQ [Env] {op:BinOp} {k k':FloatKind} {a b:Nat} {v:V} (h:qx op k a k' b=some v) (t:TypeId):∃v',(∀w,(binOp op t (.float k a) (.float k' b)).run P w=.ok v' w)∧aq ρ v v':=by
 unfold qx at h
 split at h
 ·cases h
 ·rename_i hk
  have hk:k=k':=Classical.not_not.1 hk
  subst hk
  cases op<;>first
   | (cases h;done)
   | (cases h;refine⟨_,fun w=>?_,.bool _⟩;(simp [binOp,Op.floatCmp];done))
theorem DR {op:BinOp} (bL:op=.eql∨op=.neq) {t:TypeId} {x y:Operand} {a b:Value} (h1:a=.nilIface→b=.nilIface→(isConst x||isConst y)=true)
  (h2:∀aef bs,a=.agg aef→b=.agg bs→P.eqGuardType P.depth t=false):(eqGuard op t x y a b).run P w=.ok () w:=by
 rcases bL with rfl | rfl
 all_goals
  cases a<;>cases b<;>first
   | rfl
   | (have h:=h1 rfl rfl;cases x<;>cases y<;>first | rfl | (simp [isConst] at h;done))
   | (have h:=h2 _ _ rfl rfl;simp [eqGuard,h];done)
theorem BJ {t:TypeId} {lit:Bool} {x y:V} {b:Bool} (h:evalEq P σ t lit x y=some b):
  (x=.aV→y=.aV→lit=true)∧(∀xs ys,x=.agg xs→y=.agg ys→P.eqGuardType P.depth t=false):=by
 unfold evalEq at h
 cases hu:P.underlying t with
 | none=>rw[hu] at h;cases h
 | some d=>
  rw[hu] at h
  constructor
  ·rintro rfl rfl
   cases d<;>first
    | (cases h;done)
    | (cases lit<;>first | rfl | (have h':(none:Option Bool)=some b:=h;cases h'))
    | (have h':(match P.eqGuardType P.depth t with | false=>hY P (j9 P eQ) t _ .aV .aV | true=>none)=some b:=h
       split at h'
       ·unfold hY at h'
        split at h'<;>cases h'
       ·cases h')
    | (rename_i n' e';have h':jO P t e' n' .aV .aV=some b:=h
       unfold jO at h'
       split at h'
       ·cases h'
       ·split at h'<;>cases h')
  ·rintro xs ys rfl rfl
   cases d<;>first
    | (cases h;done)
    | (have h':(match P.eqGuardType P.depth t with | false=>hY P (j9 P eQ) t _ (.agg xs) (.agg ys) | true=>none)=some b:=h
       split at h'
       ·assumption
       ·cases h')
    | (rename_i n' e';have h':jO P t e' n' (.agg xs) (.agg ys)=some b:=h
       unfold jO at h'
       split at h'
       ·cases h'
       ·assumption)
theorem th [Env] {x:V} (h:aq ρ x .nilIface):x=.aV∨∃i,x=.any i:=by
 generalize hz:Value.nilIface=z at h
 cases h<;>first
  | exact .inl rfl
  | exact .inr ⟨_,rfl⟩
  | (rename_i h;obtain⟨_,_,_,e⟩:=h.fL rfl;subst e;cases hz)
  | cases hz
theorem Er [Env] {x:V} {aef:Array Value} (h:aq ρ x (.agg aef)):(∃l,x=.agg l)∨∃i,x=.any i:=by
 generalize hz:Value.agg aef=z at h
 cases h<;>first
  | exact .inl ⟨_,rfl⟩
  | exact .inr ⟨_,rfl⟩
  | (rename_i h;obtain⟨_,_,_,e⟩:=h.fL rfl;subst e;cases hz)
  | cases hz
theorem jS {t:TypeId} {lit:Bool} {x y:V} {b:Bool} (h:evalEq P σ t lit x y=some b):(∀i,x≠.any i)∧∀i,y≠.any i:=by
 unfold evalEq u1 hY jO at h
 constructor
 ·rintro i rfl
  repeat' split at h
  all_goals first
   | (cases h;done)
   | simp_all
 ·rintro i rfl
  repeat' split at h
  all_goals first
   | (cases h;done)
   | simp_all
theorem DS [Env] (hr:R ρ σ w) {op:BinOp} {t:TypeId} {ox oy:Operand} {x y v:V} (h:evalBin P σ op t (isConst ox||isConst oy) x y=some v) {x' y':Value} (hx:aq ρ x x') (hy:aq ρ y y'):
  ∃v',((do eqGuard op t ox oy x' y';binOp op t x' y':Sem Value)).run P w=.ok v' w∧aq ρ v v':=by
 unfold evalBin at h
 split at h
 ·cases hx;cases hy
  obtain⟨v',aI,hv⟩:=DO (P:=P) (ρ:=ρ) h t
  refine⟨v',?_,hv⟩
  have hg:∀k a k' b,(eqGuard op t ox oy (.int k a) (.int k' b)).run P w=.ok () w:=by intros;cases op<;>rfl
  rw[Sem.run_bind,hg]
  exact aI w
 ·cases hx;cases hy
  obtain⟨v',aI,hv⟩:=DP (P:=P) (ρ:=ρ) h t
  refine⟨v',?_,hv⟩
  have hg:∀a b,(eqGuard op t ox oy (.string a) (.string b)).run P w=.ok () w:=by intros;cases op<;>rfl
  rw[Sem.run_bind,hg]
  exact aI w
 ·cases hx;cases hy
  obtain⟨v',aI,hv⟩:=DQ (P:=P) (ρ:=ρ) h t
  refine⟨v',?_,hv⟩
  have hg:∀k a k' b,(eqGuard op t ox oy (.float k a) (.float k' b)).run P w=.ok () w:=by intros;cases op<;>rfl
  rw[Sem.run_bind,hg]
  exact aI w
 ·rename_i iz Ox Oy
  have RJ:(∀i,x≠.any i)→(∀i,y≠.any i)→binOp .eql t x' y'=(do pure (.bool (←Op.equal t x' y'))):=by
   intro RN JJ
   cases hx<;>first
    | exact absurd rfl (RN _)
    | (cases hy<;>first | exact absurd rfl (JJ _) | rfl | exact(iz _ _ _ _ rfl rfl).elim | exact(Ox _ _ rfl rfl).elim | exact(Oy _ _ _ _ rfl rfl).elim | (rename_i h2;obtain⟨_,_,_,e⟩:=h2.fL rfl;subst e;rfl))
    | (rename_i h1;obtain⟨_,_,_,e⟩:=h1.fL rfl;subst e;cases hy<;>first | exact absurd rfl (JJ _) | rfl | (rename_i h2;obtain⟨_,_,_,e⟩:=h2.fL rfl;subst e;rfl))
  have RO:(∀i,x≠.any i)→(∀i,y≠.any i)→binOp .neq t x' y'=(do pure (.bool (!(←Op.equal t x' y')))):=by
   intro RN JJ
   cases hx<;>first
    | exact absurd rfl (RN _)
    | (cases hy<;>first | exact absurd rfl (JJ _) | rfl | exact(iz _ _ _ _ rfl rfl).elim | exact(Ox _ _ rfl rfl).elim | exact(Oy _ _ _ _ rfl rfl).elim | (rename_i h2;obtain⟨_,_,_,e⟩:=h2.fL rfl;subst e;rfl))
    | (rename_i h1;obtain⟨_,_,_,e⟩:=h1.fL rfl;subst e;cases hy<;>first | exact absurd rfl (JJ _) | rfl | (rename_i h2;obtain⟨_,_,_,e⟩:=h2.fL rfl;subst e;rfl))
  have key:∀op,(op=.eql∨op=.neq)→∀b,evalEq P σ t (isConst ox||isConst oy) x y=some b→(Op.equal t x' y').run P w=.ok b w∧(eqGuard op t ox oy x' y').run P w=.ok () w:=by
   intro op bL b hb
   obtain⟨s1,s2⟩:=BJ hb
   refine⟨Hc hr hb hx hy,DR bL ?_ ?_⟩
   ·rintro rfl rfl
    obtain⟨n1,n2⟩:=jS hb
    obtain rfl:=(th hx).resolve_right fun⟨i,e⟩=>n1 i e
    obtain rfl:=(th hy).resolve_right fun⟨i,e⟩=>n2 i e
    exact s1 rfl rfl
   ·rintro aef bs rfl rfl
    obtain⟨n1,n2⟩:=jS hb
    obtain⟨l1,rfl⟩:=(Er hx).resolve_right fun⟨i,e⟩=>n1 i e
    obtain⟨l2,rfl⟩:=(Er hy).resolve_right fun⟨i,e⟩=>n2 i e
    exact s2 _ _ rfl rfl
  split at h
  ·rw[Option.map_eq_some_iff] at h
   obtain⟨b,hb,rfl⟩:=h
   obtain⟨he,hg⟩:=key .eql (.inl rfl) b hb
   exact⟨.bool b,by rw[Sem.run_bind,hg];simp [RJ (jS hb).1 (jS hb).2,he],.bool b⟩
  ·rw[Option.map_eq_some_iff] at h
   obtain⟨b,hb,rfl⟩:=h
   obtain⟨he,hg⟩:=key .neq (.inr rfl) b hb
   exact⟨.bool !b,by rw[Sem.run_bind,hg];simp [RO (jS hb).1 (jS hb).2,he],.bool _⟩
  ·cases h
theorem Hd [Env] {op:UnOp} {x v:V} (h:Bx op x=some v) {x':Value} (hx:aq ρ x x'):∃v',(∀w,(Op.unary op x').run P w=.ok v' w)∧aq ρ v v':=by
 unfold Bx at h
 split at h
 ·cases h;cases hx;exact⟨_,fun w=>rfl,.int _ _⟩
 ·cases h;cases hx;exact⟨_,fun w=>rfl,.int _ _⟩
 ·cases h;cases hx;exact⟨_,fun w=>rfl,.bool _⟩
 ·cases h
end
end Go.Ev
