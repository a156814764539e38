/- Proved: parts of the way: Flt, BEq12, BC2, BC3, BEq13. -/
import Derived.Test.YtbajncpfmemdgaaGreatDoorEvQ10
import Derived.Test.YtbajncpfmemdgaaGreatDoorEvQ18
set_option exponentiation.threshold 3000
section
namespace Go.Ev.Flt
open Ieee
def val (s:Bool) (M:Nat) (p:Int):Int:=if s then -((M*2^(p+1074).toNat:Nat):Int) else((M*2^(p+1074).toNat:Nat):Int)
theorem Fs (s:Bool) (M a b:Nat):signed s M (a+b)=signed s M a*((2^b:Nat):Int):=by
 unfold signed
 rw[Nat.shiftLeft_eq,Nat.shiftLeft_eq,Nat.pow_add,←Nat.mul_assoc]
 cases s with
 | true=>rw[if_pos rfl,if_pos rfl,Int.neg_mul,←Int.natCast_mul]
 | false=>rw[if_neg Bool.false_ne_true,if_neg Bool.false_ne_true,←Int.natCast_mul]
theorem zM (s:Bool) (M:Nat) (p:Int) (base:Int) (hb:base≤p) (h: -1074≤base):val s M p=signed s M (p-base).toNat*((2^(base+1074).toNat:Nat):Int):=by
 have e:(p+1074).toNat=(p-base).toNat+(base+1074).toNat:=by omega
 rw[←Fs,←e]
 unfold val signed
 rw[Nat.shiftLeft_eq]
theorem Hj (x y:Int) (c:Nat) (hc:0<c):compare x y=compare (x*(c:Int)) (y*(c:Int)):=by
 have fu:(0:Int)<(c:Int):=by omega
 rcases Int.lt_trichotomy x y with h | h | h
 ·have h':=Int.mul_lt_mul_of_pos_right h fu
  simp only[compare,compareOfLessAndEq,if_pos h,if_pos h']
 ·subst h;simp only[compare,compareOfLessAndEq,Int.lt_irrefl,if_false]
 ·have h':=Int.mul_lt_mul_of_pos_right h fu
  simp only[compare,compareOfLessAndEq,if_neg (Int.not_lt.mpr (Int.le_of_lt h)),if_neg (Int.not_lt.mpr (Int.le_of_lt h')),if_neg (Int.ne_of_gt h),if_neg (Int.ne_of_gt h')]
theorem qT {s t:Bool} {M N:Nat} {p q:Int} (hp: -1074≤p) (hq: -1074≤q):Datum.order (.number s M p) (.number t N q)=some (compare (val s M p) (val t N q)):=by
 show some (compare (signed s M (p-min p q).toNat) (signed t N (q-min p q).toNat))=_
 rw[Hj _ _ (2^(min p q+1074).toNat) (Nat.two_pow_pos _),←zM s M p (min p q) (by omega) (by omega),←zM t N q (min p q) (by omega) (by omega)]
theorem cmp_eq (x y:Int):(some (compare x y)==some Ordering.eq)=decide (x=y):=by
 by_cases h:x=y
 ·subst h;simp [compare,compareOfLessAndEq]
 ·rw[decide_eq_false h]
  by_cases h':x<y<;>simp [compare,compareOfLessAndEq,h,h']
theorem Zc (x y:Int):(some (compare x y)==some Ordering.lt)=decide (x<y):=by
 by_cases h:x<y
 ·simp [compare,compareOfLessAndEq,h]
 ·rw[decide_eq_false h]
  by_cases h':x=y<;>simp [compare,compareOfLessAndEq,h,h']
theorem Zd (x y:Int):(some (compare x y)==some Ordering.gt||some (compare x y)==some Ordering.eq)=decide (y≤x):=by
 by_cases h:x<y
 ·rw[decide_eq_false (by omega)];simp [compare,compareOfLessAndEq,h]
 ·rw[decide_eq_true (by omega)]
  by_cases h':x=y<;>simp [compare,compareOfLessAndEq,h,h']
theorem Ft (s:Bool) (n d:Nat):Toward.zero.cut s n d=n/2^d:=by
 unfold Toward.cut
 simp only[Bool.toNat_false,Nat.add_zero,Nat.one_shiftLeft]
 by_cases h:d≤n.log2+2
 ·rw[Nat.min_eq_left h]
 ·rw[Nat.min_eq_right (by omega)]
  have hn:n<2^(n.log2+2):=Nat.lt_of_lt_of_le Nat.lt_log2_self (Nat.pow_le_pow_right (by decide) (by omega))
  rw[Nat.div_eq_of_lt hn,Nat.div_eq_of_lt (Nat.lt_of_lt_of_le hn (Nat.pow_le_pow_right (by decide) (by omega)))]
theorem Ze {M Q:Nat} {p:Int} (hp: -1074≤p) (h:M*2^(p+1074).toNat=Q*2^1074):(M <<< p.toNat)/2^(-p).toNat=Q:=by
 rw[Nat.shiftLeft_eq]
 by_cases h0:0≤p
 ·have e:(p+1074).toNat=p.toNat+1074:=by omega
  rw[e,Nat.pow_add,←Nat.mul_assoc] at h
  have h':=Nat.eq_of_mul_eq_mul_right (Nat.two_pow_pos 1074) h
  rw[h',show(-p).toNat=0 by omega,Nat.pow_zero,Nat.div_one]
 ·have e:1074=(-p).toNat+(p+1074).toNat:=by omega
  rw[show Q*2^1074=Q*2^((-p).toNat+(p+1074).toNat) by rw[←e],Nat.pow_add,←Nat.mul_assoc] at h
  have h':=Nat.eq_of_mul_eq_mul_right (Nat.two_pow_pos _) h
  rw[show p.toNat=0 by omega,Nat.pow_zero,Nat.mul_one,h',Nat.mul_div_cancel _ (Nat.two_pow_pos _)]
theorem ON {s:Bool} {M Q:Nat} {p:Int} (hp: -1074≤p) (h:M*2^(p+1074).toNat=Q*2^1074):(Datum.number s M p).toInt .zero=some (signed s Q 0):=by
 show some (signed s (Toward.zero.cut s (M <<< p.toNat) (-p).toNat) 0)=_
 rw[Ft,Ze hp h]
theorem yk (s:Bool) (r:Nat):double.word s r=(if s then 9223372036854775808 else 0)+r:=by
 unfold Format.word
 cases s
 ·show r=0+r;omega
 ·rfl
theorem rn (s:Bool) (e f:Nat) (he:e≤2045) (hf:f<4503599627370496):double.read (double.word s ((e+1)*4503599627370496+f))=.number s (4503599627370496+f) (-1074+(e:Int)):=by
 rw[yk]
 unfold Format.read
 rw[show double.signWeight=9223372036854775808 from rfl,show double.binade=4503599627370496 from rfl,show double.infRung=9218868437227405312 from rfl,show double.leastPlace= -1074 from rfl]
 have e1:((if s then 9223372036854775808 else 0)+((e+1)*4503599627370496+f))%9223372036854775808=(e+1)*4503599627370496+f:=by cases s<;>simp<;>omega
 have e2:(((if s then 9223372036854775808 else 0)+((e+1)*4503599627370496+f))/9223372036854775808%2==1)=s:=by
  cases s
  ·have:(0+((e+1)*4503599627370496+f))/9223372036854775808%2=0:=by omega
   simp only[Bool.false_eq_true,if_false,this];rfl
  ·have:(9223372036854775808+((e+1)*4503599627370496+f))/9223372036854775808%2=1:=by omega
   simp only[if_true,this];rfl
 have e3:((e+1)*4503599627370496+f)%4503599627370496=f:=by omega
 have e4:((e+1)*4503599627370496+f)/4503599627370496-1=e:=by omega
 dsimp only
 rw[e1,e2,e3,e4,if_neg (by omega),if_pos (by omega)]
def e7 (m:Nat):Nat:=if m.log2≤52 then m*2^(52-m.log2) else
 m/2^(m.log2-52)+(decide (2^(m.log2-52)<2*(m%2^(m.log2-52)))||((2^(m.log2-52)==2*(m%2^(m.log2-52)))&&(m/2^(m.log2-52)%2==1))).toNat
theorem pc {m:Nat} (h0:m≠0):4503599627370496≤e7 m∧e7 m≤9007199254740992∧(m.log2≤52→e7 m<9007199254740992):=by
 have h1:2^m.log2≤m:=Nat.log2_self_le h0
 have h2:m<2^(m.log2+1):=Nat.lt_log2_self
 unfold e7
 split
 ·rename_i h
  have a:2^m.log2*2^(52-m.log2)=4503599627370496:=by rw[←Nat.pow_add,show m.log2+(52-m.log2)=52 by omega]
  have b:2^(m.log2+1)*2^(52-m.log2)=9007199254740992:=by rw[←Nat.pow_add,show m.log2+1+(52-m.log2)=53 by omega]
  have c:=Nat.mul_le_mul_right (2^(52-m.log2)) h1
  have d:=Nat.mul_lt_mul_of_pos_right h2 (Nat.two_pow_pos (52-m.log2))
  omega
 ·rename_i h
  have a:2^m.log2=4503599627370496*2^(m.log2-52):=by rw[show(4503599627370496:Nat)=2^52 from rfl,←Nat.pow_add,show 52+(m.log2-52)=m.log2 by omega]
  have b:2^(m.log2+1)=9007199254740992*2^(m.log2-52):=by rw[show(9007199254740992:Nat)=2^53 from rfl,←Nat.pow_add,show 53+(m.log2-52)=m.log2+1 by omega]
  rw[a] at h1
  rw[b] at h2
  have c:4503599627370496≤m/2^(m.log2-52):=(Nat.le_div_iff_mul_le (Nat.two_pow_pos _)).mpr h1
  have d:m/2^(m.log2-52)<9007199254740992:=(Nat.div_lt_iff_lt_mul (Nat.two_pow_pos _)).mpr h2
  have e:=Bool.toNat_le (decide (2^(m.log2-52)<2*(m%2^(m.log2-52)))||((2^(m.log2-52)==2*(m%2^(m.log2-52)))&&(m/2^(m.log2-52)%2==1)))
  exact⟨by omega,by omega,fun h=>by omega⟩
theorem CA (s:Bool) {m:Nat} (h0:m≠0) (h1:m.log2≤63):double.nearest s m 0=double.word s ((m.log2+1022)*4503599627370496+e7 m):=by
 have hk:=pc h0
 unfold Format.nearest
 rw[if_neg h0]
 rw[show double.leastPlace= -1074 from rfl,show double.binade=4503599627370496 from rfl,show double.infRung=9218868437227405312 from rfl,show(double.fractionBits:Int)=52 from rfl]
 have hl:max ((0:Int)+(m.log2:Int)-52) (-1074)=(m.log2:Int)-52:=by omega
 dsimp only
 rw[hl]
 have e1:((m.log2:Int)-52 - -1074).toNat=m.log2+1022:=by omega
 rw[e1]
 have e2:Toward.even.cut s (m <<< ((0:Int)-((m.log2:Int)-52)).toNat) ((m.log2:Int)-52-0).toNat=e7 m:=by
  unfold e7 Toward.cut
  dsimp only
  by_cases h:m.log2≤52
  ·rw[if_pos h,show((0:Int)-((m.log2:Int)-52)).toNat=52-m.log2 by omega,show((m.log2:Int)-52-0).toNat=0 by omega,Nat.shiftLeft_eq,Nat.zero_min]
   simp only[Nat.shiftLeft_zero,Nat.div_one,Nat.mod_one,Nat.mul_zero]
   rfl
  ·rw[if_neg h,show((0:Int)-((m.log2:Int)-52)).toNat=0 by omega,show((m.log2:Int)-52-0).toNat=m.log2-52 by omega,Nat.shiftLeft_zero]
   rw[show min (m.log2-52) (m.log2+2)=m.log2-52 by omega,Nat.one_shiftLeft]
 rw[e2,Nat.min_eq_left (by omega)]
def nC (m:Nat):Nat:=if m.log2≤52 then m else e7 m*2^(m.log2-52)
theorem Rf (s:Bool) {m:Nat} (h0:m≠0) (h1:m.log2≤63):∃M p,double.read (double.nearest s m 0)=.number s M p∧ -1074≤p∧M*2^(p+1074).toNat=nC m*2^1074∧M≠0:=by
 obtain⟨k1,k2,k3⟩:=pc h0
 rw[CA s h0 h1]
 have hr:e7 m*2^(m.log2+1022)=nC m*2^1074:=by
  unfold nC
  split
  ·rename_i h
   unfold e7
   rw[if_pos h,Nat.mul_assoc,←Nat.pow_add,show 52-m.log2+(m.log2+1022)=1074 by omega]
  ·rename_i h
   rw[Nat.mul_assoc,←Nat.pow_add,show m.log2-52+1074=m.log2+1022 by omega]
 by_cases h:e7 m<9007199254740992
 ·refine⟨e7 m,-1074+((m.log2+1022:Nat):Int),?_,by omega,?_,by omega⟩
  ·rw[show(m.log2+1022)*4503599627370496+e7 m=(m.log2+1022+1)*4503599627370496+(e7 m-4503599627370496) by omega,rn s _ _ (by omega) (by omega),show 4503599627370496+(e7 m-4503599627370496)=e7 m by omega]
  ·rw[show(-1074+((m.log2+1022:Nat):Int)+1074).toNat=m.log2+1022 by omega];exact hr
 ·refine⟨4503599627370496,-1074+((m.log2+1023:Nat):Int),?_,by omega,?_,by omega⟩
  ·rw[show(m.log2+1022)*4503599627370496+e7 m=(m.log2+1023+1)*4503599627370496+0 by omega,rn s _ _ (by omega) (by omega)]
  ·rw[show(-1074+((m.log2+1023:Nat):Int)+1074).toNat=m.log2+1022+1 by omega,←hr,show e7 m=9007199254740992 by omega]
   generalize m.log2+1022=q
   rw[Nat.pow_succ];omega
def qd (m:Nat):Prop:=m.log2≤52∨m%2^(m.log2-52)=0
instance (m:Nat):Decidable (qd m):=inferInstanceAs (Decidable (_∨_))
theorem tH {m:Nat} (h:qd m):nC m=m:=by
 unfold nC
 split
 ·rfl
 ·rename_i hl
  have hm:m%2^(m.log2-52)=0:=h.resolve_left hl
  unfold e7
  rw[if_neg hl,hm]
  have p:=Nat.two_pow_pos (m.log2-52)
  rw[show(decide (2^(m.log2-52)<2*0)||((2^(m.log2-52)==2*0)&&(m/2^(m.log2-52)%2==1)))=false by
   rw[decide_eq_false (by omega),show(2^(m.log2-52)==2*0)=false by simp];rfl]
  have:=Nat.div_add_mod m (2^(m.log2-52))
  rw[Nat.mul_comm,hm] at this
  exact this
theorem VY {m:Nat} (h:¬qd m):nC m≠m:=by
 unfold qd at h
 intro e
 unfold nC at e
 rw[if_neg (fun c=>h (.inl c))] at e
 exact h (.inr ((congrArg (·% 2^(m.log2-52)) e.symm).trans (Nat.mul_mod_left _ _)))
theorem Fu {a b:Int} {K:Nat} (h:0<K):a*(K:Int)≤b*(K:Int)↔a≤b:=by
 constructor
 ·intro h'
  refine Int.not_lt.mp fun c=>?_
  have:=Int.mul_lt_mul_of_pos_right c (show(0:Int)<(K:Int) by omega)
  omega
 ·exact fun h'=>Int.mul_le_mul_of_nonneg_right h' (by omega)
theorem Rh {a b:Int} {K:Nat} (h:0<K):a*(K:Int)<b*(K:Int)↔a<b:=by
 rw[←Int.not_le,←Int.not_le,Fu h]
theorem g7 (s:Bool) (Q:Nat):signed s Q 0=if s then -(Q:Int) else(Q:Int):=by
 unfold signed;rw[Nat.shiftLeft_zero]
theorem w5 {s:Bool} {M Q:Nat} {p:Int} (h:M*2^(p+1074).toNat=Q*2^1074):val s M p=signed s Q 0*((2^1074:Nat):Int):=by
 unfold val
 rw[h,g7]
 cases s
 ·simp only[Bool.false_eq_true,if_false,Int.natCast_mul]
 ·simp only[if_true,Int.natCast_mul,Int.neg_mul]
theorem CB:double.read 4890909195324358656=.number false 4503599627370496 11:=by rfl
theorem zN:double.read 14114281232179134464=.number true 4503599627370496 11:=by rfl
theorem OO:4503599627370496*2^((11:Int)+1074).toNat=9223372036854775808*2^1074:=by
 rw[show((11:Int)+1074).toNat=11+1074 by rfl,Nat.pow_add,←Nat.mul_assoc]
theorem Ul:0<2^1074:=Nat.two_pow_pos _
structure Wh (b:Nat) (s:Bool) (Q:Nat):Prop where
 h:∃M p,double.read b=.number s M p∧ -1074≤p∧M*2^(p+1074).toNat=Q*2^1074
theorem Wh.ge {b:Nat} {s:Bool} {Q:Nat} (h:Wh b s Q):zi b 4890909195324358656=decide (9223372036854775808≤signed s Q 0):=by
 obtain⟨M,p,hr,hp,hv⟩:=h.h
 unfold zi
 show(Datum.order (double.read b) (double.read 4890909195324358656)==some .gt||Datum.order (double.read b) (double.read 4890909195324358656)==some .eq)=_
 rw[hr,CB,qT hp (by decide),Zd,w5 hv,w5 OO]
 exact decide_eq_decide.mpr (Fu Ul)
theorem Wh.lt {b:Nat} {s:Bool} {Q:Nat} (h:Wh b s Q):Cg b 14114281232179134464=decide (signed s Q 0 < -9223372036854775808):=by
 obtain⟨M,p,hr,hp,hv⟩:=h.h
 unfold Cg
 show(Datum.order (double.read b) (double.read 14114281232179134464)==some .lt)=_
 rw[hr,zN,qT hp (by decide),Zc,w5 hv,w5 OO]
 exact decide_eq_decide.mpr (Rh Ul)
theorem Wh.int {b:Nat} {s:Bool} {Q:Nat} (h:Wh b s Q):(FloatKind.f64.decode b).toInt .zero=some (signed s Q 0):=by
 obtain⟨M,p,hr,hp,hv⟩:=h.h
 show(double.read b).toInt .zero=_
 rw[hr]
 exact ON hp hv
theorem Wh.oD {b:Nat} {s:Bool} {Q:Nat} (h:Wh b s Q):Go.Ev.oD b=signed s Q 0:=by
 unfold Go.Ev.oD;rw[h.int]
theorem Wh.Ck {b:Nat} {s:Bool} {Q:Nat} (h:Wh b s Q) (h1: -9223372036854775808≤signed s Q 0) (h2:signed s Q 0<9223372036854775808):Go.Ev.Ck b .i64:=by
 unfold Go.Ev.Ck
 rw[h.oD,h.int]
 exact⟨rfl,h1,by show signed s Q 0≤9223372036854775807;omega⟩
theorem Fv {m:Nat} (h:m<18446744073709551616):m.log2≤63:=by
 by_cases h0:m=0
 ·subst h0;decide
 ·have:=(Nat.log2_lt h0 (k:=64)).mpr h;omega
theorem I9 (s:Bool) {m:Nat} (h:m<18446744073709551616):Wh (double.nearest s m 0) s (nC m):=by
 by_cases h0:m=0
 ·subst h0
  refine⟨0,-1074,?_,by decide,?_⟩
  ·cases s<;>rfl
  ·rw[show nC 0=0 from rfl,Nat.zero_mul,Nat.zero_mul]
 ·obtain⟨M,p,h1,h2,h3,_⟩:=Rf s h0 (Fv h)
  exact⟨M,p,h1,h2,h3⟩
theorem Zf {m:Nat} (h:m≤9223372036854775808):nC m≤9223372036854775808:=by
 by_cases hf:qd m
 ·rw[tH hf];exact h
 ·have hl:¬m.log2≤52:=fun c=>hf (.inl c)
  have h0:m≠0:=by intro c;subst c;exact hl (by decide)
  have h62:m.log2≤62:=by
   have:m≠9223372036854775808:=fun c=>hf (by subst c;decide)
   have:=(Nat.log2_lt h0 (k:=63)).mpr (by omega)
   omega
  unfold nC
  rw[if_neg hl]
  have hk:=(pc h0).2.1
  have h1:e7 m*2^(m.log2-52)≤9007199254740992*2^10:=Nat.mul_le_mul hk (Nat.pow_le_pow_right (by decide) (by omega))
  omega
def TI (b:Nat) (x:Int):Prop:=∃s Q,Wh b s Q∧x=signed s Q 0∧ -9223372036854775808≤x∧x<9223372036854775808
theorem Wh.OP {b:Nat} {s t:Bool} {Q R:Nat} (h:Wh b s Q) (h':Wh b t R):signed s Q 0=signed t R 0:=by
 have:=h.int.symm.trans h'.int
 exact Option.some.inj this
theorem TI.OP {b:Nat} {x y:Int} (h:TI b x) (h':TI b y):x=y:=by
 obtain⟨s,Q,h1,rfl,_⟩:=h
 obtain⟨t,R,h2,rfl,_⟩:=h'
 exact h1.OP h2
theorem Fw {b:Nat} {s:Bool} {M:Nat} {p:Int} (h:double.read b=.number s M p): -1074≤p∧M<9007199254740992:=by
 unfold Format.read at h
 rw[show double.signWeight=9223372036854775808 from rfl,show double.binade=4503599627370496 from rfl,show double.infRung=9218868437227405312 from rfl,show double.leastPlace= -1074 from rfl] at h
 dsimp only at h
 split at h
 ·cases h;omega
 ·split at h
  ·cases h;omega
  ·split at h<;>cases h
theorem Ja {M d:Nat} (h:M<9007199254740992):qd (M*2^d):=by
 by_cases h0:M=0
 ·subst h0;rw[Nat.zero_mul];exact .inl (by decide)
 ·by_cases hl:(M*2^d).log2≤52
  ·exact .inl hl
  ·refine .inr ?_
   have h1:(M*2^d).log2<53+d:=by
    refine(Nat.log2_lt (by have:=Nat.two_pow_pos d;exact Nat.mul_ne_zero h0 (by omega))).mpr ?_
    rw[Nat.pow_add]
    exact Nat.mul_lt_mul_of_pos_right h (Nat.two_pow_pos _)
   have e:d=(d-((M*2^d).log2-52))+((M*2^d).log2-52):=by omega
   generalize (M*2^d).log2-52=q at *
   rw[e,Nat.pow_add,←Nat.mul_assoc]
   exact Nat.mul_mod_left _ _
theorem val_inj {s:Bool} {M Q:Nat} {p:Int} (h:val s M p=signed s Q 0*((2^1074:Nat):Int)):M*2^(p+1074).toNat=Q*2^1074:=by
 unfold val at h
 rw[g7] at h
 generalize 2^1074=K at *
 cases s
 ·simp only[Bool.false_eq_true,if_false,←Int.natCast_mul] at h
  exact Int.ofNat.inj h
 ·simp only[if_true,Int.neg_mul,←Int.natCast_mul] at h
  exact Int.ofNat.inj (Int.neg_inj.mp h)
theorem Fx {b:Nat} {s:Bool} {M:Nat} {p:Int} (hr:double.read b=.number s M p) (h1:Cg b 14114281232179134464=false) (h2:zi b 4890909195324358656=false):
  Wh (ja b) s ((M <<< p.toNat)/2^(-p).toNat)∧((FloatKind.f64.format.order b (ja b) != some .eq)=true↔¬M*2^(p+1074).toNat=((M <<< p.toNat)/2^(-p).toNat)*2^1074):=by
 obtain⟨hp,hM⟩:=Fw hr
 have hq:(M <<< p.toNat)/2^(-p).toNat<18446744073709551616∧qd ((M <<< p.toNat)/2^(-p).toNat):=by
  by_cases h0:0≤p
  ·have e:M*2^(p+1074).toNat=(M*2^p.toNat)*2^1074:=by rw[show(p+1074).toNat=p.toNat+1074 by omega,Nat.pow_add,←Nat.mul_assoc]
   have hw:Wh b s (M*2^p.toNat):=⟨M,p,hr,hp,e⟩
   rw[hw.lt] at h1
   rw[hw.ge] at h2
   have h1:=of_decide_eq_false h1
   have h2:=of_decide_eq_false h2
   rw[g7] at h1 h2
   rw[show(-p).toNat=0 by omega,Nat.pow_zero,Nat.div_one,Nat.shiftLeft_eq]
   refine⟨?_,Ja hM⟩
   cases s
   ·simp only[Bool.false_eq_true,if_false] at h1 h2;omega
   ·simp only[if_true] at h1 h2;omega
  ·rw[show p.toNat=0 by omega,Nat.shiftLeft_zero]
   have hd:M/2^(-p).toNat≤M:=Nat.div_le_self _ _
   refine⟨by omega,?_⟩
   have:=Ja (M:=M/2^(-p).toNat) (d:=0) (by omega)
   rwa [Nat.pow_zero,Nat.mul_one] at this
 have hw:Wh (ja b) s ((M <<< p.toNat)/2^(-p).toNat):=by
  have e:ja b=double.nearest s ((M <<< p.toNat)/2^(-p).toNat) 0:=by
   show double.write ((double.read b).integral .zero)=_
   rw[hr]
   show double.nearest s (Toward.zero.cut s (M <<< p.toNat) (-p).toNat) 0=_
   rw[Ft]
  rw[e]
  have:=I9 s hq.1
  rwa [tH hq.2] at this
 refine⟨hw,?_⟩
 obtain⟨N,q,gB,og,m8⟩:=hw.h
 show(Datum.order (double.read b) (double.read (ja b)) != some .eq)=true↔_
 rw[hr,gB,qT hp og,bne,cmp_eq,w5 m8]
 constructor
 ·intro h c
  rw[w5 c] at h
  simp at h
 ·intro h
  rw[decide_eq_false fun c=>h (val_inj c)];rfl
theorem OQ (s:Bool) {Q R:Nat} (h:Q≤R): -(R:Int)≤signed s Q 0∧signed s Q 0≤R:=by
 rw[g7];cases s<;>simp<;>omega
end Go.Ev.Flt
end
section
namespace Go.Proofs.YtbajncpfmemdgaaGreatDoor
open Go Go.Ev
def xJ (n:Int):Int:=if Flt.qd n.natAbs then((FloatKind.nearest .f64 n:Nat):Int) else 0
def qe (n:Int):Bool:=decide (Flt.qd n.natAbs)
noncomputable def jj (s:List UInt8):Nat→Int
 | 0=>0
 | n+1=>jj s n*256%18446744073709551616+aw s n
def oq (b:Int):Prop:=0≤b∧b<18446744073709551616
noncomputable def iR (b:Int):Int:=@dite _ (∃x,Flt.TI b.toNat x) (Classical.propDecidable _) (fun h=>Classical.choose h) fun _=>0
noncomputable def qU (b:Int):Bool:=@decide (∃x,Flt.TI b.toNat x) (Classical.propDecidable _)
def Jb:Nat→List Nat:=(fun _=>[])
theorem agY [Env] (A:Nat→List SV→Prop) (Q:V→Prop) (b:Nat):WE Tryz.prog 277 Tryz.f277 L1 0 Jb A (fun v _=>Q v) [.dO .f64 b] Go.Ev.start=
  (((FloatKind.f64.decode b).isNaN=false∧Q (.dO .f64 (ja b)))):=by kernel_rfl
def Ri [Env] (vs:List V) (σ:St) (k:ah):Prop:=
 match vs with
 | [.dO .f64 b]=>(FloatKind.f64.decode b).isNaN=false∧k (.dO .f64 (ja b)) σ
 | _=>False
def L6 [Env]:=kS 277 Ri L1
def Jc:Nat→List Nat:=(fun _=>[])
theorem agZ [Env] (A:Nat→List SV→Prop) (Q:V→Prop) (n:Int):WE Tryz.prog 267 Tryz.f267 L6 0 Jc A (fun v _=>Q v) [.int .i64 n] Go.Ev.start=
  (aa (zi (FloatKind.nearest .f64 n) (4890909195324358656:Nat)) (Q (.tuple [.int .u64 (0:Int),.bool false])) ((Ck (FloatKind.nearest .f64 n) .i64∧((.i64:IntKind)=.i64∧aa (decide ((oD (FloatKind.nearest .f64 n))≠n)) (Q (.tuple [.int .u64 (0:Int),.bool false])) (Q (.tuple [.int .u64 (((FloatKind.nearest .f64 n:Nat):Int)),.bool true])))))):=by kernel_rfl
def Rj [Env] (vs:List V) (σ:St) (k:ah):Prop:=
 match vs with
 | [.int .i64 n]=>dR n∧k (.tuple [.int .u64 (xJ n),.bool (qe n)]) σ
 | _=>False
def Fy [Env]:=kS 267 Rj L6
def Bm:Nat→List Nat:=(fun i=>match i with | 0=>[4,5,6,7] | _=>[])
theorem ag0 [Env] (A:Nat→List SV→Prop) (Q:V→Prop) (n:Int):WE Tryz.prog 240 Tryz.f240 Fy 0 Bm A (fun v _=>Q v) [.int .i64 n] Go.Ev.start=
  (((.i64:IntKind)=.i64∧aa (decide (n=(0:Int))) (Q (.tuple [.int .u64 (0:Int),.bool true])) (((.i64:IntKind)=.i64∧aa (decide (n<(0:Int))) (A 0 [.val (.int .u64 (9223372036854775808:Int)),.val (.int .u64 (IntKind.u64.wrap ((0:Int)-(IntKind.u64.wrap n)))),.val (.int .i64 (0:Int)),.val (.int .i64 (0:Int))]) (A 0 [.val (.int .u64 (0:Int)),.val (.int .u64 (IntKind.u64.wrap n)),.val (.int .i64 (0:Int)),.val (.int .i64 (0:Int))]))))):=by kernel_rfl
theorem ag1 [Env] (A:Nat→List SV→Prop) (Q:V→Prop) (s m t i:Int):WL Tryz.prog 240 Tryz.f240 Fy 0 Bm A (fun v _=>Q v) 0 [.val (.int .u64 s),.val (.int .u64 m),.val (.int .i64 t),.val (.int .i64 i)]=
  (((.i64:IntKind)=.i64∧aa (decide (i<(64:Int))) ((0≤(IntKind.u64.wrap i)∧((.u64:IntKind)=.u64∧aa (decide ((IntKind.u64.wrap (BitVec.ofInt IntKind.u64.bits (m.fdiv (2^min (IntKind.u64.wrap i).toNat IntKind.u64.bits))&&& BitVec.ofInt IntKind.u64.bits (1:Int)).toNat)=(1:Int))) (A 0 [.val (.int .u64 s),.val (.int .u64 m),.val (.int .i64 i),.val (.int .i64 (IntKind.i64.wrap (i+(1:Int))))]) (A 0 [.val (.int .u64 s),.val (.int .u64 m),.val (.int .i64 t),.val (.int .i64 (IntKind.i64.wrap (i+(1:Int))))])))) (((.i64:IntKind)=.i64∧aa (decide (t>(52:Int))) ((0≤(IntKind.u64.wrap (IntKind.i64.wrap (t-(52:Int))))∧((.u64:IntKind)=.u64∧aa (decide ((IntKind.u64.wrap (BitVec.ofInt IntKind.u64.bits m&&& BitVec.ofInt IntKind.u64.bits (IntKind.u64.wrap ((IntKind.u64.wrap ((1:Int)*2^min (IntKind.u64.wrap (IntKind.i64.wrap (t-(52:Int)))).toNat IntKind.u64.bits))-(1:Int)))).toNat)≠(0:Int))) (Q (.tuple [.int .u64 (0:Int),.bool false])) ((0≤(IntKind.u64.wrap (IntKind.i64.wrap (t-(52:Int))))∧(0≤(52:Int)∧Q (.tuple [.int .u64 (IntKind.u64.wrap (BitVec.ofInt IntKind.u64.bits (IntKind.u64.wrap (BitVec.ofInt IntKind.u64.bits s||| BitVec.ofInt IntKind.u64.bits (IntKind.u64.wrap ((IntKind.u64.wrap (IntKind.i64.wrap (t+(1023:Int))))*2^min (52:Int).toNat IntKind.u64.bits))).toNat)||| BitVec.ofInt IntKind.u64.bits (IntKind.u64.wrap (BitVec.ofInt IntKind.u64.bits (m.fdiv (2^min (IntKind.u64.wrap (IntKind.i64.wrap (t-(52:Int)))).toNat IntKind.u64.bits))&&& BitVec.ofInt IntKind.u64.bits (4503599627370495:Int)).toNat)).toNat),.bool true]))))))) ((0≤(IntKind.u64.wrap (IntKind.i64.wrap ((52:Int)-t)))∧(0≤(52:Int)∧Q (.tuple [.int .u64 (IntKind.u64.wrap (BitVec.ofInt IntKind.u64.bits (IntKind.u64.wrap (BitVec.ofInt IntKind.u64.bits s||| BitVec.ofInt IntKind.u64.bits (IntKind.u64.wrap ((IntKind.u64.wrap (IntKind.i64.wrap (t+(1023:Int))))*2^min (52:Int).toNat IntKind.u64.bits))).toNat)||| BitVec.ofInt IntKind.u64.bits (IntKind.u64.wrap (BitVec.ofInt IntKind.u64.bits (IntKind.u64.wrap (m*2^min (IntKind.u64.wrap (IntKind.i64.wrap ((52:Int)-t))).toNat IntKind.u64.bits))&&& BitVec.ofInt IntKind.u64.bits (4503599627370495:Int)).toNat)).toNat),.bool true])))))))):=by kernel_rfl
def Rk [Env] (vs:List V) (σ:St) (k:ah):Prop:=
 match vs with
 | [.int .i64 n]=>dR n∧k (.tuple [.int .u64 (xJ n),.bool (qe n)]) σ
 | _=>False
def L7 [Env]:=kS 240 Rk Fy
def Jd:Nat→List Nat:=(fun _=>[])
theorem ag2 [Env] (A:Nat→List SV→Prop) (Q:V→Prop) (b:Int):WE Tryz.prog 270 Tryz.f270 L7 0 Jd A (fun v _=>Q v) [.int .u64 b] Go.Ev.start=
  (aa (FloatKind.f64.format.order b.toNat b.toNat != some .eq) (Q (.tuple [.int .i64 (0:Int),.bool false])) (aa (Cg b.toNat (14114281232179134464:Nat)) (Q (.tuple [.int .i64 (0:Int),.bool false])) (aa (zi b.toNat (4890909195324358656:Nat)) (Q (.tuple [.int .i64 (0:Int),.bool false])) (((FloatKind.f64.decode b.toNat).isNaN=false∧aa (FloatKind.f64.format.order b.toNat (ja b.toNat) != some .eq) (Q (.tuple [.int .i64 (0:Int),.bool false])) ((Ck b.toNat .i64∧Q (.tuple [.int .i64 (oD b.toNat),.bool true])))))))):=by kernel_rfl
def Rl [Env] (vs:List V) (σ:St) (k:ah):Prop:=
 match vs with
 | [.int .u64 b]=>oq b∧k (.tuple [.int .i64 (iR b),.bool (qU b)]) σ
 | _=>False
def L8 [Env]:=kS 270 Rl L7
def Je:Nat→List Nat:=(fun _=>[])
theorem ag3 [Env] (A:Nat→List SV→Prop) (Q:V→Prop) (b:Int):WE Tryz.prog 243 Tryz.f243 L8 0 Je A (fun v _=>Q v) [.int .u64 b] Go.Ev.start=
  (((0≤b∧b<18446744073709551616)∧((.i64:IntKind)=.i64∧aa (decide ((lV b)=(3:Int))) (Q (.tuple [.int .i64 (0:Int),.bool true])) (((.i64:IntKind)=.i64∧aa (decide ((lV b)≠(5:Int))) (Q (.tuple [.int .i64 (0:Int),.bool false])) (((0≤b∧b<18446744073709551616)∧((0≤b∧b<18446744073709551616)∧((.i64:IntKind)=.i64∧aa (decide ((IntKind.i64.wrap ((IntKind.i64.wrap ((eg b)-(1023:Int)))-(52:Int)))<(-52:Int))) (Q (.tuple [.int .i64 (0:Int),.bool false])) (((.i64:IntKind)=.i64∧aa (decide ((IntKind.i64.wrap ((IntKind.i64.wrap ((eg b)-(1023:Int)))-(52:Int)))>(11:Int))) (Q (.tuple [.int .i64 (0:Int),.bool false])) (((.i64:IntKind)=.i64∧aa (decide ((IntKind.i64.wrap ((IntKind.i64.wrap ((eg b)-(1023:Int)))-(52:Int)))<(0:Int))) ((0≤(IntKind.u64.wrap (IntKind.i64.wrap ((0:Int)-(IntKind.i64.wrap ((IntKind.i64.wrap ((eg b)-(1023:Int)))-(52:Int))))))∧((.u64:IntKind)=.u64∧aa (decide ((IntKind.u64.wrap (BitVec.ofInt IntKind.u64.bits (IntKind.u64.wrap (BitVec.ofInt IntKind.u64.bits (gu b)||| BitVec.ofInt IntKind.u64.bits (4503599627370496:Int)).toNat)&&& BitVec.ofInt IntKind.u64.bits (IntKind.u64.wrap ((IntKind.u64.wrap ((1:Int)*2^min (IntKind.u64.wrap (IntKind.i64.wrap ((0:Int)-(IntKind.i64.wrap ((IntKind.i64.wrap ((eg b)-(1023:Int)))-(52:Int)))))).toNat IntKind.u64.bits))-(1:Int)))).toNat)≠(0:Int))) (Q (.tuple [.int .i64 (0:Int),.bool false])) ((0≤(IntKind.u64.wrap (IntKind.i64.wrap ((0:Int)-(IntKind.i64.wrap ((IntKind.i64.wrap ((eg b)-(1023:Int)))-(52:Int))))))∧(0≤(63:Int)∧((.u64:IntKind)=.u64∧aa (decide ((b.fdiv (2^min (63:Int).toNat IntKind.u64.bits))=(1:Int))) (((.u64:IntKind)=.u64∧aa (decide (((IntKind.u64.wrap (BitVec.ofInt IntKind.u64.bits (gu b)||| BitVec.ofInt IntKind.u64.bits (4503599627370496:Int)).toNat).fdiv (2^min (IntKind.u64.wrap (IntKind.i64.wrap ((0:Int)-(IntKind.i64.wrap ((IntKind.i64.wrap ((eg b)-(1023:Int)))-(52:Int)))))).toNat IntKind.u64.bits))>(9223372036854775808:Int))) (Q (.tuple [.int .i64 (0:Int),.bool false])) (Q (.tuple [.int .i64 (IntKind.i64.wrap (IntKind.u64.wrap ((0:Int)-((IntKind.u64.wrap (BitVec.ofInt IntKind.u64.bits (gu b)||| BitVec.ofInt IntKind.u64.bits (4503599627370496:Int)).toNat).fdiv (2^min (IntKind.u64.wrap (IntKind.i64.wrap ((0:Int)-(IntKind.i64.wrap ((IntKind.i64.wrap ((eg b)-(1023:Int)))-(52:Int)))))).toNat IntKind.u64.bits))))),.bool true])))) (((.u64:IntKind)=.u64∧aa (decide (((IntKind.u64.wrap (BitVec.ofInt IntKind.u64.bits (gu b)||| BitVec.ofInt IntKind.u64.bits (4503599627370496:Int)).toNat).fdiv (2^min (IntKind.u64.wrap (IntKind.i64.wrap ((0:Int)-(IntKind.i64.wrap ((IntKind.i64.wrap ((eg b)-(1023:Int)))-(52:Int)))))).toNat IntKind.u64.bits))>(9223372036854775807:Int))) (Q (.tuple [.int .i64 (0:Int),.bool false])) (Q (.tuple [.int .i64 (IntKind.i64.wrap ((IntKind.u64.wrap (BitVec.ofInt IntKind.u64.bits (gu b)||| BitVec.ofInt IntKind.u64.bits (4503599627370496:Int)).toNat).fdiv (2^min (IntKind.u64.wrap (IntKind.i64.wrap ((0:Int)-(IntKind.i64.wrap ((IntKind.i64.wrap ((eg b)-(1023:Int)))-(52:Int)))))).toNat IntKind.u64.bits))),.bool true]))))))))))) ((0≤(IntKind.u64.wrap (IntKind.i64.wrap ((IntKind.i64.wrap ((eg b)-(1023:Int)))-(52:Int))))∧(0≤(63:Int)∧((.u64:IntKind)=.u64∧aa (decide ((b.fdiv (2^min (63:Int).toNat IntKind.u64.bits))=(1:Int))) (((.u64:IntKind)=.u64∧aa (decide ((IntKind.u64.wrap ((IntKind.u64.wrap (BitVec.ofInt IntKind.u64.bits (gu b)||| BitVec.ofInt IntKind.u64.bits (4503599627370496:Int)).toNat)*2^min (IntKind.u64.wrap (IntKind.i64.wrap ((IntKind.i64.wrap ((eg b)-(1023:Int)))-(52:Int)))).toNat IntKind.u64.bits))>(9223372036854775808:Int))) (Q (.tuple [.int .i64 (0:Int),.bool false])) (Q (.tuple [.int .i64 (IntKind.i64.wrap (IntKind.u64.wrap ((0:Int)-(IntKind.u64.wrap ((IntKind.u64.wrap (BitVec.ofInt IntKind.u64.bits (gu b)||| BitVec.ofInt IntKind.u64.bits (4503599627370496:Int)).toNat)*2^min (IntKind.u64.wrap (IntKind.i64.wrap ((IntKind.i64.wrap ((eg b)-(1023:Int)))-(52:Int)))).toNat IntKind.u64.bits))))),.bool true])))) (((.u64:IntKind)=.u64∧aa (decide ((IntKind.u64.wrap ((IntKind.u64.wrap (BitVec.ofInt IntKind.u64.bits (gu b)||| BitVec.ofInt IntKind.u64.bits (4503599627370496:Int)).toNat)*2^min (IntKind.u64.wrap (IntKind.i64.wrap ((IntKind.i64.wrap ((eg b)-(1023:Int)))-(52:Int)))).toNat IntKind.u64.bits))>(9223372036854775807:Int))) (Q (.tuple [.int .i64 (0:Int),.bool false])) (Q (.tuple [.int .i64 (IntKind.i64.wrap (IntKind.u64.wrap ((IntKind.u64.wrap (BitVec.ofInt IntKind.u64.bits (gu b)||| BitVec.ofInt IntKind.u64.bits (4503599627370496:Int)).toNat)*2^min (IntKind.u64.wrap (IntKind.i64.wrap ((IntKind.i64.wrap ((eg b)-(1023:Int)))-(52:Int)))).toNat IntKind.u64.bits))),.bool true]))))))))))))))))))))):=by kernel_rfl
def Rm [Env] (vs:List V) (σ:St) (k:ah):Prop:=
 match vs with
 | [.int .u64 b]=>oq b∧k (.tuple [.int .i64 (iR b),.bool (qU b)]) σ
 | _=>False
def L9 [Env]:=kS 243 Rm L8
end Go.Proofs.YtbajncpfmemdgaaGreatDoor
end
section
namespace Go.Proofs.YtbajncpfmemdgaaGreatDoor
open Go Go.Ev Go.IntWalk Go.Ev.Flt
open Ieee (double signed)
theorem F277:bl Tryz.prog 277 Tryz.f277:=.of (by kernel_rfl) (by kernel_rfl)
theorem F267:bl Tryz.prog 267 Tryz.f267:=.of (by kernel_rfl) (by kernel_rfl)
theorem F240:bl Tryz.prog 240 Tryz.f240:=.of (by kernel_rfl) (by kernel_rfl)
theorem F270:bl Tryz.prog 270 Tryz.f270:=.of (by kernel_rfl) (by kernel_rfl)
theorem F243:bl Tryz.prog 243 Tryz.f243:=.of (by kernel_rfl) (by kernel_rfl)
theorem Dh (x k:Nat) (hk:k≤64):((x:Nat):Int).fdiv (2^min (((k:Nat):Int)).toNat IntKind.u64.bits)=((x/2^k:Nat):Int):=by
 rw[dJ,show min k IntKind.u64.bits=k from Nat.min_eq_left hk,Int.fdiv_eq_ediv_of_nonneg _ (by exact Int.le_of_lt (Int.pow_pos (by decide)))]
 rw[Int.natCast_ediv,Int.natCast_pow];rfl
theorem Bn (x k:Nat) (hk:k≤64):IntKind.u64.wrap (((x:Nat):Int)*2^min (((k:Nat):Int)).toNat IntKind.u64.bits)=((x*2^k%18446744073709551616:Nat):Int):=by
 rw[dJ,show min k IntKind.u64.bits=k from Nat.min_eq_left hk,wrap_u64,Int.natCast_emod,Int.natCast_mul,Int.natCast_pow];rfl
theorem Um {x:Nat} (hx:x<18446744073709551616):(BitVec.ofInt IntKind.u64.bits ((x:Nat):Int)).toNat=x:=by
 rw[show IntKind.u64.bits=64 from rfl,BitVec.toNat_ofInt]
 show(((x:Nat):Int)%(18446744073709551616:Nat)).toNat=x
 omega
theorem Ma {x y:Nat} (hx:x<18446744073709551616) (hy:y<18446744073709551616):IntKind.u64.wrap (BitVec.ofInt IntKind.u64.bits ((x:Nat):Int)&&& BitVec.ofInt IntKind.u64.bits ((y:Nat):Int)).toNat=((x&&& y:Nat):Int):=by
 rw[BitVec.toNat_and,Um hx,Um hy,wrap_u64]
 have:x&&& y≤x:=Nat.and_le_left
 omega
theorem Jf {x y:Nat} (hx:x<18446744073709551616) (hy:y<18446744073709551616):IntKind.u64.wrap (BitVec.ofInt IntKind.u64.bits ((x:Nat):Int)||| BitVec.ofInt IntKind.u64.bits ((y:Nat):Int)).toNat=((x||| y:Nat):Int):=by
 rw[BitVec.toNat_or,Um hx,Um hy,wrap_u64]
 have:x||| y<2^64:=Nat.or_lt_two_pow hx hy
 omega
theorem Un {x k:Nat} (hk:k≤63) (hx:x<18446744073709551616):IntKind.u64.wrap (BitVec.ofInt IntKind.u64.bits ((x:Nat):Int)&&& BitVec.ofInt IntKind.u64.bits (IntKind.u64.wrap ((IntKind.u64.wrap ((1:Int)*2^min (((k:Nat):Int)).toNat IntKind.u64.bits))-(1:Int)))).toNat=((x%2^k:Nat):Int):=by
 have h:=Bn 1 k (by omega)
 have hp:=Nat.two_pow_pos k
 have hq:2^k≤2^63:=Nat.pow_le_pow_right (by decide) hk
 rw[show(((1:Nat):Nat):Int)=(1:Int) from rfl,Nat.one_mul,Nat.mod_eq_of_lt (by omega)] at h
 rw[h,wrap_u64 (((2^k:Nat):Int)-1),show(((2^k:Nat):Int)-1)%18446744073709551616=((2^k-1:Nat):Int) by omega,Ma hx (by omega),Nat.and_two_pow_sub_one_eq_mod]
theorem zO {k a b:Nat} (h:b<2^k):(2^k*a)||| b=2^k*a+b:=(Nat.two_pow_add_eq_or_of_lt h a).symm
def oE (m:Nat):Nat→Nat
 | 0=>0
 | i+1=>if m/2^i%2=1 then i else oE m i
theorem Fz (m:Nat):∀i,oE m i=(m%2^i).log2
 | 0=>by rw[Nat.pow_zero,Nat.mod_one];rfl
 | i+1=>by
  have hp:=Nat.two_pow_pos i
  have hm:m%2^(i+1)=m%2^i+2^i*(m/2^i%2):=by rw[Nat.pow_succ,Nat.mod_mul]
  unfold oE
  split
  ·rename_i h
   rw[hm,h,Nat.mul_one]
   have:=Nat.mod_lt m hp
   refine((Nat.log2_eq_iff (by omega)).mpr ⟨by omega,?_⟩).symm
   rw[Nat.pow_succ];omega
  ·rename_i h
   rw[hm,show m/2^i%2=0 by omega,Nat.mul_zero,Nat.add_zero]
   exact Fz m i
theorem Jg (m:Nat):∀i,oE m i≤i
 | 0=>Nat.le_refl _
 | i+1=>by
  unfold oE
  split
  ·omega
  ·exact Nat.le_succ_of_le (Jg m i)
theorem Bo {n:Int} (h:dR n):n.natAbs≤9223372036854775808:=by have:=h.1;have:=h.2;omega
theorem Jh {n:Int}:signed (decide (n<0)) n.natAbs 0=n:=by
 rw[g7]
 by_cases h:n<0
 ·rw[decide_eq_true h,if_pos rfl];omega
 ·rw[decide_eq_false h,if_neg Bool.false_ne_true];omega
theorem Ji (n:Int):FloatKind.nearest .f64 n=double.nearest (decide (n<0)) n.natAbs 0:=rfl
theorem eA.dO [Env] (k:FloatKind) (b:Nat):eA (.dO k b):=fun _ _ _ h=>by cases h;exact .dO _ _
theorem OR {b x:Int} (h:TI b.toNat x):iR b=x∧qU b=true:=by
 have he:∃x,TI b.toNat x:=⟨x,h⟩
 constructor
 ·unfold iR
  rw[dif_pos he]
  exact(Classical.choose_spec he).OP h
 ·unfold qU;exact @decide_eq_true _ (Classical.propDecidable _) he
theorem Uo {b:Int} (h:∀x,¬TI b.toNat x):iR b=0∧qU b=false:=by
 have he:¬ ∃x,TI b.toNat x:=fun⟨x,hx⟩=>h x hx
 constructor
 ·unfold iR;rw[dif_neg he]
 ·unfold qU;exact @decide_eq_false _ (Classical.propDecidable _) he
section
variable [Env] [aZ] {vs:List V} {σ:St} {k:ah}
theorem VZ (h:Ri vs σ k):ag Tryz.prog 277 vs k σ:=by
 unfold Ri at h
 split at h
 ·rename_i b
  refine ag.cj (av (Go.Ev.Clean.dO _ _) aM) (eA.dO _ _) (F277.flat (live:=Jb) (call:=L1) (n₀:=0) (σ:=Go.Ev.start) (fun h=>I8 h) rfl (by kernel_rfl) ?_) h.2
  rw[agY]
  exact⟨h.1,rfl⟩
 ·exact h.elim
theorem Jj:∀ {f:FuncId} {vs:List V} {σ:St} {k:ah},L6 f vs σ k→ag Tryz.prog f vs k σ:=fun h=>aH VZ I8 h
omit [Env] [aZ] in
theorem Ro {n:Int} (h:¬qd n.natAbs):V.tuple [.int .u64 (0:Int),.bool false]=.tuple [.int .u64 (xJ n),.bool (qe n)]:=by
 unfold xJ qe;rw[if_neg h,decide_eq_false h]
omit [Env] [aZ] in
theorem Di {n:Int} {x:Nat} (h:qd n.natAbs) (hx:FloatKind.nearest .f64 n=x):V.tuple [.int .u64 ((x:Nat):Int),.bool true]=.tuple [.int .u64 (xJ n),.bool (qe n)]:=by
 unfold xJ qe;rw[if_pos h,decide_eq_true h,hx]
theorem V0 (h:Rj vs σ k):ag Tryz.prog 267 vs k σ:=by
 unfold Rj at h
 split at h
 ·rename_i n
  obtain⟨hn,h⟩:=h
  refine ag.cj (av (Go.Ev.Clean.int _ _) aM) (.tuple (bN (.int _ _) (bN (.bool _) gn))) (F267.flat (live:=Jc) (call:=L6) (n₀:=0) (σ:=Go.Ev.start) (fun h=>Jj h) rfl (by kernel_rfl) ?_) h
  rw[agZ]
  have hm:=Bo hn
  have hw:Wh (FloatKind.nearest .f64 n) (decide (n<0)) (nC n.natAbs):=by rw[Ji];exact I9 _ (by omega)
  have hr:=Zf hm
  rw[hw.ge,hw.oD]
  refine aq (fun h1=>Ro fun hf=>?_) fun h1=>⟨hw.Ck ?_ (by omega),rfl,aq (fun h2=>Ro fun hf=>?_) fun h2=>Di ?_ rfl⟩
  ·rw[tH hf,Jh] at h1;have:=hn.2;omega
  ·have:=(OQ (decide (n<0)) hr).1;omega
  ·rw[tH hf,Jh] at h2;exact h2 rfl
  ·refine Classical.byContradiction fun hf=>VY hf ?_
   have h2:signed (decide (n<0)) (nC n.natAbs) 0=n:=Classical.not_not.mp h2
   rw[g7] at h2
   by_cases h0:n<0
   ·rw[decide_eq_true h0,if_pos rfl] at h2;omega
   ·rw[decide_eq_false h0,if_neg Bool.false_ne_true] at h2;omega
 ·exact h.elim
theorem Jk:∀ {f:FuncId} {vs:List V} {σ:St} {k:ah},Fy f vs σ k→ag Tryz.prog f vs k σ:=fun h=>aH V0 Jj h
def ag4 (s:Int) (m:Nat):Nat→List SV→Prop
 | 0,ss=>∃i:Nat,i≤64∧ss=[.val (.int .u64 s),.val (.int .u64 ((m:Nat):Int)),.val (.int .i64 ((oE m i:Nat):Int)),.val (.int .i64 ((i:Nat):Int))]
 | _,_=>False
omit [Env] [aZ] in
theorem Up {n:Int} (h0:n≠0) (hn:dR n) {s:Nat} (hs:s=if n<0 then 9223372036854775808 else 0) {q:Nat} (hq:e7 n.natAbs=q) (hq1:4503599627370496≤q) (hq2:q<9007199254740992):
  FloatKind.nearest .f64 n=(s||| (n.natAbs.log2+1023)*2^52%18446744073709551616)||| q%2^52:=by
 have hm:=Bo hn
 have hl:n.natAbs.log2≤63:=Fv (by omega)
 rw[Ji,CA _ (by omega) hl,hq,yk]
 generalize n.natAbs.log2=l at *
 rw[Nat.mod_eq_of_lt (by omega)]
 have e1:s||| (l+1023)*2^52=s+(l+1023)*2^52:=by
  subst hs
  split
  ·have:=zO (k:=63) (a:=1) (b:=(l+1023)*2^52) (by omega)
   rw[Nat.mul_one] at this;exact this
  ·rw[Nat.zero_or,Nat.zero_add]
 have e2:∃a,s+(l+1023)*2^52=2^52*a:=by
  subst hs
  split
  ·exact⟨2048+(l+1023),by omega⟩
  ·exact⟨l+1023,by omega⟩
 obtain⟨a,e2⟩:=e2
 rw[e1,e2,zO (by omega),←e2]
 subst hs
 by_cases h0:n<0
 ·rw[decide_eq_true h0,if_pos rfl,if_pos h0];omega
 ·rw[decide_eq_false h0,if_neg Bool.false_ne_true,if_neg h0];omega
omit [Env] [aZ] in
theorem Rp {m:Nat} (hl:¬m.log2≤52) (h:m%2^(m.log2-52)=0):e7 m=m/2^(m.log2-52):=by
 have hp:=Nat.two_pow_pos (m.log2-52)
 unfold e7
 rw[if_neg hl,h,show(decide (2^(m.log2-52)<2*0)||((2^(m.log2-52)==2*0)&&(m/2^(m.log2-52)%2==1)))=false by
  rw[decide_eq_false (by omega),show(2^(m.log2-52)==2*0)=false by simp];rfl]
 rfl
theorem V1 (h:Rk vs σ k):ag Tryz.prog 240 vs k σ:=by
 unfold Rk at h
 split at h
 ·rename_i n
  obtain⟨hn,h⟩:=h
  have hm:=Bo hn
  refine ag.cj (av (Go.Ev.Clean.int _ _) aM) (.tuple (bN (.int _ _) (bN (.bool _) gn))) (F240.cf (live:=Bm) (call:=Fy) (n₀:=0) (σ:=Go.Ev.start) (fun h=>Jk h) rfl 1 (by kernel_rfl) Nat.lt_wfRel.wf (fun _ ss=>64-cb ss) (fun j ss=>n≠0∧ag4 (((if n<0 then 9223372036854775808 else 0:Nat):Nat):Int) n.natAbs j ss) ?_ ?_ ?_) h
  ·intro k ss hI
   cases k with
   | zero=>obtain⟨_,i,_,rfl⟩:=hI;exact aG (aG (aG (aG bG)))
   | succ k=>exact hI.2.elim
  ·rw[ag0]
   refine⟨rfl,aq (fun h1=>?_) fun h1=>⟨rfl,aq (fun h2=>⟨h1,0,by omega,?_⟩) fun h2=>⟨h1,0,by omega,?_⟩⟩⟩
   ·subst h1;exact Di (x:=0) (by decide) rfl
   ·rw[if_pos h2,wrap_u64,wrap_u64,show(0-n%18446744073709551616)%18446744073709551616=((n.natAbs:Nat):Int) by have:=hn.1;omega];rfl
   ·rw[if_neg h2,wrap_u64,show n%18446744073709551616=((n.natAbs:Nat):Int) by have:=hn.2;omega];rfl
  ·intro k hk ss hI
   obtain rfl:k=0:=by omega
   obtain⟨h0,i,hi,rfl⟩:=hI
   rw[ag1]
   have ht:=Jg n.natAbs i
   refine⟨rfl,aq (fun h1=>?_) fun h1=>?_⟩
   ·have e1:IntKind.u64.wrap ((i:Nat):Int)=((i:Nat):Int):=by rw[wrap_u64];omega
    rw[e1,Dh _ _ (by omega),show(1:Int)=((1:Nat):Int) from rfl,Ma (Nat.lt_of_le_of_lt (Nat.div_le_self _ _) (by omega)) (by omega),Nat.and_one_is_mod]
    have e2:IntKind.i64.wrap (((i:Nat):Int)+((1:Nat):Int))=((i+1:Nat):Int):=by rw[i64_in _ (by omega)];omega
    rw[e2]
    refine⟨by omega,rfl,aq (fun h2=>⟨⟨h0,i+1,by omega,?_⟩,?_⟩) fun h2=>⟨⟨h0,i+1,by omega,?_⟩,?_⟩⟩
    ·rw[show oE n.natAbs (i+1)=i by unfold oE;rw[if_pos (by omega)]]
    ·show 64-(((i+1:Nat):Int)).toNat<64-(((i:Nat):Int)).toNat
     omega
    ·rw[show oE n.natAbs (i+1)=oE n.natAbs i by rw[oE,if_neg (by omega)]]
    ·show 64-(((i+1:Nat):Int)).toNat<64-(((i:Nat):Int)).toNat
     omega
   ·obtain rfl:i=64:=by omega
    have hl:oE n.natAbs 64=n.natAbs.log2:=by rw[Fz,Nat.mod_eq_of_lt (by omega)]
    rw[hl] at ht⊢
    have akB:n.natAbs.log2≤63:=Fv (by omega)
    have hk:=pc (m:=n.natAbs) (by omega)
    have e1:IntKind.u64.wrap (IntKind.i64.wrap (((n.natAbs.log2:Nat):Int)+(1023:Int)))=((n.natAbs.log2+1023:Nat):Int):=by rw[i64_in _ (by omega),wrap_u64];omega
    rw[e1]
    refine⟨rfl,aq (fun h2=>?_) fun h2=>?_⟩
    ·have e2:IntKind.u64.wrap (IntKind.i64.wrap (((n.natAbs.log2:Nat):Int)-(52:Int)))=((n.natAbs.log2-52:Nat):Int):=by rw[i64_in _ (by omega),wrap_u64];omega
     rw[e2,Un (by omega) (by omega),Dh _ _ (by omega)]
     refine⟨by omega,rfl,aq (fun h3=>Ro ?_) fun h3=>⟨by omega,by omega,?_⟩⟩
     ·intro hf;exact h3 (by have:=hf.resolve_left (by omega);rw[this];rfl)
     ·have h3:n.natAbs%2^(n.natAbs.log2-52)=0:=by omega
      have hq:=Rp (m:=n.natAbs) (by omega) h3
      have hfq:n.natAbs/2^(n.natAbs.log2-52)<9007199254740992:=by
       refine(Nat.div_lt_iff_lt_mul (Nat.two_pow_pos _)).mpr ?_
       rw[show(9007199254740992:Nat)=2^53 from rfl,←Nat.pow_add,show 53+(n.natAbs.log2-52)=n.natAbs.log2+1 by omega]
       exact Nat.lt_log2_self
      have e3:=Bn (n.natAbs.log2+1023) 52 (by omega)
      rw[show((52:Nat):Int)=(52:Int) from rfl] at e3
      rw[e3,show(4503599627370495:Int)=((4503599627370495:Nat):Int) from rfl,Ma (by omega) (by omega),Jf (by split<;>omega) (by omega),show(4503599627370495:Nat)=2^52-1 from rfl,Nat.and_two_pow_sub_one_eq_mod,Jf ?_ (by omega)]
      ·exact Di (.inr h3) (Up h0 hn rfl hq (by omega) hfq)
      ·exact Nat.or_lt_two_pow (n:=64) (by split<;>omega) (by omega)
    ·have e2:IntKind.u64.wrap (IntKind.i64.wrap ((52:Int)-((n.natAbs.log2:Nat):Int)))=((52-n.natAbs.log2:Nat):Int):=by rw[i64_in _ (by omega),wrap_u64];omega
     have hq:e7 n.natAbs=n.natAbs*2^(52-n.natAbs.log2):=by unfold e7;rw[if_pos (by omega)]
     have hk3:=hk.2.2 (by omega)
     rw[e2,Bn _ _ (by omega),←hq,Nat.mod_eq_of_lt (by omega)]
     have e3:=Bn (n.natAbs.log2+1023) 52 (by omega)
     rw[show((52:Nat):Int)=(52:Int) from rfl] at e3
     rw[e3,show(4503599627370495:Int)=((4503599627370495:Nat):Int) from rfl,Ma (by omega) (by omega),Jf (by split<;>omega) (by omega),show(4503599627370495:Nat)=2^52-1 from rfl,Nat.and_two_pow_sub_one_eq_mod,Jf ?_ (by omega)]
     ·exact⟨by omega,by omega,Di (.inl (by omega)) (Up h0 hn rfl rfl hk.1 hk3)⟩
     ·exact Nat.or_lt_two_pow (n:=64) (by split<;>omega) (by omega)
 ·exact h.elim
theorem Jl:∀ {f:FuncId} {vs:List V} {σ:St} {k:ah},L7 f vs σ k→ag Tryz.prog f vs k σ:=fun h=>aH V1 Jk h
end
end Go.Proofs.YtbajncpfmemdgaaGreatDoor
end
section
namespace Go.Proofs.YtbajncpfmemdgaaGreatDoor
open Go Go.Ev Go.IntWalk Go.Ev.Flt
open Ieee (double signed Datum)
theorem we {b:Int} (h:∀x,¬TI b.toNat x):V.tuple [.int .i64 (0:Int),.bool false]=.tuple [.int .i64 (iR b),.bool (qU b)]:=by rw[(Uo h).1,(Uo h).2]
theorem Uq {b x:Int} (h:TI b.toNat x):V.tuple [.int .i64 x,.bool true]=.tuple [.int .i64 (iR b),.bool (qU b)]:=by rw[(OR h).1,(OR h).2]
theorem Mb {q:Nat} (h:q≤9223372036854775808):IntKind.i64.wrap (IntKind.u64.wrap ((0:Int)-(q:Int)))= -(q:Int):=by rw[wrap_u64,IntKind.wrap_i64];omega
theorem V2 {b:Nat} (hb:b<18446744073709551616) {e f:Nat} (he:b%9223372036854775808=(e+1)*4503599627370496+f) (h1:e≤2045) (hf:f<4503599627370496):
  double.read b=.number (decide (9223372036854775808≤b)) (4503599627370496+f) (-1074+(e:Int)):=by
 have hw:b=double.word (decide (9223372036854775808≤b)) ((e+1)*4503599627370496+f):=by
  rw[yk]
  by_cases h:9223372036854775808≤b
  ·rw[decide_eq_true h,if_pos rfl];omega
  ·rw[decide_eq_false h,if_neg Bool.false_ne_true];omega
 have:=rn (decide (9223372036854775808≤b)) e f h1 hf
 rw[←hw] at this
 exact this
theorem FA {b:Nat} (h:b%9223372036854775808<4503599627370496):∃s,double.read b=.number s (b%9223372036854775808) (-1074):=by
 refine⟨b/9223372036854775808%2==1,?_⟩
 unfold Ieee.Format.read
 rw[show double.signWeight=9223372036854775808 from rfl,show double.binade=4503599627370496 from rfl]
 dsimp only
 rw[if_pos h];rfl
theorem OS {b:Nat} (h:9218868437227405312≤b%9223372036854775808):∀s M p,double.read b≠.number s M p:=by
 intro s M p hc
 unfold Ieee.Format.read at hc
 rw[show double.signWeight=9223372036854775808 from rfl,show double.binade=4503599627370496 from rfl,show double.infRung=9218868437227405312 from rfl] at hc
 dsimp only at hc
 rw[if_neg (by omega),if_neg (by omega)] at hc
 split at hc<;>cases hc
theorem qf {b:Nat} {x:Int} (h:TI b x) {s:Bool} {M:Nat} {p:Int} (hr:double.read b=.number s M p):∃Q,M*2^(p+1074).toNat=Q*2^1074∧x=signed s Q 0∧ -9223372036854775808≤x∧x<9223372036854775808:=by
 obtain⟨t,Q,⟨N,q,gB,hq,hv⟩,hx,h1,h2⟩:=h
 rw[hr] at gB
 cases gB
 exact⟨Q,hv,hx,h1,h2⟩
theorem tI {M k Q:Nat} {p:Int} (hk:p+k=0) (hp: -1074≤p):M*2^(p+1074).toNat=Q*2^1074↔M=Q*2^k:=by
 have e:1074=k+(p+1074).toNat:=by omega
 constructor
 ·intro h
  rw[show Q*2^1074=Q*2^(k+(p+1074).toNat) by rw[←e],Nat.pow_add,←Nat.mul_assoc] at h
  exact Nat.eq_of_mul_eq_mul_right (Nat.two_pow_pos _) h
 ·intro h
  rw[h,Nat.mul_assoc,←Nat.pow_add,←e]
theorem OT {M k:Nat} {p:Int} (hk:p=k):M*2^(p+1074).toNat=(M*2^k)*2^1074:=by
 rw[show(p+1074).toNat=k+1074 by omega,Nat.pow_add,Nat.mul_assoc]
section
variable [Env] [aZ] {vs:List V} {σ:St} {k:ah}
theorem V3 (h:Rl vs σ k):ag Tryz.prog 270 vs k σ:=by
 unfold Rl at h
 split at h
 ·rename_i b
  obtain⟨hb,h⟩:=h
  refine ag.cj (av (Go.Ev.Clean.int _ _) aM) (.tuple (bN (.int _ _) (bN (.bool _) gn))) (F270.flat (live:=Jd) (call:=L7) (n₀:=0) (σ:=Go.Ev.start) (fun h=>Jl h) rfl (by kernel_rfl) ?_) h
  rw[ag2]
  cases hr:double.read b.toNat with
  | nan s t=>
   have no:∀x,¬TI b.toNat x:=fun x ⟨_,_,⟨_,_,gB,_⟩,_⟩=>by rw[hr] at gB;cases gB
   refine aa.mk (fun _=>we no) fun h1=>?_
   have:(Datum.order (double.read b.toNat) (double.read b.toNat) != some .eq)=false:=h1
   rw[hr] at this
   cases this
  | infinity s=>
   have no:∀x,¬TI b.toNat x:=fun x ⟨_,_,⟨_,_,gB,_⟩,_⟩=>by rw[hr] at gB;cases gB
   refine aa.mk (fun _=>we no) fun _=>aa.mk (fun _=>we no) fun h2=>aa.mk (fun _=>we no) fun h3=>?_
   have h2:(Datum.order (double.read b.toNat) (double.read 14114281232179134464)==some .lt)=false:=h2
   have h3:(Datum.order (double.read b.toNat) (double.read 4890909195324358656)==some .gt||Datum.order (double.read b.toNat) (double.read 4890909195324358656)==some .eq)=false:=h3
   rw[hr,zN] at h2
   rw[hr,CB] at h3
   cases s
   ·cases h3
   ·cases h2
  | number s M p=>
   obtain⟨hp,hM⟩:=Fw hr
   refine aa.mk (fun h1=>?_) fun _=>aa.mk (fun h2=>we fun x hx=>?_) fun h2=>aa.mk (fun h3=>we fun x hx=>?_) fun h3=>⟨?_,aa.mk (fun h4=>we fun x hx=>?_) fun h4=>?_⟩
   ·have h1:(Datum.order (double.read b.toNat) (double.read b.toNat) != some .eq)=true:=h1
    rw[hr,qT hp hp,bne,cmp_eq,decide_eq_true rfl] at h1
    cases h1
   ·obtain⟨t,Q,hw,rfl,h5,_⟩:=hx
    rw[hw.lt] at h2
    have:=of_decide_eq_true h2
    omega
   ·obtain⟨t,Q,hw,rfl,_,h5⟩:=hx
    rw[hw.ge] at h3
    have:=of_decide_eq_true h3
    omega
   ·show(double.read b.toNat).isNaN=false
    rw[hr];rfl
   ·obtain⟨Q,hv,_⟩:=qf hx hr
    refine(Fx hr h2 h3).2.mp h4 ?_
    rw[Ze hp hv];exact hv
   ·have hv:M*2^(p+1074).toNat=((M <<< p.toNat)/2^(-p).toNat)*2^1074:=Classical.byContradiction fun c=>by
     have:=(Fx hr h2 h3).2.mpr c
     rw[h4] at this;cases this
    have hw:Wh b.toNat s ((M <<< p.toNat)/2^(-p).toNat):=⟨M,p,hr,hp,hv⟩
    rw[hw.lt] at h2
    rw[hw.ge] at h3
    have h2:=of_decide_eq_false h2
    have h3:=of_decide_eq_false h3
    refine⟨hw.Ck (by omega) (by omega),?_⟩
    rw[hw.oD]
    exact Uq ⟨s,_,hw,rfl,by omega,by omega⟩
 ·exact h.elim
theorem Jm:∀ {f:FuncId} {vs:List V} {σ:St} {k:ah},L8 f vs σ k→ag Tryz.prog f vs k σ:=fun h=>aH V3 Jl h
omit [Env] [aZ] in
theorem Mc {b:Nat} (h:b<18446744073709551616):(((b:Nat):Int).fdiv (2^min (63:Int).toNat IntKind.u64.bits)=(1:Int))↔9223372036854775808≤b:=by
 rw[show(63:Int)=((63:Nat):Int) from rfl,Dh _ _ (by decide)]
 omega
theorem V4 (h:Rm vs σ k):ag Tryz.prog 243 vs k σ:=by
 unfold Rm at h
 split at h
 ·rename_i bb
  obtain⟨hb,h⟩:=h
  refine ag.cj (av (Go.Ev.Clean.int _ _) aM) (.tuple (bN (.int _ _) (bN (.bool _) gn))) (F243.flat (live:=Je) (call:=L8) (n₀:=0) (σ:=Go.Ev.start) (fun h=>Jm h) rfl (by kernel_rfl) ?_) h
  rw[ag3]
  obtain⟨b,rfl⟩:∃b:Nat,bb=b:=⟨bb.toNat,(Int.toNat_of_nonneg hb.1).symm⟩
  have bA:b<18446744073709551616:=by have:=hb.2;omega
  have no:(∀x,¬TI b x)→V.tuple [.int .i64 (0:Int),.bool false]=.tuple [.int .i64 (iR b),.bool (qU b)]:=fun h=>we h
  have yes:∀ {x:Int},TI b x→V.tuple [.int .i64 x,.bool true]=.tuple [.int .i64 (iR b),.bool (qU b)]:=fun h=>Uq h
  have eE:eg (b:Int)=((b%9223372036854775808/4503599627370496:Nat):Int):=by unfold eg;omega
  have eF:gu (b:Int)=((b%4503599627370496:Nat):Int):=by unfold gu;omega
  have Av:lV (b:Int)=3↔b%9223372036854775808=0:=by unfold lV;rw[eE,eF];(repeat' split)<;>omega
  have Ur:lV (b:Int)=5↔4503599627370496≤b%9223372036854775808∧b%9223372036854775808<9218868437227405312:=by unfold lV;rw[eE,eF];(repeat' split)<;>omega
  refine⟨hb,rfl,aq (fun h1=>yes ?_) fun h1=>⟨rfl,aq (fun h2=>no ?_) fun h2=>⟨hb,hb,?_⟩⟩⟩
  ·have h0:=Av.mp h1
   obtain⟨s,hr⟩:=FA (b:=b) (by omega)
   rw[h0] at hr
   exact⟨s,0,⟨0,-1074,hr,by omega,by rw[Nat.zero_mul,Nat.zero_mul]⟩,by cases s<;>rfl,by decide,by decide⟩
  ·intro x hx
   by_cases hl:b%9223372036854775808<4503599627370496
   ·obtain⟨s,hr⟩:=FA hl
    obtain⟨Q,hv,_⟩:=qf hx hr
    have hv:=(tI (k:=1074) (by omega) (by omega)).mp hv
    have h0:b%9223372036854775808≠0:=fun c=>h1 (Av.mpr c)
    have hQ:Q≠0:=fun c=>h0 (by rw[hv,c,Nat.zero_mul])
    have Zg:2^53≤2^1074:=Nat.pow_le_pow_right (by decide) (by decide)
    have:=Nat.mul_le_mul (Nat.one_le_iff_ne_zero.mpr hQ) Zg
    omega
   ·obtain⟨_,_,⟨_,_,gB,_⟩,_⟩:=hx
    exact OS (Nat.le_of_not_lt fun c=>h2 (Ur.mpr ⟨by omega,c⟩)) _ _ _ gB
  ·have h2:=Ur.mp (Classical.not_not.mp h2)
   obtain⟨e,f,he,hf,Xp⟩:∃e f:Nat,e≤2045∧f<4503599627370496∧b%9223372036854775808=(e+1)*4503599627370496+f:=⟨b%9223372036854775808/4503599627370496-1,b%4503599627370496,by omega,by omega,by omega⟩
   have hr:=V2 bA Xp he hf
   have eE:eg (b:Int)=((e+1:Nat):Int):=by rw[eE];omega
   have eF:gu (b:Int)=((f:Nat):Int):=by rw[eF];omega
   have eM:IntKind.u64.wrap (BitVec.ofInt IntKind.u64.bits ((f:Nat):Int)||| BitVec.ofInt IntKind.u64.bits (4503599627370496:Int)).toNat=((4503599627370496+f:Nat):Int):=by
    rw[show(4503599627370496:Int)=((4503599627370496:Nat):Int) from rfl,Jf (by omega) (by omega),Nat.or_comm]
    have:=zO (k:=52) (a:=1) (b:=f) (by omega)
    rw[Nat.mul_one] at this
    rw[show(4503599627370496:Nat)=2^52 from rfl,this]
   rw[eE,eF,eM]
   have e1:IntKind.i64.wrap ((IntKind.i64.wrap ((((e+1:Nat):Int))-(1023:Int)))-(52:Int))=(e:Int)-1074:=by rw[i64_in (((e+1:Nat):Int)-1023) (by omega),i64_in _ (by omega)];omega
   rw[e1]
   generalize hM:4503599627370496+f=M at *
   have hM1:4503599627370496≤M:=by omega
   have hM2:M<9007199254740992:=by omega
   refine⟨rfl,aq (fun h3=>no fun x hx=>?_) fun h3=>⟨rfl,aq (fun h4=>no fun x hx=>?_) fun h4=>⟨rfl,aq (fun h5=>?_) fun h5=>?_⟩⟩⟩
   ·obtain⟨Q,hv,_⟩:=qf hx hr
    have hv:=(tI (k:=1074-e) (by omega) (by omega)).mp hv
    have hQ:Q≠0:=fun c=>by rw[c,Nat.zero_mul] at hv;omega
    have Zg:2^53≤2^(1074-e):=Nat.pow_le_pow_right (by decide) (by omega)
    have:=Nat.mul_le_mul (Nat.one_le_iff_ne_zero.mpr hQ) Zg
    omega
   ·obtain⟨Q,hv,hx,h6,h7⟩:=qf hx hr
    rw[OT (k:=e-1074) (by omega)] at hv
    have hv:=Nat.eq_of_mul_eq_mul_right (Nat.two_pow_pos _) hv
    have h12:2^12≤2^(e-1074):=Nat.pow_le_pow_right (by decide) (by omega)
    have:=Nat.mul_le_mul hM1 h12
    rw[g7] at hx
    split at hx<;>omega
   ·have e2:IntKind.u64.wrap (IntKind.i64.wrap ((0:Int)-((e:Int)-1074)))=((1074-e:Nat):Int):=by rw[i64_in _ (by omega),wrap_u64];omega
    rw[e2,Un (by omega) (by omega),Dh _ _ (by omega)]
    refine⟨by omega,rfl,aq (fun h6=>no fun x hx=>?_) fun h6=>⟨by omega,by omega,rfl,?_⟩⟩
    ·obtain⟨Q,hv,_⟩:=qf hx hr
     have hv:=(tI (k:=1074-e) (by omega) (by omega)).mp hv
     exact h6 (by rw[hv,Nat.mul_mod_left];rfl)
    ·have h6:M%2^(1074-e)=0:=by omega
     have hq:M=M/2^(1074-e)*2^(1074-e):=by
      have:=Nat.div_add_mod M (2^(1074-e))
      rw[Nat.mul_comm,h6] at this;exact this.symm
     have hw:Wh b (decide (9223372036854775808≤b)) (M/2^(1074-e)):=⟨M,_,hr,by omega,(tI (k:=1074-e) (by omega) (by omega)).mpr hq⟩
     have hle:M/2^(1074-e)≤M:=Nat.div_le_self _ _
     generalize M/2^(1074-e)=q at *
     refine aa.mk (fun h7=>⟨rfl,aq (fun h8=>by omega) fun h8=>yes ⟨_,q,hw,?_,?_⟩⟩) fun h7=>⟨rfl,aq (fun h8=>by omega) fun h8=>yes ⟨_,q,hw,?_,?_⟩⟩
     ·rw[decide_eq_true ((Mc bA).mp (of_decide_eq_true h7)),g7,if_pos rfl,Mb (by omega)]
     ·rw[Mb (by omega)];omega
     ·rw[decide_eq_false (fun c=>(of_decide_eq_false h7) ((Mc bA).mpr c)),g7,if_neg Bool.false_ne_true,i64_in _ (by omega)]
     ·rw[i64_in _ (by omega)];omega
   ·have e2:IntKind.u64.wrap ((e:Int)-1074)=((e-1074:Nat):Int):=by rw[wrap_u64];omega
    have h11:2^(e-1074)≤2^11:=Nat.pow_le_pow_right (by decide) (by omega)
    have hmul:=Nat.mul_le_mul (show M≤9007199254740991 by omega) h11
    have hw:Wh b (decide (9223372036854775808≤b)) (M*2^(e-1074)):=⟨M,_,hr,by omega,OT (by omega)⟩
    rw[e2,Bn _ _ (by omega),Nat.mod_eq_of_lt (by omega)]
    generalize M*2^(e-1074)=q at *
    refine⟨by omega,by omega,rfl,aa.mk (fun h7=>?_) fun h7=>?_⟩
    ·have hs:=(Mc bA).mp (of_decide_eq_true h7)
     rw[decide_eq_true hs] at hw
     refine⟨rfl,aq (fun h8=>no fun x hx=>?_) fun h8=>yes ⟨_,q,hw,?_,?_⟩⟩
     ·obtain⟨t,Q,Zh,rfl,h9,_⟩:=hx
      rw[Zh.OP hw,g7,if_pos rfl] at h9;omega
     ·rw[g7,if_pos rfl,Mb (by omega)]
     ·rw[Mb (by omega)];omega
    ·rw[decide_eq_false (fun c=>(of_decide_eq_false h7) ((Mc bA).mpr c))] at hw
     refine⟨rfl,aq (fun h8=>no fun x hx=>?_) fun h8=>yes ⟨_,q,hw,?_,?_⟩⟩
     ·obtain⟨t,Q,Zh,rfl,_,h9⟩:=hx
      rw[Zh.OP hw,g7,if_neg Bool.false_ne_true] at h9;omega
     ·rw[g7,if_neg Bool.false_ne_true,i64_in _ (by omega)]
     ·rw[i64_in _ (by omega)];omega
 ·exact h.elim
theorem Jn:∀ {f:FuncId} {vs:List V} {σ:St} {k:ah},L9 f vs σ k→ag Tryz.prog f vs k σ:=fun h=>aH V4 Jm h
end
end Go.Proofs.YtbajncpfmemdgaaGreatDoor
end
section
namespace Go.Proofs.YtbajncpfmemdgaaGreatDoor
open Go Go.Ev
def zP (v:az):Prop:=AR v∧dR v.f1
def kz:az:=⟨0,0,0,[]⟩
def ft (n d:Int):Int:=if d=1 then(if n=0∨n=1 then 0 else 6) else if d=3 then(if qe n=true then 0 else 6) else 0
def dq (n d:Int):az:=
 if d=1 then(if n=0∨n=1 then⟨d,n,0,[]⟩ else kz) else if d=3 then(if qe n=true then⟨d,0,xJ n,[]⟩ else kz)
 else if d=4 then⟨d,0,0,lz (IntKind.u64.wrap n) 8⟩ else if d=5 then⟨d,0,0,gp n⟩ else⟨d,n,0,[]⟩
def iJ:List UInt8:=[102,97,108,115,101]
def jJ:List UInt8:=[116,114,117,101]
def iW (n d:Int):az:=if d=5 then(if n=1 then⟨d,0,0,jJ⟩ else⟨d,0,0,iJ⟩) else dq n d
noncomputable def kV (b d:Int):Int:=if d=4 then 0 else if qU b=true then ft (iR b) d else 6
noncomputable def iK (b d:Int):az:=if d=4 then⟨d,0,0,lz b 8⟩ else if qU b=true then dq (iR b) d else kz
noncomputable def jS (s:List UInt8) (d:Int):Int:=if d=5 then(if dZ s.length s=true then 0 else 7) else if s.length=8 then 0 else 6
noncomputable def gE (s:List UInt8) (d:Int):az:=
 if d=5 then(if dZ s.length s=true then⟨d,0,0,s⟩ else kz) else if s.length=8 then(if d=3 then⟨d,0,fQ (jj s 8),[]⟩ else⟨d,IntKind.i64.wrap (jj s 8),0,[]⟩) else kz
noncomputable def iX (s:List UInt8) (d:Int):Int:=if d=4 then 0 else if d=1 then(if s=jJ∨s=iJ then 0 else 7) else fF s
noncomputable def ib (s:List UInt8) (d:Int):az:=if d=4 then⟨d,0,0,s⟩ else if d=1 then(if s=jJ then⟨d,1,0,[]⟩ else if s=iJ then⟨d,0,0,[]⟩ else kz) else if fF s=0 then⟨d,hP s,0,[]⟩ else kz
noncomputable def FB (v:az) (d:Int):Int:=
 if bp v≠0 then bp v else if d<1∨d>5 then 5 else if v.f0=0∨v.f0=d then 0 else if jh v.f0 d=false then 5
 else if v.f0=1 then 0 else if v.f0=2 then ft v.f1 d else if v.f0=3 then kV v.f2 d else if v.f0=4 then jS v.f3 d else iX v.f3 d
noncomputable def j3 (v:az) (d:Int):az:=
 if bp v≠0 then kz else if d<1∨d>5 then kz else if v.f0=0∨v.f0=d then v else if jh v.f0 d=false then kz
 else if v.f0=1 then iW v.f1 d else if v.f0=2 then dq v.f1 d else if v.f0=3 then iK v.f2 d else if v.f0=4 then gE v.f3 d else ib v.f3 d
def Us (v:az):V:=.func (.func 266) [] [.aU [.int .i64 v.f0,.int .i64 v.f1,.int .u64 v.f2,.str v.f3] 0]
def Jo (e:Int):V:=.func (.func 265) [] [.aU [.int .i64 e] 0]
def w6 (e:Int) (v:az) (σ:St) (k:ah):Prop:=(e=0→k (Us v) σ)∧(e≠0→k (Jo e) σ)
def Jp:Nat→List Nat:=(fun _=>[])
theorem ag5 [Env] (A:Nat→List SV→Prop) (Q:V→Prop) (n:Int):WE Tryz.prog 241 Tryz.f241 L9 0 Jp A (fun v _=>Q v) [.int .i64 n] Go.Ev.start=
  (((.i64:IntKind)=.i64∧aa (decide (n≠(0:Int))) (((.i64:IntKind)=.i64∧aa (decide (n≠(1:Int))) (Q (.tuple [.agg [.int .i64 (0:Int),.int .i64 (0:Int),.int .u64 (0:Int),.str ([])],.int .i64 (6:Int)])) (Q (.tuple [.agg [.int .i64 (1:Int),.int .i64 n,.int .u64 (0:Int),.str ([])],.int .i64 (0:Int)])))) (Q (.tuple [.agg [.int .i64 (1:Int),.int .i64 n,.int .u64 (0:Int),.str ([])],.int .i64 (0:Int)])))):=by kernel_rfl
def Rq [Env] (vs:List V) (σ:St) (k:ah):Prop:=
 match vs with
 | [.int .i64 x]=>k (.tuple [az.enc (dq x 1),.int .i64 (ft x 1)]) σ
 | _=>False
def Md [Env]:=kS 241 Rq L9
def Jq:Nat→List Nat:=(fun _=>[])
theorem ag6 [Env] (A:Nat→List SV→Prop) (Q:V→Prop) (x d:Int):WE Tryz.prog 207 Tryz.f207 Md 0 Jq A (fun v _=>Q v) [.int .i64 x,.int .i64 d] Go.Ev.start=
  (((.i64:IntKind)=.i64∧aa (decide (d=(2:Int))) (Q (.tuple [.agg [.int .i64 d,.int .i64 x,.int .u64 (0:Int),.str ([])],.int .i64 (0:Int)])) (((.i64:IntKind)=.i64∧aa (decide (d=(3:Int))) ((dR x∧Q (.tuple [.agg [.int .i64 d,.int .i64 (0:Int),.int .u64 (xJ x),.str ([])],.int .i64 (0:Int)]))) (((.i64:IntKind)=.i64∧aa (decide (x=(1:Int))) (Q (.tuple [.agg [.int .i64 d,.int .i64 (0:Int),.int .u64 (0:Int),.str ([116,114,117,101])],.int .i64 (0:Int)])) (Q (.tuple [.agg [.int .i64 d,.int .i64 (0:Int),.int .u64 (0:Int),.str ([102,97,108,115,101])],.int .i64 (0:Int)])))))))):=by kernel_rfl
def Rr [Env] (vs:List V) (σ:St) (k:ah):Prop:=
 match vs with
 | [.int .i64 x,.int .i64 d]=>(((x=0∨x=1)∧(d=2∨d=3∨d=5)))∧k (.tuple [az.enc (iW x d),.int .i64 ((0:Int))]) σ
 | _=>False
def Me [Env]:=kS 207 Rr Md
def Jr:Nat→List Nat:=(fun _=>[])
theorem ag7 [Env] (A:Nat→List SV→Prop) (Q:V→Prop) (x d:Int):WE Tryz.prog 208 Tryz.f208 Me 0 Jr A (fun v _=>Q v) [.int .i64 x,.int .i64 d] Go.Ev.start=
  (((.i64:IntKind)=.i64∧aa (decide (d=(1:Int))) (Q (.tuple [.agg [.int .i64 ((dq x 1).f0),.int .i64 ((dq x 1).f1),.int .u64 ((dq x 1).f2),.str ((dq x 1).f3)],.int .i64 (ft x 1)])) (((.i64:IntKind)=.i64∧aa (decide (d=(3:Int))) ((dR x∧aa ((!(qe x))) (Q (.tuple [.agg [.int .i64 (0:Int),.int .i64 (0:Int),.int .u64 (0:Int),.str ([])],.int .i64 (6:Int)])) (Q (.tuple [.agg [.int .i64 d,.int .i64 (0:Int),.int .u64 (xJ x),.str ([])],.int .i64 (0:Int)])))) (((.i64:IntKind)=.i64∧aa (decide (d=(4:Int))) (Q (.tuple [.agg [.int .i64 d,.int .i64 (0:Int),.int .u64 (0:Int),.str (lz (IntKind.u64.wrap x) 8)],.int .i64 (0:Int)])) ((dR x∧Q (.tuple [.agg [.int .i64 d,.int .i64 (0:Int),.int .u64 (0:Int),.str (gp x)],.int .i64 (0:Int)]))))))))):=by kernel_rfl
def Rs [Env] (vs:List V) (σ:St) (k:ah):Prop:=
 match vs with
 | [.int .i64 x,.int .i64 d]=>((dR x∧(d=1∨d=3∨d=4∨d=5)))∧k (.tuple [az.enc (dq x d),.int .i64 (ft x d)]) σ
 | _=>False
def Mf [Env]:=kS 208 Rs Me
def Js:Nat→List Nat:=(fun _=>[])
theorem ag8 [Env] (A:Nat→List SV→Prop) (Q:V→Prop) (x d:Int):WE Tryz.prog 209 Tryz.f209 Mf 0 Js A (fun v _=>Q v) [.int .u64 x,.int .i64 d] Go.Ev.start=
  (((.i64:IntKind)=.i64∧aa (decide (d=(4:Int))) (Q (.tuple [.agg [.int .i64 d,.int .i64 (0:Int),.int .u64 (0:Int),.str (lz x 8)],.int .i64 (0:Int)])) ((oq x∧aa ((!(qU x))) (Q (.tuple [.agg [.int .i64 (0:Int),.int .i64 (0:Int),.int .u64 (0:Int),.str ([])],.int .i64 (6:Int)])) (((.i64:IntKind)=.i64∧aa (decide (d=(1:Int))) (Q (.tuple [.agg [.int .i64 ((dq (iR x) 1).f0),.int .i64 ((dq (iR x) 1).f1),.int .u64 ((dq (iR x) 1).f2),.str ((dq (iR x) 1).f3)],.int .i64 (ft (iR x) 1)])) (Q (.tuple [.agg [.int .i64 d,.int .i64 (iR x),.int .u64 (0:Int),.str ([])],.int .i64 (0:Int)])))))))):=by kernel_rfl
def Rt [Env] (vs:List V) (σ:St) (k:ah):Prop:=
 match vs with
 | [.int .u64 x,.int .i64 d]=>((oq x∧(d=1∨d=2∨d=4)))∧k (.tuple [az.enc (iK x d),.int .i64 (kV x d)]) σ
 | _=>False
def FC [Env]:=kS 209 Rt Mf
def Bp:Nat→List Nat:=(fun i=>match i with | 0=>[0,3,4] | _=>[])
theorem FD [Env] (A:Nat→List SV→Prop) (Q:V→Prop) (s:List UInt8):WE Tryz.prog 244 Tryz.f244 FC 0 Bp A (fun v _=>Q v) [.str s] Go.Ev.start=
  (A 0 [.val (.str s),.val (.int .u64 (0:Int)),.val (.int .i64 (0:Int))]):=by kernel_rfl
theorem ag9 [Env] (A:Nat→List SV→Prop) (Q:V→Prop) (s:List UInt8) (n i:Int):WL Tryz.prog 244 Tryz.f244 FC 0 Bp A (fun v _=>Q v) 0 [.val (.str s),.val (.int .u64 n),.val (.int .i64 i)]=
  (((.i64:IntKind)=.i64∧aa (decide (i<(8:Int))) ((0≤(8:Int)∧((0≤i∧i<((len s:Nat):Int))∧A 0 [.val (.str s),.val (.int .u64 (IntKind.u64.wrap (BitVec.ofInt IntKind.u64.bits (IntKind.u64.wrap (n*2^min (8:Int).toNat IntKind.u64.bits))||| BitVec.ofInt IntKind.u64.bits (IntKind.u64.wrap (bF s i))).toNat)),.val (.int .i64 (IntKind.i64.wrap (i+(1:Int))))]))) (Q (.int .u64 n)))):=by kernel_rfl
def Ru [Env] (vs:List V) (σ:St) (k:ah):Prop:=
 match vs with
 | [.str s]=>s.length=8∧k (.int .u64 (jj s 8)) σ
 | _=>False
def Mg [Env]:=kS 244 Ru FC
end Go.Proofs.YtbajncpfmemdgaaGreatDoor
end
