/- Calls, operations with their guards, regions that draw nothing. -/
import Derived.Test.YtbajncpfmemdgaaGreatDoorEvOpsG
import Derived.OrdersIn
import Derived.KernelRfl
namespace Go.Ev
open Go

/-! ### What a task must come to -/
def RoOk (ρ : Ren) (ro : Option Nat) (F : Fence) : Prop :=
  match ro with
  | none => F = Fence.wide
  | some l => ∃ k, ρ l = some k ∧ F = Fence.wide.inRound k.c
theorem RoOk.mono {ρ ρ' : Ren} (hρ : ρ.le ρ') {ro : Option Nat} {F : Fence} (h : RoOk ρ ro F) : RoOk ρ' ro F := by
  cases ro with
  | none => exact h
  | some l => obtain ⟨k, hk, hF⟩ := h; exact ⟨k, hρ _ _ hk, hF⟩
theorem RoOk.fn {ρ : Ren} {ro : Option Nat} {F : Fence} (h : RoOk ρ ro F) (f : FuncId) : F.fn f := by
  cases ro with
  | none => cases h; trivial
  | some l => obtain ⟨k, _, rfl⟩ := h; trivial
theorem RoOk.depth {ρ : Ren} {ro : Option Nat} {F : Fence} (h : RoOk ρ ro F) (n : Nat) : F.depth.isSome = true → 1 ≤ n := by
  cases ro with
  | none => cases h; intro h; cases h
  | some l => obtain ⟨k, _, rfl⟩ := h; intro h; cases h
theorem RoOk.calls {ρ : Ren} {ro : Option Nat} {F : Fence} (h : RoOk ρ ro F) {n : Nat} {P : Program} {f : FuncId} {args : Array Value} {w : World} {Q : Ending → World → Prop}
    (hc : CallsIn Fence.wide n P f args w Q) : CallsIn F n P f args w Q := by
  cases ro with
  | none => cases h; exact hc
  | some l => obtain ⟨k, _, rfl⟩ := h; exact hc
theorem RoOk.rounds {ρ : Ren} {ro : Option Nat} {F : Fence} (h : RoOk ρ ro F) {n : Nat} {P : Program} {l : Nat} {f : FuncId} {tmps : Array Value} {as bo : Code} {w : World} {Q : Ending → World → Prop}
    (hc : RoundIn Fence.wide n P l f tmps as bo w Q) : RoundIn F n P l f tmps as bo w Q := by
  cases ro with
  | none => cases h; exact hc
  | some l => obtain ⟨k, _, rfl⟩ := h; exact hc

def exitOf : Ex → Exit
  | .normal => .normal
  | .exit i => .exit i
  | .goto l => .goto l
  | .ret => .ret

def Nix : Nat → Prop := fun _ => False

def CodePost [Env] (p : Out × St → Prop) (ρ : Ren) (σ : St) (w : World) : Exit → Go.Act → World → Prop :=
  fun e a' w' => ∃ x a σ' ρ', p (.exit x a, σ') ∧ e = exitOf x ∧ ActRel ρ' a a' ∧ Stp Nix ρ σ w ρ' σ' w'

def ValPost [Env] (p : Out × St → Prop) (ρ : Ren) (σ : St) (w : World) : Ending → World → Prop :=
  fun e w' => ∃ v σ' ρ' v', p (.val v, σ') ∧ e = .returned v' ∧ VRel ρ' v v' ∧ Stp Nix ρ σ w ρ' σ' w'

/-- A call of a function's value, taken apart. -/
def Enters (P : Program) (d : Deferred) (w : World) (Q : Ending → World → Prop) : Prop :=
  (∃ f args, (invoke d.target d.args).run P w = .ok (.enter f args) w ∧ CallsIn Fence.wide 0 P f args w Q) ∨
  (∃ l f tmps as bo, (invoke d.target d.args).run P w = .ok (.round l f tmps as bo) w ∧ RoundIn Fence.wide 0 P l f tmps as bo w Q)

def ScopeIn (F : Fence) (P : Program) (x cur : Code) (Q : Exit → Go.Act → World → Prop) (a : Go.Act) (w : World) : Prop :=
  ∀ (b : Frame) (k : List Go.Item) (cs : List Frame), b.roundOf = F.round → F.fn b.fn → F.room (cs.length + 1 + 0) →
    ∃ e a' w', Q e a' w' ∧ ArrivesIn (Machine.fenced P F) P (lone (b.atR a (.code cur :: .inScope x :: k)) cs w) b k cs e a' w'

def LoopIn (F : Fence) (P : Program) (x : Code) (Q : Exit → Go.Act → World → Prop) (a : Go.Act) (w : World) : Prop :=
  ∀ (b : Frame) (k : List Go.Item) (cs : List Frame), b.roundOf = F.round → F.fn b.fn → F.room (cs.length + 1 + 0) →
    ∃ e a' w', Q e a' w' ∧ ArrivesIn (Machine.fenced P F) P (lone (b.atR a (.inLoop x :: k)) cs w) b k cs e a' w'
theorem LoopIn.mono {F : Fence} {P : Program} {x : Code} {Q Q' : Exit → Go.Act → World → Prop} {a : Go.Act} {w : World} (h : LoopIn F P x Q a w) (hq : ∀ e a w, Q e a w → Q' e a w) : LoopIn F P x Q' a w :=
  fun b k cs hro hb hr => let ⟨e, a', w', q, r⟩ := h b k cs hro hb hr; ⟨e, a', w', hq _ _ _ q, r⟩
theorem ScopeIn.mono {F : Fence} {P : Program} {x cur : Code} {Q Q' : Exit → Go.Act → World → Prop} {a : Go.Act} {w : World} (h : ScopeIn F P x cur Q a w) (hq : ∀ e a w, Q e a w → Q' e a w) : ScopeIn F P x cur Q' a w :=
  fun b k cs hro hb hr => let ⟨e, a', w', q, r⟩ := h b k cs hro hb hr; ⟨e, a', w', hq _ _ _ q, r⟩

structure Good [Env] (P : Program) (Rn : Task → St → Run) : Prop where
  code : ∀ {ro : Option Nat} {fn : FuncId} {c : Code} {a : Act} {σ : St} {p : Out × St → Prop}, (Rn (.code ro fn c a) σ).Holds p →
    ∀ {ρ : Ren} {w : World} {a' : Go.Act} {F : Fence}, R ρ σ w → ActRel ρ a a' → RoOk ρ ro F → c.wpIn F 0 P (CodePost p ρ σ w) a' w
  loop : ∀ {ro : Option Nat} {fn : FuncId} {x : Code} {a : Act} {σ : St} {p : Out × St → Prop}, (Rn (.code ro fn (.loop x) a) σ).Holds p →
    ∀ {ρ : Ren} {w : World} {a' : Go.Act} {F : Fence}, R ρ σ w → ActRel ρ a a' → RoOk ρ ro F → LoopIn F P x (CodePost p ρ σ w) a' w
  inScope : ∀ {ro : Option Nat} {fn : FuncId} {x cur : Code} {a : Act} {σ : St} {p : Out × St → Prop}, (Rn (.inScope ro fn x cur a) σ).Holds p →
    ∀ {ρ : Ren} {w : World} {a' : Go.Act} {F : Fence}, R ρ σ w → ActRel ρ a a' → RoOk ρ ro F → ScopeIn F P x cur (CodePost p ρ σ w) a' w
  call : ∀ {f : FuncId} {vs : List V} {σ : St} {p : Out × St → Prop}, (Rn (.call f vs) σ).Holds p →
    ∀ {ρ : Ren} {w : World} {vs' : List Value}, R ρ σ w → VsRel ρ vs vs' → (callFunc f ⟨vs'⟩).run P w = .ok (.enter f ⟨vs'⟩) w ∧ CallsIn Fence.wide 0 P f ⟨vs'⟩ w (ValPost p ρ σ w)
  deferred : ∀ {f : FuncId} {vs : List V} {σ : St} {p : Out × St → Prop}, (Rn (.deferred f vs) σ).Holds p →
    ∀ {ρ : Ren} {w : World} {vs' : List Value}, R ρ σ w → VsRel ρ vs vs' → (callFunc f ⟨vs'⟩).run P w = .ok (.enter f ⟨vs'⟩) w ∧
      ∀ u, CallsDIn Fence.wide 0 P f ⟨vs'⟩ u w (fun e u' w' => u' = u ∧ ValPost p ρ σ w e w')
  leave : ∀ {fn : Func} {a : Act} {σ : St} {p : Out × St → Prop}, (Rn (.leave fn a) σ).Holds p →
    ∀ {ρ : Ren} {w : World} {a' : Go.Act}, R ρ σ w → ActRel ρ a a' → LeavesInM Fence.wide 0 P fn a'.tmps (ValPost p ρ σ w) a'.defers .returning w
  apply : ∀ {f : V} {vs : List V} {σ : St} {p : Out × St → Prop}, (Rn (.apply f vs) σ).Holds p →
    ∀ {ρ : Ren} {w : World} {f' : Value} {vs' : List Value}, R ρ σ w → VRel ρ f f' → VsRel ρ vs vs' → ∃ d, (Deferred.ofValue f' ⟨vs'⟩).run P w = .ok d w ∧ Enters P d w (ValPost p ρ σ w)
  round : ∀ {l : Nat} {vs : List V} {σ : St} {p : Out × St → Prop}, (Rn (.round l vs) σ).Holds p →
    ∀ {ρ : Ren} {w : World} {k : Loc} {vs' : List Value}, R ρ σ w → ρ l = some k → VsRel ρ vs vs' →
      ∃ g tmps as bo, (Instr.yield k.c ⟨vs'⟩).run P w = .ok (.round k.c g tmps as bo) w ∧ RoundIn Fence.wide 0 P k.c g tmps as bo w (ValPost p ρ σ w)

section
variable {P : Program} {ρ : Ren} {σ : St} {w : World} {id : Nat} {Rn : Task → St → Run} {F : Fence} {ro : Option Nat}

theorem ValPost.mono [Env] {p q : Out × St → Prop} {e : Ending} {w' : World} (h : ValPost p ρ σ w e w') (hp : ∀ x, p x → q x) : ValPost q ρ σ w e w' := by
  obtain ⟨v, σ', ρ', v', h1, h2⟩ := h
  exact ⟨v, σ', ρ', v', hp _ h1, h2⟩
theorem CodePost.mono [Env] {p q : Out × St → Prop} {e : Exit} {a' : Go.Act} {w' : World} (h : CodePost p ρ σ w e a' w') (hp : ∀ x, p x → q x) : CodePost q ρ σ w e a' w' := by
  obtain ⟨x, a, σ', ρ', h1, h2⟩ := h
  exact ⟨x, a, σ', ρ', hp _ h1, h2⟩

theorem pointerT_run {t : TypeId} {b : Bool} (h : pointerT P t = some b) : ∃ d, P.underlying t = some d ∧ (b = true → ∃ e, d = .pointer e) ∧ (b = false → ∀ e, d ≠ .pointer e) := by
  unfold pointerT at h
  split at h
  · rename_i e hu; cases h; exact ⟨_, hu, fun _ => ⟨e, rfl⟩, fun h => by cases h⟩
  · rename_i d hn hu
    cases h
    exact ⟨d, hu, fun h => (by cases h), fun _ e he => hn e he⟩
  · cases h

theorem methodV_run [Env] {t : TypeId} {v recv : V} {name : String} {f : FuncId} (h : methodV P t v name = some (f, recv)) {v' : Value} (hv : VRel ρ v v') (w : World) :
    ∃ recv', (method (P.types.size + Made.depth) t v' name).run P w = .ok (f, recv') w ∧ VRel ρ recv recv' := by
  unfold methodV at h
  rw [Option.bind_eq_some_iff] at h
  obtain ⟨m, hm, h⟩ := h
  rw [Option.bind_eq_some_iff] at hm
  obtain ⟨i, hi, hm⟩ := hm
  have hd : P.types.size + Made.depth = (P.types.size + (Made.depth - 1)) + 1 := by
    have : 0 < Made.depth := by decide
    omega
  rw [hd]
  unfold methodOf at h
  split at h
  · rename_i hp
    have hp' : m.path.toList = [] := by simpa using hp
    split at h
    · rename_i g hf hpt
      cases h
      obtain ⟨d, hu, h1, _⟩ := pointerT_run hpt
      obtain ⟨e, rfl⟩ := h1 rfl
      refine ⟨v', ?_, hv⟩
      simp only [method, Sem.run_bind, run_typeInfo hi, Result.andThen_ok, hm, hp', follow, Sem.run_pure, hf, receiverAt, run_underlying hu, Place.get]
    · rename_i g hf hpt
      cases h
      obtain ⟨d, hu, _, h2⟩ := pointerT_run hpt
      refine ⟨v', ?_, hv⟩
      simp only [method, Sem.run_bind, run_typeInfo hi, Result.andThen_ok, hm, hp', follow, Sem.run_pure, hf, receiverAt, run_underlying hu]
      cases d <;> first
        | exact absurd rfl (h2 rfl _)
        | simp only [Place.get, Sem.run_pure, Result.andThen_ok]
    · cases h
  · cases h

/-! ### Built-in functions -/
theorem cap_run [Env] {tys : Array TypeId} {ty t : TypeId} {x u : V} {x' : Value} (ht : tys[0]? = some t) (h : evalCap P t x = some u) (hx : VRel ρ x x') : ∃ v', (Builtin.cap_ tys ty #[x']).run P w = .ok v' w ∧ VRel ρ u v' := by
  have hg0 : (#[x'] : Array Value)[0]? = some x' := rfl
  unfold evalCap at h
  split at h
  · rename_i e hu
    cases h; cases hx
    exact ⟨_, by simp only [Builtin.cap_, ht, hg0, Sem.run_bind, run_underlying hu, Result.andThen_ok]; rfl, .int _ _⟩
  · rename_i e b off n c esz hu
    cases h
    cases hx with
    | slice h1 hex hin hN hn =>
      have e1 := (hex rfl).1
      subst e1
      exact ⟨_, by simp only [Builtin.cap_, ht, hg0, Sem.run_bind, run_underlying hu, Result.andThen_ok]; rfl, .int _ _⟩
  · cases h

theorem builtin_run [Env] {b : Builtin} {tys : Array TypeId} {ty : TypeId} {consts : Array Bool} {args : List V} {v : V} {σ' : St} (hr : R ρ σ w) (hid : ρ id = none)
    (h : evalBuiltin P σ id b tys.toList args = some (v, σ')) {args' : List Value} (ha : VsRel ρ args args') :
    ∃ ρ' v' w', (builtin b tys ty consts ⟨args'⟩).run P w = .ok (.value v') w' ∧ VRel ρ' v v' ∧ Stp (fun b => b = id) ρ σ w ρ' σ' w' := by
  unfold evalBuiltin at h
  split at h
  · rename_i t l x htys
    have ht : tys[0]? = some t := by rw [← Array.getElem?_toList, htys]; rfl
    rw [Option.map_eq_some_iff] at h
    obtain ⟨u, hu, he⟩ := h
    cases he
    cases ha with
    | cons hx hl =>
      cases hl
      obtain ⟨v', hrun, hv⟩ := len_run (P := P) (ty := ty) hr ht hu hx
      exact ⟨ρ, v', w, by simp [builtin, hrun], hv, Stp.refl hr⟩
  · rename_i t t' l s x htys
    have ht : tys[0]? = some t := by rw [← Array.getElem?_toList, htys]; rfl
    have ht' : tys[1]? = some t' := by rw [← Array.getElem?_toList, htys]; rfl
    split at h
    · cases ha with
      | cons hs hl =>
        cases hl with
        | cons hx hl =>
          cases hl
          obtain ⟨ρ', v', w', hrun, hv, hst⟩ := append_zeros (P := P) (ty := ty) hr hid ht ht' h hs hx
          exact ⟨ρ', v', w', by simp [builtin, hrun], hv, hst⟩
    · rename_i hnt
      cases ha with
      | cons hs hl =>
        cases hl with
        | cons hx hl =>
          cases hl
          obtain ⟨ρ', v', w', hrun, hv, hst⟩ := appendR_run (P := P) (ty := ty) hr hid ht ht' hnt h hs hx
          exact ⟨ρ', v', w', by simp [builtin, hrun], hv, hst⟩
  · rename_i t l d x htys
    have ht : tys[0]? = some t := by rw [← Array.getElem?_toList, htys]; rfl
    cases ha with
    | cons hs hl =>
      cases hl with
      | cons hx hl =>
        cases hl
        obtain ⟨v', w', hrun, hv, hst⟩ := copy_run (P := P) (ty := ty) (id := id) hr ht h hs hx
        exact ⟨ρ, v', w', by simp [builtin, hrun], hv, hst⟩
  · rename_i t l m k htys
    have ht : tys[0]? = some t := by rw [← Array.getElem?_toList, htys]; rfl
    cases ha with
    | cons hs hl =>
      cases hl with
      | cons hx hl =>
        cases hl
        obtain ⟨w', hrun, hv, hst⟩ := delete_run (P := P) (ty := ty) (id := id) hr ht h hs hx
        subst hv
        exact ⟨ρ, _, w', by simp [builtin, hrun], .tuple .nil, hst⟩
  · cases h
    cases ha with
    | cons hx hl =>
      cases hl with
      | cons hy hl =>
        cases hl; cases hx; cases hy
        exact ⟨ρ, _, w, by simp [builtin, Builtin.max_, Builtin.max2], .int _ _, Stp.refl hr⟩
  · cases h
    cases ha with
    | cons hx hl =>
      cases hl with
      | cons hy hl =>
        cases hl; cases hx; cases hy
        exact ⟨ρ, _, w, by simp [builtin, Builtin.min_, Builtin.min2], .int _ _, Stp.refl hr⟩
  · rename_i t l x htys
    have ht : tys[0]? = some t := by rw [← Array.getElem?_toList, htys]; rfl
    rw [Option.map_eq_some_iff] at h
    obtain ⟨u, hu, he⟩ := h
    cases he
    cases ha with
    | cons hx hl =>
      cases hl
      obtain ⟨v', hrun, hv⟩ := cap_run (P := P) (ty := ty) (w := w) ht hu hx
      exact ⟨ρ, v', w, by simp [builtin, hrun], hv, Stp.refl hr⟩
  · cases h


/-! ### Operations, calls among them -/
theorem Res.Holds.elim_fail {α : Type} {why : String} {p : α → Prop} {q : Prop} (h : (Res.fail why : Res α).Holds p) : q := h.elim
theorem CodePost.trans [Env] {p : Out × St → Prop} {ρ' : Ren} {σ' : St} {w' w'' : World} {e : Exit} {a : Go.Act} (h : Stp Nix ρ σ w ρ' σ' w') (k : CodePost p ρ' σ' w' e a w'') : CodePost p ρ σ w e a w'' := by
  obtain ⟨x, b, τ, ρ'', h1, h2, h3, h4⟩ := k
  exact ⟨x, b, τ, ρ'', h1, h2, h3, h.trans h4⟩
theorem ValPost.trans [Env] {p : Out × St → Prop} {ρ' : Ren} {σ' : St} {w' w'' : World} {e : Ending} (h : Stp Nix ρ σ w ρ' σ' w') (k : ValPost p ρ' σ' w' e w'') : ValPost p ρ σ w e w'' := by
  obtain ⟨x, τ, ρ'', v', h1, h2, h3, h4⟩ := k
  exact ⟨x, τ, ρ'', v', h1, h2, h3, h.trans h4⟩
theorem Stp.nix [Env] {ids : Nat → Prop} {ρ' : Ren} {σ' : St} {w' : World} (h : Stp Nix ρ σ w ρ' σ' w') : Stp ids ρ σ w ρ' σ' w' := h.weaken fun _ h => h.elim

theorem Res.Holds.of {α : Type} {why : String} {x : Option α} {p : α → Prop} (h : (Res.of why x).Holds p) : ∃ a, x = some a ∧ p a := by
  cases x with
  | none => exact h.elim
  | some a => exact ⟨a, rfl, h⟩

theorem valOf_holds {a : Act} {q : V × Act × St → Prop} {x : Out × St} (h : (valOf a x).Holds q) : ∃ v σ', x = (.val v, σ') ∧ q (v, a, σ') := by
  obtain ⟨o, σ'⟩ := x
  cases o with
  | exit e a => exact h.elim
  | val v => exact ⟨v, σ', rfl, h⟩

theorem execOp_call (o : Oper) {c : Call} (h : o.op = .call c) (e : Operand → Value) : execOp e o = (do let d ← resolve e c o.type; invoke d.target d.args) := by
  unfold execOp; rw [h]
theorem execOp_defer (o : Oper) {c : Call} (h : o.op = .defer c) (e : Operand → Value) : execOp e o = (do pure (.defer (← resolve e c o.type))) := by
  unfold execOp; rw [h]

/-- What comes of an operation, an act and all. -/
def NextAs [Env] (id : Nat) (ρ : Ren) (σ : St) (w : World) (a' : Go.Act) (o : Oper) (q : V × Act × St → Prop) (next : Go.Act → World → Prop) : Prop :=
  ∀ v a₁ σ' ρ' v' a₁' w', q (v, a₁, σ') → VRel ρ' v v' → ActRel ρ' a₁ a₁' → a₁'.tmps = a'.tmps → Stp (fun b => b = id) ρ σ w ρ' σ' w' → next (a₁'.put o.dst v') w'

theorem opC_plain {o : Op} (hc : ∀ c, o ≠ .call c) (hd : ∀ c, o ≠ .defer c) : operC P o = plainC (opC P o) := by
  cases o <;> first
    | rfl
    | exact absurd rfl (hc _)
    | exact absurd rfl (hd _)

theorem wpIn_of_enters [Env] {a : Act} {a' : Go.Act} {o : Oper} {c : Call} {q : V × Act × St → Prop} {next : Go.Act → World → Prop} {Q : Exit → Go.Act → World → Prop} {d : Deferred} {pp : Out × St → Prop}
    (hroF : RoOk ρ ro F) (ha : ActRel ρ a a') (hop : o.op = .call c) (hres : (resolve a'.eval c o.type).run P w = .ok d w) (he : Enters P d w (ValPost pp ρ σ w))
    (hpp : ∀ x, pp x → ((valOf a x).Holds q)) (hn : NextAs id ρ σ w a' o q next) : o.wpIn F 0 P a' w next Q := by
  refine ⟨fun f _ => hroF.fn f, ?_⟩
  have hs : Oper.semAt F.round a'.eval o = execOp a'.eval o := Oper.semAt_eq _ _ _ (fun c' h => by rw [hop] at h; cases h)
  rw [hs, execOp_call o hop, Sem.run_bind, hres, Result.andThen_ok]
  have fin : ∀ {e : Ending} {w' : World}, ValPost pp ρ σ w e w' → (match e with
      | .returned v => next (a'.put o.dst v) w'
      | .panicked chain => Q (.panic chain) a' w'
      | .outgrown => LetsOut Q) := by
    intro e w' hv
    obtain ⟨v, σ', ρ', v', hp, rfl, hrel, hst⟩ := hv
    obtain ⟨u, τ, hx, hq⟩ := valOf_holds (hpp _ hp)
    cases hx
    exact hn _ _ _ _ _ _ _ hq hrel (ha.mono hst.le) rfl hst.nix
  rcases he with ⟨f, args, hinv, hcall⟩ | ⟨l, f, tmps, as, bo, hinv, hround⟩
  · rw [hinv]
    exact ⟨hroF.depth 0, (hroF.calls hcall).mono fun e w' hv => by have := fin hv; cases e <;> exact this⟩
  · rw [hinv]
    exact ⟨hroF.depth 0, (hroF.rounds hround).mono fun e w' hv => by have := fin hv; cases e <;> exact this⟩

/-! ### Functions without a body -/
theorem extOf_some {fo : Operand} {e : Ext} (h : extOf P fo = some e) : ∃ f fn, fo = .func f ∧ P.funcs[f]? = some fn ∧ fn.body = none ∧ fn.origin = "" ∧ extNamed fn.name = some e := by
  unfold extOf at h
  split at h
  · rename_i f
    split at h
    · rename_i fn hf
      split at h
      · rename_i hb
        split at h
        · rename_i ho
          exact ⟨f, fn, rfl, hf, hb, by simpa using ho, h⟩
        · cases h
      · cases h
    · cases h
  · cases h
theorem extern_find {fn : Func} {n : String} {e : Array Value → Sem Value} (hn : fn.name = n) (h1 : Extern.allGenericRows.lookup n = none) (h2 : Extern.allTypedRows.lookup n = none) (h3 : Extern.allRows.lookup n = some e) : Extern.find fn = some e := by
  unfold Extern.find
  rw [hn]
  simp only [h1, h2, h3]
  rfl
theorem extern_next {fn : Func} {n : String} (hn : fn.name = n) (ho : fn.origin = "") (h1 : Extern.allNextRows.lookup n = none) (h2 : Extern.allNextRows.lookup "" = none) : Extern.findNext fn = none := by
  unfold Extern.findNext
  rw [hn, ho]
  simp only [h1, h2]
  rfl
theorem next_empty : Extern.allNextRows.lookup "" = none := by kernel_rfl
theorem ext_call {f : FuncId} {fn : Func} {e : Array Value → Sem Value} (hf : P.funcs[f]? = some fn) (hb : fn.body = none) (hname : (fn.name == "runtime.NumGoroutine") = false) (hn : Extern.findNext fn = none) (he : Extern.find fn = some e)
    {args : Array Value} {v : Value} (hv : (e args).run P w = .ok v w) : (callFunc f args).run P w = .ok (.value v) w := by
  unfold callFunc
  have hprog : (program).run P w = .ok P w := rfl
  have hm : (mark (.extern f)).run P w = .ok () w := rfl
  simp only [Sem.run_bind, hprog, Result.andThen_ok, hf, hname, hb, hn, he, hm, hv, Bool.false_eq_true, if_false, Option.isNone_none, if_true]
  rfl
theorem ext_run [Env] {fo : Operand} {e : Ext} (h : extOf P fo = some e) {vs : List V} {v : V} (hv : extV e vs = some v) {vs' : List Value} (hvs : VsRel ρ vs vs') :
    ∃ f v', fo = .func f ∧ (callFunc f ⟨vs'⟩).run P w = .ok (.value v') w ∧ VRel ρ v v' := by
  obtain ⟨f, fn, rfl, hf, hb, ho, hn⟩ := extOf_some h
  refine ⟨f, ?_⟩
  unfold extNamed at hn
  split at hn
  · rename_i hname
    have hname : fn.name = "math.Float64frombits" := by simpa using hname
    cases hn
    unfold extV at hv
    split at hv <;> try (rename_i hx; cases hx; done)
    all_goals try (cases hv; done)
    cases hv
    cases hvs; rename_i hx hl; cases hx; cases hl
    exact ⟨_, rfl, ext_call hf hb (by rw [hname]; rfl) (extern_next hname ho (by kernel_rfl) next_empty) (extern_find hname (by kernel_rfl) (by kernel_rfl) (e := Extern.MathFloatBits.float64frombits) (by kernel_rfl)) rfl, .flt _ _⟩
  · split at hn
    · rename_i hname
      have hname : fn.name = "math.Float64bits" := by simpa using hname
      cases hn
      unfold extV at hv
      split at hv <;> try (rename_i hx; cases hx; done)
      all_goals try (cases hv; done)
      cases hv
      cases hvs; rename_i hx hl; cases hx; cases hl
      exact ⟨_, rfl, ext_call hf hb (by rw [hname]; rfl) (extern_next hname ho (by kernel_rfl) next_empty) (extern_find hname (by kernel_rfl) (by kernel_rfl) (e := Extern.MathFloatBits.float64bits) (by kernel_rfl)) rfl, .int _ _⟩
    · split at hn
      · rename_i hname
        have hname : fn.name = "internal/bytealg.abigen_runtime_cmpstring" := by simpa using hname
        cases hn
        unfold extV at hv
        split at hv <;> try (rename_i hx; cases hx; done)
        all_goals try (cases hv; done)
        cases hv
        cases hvs; rename_i hx hl; cases hl; rename_i hy hl; cases hx; cases hy; cases hl
        exact ⟨_, rfl, ext_call hf hb (by rw [hname]; rfl) (extern_next hname ho (by kernel_rfl) next_empty) (extern_find hname (by kernel_rfl) (by kernel_rfl) (e := Extern.BytealgCompare.compare) (by kernel_rfl)) (Lib.run_compareString _ _ w), .int _ _⟩
      · cases hn

theorem operC_sound [Env] (hg : Good P Rn) (hr : R ρ σ w) (hid : ρ id = none) {a : Act} {a' : Go.Act} (ha : ActRel ρ a a') (hroF : RoOk ρ ro F) (o : Oper) {q : V × Act × St → Prop}
    (h : ((operC P o.op).f Rn ro a σ id).Holds q) {next : Go.Act → World → Prop} {Q : Exit → Go.Act → World → Prop} (hn : NextAs id ρ σ w a' o q next) : o.wpIn F 0 P a' w next Q := by
  by_cases hcall : ∃ c, o.op = .call c
  · obtain ⟨c, hop⟩ := hcall
    rw [hop] at h
    have h' : ((callC P c).f Rn ro a σ id).Holds q := h
    unfold callC at h'
    split at h'
    · rename_i fo hco
      split at h'
      · rename_i e he
        dsimp only at h'
        have h' := h'.bind
        cases hvs : a.evals c.args.toList with
        | none => rw [hvs] at h'; exact h'.elim
        | some vs =>
          rw [hvs] at h'
          obtain ⟨v, hev, hq⟩ : ∃ v, extV e vs = some v ∧ q (v, a, σ) := by
            revert h'
            show (keep σ "extern" (extV e vs)).Holds _ → _
            cases extV e vs with
            | none => exact fun h => h.elim
            | some v => exact fun h => ⟨v, rfl, h⟩
          obtain ⟨f, v', hfo, hcf, hrel⟩ := ext_run (w := w) he hev (ha.evals _ hvs)
          refine ⟨fun f _ => hroF.fn f, ?_⟩
          have hs : Oper.semAt F.round a'.eval o = execOp a'.eval o := Oper.semAt_eq _ _ _ (fun c' h => by rw [hop] at h; cases h)
          have hrun' : (execOp a'.eval o).run P w = .ok (.value v') w := by
            rw [execOp_call o hop]
            unfold resolve
            rw [hco, hfo]
            dsimp only
            rw [show c.args.map a'.eval = ⟨c.args.toList.map a'.eval⟩ from Array.ext' (by simp)]
            show (callFunc f ((#[] ++ ⟨c.args.toList.map a'.eval⟩ : Array Value) ++ #[])).run P w = _
            rw [Array.append_empty, Array.empty_append]
            exact hcf
          rw [hs, hrun']
          exact hn _ _ _ _ _ _ _ hq hrel ha rfl (Stp.refl hr)
      dsimp only at h'
      unfold callValue at h'
      split at h'
      · rename_i fv vs hf hvs
        have h' := h'.bind
        obtain ⟨d, hd, he⟩ := hg.apply h' hr (ha.eval fo hf) (ha.evals _ hvs)
        refine wpIn_of_enters hroF ha hop (d := d) ?_ he (fun _ h => h) hn
        unfold resolve
        rw [hco]
        dsimp only
        rw [show c.args.map a'.eval = ⟨c.args.toList.map a'.eval⟩ from Array.ext' (by simp)]
        exact hd
      · exact h'.elim
    · rename_i x name hco
      dsimp only at h'
      unfold callInvoke at h'
      split at h'
      · rename_i t v vs hx hvs
        unfold callMethodV at h'
        split at h'
        · rename_i f recv hm
          have h' := h'.bind
          have hxr := ha.eval x hx
          obtain ⟨v', hev, hvv⟩ : ∃ v', a'.eval x = .iface t v' ∧ VRel ρ v v' := by
            generalize a'.eval x = x' at hxr
            cases hxr with
            | iface h => exact ⟨_, rfl, h⟩
          obtain ⟨recv', hmr, hrr⟩ := methodV_run hm hvv w
          obtain ⟨hcf, hc⟩ := hg.call h' hr (.cons hrr (ha.evals _ hvs))
          refine wpIn_of_enters hroF ha hop (d := { target := .fn (.method name) #[], args := #[a'.eval x] ++ c.args.map a'.eval }) ?_ (.inl ⟨f, _, ?_, hc⟩) (fun _ h => h) hn
          · unfold resolve
            rw [hco]
            rfl
          · have e1 : (#[a'.eval x] ++ c.args.map a'.eval)[0]? = some (.iface t v') := by rw [Array.getElem?_append_left (by simp), hev]; rfl
            have e2 : (#[recv'] ++ (#[a'.eval x] ++ c.args.map a'.eval).extract 1 (#[a'.eval x] ++ c.args.map a'.eval).size : Array Value) = ⟨recv' :: c.args.toList.map a'.eval⟩ := by
              apply Array.ext'; simp [List.take_of_length_le]
            simp only [invoke, e1, callMethod, Sem.run_bind]
            have hprog : (program).run P w = .ok P w := rfl
            simp only [hprog, Result.andThen_ok, hmr, e2, hcf]
        · exact h'.elim
      · exact h'.elim
    · rename_i b hco
      dsimp only at h'
      have h' := h'.bind
      cases hvs : a.evals c.args.toList with
      | none => rw [hvs] at h'; exact h'.elim
      | some vs =>
        rw [hvs] at h'
        obtain ⟨⟨v, σ'⟩, hev, hq⟩ := Res.Holds.of h'
        obtain ⟨ρ', v', w', hrun, hrel, hst⟩ := builtin_run (P := P) (ty := o.type) (consts := c.args.map fun | .const _ => true | _ => false) hr hid hev (ha.evals _ hvs)
        refine ⟨fun f _ => hroF.fn f, ?_⟩
        have hs : Oper.semAt F.round a'.eval o = execOp a'.eval o := Oper.semAt_eq _ _ _ (fun c' h => by rw [hop] at h; cases h)
        have hrun' : (execOp a'.eval o).run P w = .ok (.value v') w' := by
          rw [execOp_call o hop]
          unfold resolve
          rw [hco]
          dsimp only
          rw [show c.args.map a'.eval = ⟨c.args.toList.map a'.eval⟩ from Array.ext' (by simp)]
          exact hrun
        rw [hs, hrun']
        exact hn _ _ _ _ _ _ _ hq hrel (ha.mono hst.le) rfl hst
  · by_cases hdef : ∃ c, o.op = .defer c
    · obtain ⟨c, hop⟩ := hdef
      rw [hop] at h
      have h' : ((deferC c).f Rn ro a σ id).Holds q := h
      unfold deferC at h'
      split at h'
      · rename_i fo hco
        dsimp only at h'
        unfold deferV at h'
        split at h'
        · rename_i fn first captured vs hf hvs
          split at h'
          · have hF : F = Fence.wide := hroF
            subst hF
            obtain ⟨t, s, ds⟩ := a
            have hfv := ha.eval fo hf
            generalize hev : a'.eval fo = f' at hfv
            cases hfv with
            | func hfn hx hy =>
              rename_i fn' x' y'
              refine ⟨fun f _ => trivial, ?_⟩
              have hres : (resolve a'.eval c o.type).run P w = .ok { target := .fn fn' ⟨y'⟩, args := ⟨x' ++ c.args.toList.map a'.eval⟩ } w := by
                unfold resolve
                rw [hco]
                dsimp only
                rw [hev]
                rw [show c.args.map a'.eval = ⟨c.args.toList.map a'.eval⟩ from Array.ext' (by simp)]
                simp [Deferred.ofValue]
              have hs : Oper.semAt Fence.wide.round a'.eval o = execOp a'.eval o := rfl
              rw [hs, execOp_defer o hop, Sem.run_bind, hres]
              have hh := hn _ _ _ ρ _ ({ a' with defers := { target := .fn fn' ⟨y'⟩, args := ⟨x' ++ c.args.toList.map a'.eval⟩ } :: a'.defers }) w h' undef_rel
                ⟨ha.tmps, ha.size, .cons (.call 0 hfn hy (by rw [app_eq]; exact hx.append (ha.evals _ hvs))) ha.defers⟩ rfl (Stp.refl hr)
              exact hh
          · exact h'.elim
        · exact h'.elim
      · exact h'.elim
    · have hc : ∀ c, o.op ≠ .call c := fun c e => hcall ⟨c, e⟩
      have hd : ∀ c, o.op ≠ .defer c := fun c e => hdef ⟨c, e⟩
      rw [opC_plain hc hd] at h
      have h' := Res.Holds.bind (r := (opC P o.op).f a σ id) (f := withAct a) h
      obtain ⟨v, σ', ρ', v', w', hq, hrel, hst, hrun⟩ := op_sound hr hid ha o h' hc
      have hs : Oper.semAt F.round a'.eval o = execOp a'.eval o := Oper.semAt_eq _ _ _ hd
      refine ⟨fun f _ => hroF.fn f, ?_⟩
      rw [hs]
      have hq' : q (v, a, σ') := hq
      rcases hrun with hrun | ⟨rfl, hrun⟩
      · rw [hrun]
        exact hn _ _ _ _ _ _ _ hq' hrel (ha.mono hst.le) rfl hst
      · rw [hrun]
        exact hn _ _ _ _ _ _ _ hq' hrel (ha.mono hst.le) rfl hst

/-! ### Guards -/
theorem yielded_slot (ops : Array Oper) (tmps : Array Value) (j : Nat) : yielded ops tmps j = match (guardSlot ops.toList j).bind (tmps[·]?) with
    | some (.bool b) => some b
    | _ => none := by
  unfold yielded guardSlot
  rw [nth_eq, Array.getElem?_toList]
  rfl

theorem gate_wanted [Env] {v : V} {x : Value} (h : VRel ρ v x) (hn : ∀ i, v ≠ .any i) (want : Bool) : gateV want (some v) = some (((match some x with | some (.bool b) => some b | _ => none : Option Bool) == some want)) := by
  cases h <;> first
    | rfl
    | (rename_i h; obtain ⟨_, _, _, e⟩ := h.lst_slice rfl; subst e; rfl)
    | exact absurd rfl (hn _)

theorem dst_put {dst : Option Tmp} {v : V} {a : Act} {σ₁ : St} {q : Act × St → Prop} (h : (dstK dst (v, a, σ₁)).Holds q) : ∃ a₂, a.put dst v = some a₂ ∧ q (a₂, σ₁) := by
  have h' : (putK σ₁ (a.put dst v)).Holds q := h
  cases hp : a.put dst v with
  | none => rw [hp] at h'; exact h'.elim
  | some a₂ => rw [hp] at h'; exact ⟨a₂, rfl, h'⟩

/-- What comes of an operation, its guard and all. -/
def StepAs [Env] (id : Nat) (ρ : Ren) (σ : St) (w : World) (q : Act × St → Prop) (K : Go.Act → World → Prop) : Prop :=
  ∀ a₂ σ₂ ρ₂ a₂' w₂, q (a₂, σ₂) → ActRel ρ₂ a₂ a₂' → Stp (fun b => b = id) ρ σ w ρ₂ σ₂ w₂ → K a₂' w₂

theorem stepC_sound [Env] (hg : Good P Rn) (hr : R ρ σ w) (hid : ρ id = none) {a : Act} {a' : Go.Act} (ha : ActRel ρ a a') (hroF : RoOk ρ ro F) {ops : Array Oper} {i : Nat} {o : Oper} (hi : ops[i]? = some o)
    {q : Act × St → Prop} (h : ((stepC P ops.toList o).f Rn ro a σ id).Holds q) {K : Go.Act → World → Prop} {Q : Exit → Go.Act → World → Prop} (hK : StepAs id ρ σ w q K) :
    wpOpIn F 0 P ops Q i K a' w := by
  unfold wpOpIn
  rw [hi]
  dsimp only
  have hrun : ((operC P o.op).f Rn ro a σ id).Holds (fun x => (dstK o.dst x).Holds q) → o.wpIn F 0 P a' w K Q := by
    intro h
    refine operC_sound hg hr hid ha hroF o h ?_
    intro v a₁ σ' ρ' v' a₁' w' hq hv ha₁ _ hst
    obtain ⟨a₂, hp, hq⟩ := dst_put hq
    exact hK _ _ _ _ _ hq (ha₁.put hv hp) hst
  have hskip : ∀ a₂, a.put o.dst undefV = some a₂ → q (a₂, σ) → K (a'.put o.dst undef) w := fun a₂ hp hq => hK _ _ _ _ _ hq (ha.put undef_rel hp) (Stp.refl hr)
  have yes : Region.wanted o (yielded ops a'.tmps) = true → ((operC P o.op).f Rn ro a σ id).Holds (fun x => (dstK o.dst x).Holds q) →
      (if Region.wanted o (yielded ops a'.tmps) = true then o.wpIn F 0 P a' w K Q else (∀ f, o.about P w a'.eval = some f → F.fn f) ∧ K (a'.put o.dst undef) w) := by
    intro hw h; rw [if_pos hw]; exact hrun h
  have no : Region.wanted o (yielded ops a'.tmps) = false → (putK σ (a.put o.dst undefV)).Holds q →
      (if Region.wanted o (yielded ops a'.tmps) = true then o.wpIn F 0 P a' w K Q else (∀ f, o.about P w a'.eval = some f → F.fn f) ∧ K (a'.put o.dst undef) w) := by
    intro hw h
    rw [if_neg (by rw [hw]; simp)]
    refine ⟨fun f _ => hroF.fn f, ?_⟩
    unfold putK at h
    split at h
    · rename_i a₂ hp; exact hskip a₂ hp h
    · exact h.elim
  unfold stepC at h
  split at h
  · rename_i hgd
    exact yes (by unfold Region.wanted; rw [hgd]) h.bind
  · rename_i j want hgd
    have hwq : ∀ r, yielded ops a'.tmps j = r → Region.wanted o (yielded ops a'.tmps) = (r == some want) := by
      intro r hy; unfold Region.wanted; rw [hgd, ← hy]
    have hy := hwq _ (yielded_slot ops a'.tmps j)
    unfold guardC at h
    split at h
    · rename_i d hd
      rw [hd] at hy
      dsimp only at h
      cases hv : a.tmps.get d with
      | none => rw [hv] at h; exact h.elim
      | some v =>
        obtain ⟨x, hx, hrel⟩ := ha.tmps d v hv
        have hna : ∀ i, v ≠ .any i := by
          rintro i rfl
          rw [hv] at h
          exact h.elim
        rw [hv, gate_wanted hrel hna want] at h
        rw [Option.bind_some, hx] at hy
        rw [← hy] at h
        unfold guardK at h
        cases hb : Region.wanted o (yielded ops a'.tmps) with
        | true =>
          rw [hb] at h yes
          exact yes rfl h.bind
        | false =>
          rw [hb] at h no
          exact no rfl h
    · rename_i hd
      rw [hd] at hy
      exact no (by rw [hy]; rfl) h


/-! ### Regions that draw nothing -/
theorem Stp.next_nix [Env] {ρ' : Ren} {σ' : St} {w' : World} (h : Stp (fun b => b = σ.next) ρ σ w ρ' σ' w') : Stp Nix ρ σ w ρ' σ' w' := by
  refine ⟨h.r, h.le, h.next, fun b l hb => ?_, h.size, h.os, h.tape, h.output, h.keep, h.wr, fun b k hb => ?_, h.idom⟩
  · rcases h.dom b l hb with h1 | h1 | h1
    · exact .inl h1
    · exact .inr (.inl h1)
    · exact .inr (.inl (by rw [h1]; exact Nat.le_refl _))
  · rcases h.hdom b k hb with h1 | h1 | h1
    · exact .inl h1
    · exact .inr (.inl h1)
    · exact .inr (.inl (by rw [h1]; exact Nat.le_refl _))

theorem opsC_sound [Env] (hg : Good P Rn) {ops : Array Oper} {p : Out × St → Prop} {ρ₀ : Ren} {σ₀ : St} {w₀ : World} : ∀ (l : List Oper) (k : Nat) {a : Act} {σ : St} {ρ : Ren} {w : World} {a' : Go.Act},
    ops.toList.drop k = l → ((opsC P ops.toList l).f Rn ro a σ).Holds p → R ρ σ w → ActRel ρ a a' → RoOk ρ ro F → Stp Nix ρ₀ σ₀ w₀ ρ σ w →
    wpOpsIn F 0 P ops (CodePost p ρ₀ σ₀ w₀) (List.range' k l.length) a' w := by
  intro l
  induction l with
  | nil =>
    intro k a σ ρ w a' _ h hr ha _ hst
    exact ⟨.normal, _, _, _, h, rfl, ha, hst⟩
  | cons o l ih =>
    intro k a σ ρ w a' hd h hr ha hroF hst
    have hk : k < ops.toList.length := by
      have := congrArg List.length hd
      simp only [List.length_drop, List.length_cons] at this
      omega
    have hd' := List.drop_eq_getElem_cons hk
    rw [hd] at hd'
    injection hd' with h1 h2
    have hi : ops[k]? = some o := by
      rw [← Array.getElem?_toList, List.getElem?_eq_getElem hk, h1]
    rw [List.length_cons, List.range'_succ, wpOpsIn_cons]
    have h' : (((stepC P ops.toList o).f Rn ro a σ σ.next).bind (pairK ((opsC P ops.toList l).f Rn ro))).Holds p := h
    refine stepC_sound hg hr (hr.fresh _ (Nat.le_refl _)) ha hroF hi h'.bind ?_
    intro a₂ σ₂ ρ₂ a₂' w₂ hq ha₂ hst₂
    exact ih (k + 1) h2.symm hq hst₂.r ha₂ (hroF.mono hst₂.le) (hst.trans hst₂.next_nix)

theorem region_sound [Env] (hg : Good P Rn) (hr : R ρ σ w) {a : Act} {a' : Go.Act} (ha : ActRel ρ a a') (hroF : RoOk ρ ro F) {id : Nat} {ops : Array Oper} {p : Out × St → Prop}
    (h : ((regionC P ops.toList false).f Rn ro a σ).Holds p) : (Code.region id ops false).wpIn F 0 P (CodePost p ρ σ w) a' w := by
  refine wpIn_region ?_
  have := opsC_sound (F := F) hg (ops := ops) ops.toList 0 rfl h hr ha hroF (Stp.refl hr)
  rw [List.range_eq_range']
  simpa using this

end
end Go.Ev
