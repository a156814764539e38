/- Operations that write nothing: what they come to hangs on what they look at alone. -/
import Derived.Test.YtbajncpfmemdgaaGreatDoorEvReg
namespace Go.Ev
open Go

noncomputable def St.ext (σ : St) (id : Nat) : Option Blk → St
  | none => σ
  | some k => σ.new id k

mutual
theorem V.beq_eq : ∀ {a b : V}, V.beq a b = true → a = b
  | .int .., .int .., h => by simp [V.beq] at h; simp [h]
  | .bool _, .bool _, h => by simp [V.beq] at h; simp [h]
  | .str _, .str _, h => by simp [V.beq] at h; simp [h]
  | .nilptr, .nilptr, _ => rfl
  | .ptr .., .ptr .., h => by simp [V.beq] at h; simp [h]
  | .nilslice, .nilslice, _ => rfl
  | .slice .., .slice .., h => by simp [V.beq] at h; simp [h]
  | .own .., .own .., h => by simp [V.beq] at h; simp [h]
  | .nilmap, .nilmap, _ => rfl
  | .map _, .map _, h => by simp [V.beq] at h; simp [h]
  | .func f x y, .func f' x' y', h => by
    simp only [V.beq, Bool.and_eq_true, decide_eq_true_eq] at h
    rw [h.1.1, V.beqs_eq h.1.2, V.beqs_eq h.2]
  | .nilfunc, .nilfunc, _ => rfl
  | .any _, .any _, h => by simp [V.beq] at h; simp [h]
  | .lst x _ _, .lst y _ _, h => by
    simp only [V.beq, Bool.and_eq_true, beq_iff_eq] at h
    rw [V.beqs_eq h.1.1, h.1.2, h.2]
  | .eptr x _, .eptr y _, h => by
    simp only [V.beq, Bool.and_eq_true, beq_iff_eq] at h
    rw [V.beqs_eq h.1, h.2]
  | .flt .., .flt .., h => by simp [V.beq] at h; simp [h]
  | .iface t v, .iface t' v', h => by
    simp only [V.beq, Bool.and_eq_true, beq_iff_eq] at h
    rw [h.1, V.beq_eq h.2]
  | .niliface, .niliface, _ => rfl
  | .agg x, .agg y, h => by
    simp only [V.beq] at h
    rw [V.beqs_eq h]
  | .tuple x, .tuple y, h => by
    simp only [V.beq] at h
    rw [V.beqs_eq h]
theorem V.beqs_eq : ∀ {a b : List V}, V.beqs a b = true → a = b
  | [], [], _ => rfl
  | x :: xs, y :: ys, h => by
    simp only [V.beqs, Bool.and_eq_true] at h
    rw [V.beq_eq h.1, V.beqs_eq h.2]
end

/-- What is known of one is known of the other, as far as D goes. -/
def SubOn (D : Nat → Prop) (σ σ' : St) : Prop := ∀ b k, σ.heap.get b = some k → D b → σ'.heap.get b = some k

section
variable {P : Program} {ρ : Ren} {id : Nat}

/-- It hangs on no memory. -/
def FreeF (id : Nat) (f : St → VS) : Prop := ∀ σ q, (f σ).Holds q → ∃ v κ, q (v, σ.ext id κ) ∧ ∀ σ', f σ' = .ok (v, σ'.ext id κ)
/-- It hangs on the memory that it can reach. -/
def LookF (id : Nat) (D : Nat → Prop) (f : St → VS) : Prop :=
  ∀ σ q, (f σ).Holds q → ∃ v κ, q (v, σ.ext id κ) ∧ f σ = .ok (v, σ.ext id κ) ∧ ∀ σ', SubOn D σ σ' → f σ' = .ok (v, σ'.ext id κ)

theorem FreeF.look {f : St → VS} (h : FreeF id f) (D : Nat → Prop) : LookF id D f := by
  intro σ q hq
  obtain ⟨v, κ, h1, h2⟩ := h σ q hq
  exact ⟨v, κ, h1, h2 σ, fun σ' _ => h2 σ'⟩

theorem FreeF.keep [Env] (why : String) (x : Option V) : FreeF id fun σ => keep σ why x := by
  intro σ q h
  obtain ⟨v, hv, hq⟩ := keep_holds h
  exact ⟨v, none, hq, fun σ' => by rw [hv]; rfl⟩
theorem FreeF.fail (why : String) : FreeF id fun _ => (.fail why : VS) := fun _ _ h => h.elim
theorem FreeF.ok (v : V) : FreeF id fun σ => (.ok (v, σ) : VS) := fun _ _ h => ⟨v, none, h, fun _ => rfl⟩
theorem FreeF.new (v : V) (k : Blk) : FreeF id fun σ => (.ok (v, σ.new id k) : VS) := fun _ _ h => ⟨v, some k, h, fun _ => rfl⟩
theorem FreeF.at1 [Env] {why : String} {x : Option V} {g : V → St → VS} (h : ∀ v, FreeF id (g v)) : FreeF id fun σ => at1 why x fun v => g v σ := by
  cases x with
  | none => exact .fail _
  | some v => exact h v
theorem FreeF.at2 [Env] {why : String} {x y : Option V} {g : V → V → St → VS} (h : ∀ v u, FreeF id (g v u)) : FreeF id fun σ => at2 why x y fun v u => g v u σ := by
  cases x with
  | none => exact .fail _
  | some v => cases y with
    | none => exact .fail _
    | some u => exact h v u

theorem LookF.keep [Env] {D : Nat → Prop} (why : String) {x : St → Option V} (h : ∀ σ σ' v, SubOn D σ σ' → x σ = some v → x σ' = some v) : LookF id D fun σ => keep σ why (x σ) := by
  intro σ q hq
  obtain ⟨v, hv, hp⟩ := keep_holds hq
  exact ⟨v, none, hp, by dsimp only; rw [hv]; rfl, fun σ' hs => by dsimp only; rw [h σ σ' v hs hv]; rfl⟩

/-! ### What an operation reads of the frame -/
theorem parts_congr {a b : Act} : ∀ (l : List (Nat × Operand)), (∀ q ∈ l, a.eval q.2 = b.eval q.2) → a.parts l = b.parts l := by
  intro l
  induction l with
  | nil => intro _; rfl
  | cons q l ih =>
    intro h
    show consO (partO a q) (a.parts l) = consO (partO b q) (b.parts l)
    rw [ih fun q hq => h q (List.mem_cons_of_mem _ hq)]
    unfold partO
    rw [h q List.mem_cons_self]
theorem evals_congr {a b : Act} : ∀ (l : List Operand), (∀ q ∈ l, a.eval q = b.eval q) → a.evals l = b.evals l := by
  intro l
  induction l with
  | nil => intro _; rfl
  | cons q l ih =>
    intro h
    show consO (a.eval q) (a.evals l) = consO (b.eval q) (b.evals l)
    rw [ih fun q hq => h q (List.mem_cons_of_mem _ hq), h q List.mem_cons_self]
theorem optV_congr {a b : Act} (x : Option Operand) (h : ∀ q ∈ x, a.eval q = b.eval q) : optV a x = optV b x := by
  cases x with
  | none => rfl
  | some x => show (a.eval x).map some = (b.eval x).map some; rw [h x rfl]

theorem opC_congr [Env] {a b : Act} (o : Op) (h : ∀ x ∈ o.operands, a.eval x = b.eval x) (σ : St) : (opC P o).f a σ id = (opC P o).f b σ id := by
  cases o with
  | pick c x y =>
    simp only [Op.operands] at h
    have h1 := h c (by simp); have h2 := h x (by simp); have h3 := h y (by simp)
    show at1 _ (a.eval c) (opPick a σ x y) = at1 _ (b.eval c) (opPick b σ x y)
    rw [h1]
    congr 1
    funext v
    unfold opPick
    split
    · rename_i t; cases t <;> simp [h2, h3]
    · rfl
  | build t ps =>
    show opBuild P σ t (a.parts ps.toList) = opBuild P σ t (b.parts ps.toList)
    rw [parts_congr _ fun q hq => h q.2 (by simp only [Op.operands, List.mem_toArray, List.mem_map]; exact ⟨q, hq, rfl⟩)]
  | buildSlice t n ps =>
    show opBuildSlice P σ id t n (a.parts ps.toList) = opBuildSlice P σ id t n (b.parts ps.toList)
    rw [parts_congr _ fun q hq => h q.2 (by simp only [Op.operands, List.mem_toArray, List.mem_map]; exact ⟨q, hq, rfl⟩)]
  | makeFunc fn f c =>
    show opMakeFunc σ fn (a.evals f.toList) (a.evals c.toList) = opMakeFunc σ fn (b.evals f.toList) (b.evals c.toList)
    rw [evals_congr _ fun q hq => h q (by simp only [Op.operands]; exact Array.mem_append_left _ (by simpa using hq)), evals_congr _ fun q hq => h q (by simp only [Op.operands]; exact Array.mem_append_right _ (by simpa using hq))]
  | makeMap t r =>
    show opMakeMap P a σ id t r = opMakeMap P b σ id t r
    cases r with
    | none => rfl
    | some x =>
      unfold opMakeMap
      dsimp only
      rw [h x (by simp [Op.operands])]
  | slice t x lo hi mx =>
    show at1 _ (a.eval x) (opSlice P a σ t lo hi mx) = at1 _ (b.eval x) (opSlice P b σ t lo hi mx)
    rw [h x (by simp [Op.operands])]
    congr 1
    funext v
    unfold opSlice
    rw [optV_congr lo fun q hq => h q (by simp only [Op.operands]; simp_all), optV_congr hi fun q hq => h q (by simp only [Op.operands]; simp_all), optV_congr mx fun q hq => h q (by simp only [Op.operands]; simp_all)]
  | call c =>
    show opCallB P a σ id c = opCallB P b σ id c
    unfold opCallB
    split
    · rw [evals_congr _ fun q hq => h q (by simp only [Op.operands, Call.operands]; simp_all)]
    · rfl
  | _ => first
    | rfl
    | (simp only [Op.operands] at h
       simp [opC, h]
       done)

/-! ### Which operations write nothing -/
theorem evalMax {σ : St} {tys : List TypeId} {vs : List V} : evalBuiltin P σ id .max tys vs = match vs with
    | [.int k x, .int _ y] => some (.int k (if y > x then y else x), σ)
    | _ => none := by
  rcases tys with _ | ⟨t, _ | ⟨t', tys⟩⟩ <;> rcases vs with _ | ⟨x, _ | ⟨y, _ | ⟨z, l⟩⟩⟩ <;> first | rfl | (cases x <;> first | rfl | (cases y <;> rfl))
theorem evalMin {σ : St} {tys : List TypeId} {vs : List V} : evalBuiltin P σ id .min tys vs = match vs with
    | [.int k x, .int _ y] => some (.int k (if y < x then y else x), σ)
    | _ => none := by
  rcases tys with _ | ⟨t, _ | ⟨t', tys⟩⟩ <;> rcases vs with _ | ⟨x, _ | ⟨y, _ | ⟨z, l⟩⟩⟩ <;> first | rfl | (cases x <;> first | rfl | (cases y <;> rfl))
theorem evalEq_plain {t : TypeId} (hp : plainEq P t = true) (lit : Bool) (x y : V) (σ σ' : St) : evalEq P σ t lit x y = evalEq P σ' t lit x y := by
  unfold plainEq at hp
  unfold evalEq
  split at hp
  · rename_i k hu; rw [hu]; rfl
  · rename_i hu; rw [hu]; rfl
  · rename_i hu; rw [hu]; rfl
  · cases hp
theorem evalLen_plain {t : TypeId} (hp : plainLen P (some t) = true) (x : V) (σ σ' : St) : evalLen P σ t x = evalLen P σ' t x := by
  unfold plainLen at hp
  unfold evalLen
  dsimp only at hp
  split at hp
  · rename_i hu; rw [hu]
  · rename_i hu; rw [hu]
  · rename_i hu; rw [hu]
  · cases hp
theorem conv_free {s d : TypeId} (hp : plainConv P s d = true) (x : V) : FreeF id fun σ => opConv P σ id s d x := by
  intro σ q h
  obtain ⟨⟨v, σ₁⟩, hev, hq⟩ := Res.Holds.of h
  unfold plainConv at hp
  split at hp
  · rename_i h1 h2
    unfold evalConv at hev
    rw [h1, h2] at hev
    cases x <;> first
      | (cases hev; done)
      | (cases hev; exact ⟨_, none, hq, fun σ' => by unfold opConv evalConv; rw [h1, h2]; rfl⟩)
  · rename_i h1 h2
    unfold evalConv at hev
    rw [h1, h2] at hev
    cases x <;> first
      | (cases hev; done)
      | (cases hev; exact ⟨_, none, hq, fun σ' => by unfold opConv evalConv; rw [h1, h2]; rfl⟩)
  · rename_i h1 h2
    unfold evalConv at hev
    rw [h1, h2] at hev
    cases x with
    | flt s b =>
      dsimp only at hev
      split at hev
      · rename_i n hn
        split at hev
        · rename_i hin
          cases hev
          exact ⟨_, none, hq, fun σ' => by unfold opConv evalConv; rw [h1, h2]; dsimp only; rw [hn]; dsimp only; rw [if_pos hin]; rfl⟩
        · cases hev
      · cases hev
    | _ => cases hev
  · rename_i h1 h2
    unfold evalConv at hev
    rw [h1, h2] at hev
    cases x <;> first
      | (cases hev; done)
      | (cases hev; exact ⟨_, none, hq, fun σ' => by unfold opConv evalConv; rw [h1, h2]; rfl⟩)
  · cases hp

theorem free_sound [Env] {a : Act} (o : Op) (h1 : effectOp o = false) (h2 : lookOp P o = false) (h3 : readOp o = false) : FreeF id fun σ => (opC P o).f a σ id := by
  cases o with
  | move x => exact .keep _ _
  | assign x => exact .keep _ _
  | pick c x y =>
    refine FreeF.at1 (g := fun v σ => opPick a σ x y v) fun v => ?_
    unfold opPick
    split
    · exact .keep _ _
    · exact .fail _
  | alloc e =>
    show FreeF id fun σ => opAlloc P σ id e
    unfold opAlloc
    split
    · split
      · exact .new _ _
      · exact .fail _
    · exact .fail _
  | box e x =>
    refine FreeF.at1 (g := fun v σ => opBox σ id v) fun v => ?_
    unfold opBox
    split
    · exact .new _ _
    · exact .fail _
  | build t ps =>
    show FreeF id fun σ => opBuild P σ t (a.parts ps.toList)
    unfold opBuild
    split
    · exact .keep _ _
    · exact .fail _
  | buildSlice t n ps =>
    show FreeF id fun σ => opBuildSlice P σ id t n (a.parts ps.toList)
    unfold opBuildSlice
    split
    · split
      · split
        · split
          · unfold opBuildLit
            split
            · exact .fail _
            · split
              · split
                · exact .ok _
                · exact .fail _
              · exact .fail _
          · unfold opBuildSliceZ
            split
            · exact .fail _
            · split
              · split
                · exact .new _ _
                · exact .fail _
              · exact .fail _
        · exact .fail _
      · exact .fail _
    · exact .fail _
  | load t x => cases h3
  | nilCheck x =>
    refine FreeF.at1 (g := fun v σ => opNilCheck σ v) fun v => ?_
    unfold opNilCheck
    split
    · exact .ok _
    · exact .ok _
    · exact .ok _
    · exact .fail _
    · exact .ok _
    · exact .ok _
    · exact .fail _
  | binOp op t x y yt =>
    refine FreeF.at2 (g := fun v u σ => opBin P σ op t (isConst x || isConst y) v u) fun v u => ?_
    unfold opBin evalBin
    split
    · exact .keep _ _
    · exact .keep _ _
    · exact .keep _ _
    · split
      · have hp : plainEq P t = true := by simpa [lookOp] using h2
        have e : (fun σ => keep σ "binOp" ((evalEq P σ t (isConst x || isConst y) v u).map .bool)) = fun σ => keep σ "binOp" ((evalEq P ⟨.leaf, 0⟩ t (isConst x || isConst y) v u).map .bool) := funext fun σ => by rw [evalEq_plain hp _ _ _ σ ⟨.leaf, 0⟩]
        rw [e]; exact .keep _ _
      · have hp : plainEq P t = true := by simpa [lookOp] using h2
        have e : (fun σ => keep σ "binOp" ((evalEq P σ t (isConst x || isConst y) v u).map fun b => .bool !b)) = fun σ => keep σ "binOp" ((evalEq P ⟨.leaf, 0⟩ t (isConst x || isConst y) v u).map fun b => .bool !b) := funext fun σ => by rw [evalEq_plain hp _ _ _ σ ⟨.leaf, 0⟩]
        rw [e]; exact .keep _ _
      · exact .keep _ _
  | unOp op t x => exact FreeF.at1 (g := fun v σ => opUn σ op v) fun v => .keep _ _
  | convert s d x => exact FreeF.at1 (g := fun v σ => opConv P σ id s d v) fun v => conv_free (by simpa [lookOp] using h2) v
  | makeInterface t x =>
    refine FreeF.at1 (g := fun v σ => opMakeInterface P σ t v) fun v => ?_
    unfold opMakeInterface
    split
    · exact .fail _
    · exact .ok _
    · exact .fail _
  | makeFunc fn f c =>
    show FreeF id fun σ => opMakeFunc σ fn (a.evals f.toList) (a.evals c.toList)
    unfold opMakeFunc
    split
    · split
      · exact .fail _
      · exact .ok _
    · exact .fail _
  | makeMap t r =>
    show FreeF id fun σ => opMakeMap P a σ id t r
    unfold opMakeMap
    split
    · exact .new _ _
    · split
      · exact .new _ _
      · exact .fail _
  | makeSlice t l c =>
    refine FreeF.at2 (g := fun v u σ => opMakeSlice P σ id t v u) fun v u => ?_
    unfold opMakeSlice
    split
    · split
      · split
        · unfold opMakeSliceZ
          split
          · exact .new _ _
          · exact .fail _
        · exact .fail _
      · exact .fail _
    · exact .fail _
  | slice t x lo hi mx =>
    refine FreeF.at1 (g := fun v σ => opSlice P a σ t lo hi mx v) fun v => ?_
    have hn : arrayE P t = none := by
      unfold arrayE
      simp only [lookOp] at h2
      split at h2
      · cases h2
      · rename_i hne; split
        · rename_i hu; exact absurd hu (hne _ _)
        · rfl
    unfold opSlice
    rw [hn]
    split
    · exact .keep _ _
    · exact .fail _
  | fieldAddr s x f =>
    refine FreeF.at1 (g := fun v σ => opFieldAddr P σ s f v) fun v => ?_
    unfold opFieldAddr
    split
    · split
      · split
        · exact .ok _
        · exact .fail _
      · exact .fail _
    · split
      · split
        · exact .ok _
        · exact .fail _
      · exact .fail _
    · split
      · split
        · exact .ok _
        · exact .fail _
      · exact .fail _
    · exact .fail _
  | field t x f =>
    refine FreeF.at1 (g := fun v σ => opField P σ t f v) fun v => ?_
    unfold opField
    split
    · split
      · exact .keep _ _
      · exact .fail _
    · exact .fail _
  | indexAddr t x ix =>
    refine FreeF.at2 (g := fun v u σ => opIndexAddr P σ t v u) fun v u => ?_
    unfold opIndexAddr
    split
    · unfold opIndexAddrO
      split
      · split
        · split
          · exact .ok _
          · exact .fail _
        · exact .fail _
      · exact .fail _
    · unfold opIndexAddrF
      split
      · split
        · split
          · exact .ok _
          · exact .fail _
        · exact .fail _
      · exact .fail _
    · unfold opIndexAddrS
      split
      · split
        · split
          · exact .ok _
          · exact .fail _
        · exact .fail _
      · exact .fail _
    · unfold opIndexAddrL
      split
      · split
        · split
          · split
            · exact .ok _
            · exact .fail _
          · exact .fail _
        · exact .fail _
      · exact .fail _
    · unfold opIndexAddrA
      split
      · split
        · split
          · exact .ok _
          · exact .fail _
        · exact .fail _
      · exact .fail _
    · exact .fail _
  | index t x ix =>
    refine FreeF.at2 (g := fun v u σ => opIndex P σ t v u) fun v u => ?_
    unfold opIndex
    split
    · unfold opIndexStr
      split
      · split
        · split
          · exact .ok _
          · exact .fail _
        · exact .fail _
      · exact .fail _
    · unfold opIndexArr
      split
      · split
        · split
          · exact .keep _ _
          · exact .fail _
        · exact .fail _
      · exact .fail _
    · exact .fail _
  | lookup t x k ok => cases h2
  | typeAssert x xt t ok => exact FreeF.at1 (g := fun v σ => opAssert P σ t ok v) fun v => .keep _ _
  | extract x i =>
    refine FreeF.at1 (g := fun v σ => opExtract σ i v) fun v => ?_
    unfold opExtract
    split
    · exact .keep _ _
    · exact .fail _
  | call c =>
    show FreeF id fun σ => opCallB P a σ id c
    obtain ⟨callee, cargs, ctys⟩ := c
    cases callee with
    | builtin b =>
      simp only [opCallB]
      cases hv : a.evals cargs.toList with
      | none => exact .fail _
      | some vs =>
        unfold opBuiltin
        intro σ q h
        obtain ⟨⟨v, σ'⟩, hev, hq⟩ := Res.Holds.of h
        cases b <;> first
          | (simp [effectOp] at h1; done)
          | skip
        · have hp : plainLen P ctys[0]? = true := by simpa [lookOp] using h2
          rcases hct : ctys.toList with _ | ⟨t, l⟩
          · rw [hct] at hev; rcases vs with _ | ⟨x, _ | ⟨y, _⟩⟩ <;> cases hev
          · have h0 : ctys[0]? = some t := by rw [← Array.getElem?_toList, hct]; rfl
            rw [h0] at hp
            rw [hct] at hev
            rcases vs with _ | ⟨x, _ | ⟨y, r⟩⟩
            · cases hev
            · have hev' : (evalLen P σ t x).map (·, σ) = some (v, σ') := hev
              rw [Option.map_eq_some_iff] at hev'
              obtain ⟨u, hu, he⟩ := hev'
              cases he
              exact ⟨_, none, hq, fun σ' => by
                show Res.of "builtin" ((evalLen P σ' t x).map (·, σ')) = _
                rw [evalLen_plain hp x σ' σ, hu]; rfl⟩
            · cases hev
        · rw [evalMax] at hev
          split at hev
          · cases hev
            exact ⟨_, none, hq, fun σ' => by show Res.of "builtin" (evalBuiltin P σ' id .max ctys.toList _) = _; rw [evalMax]; rfl⟩
          · cases hev
        · rw [evalMin] at hev
          split at hev
          · cases hev
            exact ⟨_, none, hq, fun σ' => by show Res.of "builtin" (evalBuiltin P σ' id .min ctys.toList _) = _; rw [evalMin]; rfl⟩
          · cases hev
    | value f => simp [effectOp] at h1
    | invoke x name => simp [effectOp] at h1
  | store t x y => cases h1
  | insert t m k v => cases h1
  | mapUpdate t m k v => cases h1
  | range t x => cases h1
  | next it s => cases h1
  | entry it => cases h1
  | defer c => cases h1
  | _ => exact .fail _


/-! ### Operations that look at memory -/
def Known (ρ : Ren) (b : Nat) : Prop := ρ b ≠ none
theorem SubOn.get {D : Nat → Prop} {σ σ' : St} (h : SubOn D σ σ') {b : Nat} {k : Blk} (hb : σ.heap.get b = some k) (hd : D b) : σ'.heap.get b = some k := h b k hb hd

theorem SubOn.cell [Env] {D : Nat → Prop} {σ σ' : St} (h : SubOn D σ σ') {b off : Nat} (hd : D b) {v : V} (hv : σ.cell b off = some v) : σ'.cell b off = some v := by
  unfold St.cell at hv ⊢
  split at hv
  · rename_i n z t p ro hb; rw [h.get hb hd]; exact hv
  · cases hv
theorem SubOn.cells [Env] {D : Nat → Prop} {σ σ' : St} (h : SubOn D σ σ') {b off n : Nat} (hd : D b) {v : List V} (hv : σ.cells b off n = some v) : σ'.cells b off n = some v := by
  unfold St.cells at hv ⊢
  split at hv
  · rename_i m z t p ro hb; rw [h.get hb hd]; exact hv
  · cases hv
theorem SubOn.loadV [Env] {σ σ' : St} (h : SubOn (Known ρ) σ σ') {t : TypeId} {x v : V} {x' : Value} (hx : VRel ρ x x') (hv : loadV P σ t x = some v) : loadV P σ' t x = some v := by
  unfold Go.Ev.loadV at hv ⊢
  cases x with
  | eptr cs off =>
    revert hv
    cases aggT P t with
    | none => exact fun h => h
    | some g => cases sizeT P t <;> cases g <;> exact fun h => h
  | elt b i esz off =>
    cases hx with
    | elt hl =>
      have hd : Known ρ b := by unfold Known; rw [hl]; simp
      have key : ∀ cs, σ.eltCells b i esz = some cs → σ'.eltCells b i esz = some cs := by
        intro cs hc
        unfold St.eltCells at hc ⊢
        split at hc
        · rename_i n f z p hb; rw [h.get hb hd]; exact hc
        · cases hc
      cases ha : aggT P t with
      | none => rw [ha] at hv; simp at hv
      | some g =>
        rw [ha] at hv
        cases hs : sizeT P t with
        | none =>
          rw [hs] at hv
          cases g with
          | true => simp at hv
          | false =>
            dsimp only at hv ⊢
            rw [Option.bind_eq_some_iff] at hv ⊢
            obtain ⟨cs, hc, hv⟩ := hv
            exact ⟨cs, key cs hc, hv⟩
        | some n =>
          rw [hs] at hv
          cases g with
          | true =>
            dsimp only at hv ⊢
            rw [Option.bind_eq_some_iff] at hv ⊢
            obtain ⟨cs, hc, hv⟩ := hv
            exact ⟨cs, key cs hc, hv⟩
          | false =>
            dsimp only at hv ⊢
            rw [Option.bind_eq_some_iff] at hv ⊢
            obtain ⟨cs, hc, hv⟩ := hv
            exact ⟨cs, key cs hc, hv⟩
  | ptr b off =>
    cases hx with
    | ptr hl =>
      have hd : Known ρ b := by unfold Known; rw [hl]; simp
      cases ha : aggT P t with
      | none => rw [ha] at hv; simp at hv
      | some g => cases hs : sizeT P t with
        | none =>
          rw [ha, hs] at hv
          cases g with
          | true => simp at hv
          | false => exact h.cell hd hv
        | some n =>
          rw [ha, hs] at hv
          cases g with
          | true =>
            rw [Option.map_eq_some_iff] at hv ⊢
            obtain ⟨l, hl', rfl⟩ := hv
            exact ⟨l, h.cells hd hl', rfl⟩
          | false => exact h.cell hd hv
  | _ => simp at hv

theorem SubOn.entries [Env] {σ σ' : St} (h : SubOn (Known ρ) σ σ') {x : V} {x' : Value} (hx : VRel ρ x x') {es : Entries} (he : entriesOf σ x = some es) : entriesOf σ' x = some es := by
  unfold entriesOf at he ⊢
  cases x with
  | nilmap => exact he
  | map r =>
    cases hx with
    | map hl =>
      dsimp only at he ⊢
      split at he
      · rename_i es' clock hb
        rw [h.get hb (by unfold Known; rw [hl]; simp)]
        exact he
      · cases he
  | _ => cases he

theorem SubOn.ptrEq [Env] {σ σ' : St} (h : SubOn (Known ρ) σ σ') {e b o b' o' : Nat} {r : Bool} (hb : Known ρ b) (hb' : Known ρ b') (he : ptrEq P σ e b o b' o' = some r) : ptrEq P σ' e b o b' o' = some r := by
  unfold Go.Ev.ptrEq at he ⊢
  split at he
  · rename_i m hm
    split at he
    · split at he
      · rename_i hk; rw [h.get hk hb]; exact he
      · cases he
    · split at he
      · rename_i hk hk'; rw [h.get hk hb, h.get hk' hb']; exact he
      · cases he
  · cases he

theorem SubOn.evalEq [Env] {σ σ' : St} (h : SubOn (Known ρ) σ σ') {t : TypeId} {lit : Bool} {x y : V} {x' y' : Value} (hx : VRel ρ x x') (hy : VRel ρ y y') {r : Bool} (he : evalEq P σ t lit x y = some r) : evalEq P σ' t lit x y = some r := by
  unfold Go.Ev.evalEq at he ⊢
  cases hu : P.underlying t with
  | none => rw [hu] at he; exact he
  | some d =>
    rw [hu] at he
    cases d with
    | pointer e =>
      cases x with
      | ptr b o =>
        cases y with
        | ptr b' o' =>
          cases hx with
          | ptr hl => cases hy with
            | ptr hl' =>
              have he' : Go.Ev.ptrEq P σ e b o b' o' = some r := he
              exact h.ptrEq (by unfold Known; rw [hl]; simp) (by unfold Known; rw [hl']; simp) he'
        | _ => exact he
      | _ => exact he
    | _ => exact he

theorem SubOn.evalBin [Env] {σ σ' : St} (h : SubOn (Known ρ) σ σ') {op : BinOp} {t : TypeId} {lit : Bool} {x y : V} {x' y' : Value} (hx : VRel ρ x x') (hy : VRel ρ y y') {v : V} (he : evalBin P σ op t lit x y = some v) : evalBin P σ' op t lit x y = some v := by
  unfold Go.Ev.evalBin at he ⊢
  split at he
  · exact he
  · exact he
  · exact he
  · split at he
    · rw [Option.map_eq_some_iff] at he ⊢
      obtain ⟨b, hb, rfl⟩ := he
      exact ⟨b, h.evalEq hx hy hb, rfl⟩
    · rw [Option.map_eq_some_iff] at he ⊢
      obtain ⟨b, hb, rfl⟩ := he
      exact ⟨b, h.evalEq hx hy hb, rfl⟩
    · cases he

theorem SubOn.evalLen [Env] {σ σ' : St} (h : SubOn (Known ρ) σ σ') {t : TypeId} {x : V} {x' : Value} (hx : VRel ρ x x') {v : V} (he : evalLen P σ t x = some v) : evalLen P σ' t x = some v := by
  unfold Go.Ev.evalLen at he ⊢
  cases hu : P.underlying t with
  | none => rw [hu] at he; exact he
  | some d =>
    rw [hu] at he
    cases d with
    | map k e =>
      have he' : lenMap σ x = some v := he
      show lenMap σ' x = some v
      unfold lenMap at he' ⊢
      cases x with
      | nilmap => exact he'
      | map r =>
        cases hx with
        | map hl =>
          dsimp only at he' ⊢
          split at he'
          · rename_i hb; rw [h.get hb (by unfold Known; rw [hl]; simp)]; exact he'
          · cases he'
      | _ => cases he'
    | _ => exact he

theorem SubOn.sliceA [Env] {σ σ' : St} (h : SubOn (Known ρ) σ σ') {n : Nat} {e : TypeId} {lo hi mx : Option V} {x : V} {x' : Value} (hx : VRel ρ x x') {v : V} (he : evalSliceA P σ n e lo hi mx x = some v) : evalSliceA P σ' n e lo hi mx x = some v := by
  unfold evalSliceA at he ⊢
  split at he
  · cases hx with
    | ptr hl =>
      split at he
      · rename_i h1 h2 hb
        rw [h.get hb (by unfold Known; rw [hl]; simp)]
        simp only [h1, h2]
        exact he
      · cases he
  · cases he

theorem conv_look [Env] {src dst : TypeId} {x : V} {x' : Value} (hx : VRel ρ x x') : LookF id (Known ρ) fun σ => opConv P σ id src dst x := by
  intro σ q h
  obtain ⟨⟨v, σ₁⟩, hev, hq⟩ := Res.Holds.of h
  have fin : ∀ κ, σ₁ = σ.ext id κ → (∀ σ', SubOn (Known ρ) σ σ' → evalConv P σ' id src dst x = some (v, σ'.ext id κ)) →
      ∃ v κ, q (v, σ.ext id κ) ∧ opConv P σ id src dst x = .ok (v, σ.ext id κ) ∧ ∀ σ', SubOn (Known ρ) σ σ' → opConv P σ' id src dst x = .ok (v, σ'.ext id κ) := by
    intro κ hκ hall
    subst hκ
    exact ⟨v, κ, hq, by unfold opConv; rw [hev]; rfl, fun σ' hs => by unfold opConv; rw [hall σ' hs]; rfl⟩
  unfold evalConv at hev
  split at hev
  · rename_i h1 h2
    cases hev
    exact fin none rfl fun σ' _ => by unfold evalConv; rw [h1, h2]; rfl
  · rename_i h1 h2
    cases hev
    exact fin none rfl fun σ' _ => by unfold evalConv; rw [h1, h2]; rfl
  · rename_i h1 h2
    split at hev
    · rename_i h3
      split at hev
      · rename_i h4
        cases hev
        exact fin none rfl fun σ' _ => by unfold evalConv; rw [h1, h2]; dsimp only; rw [h3]; dsimp only; rw [if_pos h4]; rfl
      · cases hev
    · cases hev
  · rename_i h1 h2
    cases hev
    exact fin none rfl fun σ' _ => by unfold evalConv; rw [h1, h2]; rfl
  · rename_i h1 h2
    split at hev
    · rename_i h3
      split at hev
      · rename_i h4
        cases hev
        exact fin (some _) rfl fun σ' _ => by unfold evalConv; rw [h1, h2]; dsimp only; rw [h3]; dsimp only; rw [if_pos h4]; rfl
      · cases hev
    · cases hev
  · rename_i h1 h2
    split at hev
    · rename_i h3
      cases hev
      exact fin none rfl fun σ' _ => by unfold evalConv; rw [h1, h2]; dsimp only; rw [h3]; rfl
    · cases hev
  · rename_i e b off n cap ex esz h1 h2
    split at hev
    · rename_i h3
      split at hev
      · rename_i l hl
        rw [Option.map_eq_some_iff] at hev
        obtain ⟨s, hs, he⟩ := hev
        cases he
        cases hx with
        | slice hlb _ _ _ _ =>
          exact fin none rfl fun σ' hsub => by
            unfold evalConv; rw [h1, h2]; dsimp only; rw [h3]; dsimp only
            rw [hsub.cells (by unfold Known; rw [hlb]; simp) hl]
            dsimp only
            rw [hs]; rfl
      · cases hev
    · cases hev
  · rename_i e es esz ex h1 h2
    split at hev
    · rename_i h3
      split at hev
      · rename_i h4
        rw [Option.map_eq_some_iff] at hev
        obtain ⟨s, hs, he⟩ := hev
        cases he
        exact fin none rfl fun σ' _ => by unfold evalConv; rw [h1, h2]; dsimp only; rw [h3]; dsimp only; rw [h4]; dsimp only; rw [hs]; rfl
      · cases hev
    · cases hev
  · rename_i e b n esz h1 h2
    split at hev
    · rename_i h3
      split at hev
      · rename_i n' f z p hb
        split at hev
        · rename_i hc
          rw [Option.map_eq_some_iff] at hev
          obtain ⟨s, hs, he⟩ := hev
          cases he
          cases hx with
          | own hlb _ _ =>
            exact fin none rfl fun σ' hsub => by
              unfold evalConv; rw [h1, h2]; dsimp only; rw [h3]; dsimp only
              rw [hsub.get hb (by unfold Known; rw [hlb]; simp)]
              dsimp only
              rw [if_pos hc, hs]; rfl
        · cases hev
      · cases hev
    · cases hev
  · cases hev

theorem look_sound [Env] {a : Act} (o : Op) (h1 : effectOp o = false) (hD : ∀ x ∈ o.operands, ∀ v, a.eval x = some v → ∃ x', VRel ρ v x') : LookF id (Known ρ) fun σ => (opC P o).f a σ id := by
  by_cases hr : readOp o = true
  · cases o <;> try (cases hr; done)
    rename_i t x
    show LookF id (Known ρ) fun σ => at1 "load operand" (a.eval x) (opLoad P σ t)
    cases hx : a.eval x with
    | none => exact (FreeF.fail _).look _
    | some v =>
      obtain ⟨x', hrel⟩ := hD x (by simp [Op.operands]) v hx
      exact LookF.keep _ fun σ σ' u hs hu => hs.loadV hrel hu
  · by_cases hl : lookOp P o = true
    · cases o <;> try (cases hl; done)
      case binOp op t x y yt =>
        show LookF id (Known ρ) fun σ => at2 "binOp operand" (a.eval x) (a.eval y) (opBin P σ op t (isConst x || isConst y))
        cases hx : a.eval x with
        | none => exact (FreeF.fail _).look _
        | some v => cases hy : a.eval y with
          | none => exact (FreeF.fail _).look _
          | some u =>
            obtain ⟨x', hrel⟩ := hD x (by simp [Op.operands]) v hx
            obtain ⟨y', hrel'⟩ := hD y (by simp [Op.operands]) u hy
            exact LookF.keep _ fun σ σ' u hs hu => hs.evalBin hrel hrel' hu
      case convert s d x =>
        show LookF id (Known ρ) fun σ => at1 "convert operand" (a.eval x) (opConv P σ id s d)
        cases hx : a.eval x with
        | none => exact (FreeF.fail _).look _
        | some v =>
          obtain ⟨x', hrel⟩ := hD x (by simp [Op.operands]) v hx
          exact conv_look hrel
      case slice t x lo hi mx =>
        show LookF id (Known ρ) fun σ => at1 "slice operand" (a.eval x) (opSlice P a σ t lo hi mx)
        cases hx : a.eval x with
        | none => exact (FreeF.fail _).look _
        | some v =>
          obtain ⟨x', hrel⟩ := hD x (by simp [Op.operands]) v hx
          show LookF id (Known ρ) fun σ => opSlice P a σ t lo hi mx v
          unfold opSlice
          split
          · split
            · exact LookF.keep _ fun σ σ' u hs hu => hs.sliceA hrel hu
            · exact (FreeF.keep _ _).look _
          · exact (FreeF.fail _).look _
      case lookup t x k ok =>
        show LookF id (Known ρ) fun σ => at2 "lookup operand" (a.eval x) (a.eval k) (opLookup P σ t ok)
        cases hx : a.eval x with
        | none => exact (FreeF.fail _).look _
        | some m => cases hk : a.eval k with
          | none => exact (FreeF.fail _).look _
          | some kv =>
            obtain ⟨x', hrel⟩ := hD x (by simp [Op.operands]) m hx
            intro σ q h
            have h' : (opLookup P σ t ok m kv).Holds q := h
            have key : ∀ σ', SubOn (Known ρ) σ σ' → ∀ v, opLookup P σ t ok m kv = .ok (v, σ) → opLookup P σ' t ok m kv = .ok (v, σ') := by
              intro σ' hs v hv
              unfold opLookup at hv ⊢
              cases hmt : mapT P t with
              | none => rw [hmt] at hv; cases hv
              | some q => cases hen : entriesOf σ m with
                | none => rw [hmt, hen] at hv; cases hv
                | some es =>
                  rw [hmt, hen] at hv
                  rw [hs.entries hrel hen]
                  dsimp only at hv ⊢
                  split at hv
                  · split at hv
                    · cases hv; rfl
                    · split at hv
                      · cases hv; rfl
                      · cases hv
                    · cases hv
                  · cases hv
            have shape : ∃ v, opLookup P σ t ok m kv = .ok (v, σ) ∧ q (v, σ) := by
              unfold opLookup at h' ⊢
              split at h'
              · split at h'
                · split at h'
                  · exact ⟨_, rfl, h'⟩
                  · split at h'
                    · exact ⟨_, rfl, h'⟩
                    · exact h'.elim
                  · exact h'.elim
                · exact h'.elim
              · exact h'.elim
            obtain ⟨v, hv, hq⟩ := shape
            exact ⟨v, none, hq, hv, fun σ' hs => key σ' hs v hv⟩
      case call c =>
        obtain ⟨callee, cargs, ctys⟩ := c
        cases callee with
        | builtin b =>
          cases b <;> try (simp [lookOp] at hl; done)
          show LookF id (Known ρ) fun σ => opBuiltin P σ id .len ctys.toList (a.evals cargs.toList)
          cases hv : a.evals cargs.toList with
          | none => exact (FreeF.fail _).look _
          | some vs =>
            have hrels : ∀ (l : List Operand) (vs : List V), (∀ x ∈ l, x ∈ cargs.toList) → a.evals l = some vs → ∀ v ∈ vs, ∃ x', VRel ρ v x' := by
              intro l
              induction l with
              | nil => intro vs _ h; cases h; intro v hv; cases hv
              | cons x l ih =>
                intro vs hl h
                obtain ⟨u, r, h1, h2, rfl⟩ := consO_some (x := a.eval x) (l := a.evals l) h
                intro v hv
                rcases List.mem_cons.1 hv with rfl | hv
                · exact hD x (by simp only [Op.operands, Call.operands]; have := hl x List.mem_cons_self; simp_all) v h1
                · exact ih r (fun y hy => hl y (List.mem_cons_of_mem _ hy)) h2 v hv
            intro σ q h
            obtain ⟨⟨v, σ₁⟩, hev, hq⟩ := Res.Holds.of h
            have hcase : ∃ t l x u, ctys.toList = t :: l ∧ vs = [x] ∧ evalLen P σ t x = some u ∧ v = u ∧ σ₁ = σ := by
              rcases hct : ctys.toList with _ | ⟨t, l⟩
              · rw [hct] at hev; rcases vs with _ | ⟨x, _ | ⟨y, _⟩⟩ <;> cases hev
              · rw [hct] at hev
                rcases vs with _ | ⟨x, _ | ⟨y, r⟩⟩
                · cases hev
                · have hev' : (evalLen P σ t x).map (·, σ) = some (v, σ₁) := hev
                  rw [Option.map_eq_some_iff] at hev'
                  obtain ⟨u, hu, he⟩ := hev'
                  cases he
                  exact ⟨t, l, x, _, rfl, rfl, hu, rfl, rfl⟩
                · cases hev
            obtain ⟨t, l, x, u, hct, rfl, hu, rfl, rfl⟩ := hcase
            obtain ⟨x', hrel⟩ := hrels cargs.toList [x] (fun _ h => h) hv x (by simp)
            have mk : ∀ σ', evalLen P σ' t x = some v → opBuiltin P σ' id .len ctys.toList (some [x]) = .ok (v, σ') := by
              intro σ' hl
              show Res.of "builtin" (evalBuiltin P σ' id .len ctys.toList [x]) = _
              rw [hct]
              show Res.of "builtin" ((evalLen P σ' t x).map (·, σ')) = _
              rw [hl]; rfl
            exact ⟨v, none, hq, mk σ₁ hu, fun σ' hs => mk σ' (hs.evalLen hrel hu)⟩
        | value f => simp [lookOp] at hl
        | invoke x name => simp [lookOp] at hl
    · exact (free_sound o h1 (by simpa using hl) (by simpa using hr)).look _

end
end Go.Ev
