/- Calls that are known: what a call comes to from a part of memory alone is taken as known in a longer run; the rest of memory is as it was. -/
import Derived.Test.YtbajncpfmemdgaaGreatDoorEvArgs
namespace Go.Ev
open Go Go.RowKit

/-! ### The same values, blocks -/
noncomputable def sameL {α : Type} (f : α → α → Bool) (l : List α) : List α → Bool :=
  List.rec (motive := fun _ => List α → Bool) (fun m => List.rec (motive := fun _ => Bool) true (fun _ _ _ => false) m)
    (fun a _ ih m => List.rec (motive := fun _ => Bool) false (fun b m' _ => Bool.rec false (ih m') (f a b)) m) l
theorem sameL_eq {α : Type} {f : α → α → Bool} (hf : ∀ a b, f a b = true → a = b) : ∀ {l m : List α}, sameL f l m = true → l = m
  | [], [], _ => rfl
  | [], _ :: _, h => by cases h
  | _ :: _, [], h => by cases h
  | a :: l, b :: m, h => by
    have h' : (Bool.rec false (sameL f l m) (f a b) : Bool) = true := h
    cases hab : f a b with
    | false => rw [hab] at h'; cases h'
    | true => rw [hab] at h'; rw [hf a b hab, sameL_eq hf h']
noncomputable def sameO {α : Type} (f : α → α → Bool) (x y : Option α) : Bool :=
  match x with
  | none => match y with
    | none => true
    | some _ => false
  | some a => match y with
    | none => false
    | some b => f a b
theorem sameO_eq {α : Type} {f : α → α → Bool} (hf : ∀ a b, f a b = true → a = b) {x y : Option α} (h : sameO f x y = true) : x = y := by
  cases x <;> cases y <;> first | rfl | cases h | (rw [hf _ _ h])
noncomputable def Trie.same {α : Type} (f : α → α → Bool) (s t : Trie α) : Bool := sameL (sameL (sameL (sameL (sameO f)))) s t
theorem Trie.same_eq {α : Type} {f : α → α → Bool} (hf : ∀ a b, f a b = true → a = b) {s t : Trie α} (h : Trie.same f s t = true) : s = t :=
  sameL_eq (fun _ _ h => sameL_eq (fun _ _ h => sameL_eq (fun _ _ h => sameL_eq (fun _ _ h => sameO_eq hf h) h) h) h) h
def entSame (e e' : V × V × Nat) : Bool := V.beq e.1 e'.1 && V.beq e.2.1 e'.2.1 && Nat.beq e.2.2 e'.2.2
theorem entSame_eq {e e' : V × V × Nat} (h : entSame e e' = true) : e = e' := by
  obtain ⟨a, b, n⟩ := e
  obtain ⟨a', b', n'⟩ := e'
  simp only [entSame, Bool.and_eq_true] at h
  rw [V.beq_eq h.1.1, V.beq_eq h.1.2, Nat.eq_of_beq_eq_true h.2]
noncomputable def Blk.same (k k' : Blk) : Bool :=
  match k with
  | .cells n z t p ro => match k' with
    | .cells n' z' t' p' ro' => Nat.beq n n' && (V.beqs z z' && (Trie.same V.beq t t' && (p == p' && ro == ro')))
    | _ => false
  | .map es c => match k' with
    | .map es' c' => Nat.beq c c' && sameL entSame es es'
    | _ => false
  | .iter m s l c => match k' with
    | .iter m' s' l' c' => decide (m = m') && (Nat.beq s s' && (decide (l = l') && Nat.beq c c'))
    | _ => false
  | .deferred => match k' with
    | .deferred => true
    | _ => false
  | _ => false
theorem Blk.same_eq {k k' : Blk} (h : Blk.same k k' = true) : k = k' := by
  cases k <;> cases k' <;> first
    | rfl
    | (cases h; done)
    | (rename_i n z t p ro n' z' t' p' ro'
       simp only [Blk.same, Bool.and_eq_true, beq_iff_eq] at h
       rw [Nat.eq_of_beq_eq_true h.1, V.beqs_eq h.2.1, Trie.same_eq (fun _ _ => V.beq_eq) h.2.2.1, h.2.2.2.1, h.2.2.2.2])
    | (simp only [Blk.same, Bool.and_eq_true] at h
       rw [Nat.eq_of_beq_eq_true h.1, sameL_eq (fun _ _ => entSame_eq) h.2])
    | (simp only [Blk.same, Bool.and_eq_true, decide_eq_true_eq] at h
       rw [h.1, Nat.eq_of_beq_eq_true h.2.1, h.2.2.1, Nat.eq_of_beq_eq_true h.2.2.2])

/-! ### What is known of a call -/
structure Told where
  f : FuncId
  args : List V
  /-- What it looks at. -/
  pre : List (Nat × Blk)
  now : Nat
  v : V
  /-- What stands there behind it; none: nothing is known any more. -/
  post : List (Nat × Option Blk)
  then' : Nat

noncomputable def putsO {α : Type} (l : List (Nat × Option α)) : Trie α → Trie α :=
  List.rec (motive := fun _ => Trie α → Trie α) (fun t => t) (fun x _ ih t => ih (t.put x.1 x.2)) l
noncomputable def putsS {α : Type} (l : List (Nat × α)) : Trie α → Trie α :=
  List.rec (motive := fun _ => Trie α → Trie α) (fun t => t) (fun x _ ih t => ih (t.put x.1 (some x.2))) l
noncomputable def killsS {α : Type} (l : List (Nat × α)) : Trie α → Trie α :=
  List.rec (motive := fun _ => Trie α → Trie α) (fun t => t) (fun x _ ih t => ih (t.put x.1 none)) l

theorem putsO_get {α : Type} {b : Nat} {k : α} : ∀ {l : List (Nat × Option α)} {t : Trie α}, (putsO l t).get b = some k → (b, some k) ∈ l ∨ t.get b = some k
  | [], _, h => .inr h
  | x :: l, t, h => by
    rcases putsO_get (l := l) (t := t.put x.1 x.2) h with h | h
    · exact .inl (List.mem_cons_of_mem _ h)
    · rw [Trie.get_put] at h
      by_cases e : b = x.1
      · rw [if_pos e] at h
        refine .inl (List.mem_cons.2 (.inl ?_))
        rw [e, ← h]
      · rw [if_neg e] at h; exact .inr h
theorem putsS_get {α : Type} {b : Nat} {k : α} : ∀ {l : List (Nat × α)} {t : Trie α}, (putsS l t).get b = some k → (b, k) ∈ l ∨ t.get b = some k
  | [], _, h => .inr h
  | x :: l, t, h => by
    rcases putsS_get (l := l) (t := t.put x.1 (some x.2)) h with h | h
    · exact .inl (List.mem_cons_of_mem _ h)
    · rw [Trie.get_put] at h
      by_cases e : b = x.1
      · rw [if_pos e] at h
        cases h
        exact .inl (List.mem_cons.2 (.inl (by rw [e])))
      · rw [if_neg e] at h; exact .inr h
theorem killsS_get {α : Type} {b : Nat} {k : α} : ∀ {l : List (Nat × α)} {t : Trie α}, (killsS l t).get b = some k → t.get b = some k ∧ ∀ x ∈ l, x.1 ≠ b
  | [], _, h => ⟨h, fun _ hx => by cases hx⟩
  | x :: l, t, h => by
    obtain ⟨h1, h2⟩ := killsS_get (l := l) (t := t.put x.1 none) h
    rw [Trie.get_put] at h1
    by_cases e : b = x.1
    · rw [if_pos e] at h1; cases h1
    · rw [if_neg e] at h1
      refine ⟨h1, fun y hy => ?_⟩
      rcases List.mem_cons.1 hy with rfl | hy
      · exact fun h => e h.symm
      · exact h2 y hy

noncomputable def Told.st (e : Told) : St := ⟨putsS e.pre .leaf, e.now⟩
noncomputable def Told.put (e : Told) (σ : St) : St := ⟨putsO e.post (killsS e.pre σ.heap), e.then'⟩
noncomputable def preIn (σ : St) (l : List (Nat × Blk)) : Bool :=
  List.rec (motive := fun _ => Bool) true (fun x _ ih => match σ.heap.get x.1 with
    | some k => Bool.rec false ih (Blk.same k x.2)
    | none => false) l
noncomputable def postIn (σ : St) (l : List (Nat × Option Blk)) : Bool :=
  List.rec (motive := fun _ => Bool) true (fun x _ ih => match x.2 with
    | none => ih
    | some k' => match σ.heap.get x.1 with
      | some k => Bool.rec false ih (Blk.same k k')
      | none => false) l
theorem preIn_eq {σ : St} : ∀ {l : List (Nat × Blk)}, preIn σ l = true → ∀ x ∈ l, σ.heap.get x.1 = some x.2
  | [], _, _, hx => by cases hx
  | y :: l, h, x, hx => by
    have h' : (match σ.heap.get y.1 with
      | some k => Bool.rec false (preIn σ l) (Blk.same k y.2)
      | none => false : Bool) = true := h
    cases hk : σ.heap.get y.1 with
    | none => rw [hk] at h'; cases h'
    | some k =>
      rw [hk] at h'
      dsimp only at h'
      cases hs : Blk.same k y.2 with
      | false => rw [hs] at h'; cases h'
      | true =>
        rw [hs] at h'
        rcases List.mem_cons.1 hx with rfl | hx
        · rw [hk, Blk.same_eq hs]
        · exact preIn_eq (l := l) h' x hx
theorem postIn_eq {σ : St} : ∀ {l : List (Nat × Option Blk)}, postIn σ l = true → ∀ b k, (b, some k) ∈ l → σ.heap.get b = some k
  | [], _, _, _, hx => by cases hx
  | y :: l, h, b, k, hx => by
    obtain ⟨c, o⟩ := y
    cases o with
    | none =>
      rcases List.mem_cons.1 hx with hx | hx
      · cases hx
      · exact postIn_eq (l := l) h b k hx
    | some k' =>
      have h' : (match σ.heap.get c with
        | some k => Bool.rec false (postIn σ l) (Blk.same k k')
        | none => false : Bool) = true := h
      cases hk : σ.heap.get c with
      | none => rw [hk] at h'; cases h'
      | some k₁ =>
        rw [hk] at h'
        dsimp only at h'
        cases hs : Blk.same k₁ k' with
        | false => rw [hs] at h'; cases h'
        | true =>
          rw [hs] at h'
          rcases List.mem_cons.1 hx with hx | hx
          · cases hx; rw [hk, Blk.same_eq hs]
          · exact postIn_eq (l := l) h' b k hx

/-- It fits here. -/
noncomputable def Told.fits (e : Told) (f : FuncId) (args : List V) (σ : St) : Bool :=
  match Nat.beq e.f f with
  | true => match Nat.beq e.now σ.next with
    | true => match V.beqs e.args args with
      | true => preIn σ e.pre
      | false => false
    | false => false
  | false => false
theorem Told.fits_eq {e : Told} {f : FuncId} {args : List V} {σ : St} (h : e.fits f args σ = true) : e.f = f ∧ e.now = σ.next ∧ e.args = args ∧ ∀ x ∈ e.pre, σ.heap.get x.1 = some x.2 := by
  unfold Told.fits at h
  split at h
  · rename_i h1
    split at h
    · rename_i h2
      split at h
      · rename_i h3
        exact ⟨Nat.eq_of_beq_eq_true h1, Nat.eq_of_beq_eq_true h2, V.beqs_eq h3, preIn_eq h⟩
      · cases h
    · cases h
  · cases h
noncomputable def findO (O : List Told) (f : FuncId) (args : List V) (σ : St) : Option Told :=
  List.rec (motive := fun _ => Option Told) none (fun e _ ih => match e.fits f args σ with
    | true => some e
    | false => ih) O
theorem findO_eq {f : FuncId} {args : List V} {σ : St} {e : Told} : ∀ {O : List Told}, findO O f args σ = some e → e ∈ O ∧ e.fits f args σ = true
  | [], h => by cases h
  | x :: O, h => by
    have h' : (match x.fits f args σ with
      | true => some x
      | false => findO O f args σ) = some e := h
    split at h'
    · rename_i hx
      cases h'
      exact ⟨List.mem_cons_self, hx⟩
    · obtain ⟨h1, h2⟩ := findO_eq h'
      exact ⟨List.mem_cons_of_mem _ h1, h2⟩

noncomputable def callO (P : Program) (R : Task → St → Run) (f : FuncId) (args : List V) (σ : St) : Option Told → Run
  | some e => .ok (.val e.v, e.put σ)
  | none => stepCallF R f args σ P.funcs[f]?
noncomputable def stepO (P : Program) (O : List Told) (R : Task → St → Run) (t : Task) (σ : St) : Run :=
  match t with
  | .call f args => callO P R f args σ (findO O f args σ)
  | t => step P R t σ
/-- What a task comes to, some calls being known. -/
noncomputable def runO (P : Program) (O : List Told) (n : Nat) : Task → St → Run :=
  Nat.rec (motive := fun _ => Task → St → Run) (fun _ _ => .fail "fuel") (fun _ ih => stepO P O ih) n

/-- What it comes to is what it says. -/
def Told.says (e : Told) : Out × St → Prop
  | (.val v, σ) => v = e.v ∧ σ.next ≤ e.then' ∧ ∀ b k, (b, some k) ∈ e.post → σ.heap.get b = some k
  | _ => False
def Told.ok (P : Program) (e : Told) : Prop :=
  ∀ [Env] {ρ : Ren} {w : World} {vs' : List Value}, R ρ e.st w → VsRel ρ e.args vs' → (callFunc e.f ⟨vs'⟩).run P w = .ok (.enter e.f ⟨vs'⟩) w ∧ CallsIn Fence.wide 0 P e.f ⟨vs'⟩ w (ValPost e.says ρ e.st w)

/-! ### The rest of memory -/
theorem R.part [Env] {ρ : Ren} {σ τ : St} {w : World} (h : R ρ σ w) (hn : τ.next = σ.next) (hs : ∀ b k, τ.heap.get b = some k → σ.heap.get b = some k) : R ρ τ w := h.sub hs hn

theorem Stp.frame [Env] {ρ ρ' : Ren} {σ τ τ' σ' : St} {w w' : World} (hr : R ρ σ w) (hn : τ.next = σ.next) (hs : ∀ b k, τ.heap.get b = some k → σ.heap.get b = some k) (h : Stp Nix ρ τ w ρ' τ' w')
    (hn' : τ'.next ≤ σ'.next) (hs' : ∀ b k, σ'.heap.get b = some k → τ'.heap.get b = some k ∨ (σ.heap.get b = some k ∧ τ.heap.get b = none)) : Stp Nix ρ σ w ρ' σ' w' := by
  -- what the call does not know of
  have apart : ∀ b k l, σ.heap.get b = some k → τ.heap.get b = none → ρ b = some l → ¬ Wr ρ τ l.c := by
    rintro b k l hb hb' hl ⟨b₁, k₁, l₁, h1, _, h3, h4⟩
    have e := hr.inj b b₁ k k₁ l l₁ hb (hs _ _ h1) hl h3 h4.symm
    rw [← e, hb'] at h1
    cases h1
  have known : ∀ b k, σ.heap.get b = some k → ∃ l, ρ b = some l ∧ ρ' b = some l ∧ BlkOk ρ w l k := fun b k hb => by
    obtain ⟨l, hl, hk⟩ := hr.blk b k hb
    exact ⟨l, hl, h.le b l hl, hk⟩
  have mixed : ∀ b b' k k' l l', τ'.heap.get b = some k → σ.heap.get b' = some k' → τ.heap.get b' = none → ρ' b = some l → ρ' b' = some l' → l.c = l'.c → False := by
    intro b b' k k' l l' h1 h2 h3 h4 h5 h6
    obtain ⟨l₂, hl₂, hl₂', _⟩ := known b' k' h2
    rw [hl₂'] at h5; cases h5
    refine apart b' k' l' h2 h3 hl₂ ?_
    rw [← h6]
    exact h.wr l.c (by rw [h6]; exact hr.valid _ _ hl₂) ⟨b, k, l, h1, rfl, h4, rfl⟩
  refine ⟨⟨fun b k hb => ?_, fun b b' k k' l l' h1 h2 h3 h4 h5 => ?_, fun b hb => h.r.fresh b (Nat.le_trans hn' hb), h.r.valid, fun c o x hx => ?_, h.r.laid⟩, h.le, Nat.le_trans (by rw [← hn]; exact h.next) hn', fun b l hb => ?_, h.size, h.os, h.tape, h.output, fun c hc hw => ?_, ?_, fun b k hb => ?_, fun c o x hx => ?_⟩
  · rcases hs' b k hb with h1 | ⟨h1, h2⟩
    · exact h.r.blk b k h1
    · obtain ⟨l, hl, hl', hk⟩ := known b k h1
      exact ⟨l, hl', hk.same h.le (h.keep l.c (hr.valid _ _ hl) (apart b k l h1 h2 hl))⟩
  · rcases hs' b k h1 with g1 | ⟨g1, g1'⟩ <;> rcases hs' b' k' h2 with g2 | ⟨g2, g2'⟩
    · exact h.r.inj b b' k k' l l' g1 g2 h3 h4 h5
    · exact (mixed b b' k k' l l' g1 g2 g2' h3 h4 h5).elim
    · exact (mixed b' b k' k l' l g2 g1 g1' h4 h3 h5.symm).elim
    · obtain ⟨l₁, a1, a2, _⟩ := known b k g1
      obtain ⟨l₂, b1, b2, _⟩ := known b' k' g2
      rw [a2] at h3; rw [b2] at h4; cases h3; cases h4
      exact hr.inj b b' k k' l l' g1 g2 a1 b1 h5
  · obtain ⟨g1, g2⟩ := h.r.imm c o x hx
    refine ⟨g1, ?_⟩
    rintro ⟨b₁, k₁, l₁, h1, h2, h3, h4⟩
    rcases hs' b₁ k₁ h1 with g | ⟨g, g'⟩
    · exact g2 ⟨b₁, k₁, l₁, g, h2, h3, h4⟩
    · obtain ⟨l, hl, hl', _⟩ := known b₁ k₁ g
      rw [hl'] at h3; cases h3
      have hlt : l₁.c < w.heap.size := hr.valid _ _ hl
      subst h4
      rcases h.idom l₁.c o x hx with q | q | q
      · exact (hr.imm _ _ _ q).2 ⟨b₁, k₁, l₁, g, h2, hl, rfl⟩
      · omega
      · exact apart b₁ k₁ l₁ g g' hl q
  · rw [← hn]; exact h.dom b l hb
  · refine h.keep c hc fun hh => hw ?_
    obtain ⟨b₁, k₁, l₁, h1, h2, h3, h4⟩ := hh
    exact ⟨b₁, k₁, l₁, hs _ _ h1, h2, h3, h4⟩
  · rintro c hc ⟨b₁, k₁, l₁, h1, h2, h3, h4⟩
    rcases hs' b₁ k₁ h1 with g | ⟨g, _⟩
    · obtain ⟨b₂, k₂, l₂, a1, a2, a3, a4⟩ := h.wr c hc ⟨b₁, k₁, l₁, g, h2, h3, h4⟩
      exact ⟨b₂, k₂, l₂, hs _ _ a1, a2, a3, a4⟩
    · obtain ⟨l, hl, hl', _⟩ := known b₁ k₁ g
      rw [hl'] at h3; cases h3
      exact ⟨b₁, k₁, l₁, g, h2, hl, h4⟩
  · rcases hs' b k hb with g | ⟨g, _⟩
    · rcases h.hdom b k g with ⟨k', g⟩ | g | g
      · exact .inl ⟨k', hs _ _ g⟩
      · exact .inr (.inl (by rw [← hn]; exact g))
      · exact .inr (.inr g)
    · exact .inl ⟨k, g⟩
  · rcases h.idom c o x hx with q | q | q
    · exact .inl q
    · exact .inr (.inl q)
    · obtain ⟨b₁, k₁, l₁, h1, h2, h3, h4⟩ := q
      exact .inr (.inr ⟨b₁, k₁, l₁, hs _ _ h1, h2, h3, h4⟩)

section
variable {P : Program} {O : List Told}
theorem told_call [Env] {e : Told} (he : e.ok P) {f : FuncId} {vs : List V} {σ : St} (hf : e.fits f vs σ = true) {p : Out × St → Prop} (hp : p (.val e.v, e.put σ)) {ρ : Ren} {w : World} {vs' : List Value} (hr : R ρ σ w) (hv : VsRel ρ vs vs') :
    (callFunc f ⟨vs'⟩).run P w = .ok (.enter f ⟨vs'⟩) w ∧ CallsIn Fence.wide 0 P f ⟨vs'⟩ w (ValPost p ρ σ w) := by
  obtain ⟨rfl, h2, rfl, h4⟩ := e.fits_eq hf
  have hs : ∀ b k, e.st.heap.get b = some k → σ.heap.get b = some k := by
    intro b k hb
    rcases putsS_get (l := e.pre) (t := .leaf) hb with hb | hb
    · exact h4 _ hb
    · rw [Trie.get_leaf] at hb; cases hb
  obtain ⟨g1, g2⟩ := he (hr.part (τ := e.st) h2 hs) hv
  refine ⟨g1, g2.mono fun en w' hx => ?_⟩
  obtain ⟨v, τ', ρ', v', ⟨rfl, hn', hk⟩, rfl, hvr, hst⟩ := hx
  refine ⟨_, _, ρ', v', hp, rfl, hvr, hst.frame hr h2 hs hn' fun b k hb => ?_⟩
  rcases putsO_get (l := e.post) hb with hb | hb
  · exact .inl (hk b k hb)
  · obtain ⟨h5, h6⟩ := killsS_get hb
    refine .inr ⟨h5, ?_⟩
    cases hq : e.st.heap.get b with
    | none => rfl
    | some k' =>
      rcases putsS_get (l := e.pre) (t := .leaf) hq with hq | hq
      · exact absurd rfl (h6 _ hq)
      · rw [Trie.get_leaf] at hq; cases hq

theorem stepO_good [Env] (hmix : P.follows .mixedOrders = true) (hO : ∀ e ∈ O, e.ok P) {Rn : Task → St → Run} (hg : Good P Rn) : Good P (stepO P O Rn) := by
  have hs := step_good hmix hg
  refine ⟨hs.code, hs.loop, hs.inScope, ?_, hs.deferred, hs.leave, hs.apply, hs.round⟩
  intro f vs σ p h ρ w vs' hr hv
  have h' : (callO P Rn f vs σ (findO O f vs σ)).Holds p := h
  cases hf : findO O f vs σ with
  | none => rw [hf] at h'; exact hs.call (f := f) (vs := vs) h' hr hv
  | some e =>
    rw [hf] at h'
    obtain ⟨h1, h2⟩ := findO_eq hf
    exact told_call (hO e h1) h2 h' hr hv
theorem runO_good [Env] (hmix : P.follows .mixedOrders = true) (hO : ∀ e ∈ O, e.ok P) : ∀ n, Good P (runO P O n) := by
  intro n
  induction n with
  | zero => constructor <;> intros <;> exact Res.Holds.elim_fail (by assumption)
  | succ n ih => exact stepO_good hmix hO ih

noncomputable def Told.check (e : Told) : Out × St → Bool
  | (.val v, σ) => V.beq v e.v && (Nat.ble σ.next e.then' && postIn σ e.post)
  | _ => false
theorem Told.of_check {e : Told} (hmix : P.follows .mixedOrders = true) (hO : ∀ e ∈ O, e.ok P) (n : Nat) (h : (runO P O n (.call e.f e.args) e.st).check e.check = true) : e.ok P := by
  intro _ ρ w vs' hr hv
  refine (runO_good hmix hO n).call ((Res.holds_of_check h).mono fun ⟨o, σ⟩ hx => ?_) hr hv
  cases o with
  | exit x a => cases hx
  | val v =>
    have hx' : (V.beq v e.v && (Nat.ble σ.next e.then' && postIn σ e.post)) = true := hx
    simp only [Bool.and_eq_true] at hx'
    exact ⟨V.beq_eq hx'.1, Nat.le_of_ble_eq_true hx'.2.1, postIn_eq hx'.2.2⟩

/-- A call with arguments of which nothing is known that the kernel reckons to be true, some calls being known. -/
theorem calls_anysO (hmix : P.follows .mixedOrders = true) (hO : ∀ e ∈ O, e.ok P) {f : FuncId} {ts : List TypeId} {vs : List Value} {w : World} {r : Reach} {base : Nat} (ht : Typed P w r base ts vs) (hs : Nat.ble (widths P ts) anyInts = true) (n : Nat)
    (h : (runO P O n (.call f (anyArgs (ts.map (shapeT P)) 0)) start).check saysTrue = true) : Calls P f ⟨vs⟩ w fun e w' => e = .returned (.bool true) ∧ Below w.heap.size w w' := by
  letI := envOf (cellsAll vs) ht.one
  have hv := ht.anys (ρ := nowhere) ht.one (by rw [ht.width]; exact Nat.le_of_ble_eq_true hs) (k := 0) fun i x hx => by rw [Nat.zero_add]; exact hx
  obtain ⟨_, hc⟩ := (runO_good hmix hO n).call (Res.holds_of_check h) (start_rel rfl w) hv
  refine callsIn_wide.1 (hc.mono fun e w' hp => ?_)
  obtain ⟨v, σ', ρ', v', h1, rfl, h2, h3⟩ := hp
  have hb : v = .bool true := by
    cases v with
    | bool b => have h1' : b = true := h1; rw [h1']
    | _ => cases h1
  subst hb
  cases h2
  refine ⟨rfl, h3.os, h3.tape, h3.output, h3.size, fun k hk => h3.keep k hk ?_⟩
  rintro ⟨b, k, l, hb, _⟩
  rw [show start.heap = Trie.leaf from rfl, Trie.get_leaf] at hb
  cases hb
end
end Go.Ev
