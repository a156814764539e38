/- What loads, stores and new blocks do to the two heaps. -/
import Derived.Test.YtbajncpfmemdgaaGreatDoorEvRel
namespace Go.Ev
open Go

theorem shape?_of_block {w w' : World} {c : Nat} (h : w'.heap[c]? = w.heap[c]?) : w'.shape? c = w.shape? c := by
  unfold World.shape?; rw [h]
theorem cell?_of_block {w w' : World} {c i : Nat} (h : w'.heap[c]? = w.heap[c]?) : w'.cell? ⟨c, i, none⟩ = w.cell? ⟨c, i, none⟩ := by
  unfold World.cell?; simp only [h]
theorem frozen?_of_block {w w' : World} {c i : Nat} (h : w'.heap[c]? = w.heap[c]?) : w'.frozen? ⟨c, i, none⟩ = w.frozen? ⟨c, i, none⟩ := by
  unfold World.frozen?; simp only [h]

theorem OptRel.mono {ρ ρ' : Ren} (hρ : ρ.le ρ') {m m' : Option Nat} (h : OptRel ρ m m') : OptRel ρ' m m' := by
  cases h with
  | none => exact .none
  | some h => exact .some (hρ _ _ h)

/-- A block that nobody touched. -/
theorem BlkOk.same [Env] {ρ ρ' : Ren} {w w' : World} {l : Loc} {k : Blk} (h : BlkOk ρ w l k) (hρ : ρ.le ρ') (hc : w'.heap[l.c]? = w.heap[l.c]?) : BlkOk ρ' w' l k := by
  cases h with
  | cells hs hn hv hf hp =>
    exact .cells (by rw [shape?_of_block hc]; exact hs) hn
      (fun i v hi => let ⟨x, hx, hr⟩ := hv i v hi; ⟨x, by rw [cell?_of_block hc]; exact hx, hr.mono hρ⟩)
      (fun hro i hi => by rw [frozen?_of_block hc]; exact hf hro i hi) (fun hpt i => by rw [frozen?_of_block hc]; exact hp hpt i)
  | row hs hn hu hv hf hp =>
    exact .row (by rw [shape?_of_block hc]; exact hs) hn hu
      (fun i hi k v hk => let ⟨x, hx, hr⟩ := hv i hi k v hk; ⟨x, by rw [cell?_of_block hc]; exact hx, hr.mono hρ⟩)
      (fun i hi => by rw [frozen?_of_block hc]; exact hf i hi) (fun hpt i => by rw [frozen?_of_block hc]; exact hp hpt i)
  | map h he => exact .map (by rw [hc]; exact h) (he.mono hρ)
  | iter h ho hm => exact .iter (by rw [hc]; exact h) ho (hm.mono hρ)
  | loop h ht hs hd => exact .loop (by rw [hc]; exact h) (ht.mono hρ) hs (hρ _ _ hd)
  | deferred h => exact .deferred (by rw [hc]; exact h)

section
variable {ρ : Ren} {σ : St} {w : World}

theorem lt_of_cell {w : World} {c o : Nat} {x : Value} (h : w.cell? ⟨c, o, none⟩ = some x) : c < w.heap.size := by
  by_cases hc : c < w.heap.size
  · exact hc
  · unfold World.cell? at h
    have e : w.heap[c]? = none := by rw [Array.getElem?_eq_none_iff]; omega
    simp [e] at h
/-- What never turns does not. -/
theorem R.imm_of [Env] {ρ' : Ren} {σ' : St} {w' : World} (h : R ρ σ w) (he : ρ'.imm = ρ.imm) (keep : ∀ c, c < w.heap.size → ¬ Wr ρ σ c → w'.heap[c]? = w.heap[c]?) (wr : ∀ c, c < w.heap.size → Wr ρ' σ' c → Wr ρ σ c) :
    ∀ c o x, ρ'.imm c o = some x → w'.cell? ⟨c, o, none⟩ = some x ∧ ¬ Wr ρ' σ' c := by
  intro c o x hx
  rw [he] at hx
  obtain ⟨h1, h2⟩ := h.imm c o x hx
  have hlt := lt_of_cell h1
  exact ⟨by rw [cell?_of_block (keep c hlt h2)]; exact h1, fun hw => h2 (wr c hlt hw)⟩

theorem R.congr [Env] (h : R ρ σ w) {w' : World} (hw : w'.heap = w.heap) : R ρ σ w' :=
  ⟨fun b k hb => let ⟨l, hl, hk⟩ := h.blk b k hb; ⟨l, hl, hk.same (Ren.le.refl ρ) (by rw [hw])⟩, h.inj, h.fresh, fun b l hb => by rw [hw]; exact h.valid b l hb, h.imm_of rfl (fun _ _ _ => by rw [hw]) fun _ _ h => h, h.laid⟩

/-- The tape alone went on. -/
theorem Stp.drawn [Env] {ids : Nat → Prop} (h : R ρ σ w) {w' : World} (hw : w'.heap = w.heap) (ho : w'.os = w.os) (ht : w'.tape = w.tape) (hp : w'.output = w.output) : Stp ids ρ σ w ρ σ w' :=
  ⟨h.congr hw, Ren.le.refl ρ, Nat.le_refl _, fun _ _ h => .inl h, by rw [hw]; exact Nat.le_refl _, ho, ht, hp, fun _ _ _ => by rw [hw], fun _ _ h => h, fun _ k h => .inl ⟨k, h⟩, fun _ _ _ h => .inl h⟩

@[simp] theorem set_heap (σ : St) (b : Nat) (k : Blk) : (σ.set b k).heap = σ.heap.put b (some k) := by cases σ; rfl
@[simp] theorem set_next (σ : St) (b : Nat) (k : Blk) : (σ.set b k).next = σ.next := by cases σ; rfl
@[simp] theorem kill_heap (σ : St) (b : Nat) : (σ.kill b).heap = σ.heap.put b none := by cases σ; rfl
@[simp] theorem kill_next (σ : St) (b : Nat) : (σ.kill b).next = σ.next := by cases σ; rfl
@[simp] theorem new_heap (σ : St) (b : Nat) (k : Blk) : (σ.new b k).heap = σ.heap.put b (some k) := by cases σ; rfl
theorem upTo_eq (n id : Nat) : upTo n id = max n (id + 1) := by
  unfold upTo
  cases h : Nat.ble n id with
  | true => have := Nat.le_of_ble_eq_true h; show id + 1 = _; omega
  | false =>
    have : ¬ n ≤ id := fun h' => by rw [Nat.ble_eq_true_of_le h'] at h; cases h
    show n = _; omega
@[simp] theorem new_next (σ : St) (b : Nat) (k : Blk) : (σ.new b k).next = max σ.next (b + 1) := by cases σ; exact upTo_eq _ _

theorem R.none_of_fresh [Env] (h : R ρ σ w) {b : Nat} (hb : ρ b = none) : σ.heap.get b = none := by
  cases hk : σ.heap.get b with
  | none => rfl
  | some k => obtain ⟨l, hl, _⟩ := h.blk b k hk; rw [hb] at hl; cases hl

/-- One block is turned, here and there. -/
theorem Stp.set [Env] {ids : Nat → Prop} (h : R ρ σ w) {b : Nat} {k k' : Blk} {l : Loc} (hk : σ.heap.get b = some k) (hl : ρ b = some l) (hkw : k.writable = true)
    {w' : World} (hsz : w'.heap.size = w.heap.size) (hoth : ∀ c, c ≠ l.c → w'.heap[c]? = w.heap[c]?) (ho : w'.os = w.os) (ht : w'.tape = w.tape) (hp : w'.output = w.output)
    (hok : BlkOk ρ w' l k') : Stp ids ρ σ w ρ (σ.set b k') w' := by
  have hdm : ∀ b' k₁, (σ.set b k').heap.get b' = some k₁ → (∃ k', σ.heap.get b' = some k') ∨ σ.next ≤ b' ∨ ids b' := by
    intro b' k₁ hb'
    rw [set_heap, Trie.get_put] at hb'
    by_cases e : b' = b
    · subst e; exact .inl ⟨_, hk⟩
    · rw [if_neg e] at hb'; exact .inl ⟨_, hb'⟩
  have hkeep : ∀ c, c < w.heap.size → ¬ Wr ρ σ c → w'.heap[c]? = w.heap[c]? := fun c _ hn => hoth c fun e => hn ⟨b, k, l, hk, hkw, hl, e.symm⟩
  have hwr : ∀ c, c < w.heap.size → Wr ρ (σ.set b k') c → Wr ρ σ c := by
    rintro c hc ⟨b', k₁, l', h1, h2, h3, h4⟩
    rw [set_heap, Trie.get_put] at h1
    by_cases e : b' = b
    · subst e
      rw [hl] at h3; cases h3
      exact ⟨_, k, l, hk, hkw, hl, h4⟩
    · rw [if_neg e] at h1
      exact ⟨b', k₁, l', h1, h2, h3, h4⟩
  refine ⟨⟨?_, ?_, ?_, ?_, h.imm_of rfl hkeep hwr, h.laid⟩, Ren.le.refl ρ, by simp, fun _ _ h => .inl h, by omega, ho, ht, hp, hkeep, hwr, hdm, fun _ _ _ h => .inl h⟩
  · intro b' k₁ hb'
    rw [set_heap, Trie.get_put] at hb'
    by_cases e : b' = b
    · subst e
      rw [if_pos rfl] at hb'
      cases hb'
      exact ⟨l, hl, hok⟩
    · rw [if_neg e] at hb'
      obtain ⟨l', hl', hk'⟩ := h.blk b' k₁ hb'
      exact ⟨l', hl', hk'.same (Ren.le.refl ρ) (hoth _ fun ec => e (h.inj b' b _ _ _ _ hb' hk hl' hl ec))⟩
  · intro b₁ b₂ k₁ k₂ l₁ l₂ h1 h2 g1 g2 e
    rw [set_heap, Trie.get_put] at h1 h2
    have t1 : ∃ k, σ.heap.get b₁ = some k := by
      by_cases e1 : b₁ = b
      · subst e1; exact ⟨_, hk⟩
      · rw [if_neg e1] at h1; exact ⟨_, h1⟩
    have t2 : ∃ k, σ.heap.get b₂ = some k := by
      by_cases e1 : b₂ = b
      · subst e1; exact ⟨_, hk⟩
      · rw [if_neg e1] at h2; exact ⟨_, h2⟩
    obtain ⟨_, t1⟩ := t1
    obtain ⟨_, t2⟩ := t2
    exact h.inj b₁ b₂ _ _ _ _ t1 t2 g1 g2 e
  · intro b' hb'; rw [set_next] at hb'; exact h.fresh b' hb'
  · intro b' l' hb'; rw [hsz]; exact h.valid b' l' hb'

/-- A block that is known no more. -/
theorem Stp.kill [Env] {ids : Nat → Prop} (h : R ρ σ w) (b : Nat) : Stp ids ρ σ w ρ (σ.kill b) w := by
  have key : ∀ b' k, (σ.kill b).heap.get b' = some k → σ.heap.get b' = some k := by
    intro b' k hb'
    rw [kill_heap, Trie.get_put] at hb'
    by_cases e : b' = b
    · rw [if_pos e] at hb'; cases hb'
    · rw [if_neg e] at hb'; exact hb'
  have hwr : ∀ c, c < w.heap.size → Wr ρ (σ.kill b) c → Wr ρ σ c := by
    rintro c hc ⟨b', k₁, l', h1, h2, h3, h4⟩
    exact ⟨b', k₁, l', key _ _ h1, h2, h3, h4⟩
  exact ⟨⟨fun b' k hb' => h.blk b' k (key _ _ hb'), fun b₁ b₂ k₁ k₂ l₁ l₂ h1 h2 => h.inj b₁ b₂ k₁ k₂ l₁ l₂ (key _ _ h1) (key _ _ h2), fun b' hb' => h.fresh b' (by simpa using hb'), h.valid, h.imm_of rfl (fun _ _ _ => rfl) hwr, h.laid⟩,
    Ren.le.refl ρ, by simp, fun _ _ h => .inl h, Nat.le_refl _, rfl, rfl, rfl, fun _ _ _ => rfl, hwr, fun b' k h => .inl ⟨k, key b' k h⟩, fun _ _ _ h => .inl h⟩

def upd (ρ : Ren) (id : Nat) (l : Loc) : Ren := ⟨fun b => if b = id then some l else ρ b, ρ.imm⟩
theorem upd_at (ρ : Ren) (id : Nat) (l : Loc) (b : Nat) : upd ρ id l b = if b = id then some l else ρ b := rfl
theorem upd_self (ρ : Ren) (id : Nat) (l : Loc) : upd ρ id l id = some l := by simp [upd]
theorem upd_le (ρ : Ren) {id : Nat} (l : Loc) (h : ρ id = none) : ρ.le (upd ρ id l) := by
  refine ⟨fun b l' hb => ?_, fun _ _ _ h => h⟩
  rw [upd_at]
  by_cases e : b = id
  · subst e; rw [h] at hb; cases hb
  · rw [if_neg e]; exact hb

/-- A block that is new here: it lies in a new block there, or in one that is known here under no other number, and may be written. -/
theorem Stp.new [Env] (h : R ρ σ w) {id : Nat} (hid : ρ id = none) {k : Blk} {l : Loc} {w' : World} (hc : l.c < w'.heap.size) (hsz : w.heap.size ≤ w'.heap.size)
    (hoth : ∀ c, c < w.heap.size → c ≠ l.c → w'.heap[c]? = w.heap[c]?) (ho : w'.os = w.os) (ht : w'.tape = w.tape) (hp : w'.output = w.output)
    (hfree : ∀ b k l', σ.heap.get b = some k → ρ b = some l' → l'.c ≠ l.c) (hok : BlkOk (upd ρ id l) w' l k) :
    Stp (fun b => b = id) ρ σ w (upd ρ id l) (σ.new id k) w' ∨ l.c < w.heap.size := by
  by_cases hold : l.c < w.heap.size
  · exact .inr hold
  have hdm : ∀ b' k₁, (σ.new id k).heap.get b' = some k₁ → (∃ k', σ.heap.get b' = some k') ∨ σ.next ≤ b' ∨ b' = id := by
    intro b' k₁ hb'
    rw [new_heap, Trie.get_put] at hb'
    by_cases e : b' = id
    · exact .inr (.inr e)
    · rw [if_neg e] at hb'; exact .inl ⟨_, hb'⟩
  have hkeep : ∀ c, c < w.heap.size → ¬ Wr ρ σ c → w'.heap[c]? = w.heap[c]? := fun c hc' _ => hoth c hc' (by omega)
  have hwr : ∀ c, c < w.heap.size → Wr (upd ρ id l) (σ.new id k) c → Wr ρ σ c := by
    rintro c hc' ⟨b', k₁, l', h1, h2, h3, h4⟩
    rw [new_heap, Trie.get_put] at h1
    rw [upd_at] at h3
    by_cases e : b' = id
    · rw [if_pos e] at h3; cases h3; omega
    · rw [if_neg e] at h1 h3
      exact ⟨b', k₁, l', h1, h2, h3, h4⟩
  refine .inl ⟨⟨?_, ?_, ?_, ?_, h.imm_of rfl hkeep hwr, h.laid⟩, upd_le ρ l hid, by simp; omega, ?_, hsz, ho, ht, hp, hkeep, hwr, hdm, fun _ _ _ h => .inl h⟩
  · intro b' k₁ hb'
    rw [new_heap, Trie.get_put] at hb'
    by_cases e : b' = id
    · subst e
      rw [if_pos rfl] at hb'
      cases hb'
      exact ⟨l, upd_self _ _ _, hok⟩
    · rw [if_neg e] at hb'
      obtain ⟨l', hl', hk'⟩ := h.blk b' k₁ hb'
      exact ⟨l', upd_le ρ l hid _ _ hl', hk'.same (upd_le ρ l hid) (hoth _ (h.valid _ _ hl') (hfree _ _ _ hb' hl'))⟩
  · intro b₁ b₂ k₁ k₂ l₁ l₂ h1 h2 g1 g2 e
    rw [new_heap, Trie.get_put] at h1 h2
    rw [upd_at] at g1 g2
    by_cases e1 : b₁ = id
    · by_cases e2 : b₂ = id
      · rw [e1, e2]
      · rw [if_pos e1] at g1; rw [if_neg e2] at g2 h2
        cases g1
        exact absurd e.symm (hfree _ _ _ h2 g2)
    · rw [if_neg e1] at g1 h1
      by_cases e2 : b₂ = id
      · rw [if_pos e2] at g2
        cases g2
        exact absurd e (hfree _ _ _ h1 g1)
      · rw [if_neg e2] at g2 h2
        exact h.inj b₁ b₂ _ _ _ _ h1 h2 g1 g2 e
  · intro b' hb'
    rw [new_next] at hb'
    rw [upd_at]
    rw [if_neg (by omega)]
    exact h.fresh b' (by omega)
  · intro b' l' hb'
    rw [upd_at] at hb'
    by_cases e : b' = id
    · rw [if_pos e] at hb'; cases hb'; exact hc
    · rw [if_neg e] at hb'; exact Nat.lt_of_lt_of_le (h.valid b' l' hb') hsz
  · intro b' l' hb'
    rw [upd_at] at hb'
    by_cases e : b' = id
    · exact .inr (.inr e)
    · rw [if_neg e] at hb'; exact .inl hb'

/-- A new block at the machine's end. -/
theorem Stp.alloc [Env] (h : R ρ σ w) {id : Nat} (hid : ρ id = none) {k : Blk} {o : Obj} {w' : World} {N : Nat} (hw : w'.heap = w.heap.push o) (ho : w'.os = w.os) (ht : w'.tape = w.tape) (hp : w'.output = w.output)
    (hok : BlkOk (upd ρ id ⟨w.heap.size, 0, N⟩) w' ⟨w.heap.size, 0, N⟩ k) :
    Stp (fun b => b = id) ρ σ w (upd ρ id ⟨w.heap.size, 0, N⟩) (σ.new id k) w' := by
  rcases Stp.new (l := ⟨w.heap.size, 0, N⟩) h hid (w' := w') (by rw [hw]; simp) (by rw [hw]; simp) (fun c hc _ => by rw [hw, Array.getElem?_push, if_neg (by omega)]) ho ht hp
    (fun b k l' hb hl => by have := h.valid b l' hl; simp only [ne_eq]; omega) hok with h' | h'
  · exact h'
  · simp at h'

/-- A row that goes on in the block in which it lay: known under a new number alone. -/
theorem Stp.moved [Env] (h : R ρ σ w) {id b : Nat} (hid : ρ id = none) {k k₀ : Blk} {l₀ l : Loc} (hk₀ : σ.heap.get b = some k₀) (hkw : k₀.writable = true) (hl₀ : ρ b = some l₀) (hlc : l.c = l₀.c) {w' : World}
    (hsz : w'.heap.size = w.heap.size) (hoth : ∀ c, c ≠ l.c → w'.heap[c]? = w.heap[c]?) (ho : w'.os = w.os) (ht : w'.tape = w.tape) (hp : w'.output = w.output) (hok : BlkOk (upd ρ id l) w' l k) :
    Stp (fun b => b = id) ρ σ w (upd ρ id l) ((σ.kill b).new id k) w' := by
  have hne : b ≠ id := fun e => by rw [e, hid] at hl₀; cases hl₀
  have key : ∀ b' k₁, ((σ.kill b).new id k).heap.get b' = some k₁ → b' ≠ id → σ.heap.get b' = some k₁ ∧ b' ≠ b := by
    intro b' k₁ hb' e
    rw [new_heap, Trie.get_put, if_neg e, kill_heap, Trie.get_put] at hb'
    by_cases e' : b' = b
    · rw [if_pos e'] at hb'; cases hb'
    · rw [if_neg e'] at hb'; exact ⟨hb', e'⟩
  have hat : ((σ.kill b).new id k).heap.get id = some k := by rw [new_heap, Trie.get_put, if_pos rfl]
  have hdm : ∀ b' k₁, ((σ.kill b).new id k).heap.get b' = some k₁ → (∃ k', σ.heap.get b' = some k') ∨ σ.next ≤ b' ∨ b' = id := by
    intro b' k₁ hb'
    by_cases e : b' = id
    · exact .inr (.inr e)
    · exact .inl ⟨_, (key b' k₁ hb' e).1⟩
  have hkeep : ∀ c, c < w.heap.size → ¬ Wr ρ σ c → w'.heap[c]? = w.heap[c]? := fun c _ hn => hoth c fun e => hn ⟨b, k₀, l₀, hk₀, hkw, hl₀, (e.trans hlc).symm⟩
  have hwr : ∀ c, c < w.heap.size → Wr (upd ρ id l) ((σ.kill b).new id k) c → Wr ρ σ c := by
    rintro c hc' ⟨b', k₁, l', h1, h2, h3, h4⟩
    rw [upd_at] at h3
    by_cases e : b' = id
    · rw [if_pos e] at h3; cases h3
      exact ⟨b, k₀, l₀, hk₀, hkw, hl₀, hlc.symm.trans h4⟩
    · rw [if_neg e] at h3
      exact ⟨b', k₁, l', (key b' k₁ h1 e).1, h2, h3, h4⟩
  refine ⟨⟨?_, ?_, ?_, ?_, h.imm_of rfl hkeep hwr, h.laid⟩, upd_le ρ l hid, by simp; omega, ?_, by omega, ho, ht, hp, hkeep, hwr, hdm, fun _ _ _ h => .inl h⟩
  · intro b' k₁ hb'
    by_cases e : b' = id
    · subst e
      rw [hat] at hb'; cases hb'
      exact ⟨l, upd_self _ _ _, hok⟩
    · obtain ⟨hg, hb⟩ := key b' k₁ hb' e
      obtain ⟨l', hl', hk'⟩ := h.blk b' k₁ hg
      exact ⟨l', upd_le ρ l hid _ _ hl', hk'.same (upd_le ρ l hid) (hoth _ fun ec => hb (h.inj b' b _ _ _ _ hg hk₀ hl' hl₀ (ec.trans hlc)))⟩
  · intro b₁ b₂ k₁ k₂ l₁ l₂ h1 h2 g1 g2 e
    rw [upd_at] at g1 g2
    by_cases e1 : b₁ = id
    · by_cases e2 : b₂ = id
      · rw [e1, e2]
      · rw [if_pos e1] at g1; rw [if_neg e2] at g2
        cases g1
        obtain ⟨hg, hb⟩ := key b₂ k₂ h2 e2
        exact absurd (h.inj b₂ b _ _ _ _ hg hk₀ g2 hl₀ (e.symm.trans hlc)) hb
    · rw [if_neg e1] at g1
      obtain ⟨hg1, hb1⟩ := key b₁ k₁ h1 e1
      by_cases e2 : b₂ = id
      · rw [if_pos e2] at g2
        cases g2
        exact absurd (h.inj b₁ b _ _ _ _ hg1 hk₀ g1 hl₀ (e.trans hlc)) hb1
      · rw [if_neg e2] at g2
        obtain ⟨hg2, _⟩ := key b₂ k₂ h2 e2
        exact h.inj b₁ b₂ _ _ _ _ hg1 hg2 g1 g2 e
  · intro b' hb'
    rw [new_next, kill_next] at hb'
    rw [upd_at]
    rw [if_neg (by omega)]
    exact h.fresh b' (by omega)
  · intro b' l' hb'
    rw [upd_at] at hb'
    by_cases e : b' = id
    · rw [if_pos e] at hb'; cases hb'; rw [hsz, hlc]; exact h.valid _ _ hl₀
    · rw [if_neg e] at hb'; rw [hsz]; exact h.valid b' l' hb'
  · intro b' l' hb'
    rw [upd_at] at hb'
    by_cases e : b' = id
    · exact .inr (.inr e)
    · rw [if_neg e] at hb'; exact .inl hb'

/-! ### Cells -/
theorem R.cells [Env] (h : R ρ σ w) {b n : Nat} {z : List V} {t : Trie V} {p ro : Bool} (hb : σ.heap.get b = some (.cells n z t p ro)) {l : Loc} (hl : ρ b = some l) :
    (∃ ty, w.shape? l.c = some (ty, l.N)) ∧ l.o + n ≤ l.N ∧ (∀ i v, cellOf n z t i = some v → ∃ x, w.cell? ⟨l.c, l.o + i, none⟩ = some x ∧ VRel ρ v x) ∧
    (ro = false → ∀ i, i < l.N → w.frozen? ⟨l.c, i, none⟩ = false) ∧ (p = true → ∀ i, w.frozen? ⟨l.c, i, none⟩ = false) := by
  obtain ⟨l', hl', hk⟩ := h.blk b _ hb
  rw [hl] at hl'; cases hl'
  cases hk with
  | cells hs hn hv hf hp => exact ⟨hs, hn, hv, hf, hp⟩

theorem R.cell [Env] (h : R ρ σ w) {b off : Nat} {v : V} (hv : σ.cell b off = some v) {l : Loc} (hl : ρ b = some l) : ∃ x, w.cell? ⟨l.c, l.o + off, none⟩ = some x ∧ VRel ρ v x := by
  unfold St.cell at hv
  split at hv
  · rename_i n z t p ro hb
    exact (h.cells hb hl).2.2.1 off v hv
  · cases hv

theorem cell_lt_of_shape {w : World} {c i N : Nat} {ty : TypeId} (h : w.shape? c = some (ty, N)) (hi : i < N) : (w.cell? ⟨c, i, none⟩).isSome = true := by
  unfold World.shape? at h
  unfold World.cell?
  split at h
  · rename_i cs e fz heq
    simp only [Option.some.injEq, Prod.mk.injEq] at h
    obtain ⟨_, rfl⟩ := h
    simp [heq, hi]
  · cases h

theorem cellsOf_get [Env] {n : Nat} {z : List V} {t : Trie V} : ∀ (k off : Nat) {vs : List V}, cellsOf n z t k off = some vs → vs.length = k ∧ ∀ i v, vs[i]? = some v → cellOf n z t (off + i) = some v := by
  intro k
  induction k with
  | zero =>
    intro off vs h
    have h' : some [] = some vs := h
    cases h'
    exact ⟨rfl, fun i v hv => by simp at hv⟩
  | succ k ih =>
    intro off vs h
    obtain ⟨v, r, h1, h2, rfl⟩ := consO_some (x := cellOf n z t off) (l := cellsOf n z t k ((off + 1))) h
    obtain ⟨hlen, hall⟩ := ih _ h2
    refine ⟨by simp [hlen], fun i u hu => ?_⟩
    cases i with
    | zero => simp at hu; subst hu; exact h1
    | succ i => have := hall i u (by simpa using hu); rwa [show (off + 1) + i = off + (i + 1) by omega] at this

theorem addr_add (c o i : Nat) : (⟨c, o, none⟩ : Addr).add i = ⟨c, o + i, none⟩ := by
  unfold Addr.add
  split
  · rename_i h; subst h; rfl
  · rfl

/-- A row of cells, read. -/
theorem R.loadCells [Env] {P : Program} (h : R ρ σ w) {b off k : Nat} {vs : List V} (hv : σ.cells b off k = some vs) {l : Loc} (hl : ρ b = some l) :
    ∃ xs : List Value, (∀ w₁ : World, w₁.heap = w.heap → (loadCells ⟨l.c, l.o + off, none⟩ k).run P w₁ = .ok ⟨xs⟩ w₁) ∧ VsRel ρ vs xs ∧ xs.length = k := by
  unfold St.cells at hv
  split at hv
  · rename_i n z t p ro hb
    obtain ⟨hlen, hall⟩ := cellsOf_get _ _ hv
    have hc := (h.cells hb hl).2.2.1
    have key : ∀ (vs : List V) (o : Nat), (∀ i v, vs[i]? = some v → ∃ x, w.cell? ⟨l.c, o + i, none⟩ = some x ∧ VRel ρ v x) →
        ∃ xs : List Value, VsRel ρ vs xs ∧ ∀ i x, xs[i]? = some x → w.cell? ⟨l.c, o + i, none⟩ = some x := by
      intro vs
      induction vs with
      | nil => intro o _; exact ⟨[], .nil, fun i x hx => by simp at hx⟩
      | cons v vs ih =>
        intro o hh
        obtain ⟨x, hx, hr⟩ := hh 0 v rfl
        obtain ⟨xs, hxs, hall⟩ := ih (o + 1) (fun i v hv => by
          obtain ⟨x, hx, hr⟩ := hh (i + 1) v (by simpa using hv)
          exact ⟨x, by rwa [show o + (i + 1) = o + 1 + i by omega] at hx, hr⟩)
        refine ⟨x :: xs, .cons hr hxs, fun i y hy => ?_⟩
        cases i with
        | zero => simp at hy; subst hy; exact hx
        | succ i => have := hall i y (by simpa using hy); rwa [show o + 1 + i = o + (i + 1) by omega] at this
    obtain ⟨xs, hxs, hc'⟩ := key vs (l.o + off) (fun i v hi => by
      obtain ⟨x, hx, hr⟩ := hc _ _ (hall i v hi)
      exact ⟨x, by rwa [show l.o + (off + i) = l.o + off + i by omega] at hx, hr⟩)
    have hxl : xs.length = k := by rw [← hxs.length, hlen]
    refine ⟨xs, fun w₁ hw => ?_, hxs, hxl⟩
    have := run_loadCells_list (P := P) w₁ ⟨l.c, l.o + off, none⟩ xs (fun j x hj => by rw [addr_add, cell?_of_block (w := w) (by rw [hw])]; exact hc' j x hj)
    rw [hxl] at this
    exact this
  · cases hv

/-- A row of cells that never turn, read. -/
theorem R.loadImm [Env] {P : Program} (h : R ρ σ w) {c o : Nat} {xs : List Value} (hi : ∀ k x, xs[k]? = some x → ρ.imm c (o + k) = some x) (w₁ : World) (hw : w₁.heap = w.heap) :
    (Go.loadCells ⟨c, o, none⟩ xs.length).run P w₁ = .ok ⟨xs⟩ w₁ :=
  run_loadCells_list (P := P) w₁ ⟨c, o, none⟩ xs fun j x hj => by rw [addr_add, cell?_of_block (w := w) (by rw [hw])]; exact (h.imm _ _ _ (hi j x hj)).1

theorem putAll_get : ∀ (vs : List V) (t : Trie V) (off i : Nat), (putAll vs t off).get i = if off ≤ i ∧ i < off + vs.length then vs[i - off]? else t.get i := by
  intro vs
  induction vs with
  | nil =>
    intro t off i
    rw [if_neg (by simp only [List.length_nil]; omega)]; rfl
  | cons v vs ih =>
    intro t off i
    show (putAll vs (t.put off (some v)) ((off + 1))).get i = _
    rw [ih, Trie.get_put]
    by_cases h : i = off
    · subst h
      rw [if_neg (by omega), if_pos rfl, if_pos (by simp)]
      simp
    · by_cases h' : off ≤ i ∧ i < off + (v :: vs).length
      · rw [if_pos h', if_pos (by simp at h'; omega)]
        rw [show i - off = (i - (off + 1)) + 1 by omega, List.getElem?_cons_succ]
      · rw [if_neg h', if_neg (by simp at h' ⊢; omega), if_neg h]

theorem cellOf_lt {n : Nat} {z : List V} {t : Trie V} {i : Nat} {v : V} (h : cellOf n z t i = some v) : i < n := by
  unfold cellOf at h
  cases hb : Nat.blt i n with
  | true => rw [Nat.blt_eq] at hb; exact hb
  | false => simp [hb] at h

/-- A cell behind a store. -/
theorem cellOf_putAll [Env] {n : Nat} {z : List V} {t : Trie V} {vs : List V} {off i : Nat} {v : V} (h : cellOf n z (putAll vs t off) i = some v) :
    (off ≤ i ∧ i < off + vs.length ∧ vs[i - off]? = some v) ∨ ((i < off ∨ off + vs.length ≤ i) ∧ cellOf n z t i = some v) := by
  have hlt := cellOf_lt h
  unfold cellOf at h ⊢
  have hb : Nat.blt i n = true := by rw [Nat.blt_eq]; exact hlt
  simp only [hb] at h ⊢
  rw [putAll_get] at h
  by_cases hi : off ≤ i ∧ i < off + vs.length
  · rw [if_pos hi] at h
    have : ∃ u, vs[i - off]? = some u := ⟨vs[i - off]'(by omega), List.getElem?_eq_getElem _⟩
    obtain ⟨u, hu⟩ := this
    rw [hu] at h
    simp only [Option.some.injEq] at h
    subst h
    exact .inl ⟨hi.1, hi.2, hu⟩
  · rw [if_neg hi] at h
    exact .inr ⟨by omega, h⟩

theorem setCells_heap_other (c : Nat) : ∀ (vs : List Value) (o : Nat) (w : World) (c' : Nat), c' ≠ c → (w.setCells c o vs).heap[c']? = w.heap[c']?
  | [], _, _, _, _ => rfl
  | v :: r, o, w, c', h => by
    rw [World.setCells, setCells_heap_other c r (o + 1) _ c' h]
    simp only [World.setCell, Array.getElem?_modify]
    rw [if_neg (by omega)]
theorem setCells_size (c : Nat) : ∀ (vs : List Value) (o : Nat) (w : World), (w.setCells c o vs).heap.size = w.heap.size
  | [], _, _ => rfl
  | v :: r, o, w => by rw [World.setCells, setCells_size c r]; simp [World.setCell]
theorem setCells_rest (c : Nat) : ∀ (vs : List Value) (o : Nat) (w : World), (w.setCells c o vs).os = w.os ∧ (w.setCells c o vs).tape = w.tape ∧ (w.setCells c o vs).output = w.output
  | [], _, _ => ⟨rfl, rfl, rfl⟩
  | v :: r, o, w => by rw [World.setCells]; exact setCells_rest c r (o + 1) _
theorem setCells_shape (c : Nat) : ∀ (vs : List Value) (o : Nat) (w : World) (c' : Nat), (w.setCells c o vs).shape? c' = w.shape? c'
  | [], _, _, _ => rfl
  | v :: r, o, w, c' => by
    rw [World.setCells, setCells_shape c r]
    unfold World.shape? World.setCell
    simp only [Array.getElem?_modify]
    by_cases h : c = c'
    · subst h
      rw [if_pos rfl]
      cases w.heap[c]? with
      | none => rfl
      | some k => cases k <;> simp
    · rw [if_neg h]

/-- A store of a row of cells. -/
theorem R.store [Env] {P : Program} {ids : Nat → Prop} (h : R ρ σ w) {b off : Nat} {vs : List V} {σ' : St} (hst : σ.store b off vs = some σ') {l : Loc} (hl : ρ b = some l) {xs : List Value} (hx : VsRel ρ vs xs) :
    ∃ w', (storeCells ⟨l.c, l.o + off, none⟩ xs).run P w = .ok () w' ∧ Stp ids ρ σ w ρ σ' w' := by
  unfold St.store at hst
  split at hst
  · rename_i n z t p hb
    unfold storeIn at hst
    cases hc : (Nat.ble (Nat.add off (len vs)) n && allOf V.scalar vs) with
    | false => rw [hc] at hst; cases hst
    | true =>
      rw [hc] at hst
      simp only [Option.some.injEq] at hst
      subst hst
      rw [Bool.and_eq_true, allOf_eq, len_eq] at hc
      obtain ⟨hle, hsc⟩ := hc
      have hle : off + vs.length ≤ n := Nat.le_of_ble_eq_true hle
      obtain ⟨⟨ty, hs⟩, hn, hv, hf, hp⟩ := h.cells hb hl
      have hlen := hx.length
      have hcell : ∀ j, j < xs.length → (w.cell? ⟨l.c, l.o + off + j, none⟩).isSome = true := fun j hj => cell_lt_of_shape hs (by omega)
      refine ⟨w.setCells l.c (l.o + off) xs, ?_, ?_⟩
      · have := run_storeCells_cells (P := P) l.c (l.o + off) xs 0 w (by simpa using hcell)
          (fun j hj => by simpa using hf rfl (l.o + off + j) (by omega)) (hx.oneCell hsc)
        simpa using this
      · obtain ⟨r1, r2, r3⟩ := setCells_rest l.c xs (l.o + off) w
        refine Stp.set h hb hl rfl (setCells_size _ _ _ _) (fun c hc => setCells_heap_other _ _ _ _ _ hc) r1 r2 r3 ?_
        refine .cells ⟨ty, by rw [setCells_shape]; exact hs⟩ hn (fun i v hi => ?_) (fun hro i hi => by rw [World.frozen?_setCells]; exact hf hro i hi) (fun hpt i => by rw [World.frozen?_setCells]; exact hp hpt i)
        rcases cellOf_putAll hi with ⟨h1, h2, h3⟩ | ⟨h1, h2⟩
        · obtain ⟨x, hx', hr⟩ := hx.get _ h3
          refine ⟨x, ?_, hr⟩
          have hj : i - off < xs.length := by omega
          have := World.cell?_setCells_in l.c xs (l.o + off) w hcell (i - off) hj
          rw [show l.o + off + (i - off) = l.o + i by omega] at this
          rw [this]
          rw [List.getElem?_eq_getElem hj] at hx'
          exact hx'
        · obtain ⟨x, hx', hr⟩ := hv i v h2
          refine ⟨x, ?_, hr⟩
          rw [World.cell?_setCells_out l.c xs (l.o + off) w _ (fun _ _ => by simp; omega)]
          exact hx'
  · cases hst

/-! ### Rows of elements -/
theorem rel_list [Env] {cs : List V} {p : Nat → Value → Prop} (h : ∀ k v, cs[k]? = some v → ∃ x, p k x ∧ VRel ρ v x) : ∃ xs : List Value, VsRel ρ cs xs ∧ ∀ (k : Nat) x, xs[k]? = some x → p k x := by
  induction cs generalizing p with
  | nil => exact ⟨[], .nil, fun k x hx => by simp at hx⟩
  | cons v cs ih =>
    obtain ⟨x, hx, hr⟩ := h 0 v rfl
    obtain ⟨xs, hxs, hall⟩ := ih (p := fun k => p (k + 1)) fun k v hv => h (k + 1) v (by simpa using hv)
    refine ⟨x :: xs, .cons hr hxs, fun k y hy => ?_⟩
    cases k with
    | zero => simp at hy; subst hy; exact hx
    | succ k => exact hall k y (by simpa using hy)
theorem R.elt [Env] (h : R ρ σ w) {b i esz : Nat} {cs : List V} (hc : σ.eltCells b i esz = some cs) {l : Loc} (hl : ρ b = some l) :
    cs.length = esz ∧ ∃ xs : List Value, VsRel ρ cs xs ∧ ∀ (k : Nat) x, xs[k]? = some x → w.cell? ⟨l.c, l.o + (i * esz + k), none⟩ = some x := by
  unfold St.eltCells at hc
  split at hc
  · rename_i n f z p hb
    split at hc
    · rename_i hi
      obtain ⟨hi, rfl⟩ := hi
      cases hc
      obtain ⟨l', hl', hk⟩ := h.blk b _ hb
      rw [hl] at hl'; cases hl'
      cases hk with
      | row hs hn hu hv hf hp => exact ⟨hu i hi, rel_list fun k v hk => hv i hi k v hk⟩
    · cases hc
  · cases hc
theorem putPart_cells {u v : V} {esz off : Nat} (hu : u.cells.length = esz) (h : off + v.cells.length ≤ esz) : (putPart u esz off v).cells = u.cells.take off ++ (v.cells ++ u.cells.drop (off + v.cells.length)) := by
  unfold putPart
  rw [len_eq]
  split
  · rename_i hb
    have hb := Nat.eq_of_beq_eq_true hb
    have : off = 0 := by omega
    subst this
    rw [List.take_zero, List.nil_append, Nat.zero_add, List.drop_eq_nil_of_le (by omega), List.append_nil]
  · show app _ _ = _
    rw [app_eq, app_eq, takeOf_eq, dropOf_eq]; rfl
theorem updF_eq (f : Nat → V) (i : Nat) (v : V) (j : Nat) : updF f i v j = if j = i then v else f j := by
  unfold updF
  cases h : Nat.beq j i with
  | true => rw [if_pos (Nat.eq_of_beq_eq_true h)]
  | false => rw [if_neg fun e => by subst e; rw [Nat.beq_refl] at h; cases h]
theorem mul_room {i n e k : Nat} (h : i < n) (hk : k ≤ e) : i * e + k ≤ n * e := by
  have : (i + 1) * e ≤ n * e := Nat.mul_le_mul_right e h
  rw [Nat.add_mul, Nat.one_mul] at this
  omega
theorem mul_apart {i j e a b : Nat} (h : i ≠ j) (ha : a < e) (hb : b < e) : i * e + a ≠ j * e + b := by
  intro he
  rcases Nat.lt_or_gt_of_ne h with h | h
  · have := mul_room (e := e) h (Nat.le_refl e); omega
  · have := mul_room (e := e) h (Nat.le_refl e); omega
/-- A store into a row's element. -/
theorem R.storeElt [Env] {P : Program} {ids : Nat → Prop} (h : R ρ σ w) {b i esz off : Nat} {v : V} {σ' : St} (hst : σ.storeElt b i esz off v = some σ') {l : Loc} (hl : ρ b = some l) {x : Value} (hvx : VRel ρ v x) :
    ∃ w', (storeCells ⟨l.c, l.o + (i * esz + off), none⟩ x.cells.toList).run P w = .ok () w' ∧ Stp ids ρ σ w ρ σ' w' := by
  unfold St.storeElt at hst
  split at hst
  · rename_i n f z p hb
    split at hst
    · rename_i hi
      obtain ⟨hi, rfl⟩ := hi
      cases hc : (Nat.ble (Nat.add off (len v.cells)) z && allOf V.scalar v.cells) with
      | false => rw [hc] at hst; cases hst
      | true =>
        rw [hc] at hst
        simp only [Option.some.injEq] at hst
        subst hst
        rw [Bool.and_eq_true, allOf_eq, len_eq] at hc
        obtain ⟨hle, hsc⟩ := hc
        have hle : off + v.cells.length ≤ z := Nat.le_of_ble_eq_true hle
        obtain ⟨l', hl', hk⟩ := h.blk b _ hb
        rw [hl] at hl'; cases hl'
        cases hk with
        | row hs hn hu hv hf hp =>
          obtain ⟨ty, hs⟩ := hs
          have hx := hvx.cells
          have hlen := hx.length
          have hroom := mul_room hi hle
          have hcell : ∀ j, j < x.cells.toList.length → (w.cell? ⟨l.c, l.o + (i * z + off) + j, none⟩).isSome = true := fun j hj => cell_lt_of_shape hs (by omega)
          refine ⟨w.setCells l.c (l.o + (i * z + off)) x.cells.toList, ?_, ?_⟩
          · have := run_storeCells_cells (P := P) l.c (l.o + (i * z + off)) x.cells.toList 0 w (by simpa using hcell)
              (fun j hj => by simpa using hf (l.o + (i * z + off) + j) (by omega)) (hx.oneCell hsc)
            simpa using this
          · obtain ⟨r1, r2, r3⟩ := setCells_rest l.c x.cells.toList (l.o + (i * z + off)) w
            have hE := putPart_cells (u := f i) (v := v) (off := off) (hu i hi) hle
            refine Stp.set h hb hl rfl (setCells_size _ _ _ _) (fun c hc => setCells_heap_other _ _ _ _ _ hc) r1 r2 r3 ?_
            refine .row ⟨ty, by rw [setCells_shape]; exact hs⟩ hn (fun j hj => ?_) (fun j hj k u hk => ?_) (fun i hi => by rw [World.frozen?_setCells]; exact hf i hi) (fun hpt i => by rw [World.frozen?_setCells]; exact hp hpt i)
            · rw [updF_eq]
              split
              · rw [hE]
                have := hu i hi
                simp only [List.length_append, List.length_take, List.length_drop]
                omega
              · exact hu j hj
            · rw [updF_eq] at hk
              have out : ∀ u k, (f j).cells[k]? = some u → (j ≠ i ∨ k < off ∨ off + v.cells.length ≤ k) → ∃ y, (w.setCells l.c (l.o + (i * z + off)) x.cells.toList).cell? ⟨l.c, l.o + (j * z + k), none⟩ = some y ∧ VRel ρ u y := by
                intro u k hk hout
                obtain ⟨y, hy, hr⟩ := hv j hj k u hk
                have hkz : k < z := by rw [← hu j hj]; exact (List.getElem?_eq_some_iff.1 hk).1
                refine ⟨y, ?_, hr⟩
                rw [World.cell?_setCells_out l.c x.cells.toList (l.o + (i * z + off)) w _ (fun _ _ => ?_)]
                · exact hy
                · dsimp only
                  by_cases hji : j = i
                  · subst hji
                    rcases hout with h | h | h
                    · exact absurd rfl h
                    · omega
                    · omega
                  · rcases Nat.lt_or_gt_of_ne hji with h | h
                    · have := mul_room (e := z) h (Nat.le_refl z); omega
                    · have := mul_room (e := z) h (Nat.le_refl z); omega
              by_cases hji : j = i
              · subst hji
                rw [if_pos rfl, hE] at hk
                have huj := hu j hj
                by_cases k1 : k < off
                · rw [List.getElem?_append_left (by rw [List.length_take]; omega), List.getElem?_take, if_pos k1] at hk
                  exact out u k hk (.inr (.inl k1))
                · rw [List.getElem?_append_right (by rw [List.length_take]; omega), List.length_take, Nat.min_eq_left (by omega)] at hk
                  by_cases k2 : k - off < v.cells.length
                  · rw [List.getElem?_append_left k2] at hk
                    obtain ⟨y, hy, hr⟩ := hx.get _ hk
                    refine ⟨y, ?_, hr⟩
                    have hj' : k - off < x.cells.toList.length := by omega
                    have := World.cell?_setCells_in l.c x.cells.toList (l.o + (j * z + off)) w hcell (k - off) hj'
                    rw [show l.o + (j * z + off) + (k - off) = l.o + (j * z + k) by omega] at this
                    rw [this]
                    rw [List.getElem?_eq_getElem hj'] at hy
                    exact hy
                  · rw [List.getElem?_append_right (by omega), List.getElem?_drop, show off + v.cells.length + (k - off - v.cells.length) = k by omega] at hk
                    exact out u k hk (.inr (.inr (by omega)))
              · rw [if_neg hji] at hk
                exact out u k hk (.inl hji)
    · cases hst
  · cases hst

/-- Cells, told as a row of elements. -/
theorem Stp.toRow [Env] {ids : Nat → Prop} {ρ₀ : Ren} {σ₀ : St} {w₀ : World} (h : Stp ids ρ₀ σ₀ w₀ ρ σ w) {b n esz : Nat} {f : Nat → V} {z : List V} {t : Trie V} {p : Bool} (hb : σ.heap.get b = some (.cells (n * esz) z t p false))
    (hu : ∀ i, i < n → (f i).cells.length = esz) (hc : ∀ i, i < n → ∀ k v, (f i).cells[k]? = some v → cellOf (n * esz) z t (i * esz + k) = some v)
    {σ' : St} (hσ : ∀ b', σ'.heap.get b' = if b' = b then some (.row n f esz p) else σ.heap.get b') (hn : σ'.next = σ.next) : Stp ids ρ₀ σ₀ w₀ ρ σ' w := by
  have hd : ∀ b' k, σ'.heap.get b' = some k → ∃ k', σ.heap.get b' = some k' := by
    intro b' k hk
    rw [hσ] at hk
    by_cases e : b' = b
    · subst e; exact ⟨_, hb⟩
    · rw [if_neg e] at hk; exact ⟨_, hk⟩
  have hwr : ∀ c, Wr ρ σ' c → Wr ρ σ c := by
    rintro c ⟨b', k, l, h1, _, h3, h4⟩
    obtain ⟨k', h1'⟩ := hd b' k h1
    exact ⟨b', k', l, h1', rfl, h3, h4⟩
  refine ⟨⟨fun b' k hk => ?_, fun b₁ b₂ k₁ k₂ l₁ l₂ h1 h2 => ?_, fun b' hb' => h.r.fresh b' (by rw [← hn]; exact hb'), h.r.valid, fun c o x hx => ⟨(h.r.imm c o x hx).1, fun hw => (h.r.imm c o x hx).2 (hwr c hw)⟩, h.r.laid⟩,
    h.le, by rw [hn]; exact h.next, h.dom, h.size, h.os, h.tape, h.output, h.keep, fun c hc hw => h.wr c hc (hwr c hw), fun b' k hk => ?_, h.idom⟩
  · rw [hσ] at hk
    by_cases e : b' = b
    · subst e
      rw [if_pos rfl] at hk
      cases hk
      obtain ⟨l, hl, hok⟩ := h.r.blk _ _ hb
      refine ⟨l, hl, ?_⟩
      cases hok with
      | cells hs hn hv hf hp => exact .row hs hn hu (fun i hi k v hk => hv _ _ (hc i hi k v hk)) (hf rfl) hp
    · rw [if_neg e] at hk; exact h.r.blk b' k hk
  · obtain ⟨k₁', h1'⟩ := hd _ _ h1
    obtain ⟨k₂', h2'⟩ := hd _ _ h2
    exact h.r.inj _ _ _ _ _ _ h1' h2'
  · obtain ⟨k', hk'⟩ := hd _ _ hk
    exact h.hdom b' k' hk'

end
end Go.Ev
