/- Loops whose memory is told anew at each round: what is dead is forgotten, what lives on gets other numbers. -/
import Derived.Test.YtbajncpfmemdgaaGreatDoorEvFroz
namespace Go.Ev
open Go

/-- Places, under new numbers. -/
def Ren.pull (ρ : Ren) (m : Nat → Option Nat) : Ren := ⟨fun b => (m b).bind ρ.at', ρ.imm⟩
theorem Ren.pull_at {ρ : Ren} {m : Nat → Option Nat} {b c : Nat} (h : m b = some c) : ρ.pull m b = ρ c := by
  show (m b).bind ρ.at' = _
  rw [h]; rfl
theorem Ren.pull_some {ρ : Ren} {m : Nat → Option Nat} {b : Nat} {l : Loc} (h : ρ.pull m b = some l) : ∃ c, m b = some c ∧ ρ c = some l := by
  have h' : (m b).bind ρ.at' = some l := h
  rw [Option.bind_eq_some_iff] at h'
  exact h'

section
variable [Env]
mutual
/-- A value under new numbers: the new one, the old one. -/
inductive VRen (m : Nat → Option Nat) : V → V → Prop
  | clean {v : V} (h : Clean v) : VRen m v v
  | ptr {b c off : Nat} (h : m b = some c) : VRen m (.ptr b off) (.ptr c off)
  | elt {b c i esz off : Nat} (h : m b = some c) : VRen m (.elt b i esz off) (.elt c i esz off)
  | slice {b c off n cap esz : Nat} {ex : Bool} (h : m b = some c) : VRen m (.slice b off n cap ex esz) (.slice c off n cap ex esz)
  | own {b c n esz : Nat} (h : m b = some c) : VRen m (.own b n esz) (.own c n esz)
  | ownOf {b c n esz : Nat} (h : m b = some c) (hn : n ≠ 0) : VRen m (.own b n esz) (.slice c 0 n n false esz)
  | ownEx {b c n k esz : Nat} (h : m b = some c) (hn : n ≤ k) : VRen m (.own b n esz) (.slice c 0 n k true esz)
  | map {b c : Nat} (h : m b = some c) : VRen m (.map b) (.map c)
  | agg {x y : List V} (h : VRenL m x y) : VRen m (.agg x) (.agg y)
  | tuple {x y : List V} (h : VRenL m x y) : VRen m (.tuple x) (.tuple y)
  | iface {t : TypeId} {x y : V} (h : VRen m x y) : VRen m (.iface t x) (.iface t y)
inductive VRenL (m : Nat → Option Nat) : List V → List V → Prop
  | nil : VRenL m [] []
  | cons {v u : V} {x y : List V} (h : VRen m v u) (hl : VRenL m x y) : VRenL m (v :: x) (u :: y)
end
mutual
theorem VRen.rel {ρ : Ren} {m : Nat → Option Nat} : ∀ {v u : V} {x : Value}, VRen m v u → VRel ρ u x → VRel (ρ.pull m) v x
  | _, _, _, .clean h, hx => h ρ _ _ (fun _ _ _ h => h) hx
  | _, _, _, .ptr h, .ptr hl => .ptr ((Ren.pull_at h).trans hl)
  | _, _, _, .elt h, .elt hl => .elt ((Ren.pull_at h).trans hl)
  | _, _, _, .slice h, .slice hl a b c d => .slice ((Ren.pull_at h).trans hl) a b c d
  | _, _, _, .own h, .own hl a b => .own ((Ren.pull_at h).trans hl) a b
  | _, _, _, .ownOf h hn, hx => by
    cases hx with
    | slice hl hex hin hN hn' =>
      obtain ⟨h1, h2⟩ := hin rfl
      rcases h2 with h2 | h2
      · subst h2; exact .own ((Ren.pull_at h).trans hl) h1 (by simpa using hN)
      · exact absurd h2.1 hn
  | _, _, _, .ownEx h hn, hx => by
    cases hx with
    | slice hl hex hin hN hn' =>
      obtain ⟨rfl, rfl⟩ := hex rfl
      exact .own ((Ren.pull_at h).trans hl) hn (by simpa using hN)
  | _, _, _, .map h, .map hl => .map ((Ren.pull_at h).trans hl)
  | _, _, _, .agg h, .agg hx => .agg (VRenL.rel h hx)
  | _, _, _, .tuple h, .tuple hx => .tuple (VRenL.rel h hx)
  | _, _, _, .iface h, .iface hx => .iface (VRen.rel h hx)
theorem VRenL.rel {ρ : Ren} {m : Nat → Option Nat} : ∀ {vs us : List V} {xs : List Value}, VRenL m vs us → VsRel ρ us xs → VsRel (ρ.pull m) vs xs
  | _, _, _, .nil, .nil => .nil
  | _, _, _, .cons h hl, .cons hx hxs => .cons (VRen.rel h hx) (VRenL.rel hl hxs)
end
theorem VRenL.length {m : Nat → Option Nat} : ∀ {vs us : List V}, VRenL m vs us → vs.length = us.length
  | _, _, .nil => rfl
  | _, _, .cons _ hl => congrArg (· + 1) hl.length
theorem VRenL.get {m : Nat → Option Nat} : ∀ {vs us : List V}, VRenL m vs us → ∀ {k : Nat} {v : V}, vs[k]? = some v → ∃ u, us[k]? = some u ∧ VRen m v u
  | _, _, .nil, k, v, h => by simp at h
  | _, _, .cons h hl, 0, v, hk => by simp at hk; subst hk; exact ⟨_, rfl, h⟩
  | _, _, .cons h hl, k + 1, v, hk => hl.get (k := k) (by simpa using hk)
theorem VRenL.clean {m : Nat → Option Nat} : ∀ {cs : List V}, (∀ v ∈ cs, Clean v) → VRenL m cs cs
  | [], _ => .nil
  | v :: _, h => .cons (.clean (h v List.mem_cons_self)) (VRenL.clean fun u hu => h u (List.mem_cons_of_mem _ hu))

/-- A block under new numbers. -/
inductive BlkRen (m : Nat → Option Nat) : Blk → Blk → Prop
  | cells {n : Nat} {z z' : List V} {t t' : Trie V} {p p' ro : Bool} (hp : p = true → p' = true) (h : ∀ i v, cellOf n z t i = some v → ∃ u, cellOf n z' t' i = some u ∧ VRen m v u) : BlkRen m (.cells n z t p ro) (.cells n z' t' p' ro)
  | row {n : Nat} {f g : Nat → V} {esz : Nat} {p p' : Bool} (hp : p = true → p' = true) (h : ∀ i, i < n → VRenL m (f i).cells (g i).cells) : BlkRen m (.row n f esz p) (.row n g esz p')
  | toRow {n : Nat} {f : Nat → V} {esz : Nat} {z : List V} {t : Trie V} {p p' : Bool} (hp : p = true → p' = true) (hu : ∀ i, i < n → (f i).cells.length = esz)
      (h : ∀ i, i < n → ∀ k v, (f i).cells[k]? = some v → ∃ u, cellOf (n * esz) z t (i * esz + k) = some u ∧ VRen m v u) : BlkRen m (.row n f esz p) (.cells (n * esz) z t p' false)
  | deferred : BlkRen m .deferred .deferred
theorem BlkRen.ok {m : Nat → Option Nat} {ρ : Ren} {w : World} {l : Loc} {k k' : Blk} (h : BlkRen m k k') (hk : BlkOk ρ w l k') : BlkOk (ρ.pull m) w l k := by
  cases h with
  | cells hpp h =>
    cases hk with
    | cells hs hn hv hf hp =>
      refine .cells hs hn (fun i v hi => ?_) hf fun h => hp (hpp h)
      obtain ⟨u, hu, hr⟩ := h i v hi
      obtain ⟨x, hx, hux⟩ := hv i u hu
      exact ⟨x, hx, hr.rel hux⟩
  | row hpp h =>
    cases hk with
    | row hs hn hu hv hf hp =>
      refine .row hs hn (fun i hi => by rw [(h i hi).length]; exact hu i hi) (fun i hi k v hk => ?_) hf fun h => hp (hpp h)
      obtain ⟨u, hu, hr⟩ := (h i hi).get hk
      obtain ⟨x, hx, hux⟩ := hv i hi k u hu
      exact ⟨x, hx, hr.rel hux⟩
  | deferred =>
    cases hk with
    | deferred h => exact .deferred h
  | toRow hpp hu h =>
    cases hk with
    | cells hs hn hv hf hp =>
      refine .row hs hn hu (fun i hi k v hk => ?_) (hf rfl) fun h => hp (hpp h)
      obtain ⟨u, hu, hr⟩ := h i hi k v hk
      obtain ⟨x, hx, hux⟩ := hv _ u hu
      exact ⟨x, hx, hr.rel hux⟩

/-- A frame and memory (a, σ) that tell less than (b, τ), under new numbers; those ahead of n₀ stay. -/
structure Fgt (n₀ : Nat) (m : Nat → Option Nat) (a : Act) (σ : St) (b : Act) (τ : St) : Prop where
  size : a.size = b.size
  da : a.defers = []
  db : b.defers = []
  slots : ∀ i v, a.tmps.get i = some v → ∃ u, b.tmps.get i = some u ∧ VRen m v u
  heap : ∀ i k, σ.heap.get i = some k → ∃ c k', m i = some c ∧ τ.heap.get c = some k' ∧ BlkRen m k k'
  inj : ∀ i j c, m i = some c → m j = some c → i = j
  range : ∀ i, σ.next ≤ i → m i = none
  base : ∀ i, i < n₀ → m i = some i
  le : n₀ ≤ σ.next

section
variable {n₀ : Nat} {m : Nat → Option Nat} {a b : Act} {σ τ : St} {ρ : Ren} {w : World}
theorem Fgt.wr (h : Fgt n₀ m a σ b τ) {c : Nat} (hw : Wr (ρ.pull m) σ c) : Wr ρ τ c := by
  obtain ⟨i, k, l, h1, _, h3, h4⟩ := hw
  obtain ⟨j, k', e1, e2, _⟩ := h.heap i k h1
  exact ⟨j, k', l, e2, rfl, (Ren.pull_at e1).symm.trans h3, h4⟩
theorem Fgt.r (h : Fgt n₀ m a σ b τ) (hr : R ρ τ w) : R (ρ.pull m) σ w := by
  refine ⟨fun i k hk => ?_, fun i j k k' l l' h1 h2 g1 g2 e => ?_, fun i hi => ?_, fun i l hl => ?_, fun c o x hx => ⟨(hr.imm c o x hx).1, fun hw => (hr.imm c o x hx).2 (h.wr hw)⟩, hr.laid⟩
  · obtain ⟨c, k', e1, e2, e3⟩ := h.heap i k hk
    obtain ⟨l, hl, hok⟩ := hr.blk c k' e2
    exact ⟨l, (Ren.pull_at e1).trans hl, e3.ok hok⟩
  · obtain ⟨c, q, e1, e2, _⟩ := h.heap i k h1
    obtain ⟨d, q', e1', e2', _⟩ := h.heap j k' h2
    have := hr.inj c d q q' l l' e2 e2' ((Ren.pull_at e1).symm.trans g1) ((Ren.pull_at e1').symm.trans g2) e
    subst this
    exact h.inj i j c e1 e1'
  · show (m i).bind ρ.at' = none
    rw [h.range i hi]; rfl
  · obtain ⟨c, _, hc⟩ := Ren.pull_some hl
    exact hr.valid c l hc
theorem Fgt.act (h : Fgt n₀ m a σ b τ) {a' : Go.Act} (ha : ActRel ρ b a') : ActRel (ρ.pull m) a a' := by
  refine ⟨fun i v hv => ?_, h.size.trans ha.size, ?_⟩
  · obtain ⟨u, hu, hr⟩ := h.slots i v hv
    obtain ⟨x, hx, hux⟩ := ha.tmps i u hu
    exact ⟨x, hx, hr.rel hux⟩
  · have hd := ha.defers
    rw [h.db] at hd
    rw [h.da]
    generalize a'.defers = d at hd ⊢
    cases hd
    exact .nil

/-- From one state to a later one; what was made behind n₀ may have got other numbers. -/
structure StpN (n₀ : Nat) (ρ : Ren) (σ : St) (w : World) (ρ' : Ren) (σ' : St) (w' : World) : Prop where
  r : R ρ' σ' w'
  le : ∀ b l, b < n₀ → ρ b = some l → ρ' b = some l
  imm : ∀ c o x, ρ.imm c o = some x → ρ'.imm c o = some x
  next : n₀ ≤ σ'.next
  dom : ∀ b l, b < n₀ → ρ' b = some l → ρ b = some l
  size : w.heap.size ≤ w'.heap.size
  os : w'.os = w.os
  tape : w'.tape = w.tape
  output : w'.output = w.output
  keep : ∀ c, c < w.heap.size → ¬ Wr ρ σ c → w'.heap[c]? = w.heap[c]?
  wr : ∀ c, c < w.heap.size → Wr ρ' σ' c → Wr ρ σ c
  hdom : ∀ b k, b < n₀ → σ'.heap.get b = some k → ∃ k', σ.heap.get b = some k'
  idom : ∀ c o x, ρ'.imm c o = some x → ρ.imm c o = some x ∨ w.heap.size ≤ c ∨ Wr ρ σ c
theorem StpN.of {ρ' : Ren} {σ' : St} {w' : World} (hn : n₀ ≤ σ.next) (h : Stp Nix ρ σ w ρ' σ' w') : StpN n₀ ρ σ w ρ' σ' w' :=
  ⟨h.r, fun b l _ hb => h.le b l hb, h.le.imm, Nat.le_trans hn h.next, fun b l hb hl => by
    rcases h.dom b l hl with h1 | h1 | h1
    · exact h1
    · omega
    · exact h1.elim, h.size, h.os, h.tape, h.output, h.keep, h.wr, fun b k hb hk => by
    rcases h.hdom b k hk with h1 | h1 | h1
    · exact h1
    · omega
    · exact h1.elim, h.idom⟩
theorem StpN.to {ρ' : Ren} {σ' : St} {w' : World} (hr : R ρ σ w) (h : StpN σ.next ρ σ w ρ' σ' w') : Stp Nix ρ σ w ρ' σ' w' :=
  ⟨h.r, ⟨fun b l hb => h.le b l (Nat.lt_of_not_le fun hle => by rw [hr.fresh b hle] at hb; cases hb) hb, h.imm⟩, h.next, fun b l hb => by
    by_cases hlt : b < σ.next
    · exact .inl (h.dom b l hlt hb)
    · exact .inr (.inl (Nat.le_of_not_lt hlt)), h.size, h.os, h.tape, h.output, h.keep, h.wr, fun b k hb => by
    by_cases hlt : b < σ.next
    · exact .inl (h.hdom b k hlt hb)
    · exact .inr (.inl (Nat.le_of_not_lt hlt)), h.idom⟩
theorem StpN.trans {ρ₁ ρ₂ : Ren} {σ₁ σ₂ : St} {w₁ w₂ : World} (h : StpN n₀ ρ σ w ρ₁ σ₁ w₁) (k : StpN n₀ ρ₁ σ₁ w₁ ρ₂ σ₂ w₂) : StpN n₀ ρ σ w ρ₂ σ₂ w₂ :=
  ⟨k.r, fun b l hb hl => k.le b l hb (h.le b l hb hl), fun c o x hx => k.imm c o x (h.imm c o x hx), k.next, fun b l hb hl => h.dom b l hb (k.dom b l hb hl), Nat.le_trans h.size k.size, k.os.trans h.os, k.tape.trans h.tape, k.output.trans h.output,
   fun c hc hn => (k.keep c (Nat.lt_of_lt_of_le hc h.size) fun hw => hn (h.wr c hc hw)).trans (h.keep c hc hn),
   fun c hc hw => h.wr c hc (k.wr c (Nat.lt_of_lt_of_le hc h.size) hw),
   fun b q hb hq => let ⟨q', h1⟩ := k.hdom b q hb hq; h.hdom b q' hb h1,
   fun c o x hx => by
     rcases k.idom c o x hx with h1 | h1 | h1
     · exact h.idom c o x h1
     · exact .inr (.inl (Nat.le_trans h.size h1))
     · by_cases hc : c < w.heap.size
       · exact .inr (.inr (h.wr c hc h1))
       · exact .inr (.inl (Nat.le_of_not_lt hc))⟩
/-- Told anew behind. -/
theorem StpN.fgt {ρ₁ : Ren} {w₁ : World} {σ₀ : St} {ρ₀ : Ren} {w₀ : World} (h : StpN n₀ ρ₀ σ₀ w₀ ρ₁ τ w₁) (hf : Fgt n₀ m a σ b τ) : StpN n₀ ρ₀ σ₀ w₀ (ρ₁.pull m) σ w₁ :=
  ⟨hf.r h.r, fun b l hb hl => (Ren.pull_at (hf.base b hb)).trans (h.le b l hb hl), h.imm, hf.le, fun b l hb hl => h.dom b l hb ((Ren.pull_at (hf.base b hb)).symm.trans hl), h.size, h.os, h.tape, h.output, h.keep,
   fun c hc hw => h.wr c hc (hf.wr hw), fun b k hb hk => by
     obtain ⟨c, k', e1, e2, _⟩ := hf.heap b k hk
     rw [hf.base b hb] at e1
     cases e1
     exact h.hdom b k' hb e2, h.idom⟩
/-- Told anew ahead. -/
theorem Fgt.stp {ρ₁ : Ren} {σ₁ : St} {w₁ : World} (hf : Fgt n₀ m a σ b τ) (h : StpN n₀ (ρ.pull m) σ w ρ₁ σ₁ w₁) : StpN n₀ ρ τ w ρ₁ σ₁ w₁ :=
  ⟨h.r, fun b l hb hl => h.le b l hb ((Ren.pull_at (hf.base b hb)).trans hl), h.imm, h.next, fun b l hb hl => (Ren.pull_at (hf.base b hb)).symm.trans (h.dom b l hb hl), h.size, h.os, h.tape, h.output,
   fun c hc hn => h.keep c hc fun hw => hn (hf.wr hw), fun c hc hw => hf.wr (h.wr c hc hw), fun b k hb hk => by
     obtain ⟨k', hk'⟩ := h.hdom b k hb hk
     obtain ⟨c, k'', e1, e2, _⟩ := hf.heap b k' hk'
     rw [hf.base b hb] at e1
     cases e1
     exact ⟨k'', e2⟩, fun c o x hx => by
     rcases h.idom c o x hx with h1 | h1 | h1
     · exact .inl h1
     · exact .inr (.inl h1)
     · exact .inr (.inr (hf.wr h1))⟩
end

def CodePostN (n₀ : Nat) (Q : Post) (ρ : Ren) (σ : St) (w : World) : Exit → Go.Act → World → Prop :=
  fun e a' w' => ∃ x a σ' ρ', Q x a σ' ∧ e = exitOf x ∧ ActRel ρ' a a' ∧ StpN n₀ ρ σ w ρ' σ' w'
/-- A loop comes to Q; what it makes behind n₀ may get other numbers. -/
structure LoopN (P : Program) (n₀ : Nat) (x : Code) (Q : Post) (a : Act) (σ : St) : Prop where
  ex : ∃ e a σ, Q e a σ
  h : n₀ ≤ σ.next → ∀ (ρ : Ren) (w : World) (a' : Go.Act), R ρ σ w → ActRel ρ a a' → (Code.loop x).wpIn Fence.wide 0 P (CodePostN n₀ Q ρ σ w) a' w ∧ LoopIn Fence.wide P x (CodePostN n₀ Q ρ σ w) a' w

section
variable {P : Program} [Mix P] {fn : FuncId} {n₀ : Nat} {x : Code} {Q Q' : Post} {a b : Act} {σ τ : St}
omit [Mix P] in
theorem LoopN.loopS (h : LoopN P σ.next x Q a σ) : LoopS P fn none x Q a σ := by
  have hq : ∀ (ρ : Ren) (w : World), R ρ σ w → ∀ e a' w', CodePostN σ.next Q ρ σ w e a' w' → CodePost (exP Q) ρ σ w e a' w' := by
    rintro ρ w hr e a' w' ⟨y, a₁, σ₁, ρ₁, h1, h2, h3, h4⟩
    exact ⟨y, a₁, σ₁, ρ₁, h1, h2, h3, h4.to hr⟩
  refine ⟨⟨(⟨?_, ?_⟩ : SemE P (.code none fn (.loop x) a) σ (exP Q))⟩⟩
  · obtain ⟨e, a, σ, hx⟩ := h.ex
    exact ⟨(.exit e a, σ), hx⟩
  · intro ρ w a' F hr ha hroF
    have hF : F = Fence.wide := hroF
    subst hF
    obtain ⟨h1, h2⟩ := h.h (Nat.le_refl _) ρ w a' hr ha
    exact ⟨wpIn_mono h1 fun _ _ _ hx => hq ρ w hr _ _ _ hx, fun y hy => by cases hy; exact h2.mono fun _ _ _ hx => hq ρ w hr _ _ _ hx⟩
theorem LoopN.loop (h : CodeS P fn none x (seqQ (LoopN P n₀ x Q) Q) a σ) : LoopN P n₀ x Q a σ := by
  have hs := h.sem
  constructor
  · obtain ⟨⟨o, τ⟩, hx⟩ := hs.1
    cases o with
    | val v => exact hx.elim
    | exit e a => cases e with
      | normal => exact LoopN.ex hx
      | exit i => exact ⟨_, _, _, hx⟩
      | goto i => exact ⟨_, _, _, hx⟩
      | ret => exact ⟨_, _, _, hx⟩
  · intro hn ρ w a' hr ha
    refine wpIn_loop_of (wpIn_mono (SemE.at hs ρ w a' Fence.wide hr ha rfl).1 fun e a₁ w₁ hpost => ?_)
    obtain ⟨y, a₂, σ₂, ρ₂, h1, rfl, h3, h4⟩ := hpost
    have h4' := StpN.of hn h4
    cases y with
    | normal =>
      have h1 : LoopN P n₀ x Q a₂ σ₂ := h1
      refine (h1.h h4'.next ρ₂ w₁ a₁ h4.r h3).2.mono fun e a w hx => ?_
      obtain ⟨z, a₃, σ₃, ρ₃, g1, g2, g3, g4⟩ := hx
      exact ⟨z, a₃, σ₃, ρ₃, g1, g2, g3, h4'.trans g4⟩
    | exit i => exact ⟨.exit i, a₂, σ₂, ρ₂, h1, rfl, h3, h4'⟩
    | goto i => exact ⟨.goto i, a₂, σ₂, ρ₂, h1, rfl, h3, h4'⟩
    | ret => exact ⟨.ret, a₂, σ₂, ρ₂, h1, rfl, h3, h4'⟩
omit [Mix P] in
theorem LoopN.fgt {m : Nat → Option Nat} (hf : Fgt n₀ m a σ b τ) (h : LoopN P n₀ x Q a σ) : LoopN P n₀ x Q b τ := by
  refine ⟨h.ex, fun _ ρ w a' hr ha => ?_⟩
  have hq : ∀ e a' w', CodePostN n₀ Q (ρ.pull m) σ w e a' w' → CodePostN n₀ Q ρ τ w e a' w' := by
    rintro e a' w' ⟨y, a₁, σ₁, ρ₁, h1, h2, h3, h4⟩
    exact ⟨y, a₁, σ₁, ρ₁, h1, h2, h3, hf.stp h4⟩
  obtain ⟨h1, h2⟩ := h.h hf.le _ w a' (hf.r hr) (hf.act ha)
  exact ⟨wpIn_mono h1 fun _ _ _ hx => hq _ _ _ hx, h2.mono fun _ _ _ hx => hq _ _ _ hx⟩
omit [Mix P] in
theorem LoopN.post (h : LoopN P n₀ x Q' a σ) (hq : ∀ e b τ, Q' e b τ → ∃ m a σ, Fgt n₀ m a σ b τ ∧ Q e a σ) : LoopN P n₀ x Q a σ := by
  refine ⟨?_, fun hn ρ w a' hr ha => ?_⟩
  · obtain ⟨e, b, τ, hx⟩ := h.ex
    obtain ⟨_, a, σ, _, h2⟩ := hq e b τ hx
    exact ⟨e, a, σ, h2⟩
  · have key : ∀ e a' w', CodePostN n₀ Q' ρ σ w e a' w' → CodePostN n₀ Q ρ σ w e a' w' := by
      rintro e a' w' ⟨y, b, τ, ρ₁, h1, rfl, h3, h4⟩
      obtain ⟨m, a₂, σ₂, hf, h5⟩ := hq y b τ h1
      exact ⟨y, a₂, σ₂, ρ₁.pull m, h5, rfl, hf.act h3, h4.fgt hf⟩
    obtain ⟨h1, h2⟩ := h.h hn ρ w a' hr ha
    exact ⟨wpIn_mono h1 fun _ _ _ hx => key _ _ _ hx, h2.mono fun _ _ _ hx => key _ _ _ hx⟩
omit [Mix P] in
theorem LoopN.mono (h : LoopN P n₀ x Q' a σ) (hq : ∀ e b τ, Q' e b τ → Q e b τ) : LoopN P n₀ x Q a σ := by
  refine ⟨let ⟨e, b, τ, hx⟩ := h.ex; ⟨e, b, τ, hq _ _ _ hx⟩, fun hn ρ w a' hr ha => ?_⟩
  have key : ∀ e a' w', CodePostN n₀ Q' ρ σ w e a' w' → CodePostN n₀ Q ρ σ w e a' w' := by
    rintro e a' w' ⟨y, b, τ, ρ₁, h1, h2, h3, h4⟩
    exact ⟨y, b, τ, ρ₁, hq _ _ _ h1, h2, h3, h4⟩
  obtain ⟨h1, h2⟩ := h.h hn ρ w a' hr ha
  exact ⟨wpIn_mono h1 fun _ _ _ hx => key _ _ _ hx, h2.mono fun _ _ _ hx => key _ _ _ hx⟩
end
end
end Go.Ev
