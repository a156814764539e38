/- strings.Join in a longer run: what a call of it comes to is known, from the library's own contract. -/
import Derived.Test.YtkopocjaofejgaaGreatDoorEvJoin
import Derived.Test.YtkopocjaofejgaaGreatDoorEvFroz
namespace Go.Proofs.YtkopocjaofejgaaGreatDoor
open Go Go.Ev

theorem strs_of [Env] {ρ : Ev.Ren} : ∀ {xs : List (List UInt8)} {vs : List Value}, VsRel ρ (xs.map V.str) vs → vs = xs.map fun x => Value.string ⟨⟨x⟩⟩
  | [], _, h => by cases h; rfl
  | x :: xs, _, h => by
    cases h with
    | cons h hl => cases h; rw [strs_of hl]; rfl

instance : Mix Tryz.prog := ⟨lays156.mixed⟩

theorem bytes_map : ∀ xs : List (List UInt8), List.map (fun x : ByteArray => x.data.toList) (List.map (fun x => (⟨⟨x⟩⟩ : ByteArray)) xs) = xs
  | [] => rfl
  | x :: xs => congrArg (x :: ·) (bytes_map xs)

theorem joinS [Env] {σ : St} {b off cap : Nat} {ex : Bool} {xs : List (List UInt8)} {sep : List UInt8} (hx : 0 < xs.length) (hc : σ.cells b off xs.length = some (xs.map V.str)) (hn : xs.length ≤ 140737488355328) (hl : (Lib.join xs sep).length ≤ 140737488355328) :
    CallS Tryz.prog 432 [.slice b off xs.length cap ex 1, .str sep] (fun v σ' => v = .str (Lib.join xs sep) ∧ σ' = σ) σ := by
  refine CallS.of_calls ⟨_, rfl⟩ fun ρ w vs' hr hv => ?_
  obtain ⟨a, l, h1, h2, rfl⟩ : ∃ a l, VRel ρ (.slice b off xs.length cap ex 1) a ∧ VsRel ρ [.str sep] l ∧ vs' = a :: l := by cases hv with | cons h1 h2 => exact ⟨_, _, h1, h2, rfl⟩
  obtain ⟨c, h3, rfl⟩ : ∃ c, VRel ρ (.str sep) c ∧ l = [c] := by cases h2 with | cons h3 h4 => cases h4; exact ⟨_, h3, rfl⟩
  cases h3
  refine ⟨enters_of Tryz.func432 (by kernel_rfl) rfl _ _, ?_⟩
  cases h1 with
  | slice hl0 hex hin hN hcap =>
    rename_i k off' cap'
    have ho : off' = k.o + off := by
      cases hb : ex with
      | true => exact (hex hb).2
      | false => exact (hin hb).2.resolve_right fun h => by omega
    have hcc : xs.length ≤ cap' := by
      cases hb : ex with
      | true => have := (hex hb).1; omega
      | false => have := (hin hb).1; omega
    obtain ⟨ys, hys, hlen, hcell⟩ := hr.cellsAt hc hl0
    have hys := strs_of hys
    subst hys ho
    have hlen' : (xs.map fun x => (⟨⟨x⟩⟩ : ByteArray)).length = xs.length := by simp
    have key := strings_Join k.c (k.o + off) cap' (xs.map fun x => (⟨⟨x⟩⟩ : ByteArray)) ⟨⟨sep⟩⟩ w (fun j x hj => by
      rw [List.getElem?_map] at hj
      obtain ⟨y, hy, rfl⟩ := Option.map_eq_some_iff.1 hj
      exact hcell j _ (by rw [List.getElem?_map, hy]; rfl)) (hr.valid _ _ hl0) (by rw [hlen']; exact hn) (by rw [hlen']; exact hcc) (by rw [bytes_map]; exact hl)
    rw [hlen'] at key
    refine key.mono fun e w' ⟨he, hb⟩ => ⟨_, _, rfl, he, ?_, hb⟩
    rw [bytes_map]
    exact .str _

/-- A known call that leaves all of memory as it was. -/
theorem told_same {P : Program} [Mix P] {e : Ev.Told} (h1 : Nat.ble e.now e.then' = true) (h2 : postIn e.st e.post = true) (h : ∀ [Env], CallS P e.f e.args (fun v σ' => v = e.v ∧ σ' = e.st) e.st) : e.ok P := by
  intro _ ρ w vs' hr hv
  obtain ⟨g1, g2⟩ := SemE.at h.h ρ w vs' hr hv
  refine ⟨g1, g2.mono fun en w' hx => ValPost.mono hx ?_⟩
  rintro ⟨o, σ⟩ hx
  cases o with
  | exit x a => exact hx
  | val v =>
    obtain ⟨rfl, rfl⟩ := hx
    exact ⟨rfl, Nat.le_of_ble_eq_true h1, fun b k hb => postIn_eq h2 b k hb⟩

theorem joined {e : Ev.Told} (b off cap : Nat) (ex : Bool) (xs : List (List UInt8)) (sep : List UInt8) (hf : e.f = 432) (ha : e.args = [.slice b off xs.length cap ex 1, .str sep]) (hv : e.v = .str (Lib.join xs sep)) (h1 : Nat.ble e.now e.then' = true) (h2 : postIn e.st e.post = true)
    (hc : e.st.cells b off xs.length = some (xs.map V.str)) (hx : Nat.ble 1 xs.length = true) (hn : Nat.ble xs.length 140737488355328 = true) (hl : Nat.ble (Lib.join xs sep).length 140737488355328 = true) : e.ok Tryz.prog := by
  refine told_same h1 h2 ?_
  intro _
  rw [hf, ha, hv]
  exact joinS (Nat.le_of_ble_eq_true hx) hc (Nat.le_of_ble_eq_true hn) (Nat.le_of_ble_eq_true hl)
end Go.Proofs.YtkopocjaofejgaaGreatDoor
