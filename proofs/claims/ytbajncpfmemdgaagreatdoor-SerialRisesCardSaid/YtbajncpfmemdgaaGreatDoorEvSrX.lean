/- Cells of the arguments' types are cells of their mirrors. -/
import Derived.Test.YtbajncpfmemdgaaGreatDoorEvSrEq
import Derived.Test.YtbajncpfmemdgaaGreatDoorEvTyped
namespace Go.Proofs.YtbajncpfmemdgaaGreatDoor
open Go Go.Ev
section
variable [Env]
theorem X3 {d : Nat} {us : List V} (h : HasT Tryz.prog d 3 us) : ∃ a : Int, Imp us [.int .i64 (a)] := by
  obtain ⟨n, rfl⟩ := h.int (k := .i64) (by kernel_rfl)
  exact ⟨n, Imp.refl _⟩
theorem X9 {d : Nat} {us : List V} (h : HasT Tryz.prog d 9 us) : ∃ a : (List UInt8), Imp us [.str (a)] := by
  obtain ⟨n, rfl⟩ := h.str (by kernel_rfl)
  exact ⟨n, Imp.refl _⟩
theorem X44 {d : Nat} {us : List V} (h : HasT Tryz.prog d 44 us) : ∃ a : Int, Imp us [.int .u64 (a)] := by
  obtain ⟨n, rfl⟩ := h.int (k := .u64) (by kernel_rfl)
  exact ⟨n, Imp.refl _⟩
theorem X46 {d : Nat} {us : List V} (h : HasT Tryz.prog d 46 us) : ∃ a : T46, Imp us a.cells := by
  obtain ⟨d', ps, rfl, ha⟩ := h.struct (tys := [3, 3, 44, 9]) (by kernel_rfl)
  obtain ⟨p0, _, rfl, h0, ha⟩ := ha.cons
  obtain ⟨p1, _, rfl, h1, ha⟩ := ha.cons
  obtain ⟨p2, _, rfl, h2, ha⟩ := ha.cons
  obtain ⟨p3, _, rfl, h3, ha⟩ := ha.cons
  obtain rfl := ha.nil
  obtain ⟨a0, i0⟩ := X3 h0
  obtain ⟨a1, i1⟩ := X3 h1
  obtain ⟨a2, i2⟩ := X44 h2
  obtain ⟨a3, i3⟩ := X9 h3
  exact ⟨⟨a0, a1, a2, a3⟩, i0.append (i1.append (i2.append (i3.append (Imp.refl []))))⟩
theorem X69 {d : Nat} {us : List V} (h : HasT Tryz.prog d 69 us) : ∃ a : (List T46), Imp us [arrOf T46.enc 4 (a)] := h.slice (enc := T46.enc) (esz := 4) (by kernel_rfl) (by kernel_rfl) (fun a => T46.size a) fun h => X46 h
theorem X43 {d : Nat} {us : List V} (h : HasT Tryz.prog d 43 us) : ∃ a : (List (List UInt8)), Imp us [arrOf V.str 1 (a)] := h.slice (enc := V.str) (esz := 1) (by kernel_rfl) (by kernel_rfl) (fun a => rfl) fun h => X9 h
theorem X4 {d : Nat} {us : List V} (h : HasT Tryz.prog d 4 us) : ∃ a : Bool, Imp us [.bool a] := by
  obtain ⟨n, rfl⟩ := h.bool (by kernel_rfl)
  exact ⟨n, Imp.refl _⟩
theorem X48 {d : Nat} {us : List V} (h : HasT Tryz.prog d 48 us) : ∃ a : T48, Imp us a.cells := by
  obtain ⟨d', ps, rfl, ha⟩ := h.struct (tys := [9, 3, 4, 46]) (by kernel_rfl)
  obtain ⟨p0, _, rfl, h0, ha⟩ := ha.cons
  obtain ⟨p1, _, rfl, h1, ha⟩ := ha.cons
  obtain ⟨p2, _, rfl, h2, ha⟩ := ha.cons
  obtain ⟨p3, _, rfl, h3, ha⟩ := ha.cons
  obtain rfl := ha.nil
  obtain ⟨a0, i0⟩ := X9 h0
  obtain ⟨a1, i1⟩ := X3 h1
  obtain ⟨a2, i2⟩ := X4 h2
  obtain ⟨a3, i3⟩ := X46 h3
  exact ⟨⟨a0, a1, a2, a3⟩, i0.append (i1.append (i2.append (i3.append (Imp.refl []))))⟩
theorem X49 {d : Nat} {us : List V} (h : HasT Tryz.prog d 49 us) : ∃ a : (List T48), Imp us [arrOf T48.enc 7 (a)] := h.slice (enc := T48.enc) (esz := 7) (by kernel_rfl) (by kernel_rfl) (fun a => T48.size a) fun h => X48 h
theorem X51 {d : Nat} {us : List V} (h : HasT Tryz.prog d 51 us) : ∃ a : T51, Imp us a.cells := by
  obtain ⟨d', ps, rfl, ha⟩ := h.struct (tys := [9, 3, 49]) (by kernel_rfl)
  obtain ⟨p0, _, rfl, h0, ha⟩ := ha.cons
  obtain ⟨p1, _, rfl, h1, ha⟩ := ha.cons
  obtain ⟨p2, _, rfl, h2, ha⟩ := ha.cons
  obtain rfl := ha.nil
  obtain ⟨a0, i0⟩ := X9 h0
  obtain ⟨a1, i1⟩ := X3 h1
  obtain ⟨a2, i2⟩ := X49 h2
  exact ⟨⟨a0, a1, a2⟩, i0.append (i1.append (i2.append (Imp.refl [])))⟩
theorem X53 {d : Nat} {us : List V} (h : HasT Tryz.prog d 53 us) : ∃ a : T53, Imp us a.cells := by
  obtain ⟨d', ps, rfl, ha⟩ := h.struct (tys := [3, 9, 9, 9, 9, 9, 3, 43, 48, 51]) (by kernel_rfl)
  obtain ⟨p0, _, rfl, h0, ha⟩ := ha.cons
  obtain ⟨p1, _, rfl, h1, ha⟩ := ha.cons
  obtain ⟨p2, _, rfl, h2, ha⟩ := ha.cons
  obtain ⟨p3, _, rfl, h3, ha⟩ := ha.cons
  obtain ⟨p4, _, rfl, h4, ha⟩ := ha.cons
  obtain ⟨p5, _, rfl, h5, ha⟩ := ha.cons
  obtain ⟨p6, _, rfl, h6, ha⟩ := ha.cons
  obtain ⟨p7, _, rfl, h7, ha⟩ := ha.cons
  obtain ⟨p8, _, rfl, h8, ha⟩ := ha.cons
  obtain ⟨p9, _, rfl, h9, ha⟩ := ha.cons
  obtain rfl := ha.nil
  obtain ⟨a0, i0⟩ := X3 h0
  obtain ⟨a1, i1⟩ := X9 h1
  obtain ⟨a2, i2⟩ := X9 h2
  obtain ⟨a3, i3⟩ := X9 h3
  obtain ⟨a4, i4⟩ := X9 h4
  obtain ⟨a5, i5⟩ := X9 h5
  obtain ⟨a6, i6⟩ := X3 h6
  obtain ⟨a7, i7⟩ := X43 h7
  obtain ⟨a8, i8⟩ := X48 h8
  obtain ⟨a9, i9⟩ := X51 h9
  exact ⟨⟨a0, a1, a2, a3, a4, a5, a6, a7, a8, a9⟩, i0.append (i1.append (i2.append (i3.append (i4.append (i5.append (i6.append (i7.append (i8.append (i9.append (Imp.refl []))))))))))⟩
theorem X71 {d : Nat} {us : List V} (h : HasT Tryz.prog d 71 us) : ∃ a : T71, Imp us a.cells := by
  obtain ⟨d', ps, rfl, ha⟩ := h.struct (tys := [3, 9, 69, 69, 69, 3, 53]) (by kernel_rfl)
  obtain ⟨p0, _, rfl, h0, ha⟩ := ha.cons
  obtain ⟨p1, _, rfl, h1, ha⟩ := ha.cons
  obtain ⟨p2, _, rfl, h2, ha⟩ := ha.cons
  obtain ⟨p3, _, rfl, h3, ha⟩ := ha.cons
  obtain ⟨p4, _, rfl, h4, ha⟩ := ha.cons
  obtain ⟨p5, _, rfl, h5, ha⟩ := ha.cons
  obtain ⟨p6, _, rfl, h6, ha⟩ := ha.cons
  obtain rfl := ha.nil
  obtain ⟨a0, i0⟩ := X3 h0
  obtain ⟨a1, i1⟩ := X9 h1
  obtain ⟨a2, i2⟩ := X69 h2
  obtain ⟨a3, i3⟩ := X69 h3
  obtain ⟨a4, i4⟩ := X69 h4
  obtain ⟨a5, i5⟩ := X3 h5
  obtain ⟨a6, i6⟩ := X53 h6
  exact ⟨⟨a0, a1, a2, a3, a4, a5, a6⟩, i0.append (i1.append (i2.append (i3.append (i4.append (i5.append (i6.append (Imp.refl [])))))))⟩
theorem X27 {d : Nat} {us : List V} (h : HasT Tryz.prog d 27 us) : ∃ a : (List T71), Imp us [arrOf T71.enc 24 (a)] := h.slice (enc := T71.enc) (esz := 24) (by kernel_rfl) (by kernel_rfl) (fun a => T71.size a) fun h => X71 h
theorem X56 {d : Nat} {us : List V} (h : HasT Tryz.prog d 56 us) : ∃ a : Int, Imp us [.int .i64 (a)] := by
  obtain ⟨n, rfl⟩ := h.int (k := .i64) (by kernel_rfl)
  exact ⟨n, Imp.refl _⟩
theorem X74 {d : Nat} {us : List V} (h : HasT Tryz.prog d 74 us) : ∃ a : (List (List T46)), Imp us [arrOf (arrOf T46.enc 4) 1 (a)] := h.slice (enc := (arrOf T46.enc 4)) (esz := 1) (by kernel_rfl) (by kernel_rfl) (fun a => rfl) fun h => X69 h
theorem X76 {d : Nat} {us : List V} (h : HasT Tryz.prog d 76 us) : ∃ a : T76, Imp us a.cells := by
  obtain ⟨d', ps, rfl, ha⟩ := h.struct (tys := [56, 74]) (by kernel_rfl)
  obtain ⟨p0, _, rfl, h0, ha⟩ := ha.cons
  obtain ⟨p1, _, rfl, h1, ha⟩ := ha.cons
  obtain rfl := ha.nil
  obtain ⟨a0, i0⟩ := X56 h0
  obtain ⟨a1, i1⟩ := X74 h1
  exact ⟨⟨a0, a1⟩, i0.append (i1.append (Imp.refl []))⟩
theorem X28 {d : Nat} {us : List V} (h : HasT Tryz.prog d 28 us) : ∃ a : (List T76), Imp us [arrOf T76.enc 2 (a)] := h.slice (enc := T76.enc) (esz := 2) (by kernel_rfl) (by kernel_rfl) (fun a => T76.size a) fun h => X76 h
theorem X30 {d : Nat} {us : List V} (h : HasT Tryz.prog d 30 us) : ∃ a : T30, Imp us a.cells := by
  obtain ⟨d', ps, rfl, ha⟩ := h.struct (tys := [3, 3, 3, 3, 27, 28]) (by kernel_rfl)
  obtain ⟨p0, _, rfl, h0, ha⟩ := ha.cons
  obtain ⟨p1, _, rfl, h1, ha⟩ := ha.cons
  obtain ⟨p2, _, rfl, h2, ha⟩ := ha.cons
  obtain ⟨p3, _, rfl, h3, ha⟩ := ha.cons
  obtain ⟨p4, _, rfl, h4, ha⟩ := ha.cons
  obtain ⟨p5, _, rfl, h5, ha⟩ := ha.cons
  obtain rfl := ha.nil
  obtain ⟨a0, i0⟩ := X3 h0
  obtain ⟨a1, i1⟩ := X3 h1
  obtain ⟨a2, i2⟩ := X3 h2
  obtain ⟨a3, i3⟩ := X3 h3
  obtain ⟨a4, i4⟩ := X27 h4
  obtain ⟨a5, i5⟩ := X28 h5
  exact ⟨⟨a0, a1, a2, a3, a4, a5⟩, i0.append (i1.append (i2.append (i3.append (i4.append (i5.append (Imp.refl []))))))⟩
theorem X22 {d : Nat} {us : List V} (h : HasT Tryz.prog d 22 us) : ∃ a : (List T30), Imp us [arrOf T30.enc 6 (a)] := h.slice (enc := T30.enc) (esz := 6) (by kernel_rfl) (by kernel_rfl) (fun a => T30.size a) fun h => X30 h
end
end Go.Proofs.YtbajncpfmemdgaaGreatDoor
