/- errors.As at this program's types: the number of an error. -/
import Derived.Test.YtbajncpfmemdgaaGreatDoorEvPure
import Derived.Test.YtbajncpfmemdgaaGreatDoorProg
import Derived.WalkKit
import Derived.LaidEql
import Derived.Stop.Asserts
import Derived.RowKitTokens
namespace Go.Proofs.YtbajncpfmemdgaaGreatDoor
open Go.RowKit Go.Extern.Stop Go.Stop Go.Extern

theorem as_nil (t : Value) (w : World) :
    Calls Tryz.prog 175 #[.nilIface, t] w fun e w' => e = .returned (.bool false) ∧ w' = w := by
  go_enter Tryz.func175, Tryz.ntmps175
  go_wp2
  go_ret
  exact ⟨rfl, rfl⟩

/-! ### The model's entries, at this program's types (216: schema's error; 218: a pointer to one; 179: error; 292: reflectlite's type) -/
theorem Tryz.asvalueOf27 (t : Addr) (w : World) : (ReflectliteValue.unpack (.iface 218 (.pointer (some t)))).run Tryz.prog w
    = .ok (.agg #[.pointer (some ⟨3, 218, none⟩), .pointer (some ⟨w.heap.size, 0, none⟩), .int .u64 150]) (w.alloc (.cells #[.pointer (some t)] 218)) := by kernel_rfl
theorem Tryz.astype27 (a : Addr) (w : World) : (ReflectliteValue.methodAny (ReflectliteValue.valueError "reflectlite.Value.Type" 0) (fun t _ _ _ => ReflectliteType.toType t) #[.agg #[.pointer (some ⟨3, 218, none⟩), .pointer (some a), .int .u64 150]]).run Tryz.prog w
    = .ok (.iface 292 (.agg #[.pointer (some ⟨3, 218, none⟩)])) w := by kernel_rfl
theorem Tryz.asmethodKind (h : Value) (w : World) : (Go.method 463 292 (.agg #[h]) "Kind").run Tryz.prog w = .ok (296, h) w := by kernel_rfl
theorem Tryz.askind27 (w : World) : ((ReflectliteType.abiMethod fun t => (fun a : Nat => Value.int IntKind.u8 (a : Int)) <$> Rtype.kind t) #[.pointer (some ⟨3, 218, none⟩)]).run Tryz.prog w = .ok (.int .u8 22) w := by kernel_rfl
theorem Tryz.askind25 (w : World) : ((ReflectliteType.abiMethod fun t => (fun a : Nat => Value.int IntKind.u8 (a : Int)) <$> Rtype.kind t) #[.pointer (some ⟨3, 216, none⟩)]).run Tryz.prog w = .ok (.int .u8 25) w := by kernel_rfl

theorem rlm (z : Sem Value) (f : TypeId → Addr → Nat → Nat → Sem Value) (v : Value) :
    ReflectliteValue.method z f #[v] = (do match ← ReflectliteValue.parts v with | none => z | some (t, a, fl) => f t a fl (fl % 32)) := rfl
theorem Tryz.asparts27 (a : Addr) (w : World) : (ReflectliteValue.parts (.agg #[.pointer (some ⟨3, 218, none⟩), .pointer (some a), .int .u64 150])).run Tryz.prog w = .ok (some (218, a, 150)) w := by kernel_rfl
/-- (Value).IsNil at the Value of a pointer that is not nil. -/
theorem Tryz.asisNil27 (a p : Addr) (W : World) (ha : W.cell? a = some (.pointer (some p))) :
    (ReflectliteValue.method (ReflectliteValue.valueError "reflectlite.Value.IsNil" 0) ReflectliteValue.isNil #[.agg #[.pointer (some ⟨3, 218, none⟩), .pointer (some a), .int .u64 150]]).run Tryz.prog W = .ok (.bool false) W := by
  rw [rlm]
  simp only [Sem.run_bind, Tryz.asparts27, Result.andThen]
  simp [ReflectliteValue.isNil, loadVar, isAgg, underlying, Tryz.underlying218, ha, Result.andThen]

theorem Tryz.asmethodElem (h : Value) (w : World) : (Go.method 463 292 (.agg #[h]) "Elem").run Tryz.prog w = .ok (322, .agg #[h]) w := by kernel_rfl
theorem Tryz.asmethodImplements (h : Value) (w : World) : (Go.method 463 292 (.agg #[h]) "Implements").run Tryz.prog w = .ok (323, .agg #[h]) w := by kernel_rfl
theorem Tryz.asmethodAssignableTo (h : Value) (w : World) : (Go.method 463 292 (.agg #[h]) "AssignableTo").run Tryz.prog w = .ok (320, .agg #[h]) w := by kernel_rfl
theorem Tryz.aselem27 (w : World) : (ReflectliteType.method ReflectliteType.elem #[.agg #[.pointer (some ⟨3, 218, none⟩)]]).run Tryz.prog w = .ok (.iface 292 (.agg #[.pointer (some ⟨3, 216, none⟩)])) w := by kernel_rfl
theorem Tryz.asimplements25 (w : World) : (ReflectliteType.relation "Implements" ReflectliteType.implements_ #[.agg #[.pointer (some ⟨3, 216, none⟩)], .iface 292 (.agg #[.pointer (some ⟨3, 179, none⟩)])]).run Tryz.prog w = .ok (.bool true) w := by kernel_rfl
theorem Tryz.astypeOf25 (v : Value) (w : World) : (ReflectliteType.typeOf #[.iface 216 v]).run Tryz.prog w = .ok (.iface 292 (.agg #[.pointer (some ⟨3, 216, none⟩)])) w := by kernel_rfl
theorem Tryz.asassignable25 (w : World) : (ReflectliteType.relation "AssignableTo" ReflectliteType.assignableTo #[.agg #[.pointer (some ⟨3, 216, none⟩)], .iface 292 (.agg #[.pointer (some ⟨3, 216, none⟩)])]).run Tryz.prog w = .ok (.bool true) w := by kernel_rfl
theorem Tryz.asvalueOf25 (n : Int) (w : World) : (ReflectliteValue.unpack (.iface 216 (.agg #[.int .i64 n]))).run Tryz.prog w
    = .ok (.agg #[.pointer (some ⟨3, 216, none⟩), .pointer (some ⟨w.heap.size, 0, none⟩), .int .u64 153]) (w.alloc (.cells #[.int .i64 n] 216)) := by kernel_rfl

theorem Tryz.aselemOf27 (w : World) : (Rtype.elem? 218).run Tryz.prog w = .ok (some 216) w := by kernel_rfl
theorem Tryz.asmk25 (p : Addr) (w : World) : (ReflectliteValue.mk 216 p ReflectliteValue.flagAddr).run Tryz.prog w = .ok (.agg #[.pointer (some ⟨3, 216, none⟩), .pointer (some p), .int .u64 409]) w := by kernel_rfl
/-- (Value).Elem at the Value of a pointer that is not nil: the Value of the error variable that it points to, addressable. -/
theorem Tryz.aselemV27 (a p : Addr) (W : World) (ha : W.cell? a = some (.pointer (some p))) :
    (ReflectliteValue.method (ReflectliteValue.valueError "reflectlite.Value.Elem" 0) ReflectliteValue.elem #[.agg #[.pointer (some ⟨3, 218, none⟩), .pointer (some a), .int .u64 150]]).run Tryz.prog W
      = .ok (.agg #[.pointer (some ⟨3, 216, none⟩), .pointer (some p), .int .u64 409]) W := by
  rw [rlm]
  simp only [Sem.run_bind, Tryz.asparts27, Result.andThen]
  simp [ReflectliteValue.elem, loadVar, isAgg, underlying, Tryz.underlying218, ha, Result.andThen, Tryz.aselemOf27, Tryz.asmk25]
theorem rls (v x : Value) : ReflectliteValue.set #[v, x] = (do
    let (some (dst, a, fl), some (src, b, _)) := (← ReflectliteValue.parts v, ← ReflectliteValue.parts x)
      | unsupported (.noEntry "extern/(internal/reflectlite.Value).Set.zeroValue")
    if fl / ReflectliteValue.flagAddr % 2 == 0 then unsupported (.noEntry "extern/(internal/reflectlite.Value).Set.unaddressable")
    let val ← loadVar src b
    if ← Rtype.directlyAssignable dst src then storeVar dst a val
    else if ← Rtype.implements dst src then
      if (← Rtype.kind src) == 20 then
        match val with
        | .nilIface => unsupported (.noEntry "extern/reflectlite: a nil value of one interface type handed on as a value of another")
        | _ => storeVar dst a val
      else storeVar dst a (.iface src val)
    else panicString ("reflectlite.Set: value of type " ++ (← Rtype.spelt src) ++ " is not assignable to type " ++ (← Rtype.spelt dst))
    pure (.tuple #[])) := rfl
theorem Tryz.asparts25a (a : Addr) (w : World) : (ReflectliteValue.parts (.agg #[.pointer (some ⟨3, 216, none⟩), .pointer (some a), .int .u64 409])).run Tryz.prog w = .ok (some (216, a, 409)) w := by kernel_rfl
theorem Tryz.asparts25 (a : Addr) (w : World) : (ReflectliteValue.parts (.agg #[.pointer (some ⟨3, 216, none⟩), .pointer (some a), .int .u64 153])).run Tryz.prog w = .ok (some (216, a, 153)) w := by kernel_rfl
theorem Tryz.asdirect25 (w : World) : (Rtype.directlyAssignable 216 216).run Tryz.prog w = .ok true w := by kernel_rfl
theorem Tryz.assize25 (w : World) : (sizeOf 216).run Tryz.prog w = .ok 1 w := by kernel_rfl
/-- (Value).Set: the error variable at 'ta' gets what the Value's own variable 'b' holds. -/
theorem Tryz.asset25 (ta b : Addr) (n : Int) (old : Value) (W : World) (hb : W.cell? b = some (.int .i64 n)) (ht : W.cell? ta = some old) (hf : W.frozen? ta = false) :
    (ReflectliteValue.set #[.agg #[.pointer (some ⟨3, 216, none⟩), .pointer (some ta), .int .u64 409], .agg #[.pointer (some ⟨3, 216, none⟩), .pointer (some b), .int .u64 153]]).run Tryz.prog W
      = .ok (.tuple #[]) (W.setCell ta (.int .i64 n)) := by
  have hl : (loadCells b 1).run Tryz.prog W = .ok #[.int .i64 n] W := run_loadCells_list W b [Value.int .i64 n] (fun j v hj => by
    cases j with
    | zero => simp at hj; subst hj; simpa [Addr.add] using hb
    | succ j => simp at hj)
  have hs : (storeVar 216 ta (.agg #[.int .i64 n])).run Tryz.prog W = .ok () (W.setCell ta (.int .i64 n)) := by
    simp [storeVar, Value.cells, storeCells, Addr.add, Result.andThen]
    rw [run_store Tryz.prog W ta _ _ (by rfl)]
    simp [ht, hf]
  rw [rls]
  simp only [Sem.run_bind, Tryz.asparts25a, Tryz.asparts25, Result.andThen]
  simp [ReflectliteValue.flagAddr, loadVar, isAgg, underlying, Tryz.underlying216, hl, Result.andThen, Tryz.asdirect25, hs]

set_option maxRecDepth 100000 in
set_option maxHeartbeats 4000000 in
theorem as_hit (t : Addr) (n : Int) (old : Value) (w : World) (hg : w.cell? ⟨0, 0, none⟩ = some (.iface 292 (.agg #[.pointer (some ⟨3, 179, none⟩)]))) (ht0 : w.cell? t = some old) (hf0 : w.frozen? t = false) :
    Calls Tryz.prog 175 #[.iface 216 (.agg #[.int .i64 n]), .iface 218 (.pointer (some t))] w fun ev w' => ev = .returned (.bool true) ∧ w' = ((((w.alloc (.cells #[.pointer (some t)] 218)).alloc (.cells #[.pointer (some ⟨3, 218, none⟩), .pointer (some ⟨w.heap.size, 0, none⟩), .int .u64 150] 261)).alloc (.cells #[.pointer (some ⟨3, 218, none⟩), .pointer (some ⟨w.heap.size, 0, none⟩), .int .u64 150] 261)).alloc (.cells #[.int .i64 n] 216)).setCell t (.int .i64 n) := by
  have h6 := @run_callFunc_extern Tryz.prog 218 _ (fun args => ReflectliteValue.unpack (args.getD 0 (.tuple #[]))) Tryz.func218 (by kernel_rfl) (by kernel_rfl) (by kernel_rfl) (by kernel_rfl)
  have h7 := @run_callFunc_extern Tryz.prog 219 _ (ReflectliteValue.methodAny (ReflectliteValue.valueError "reflectlite.Value.Type" 0) (fun t _ _ _ => ReflectliteType.toType t)) Tryz.func219 (by kernel_rfl) (by kernel_rfl) (by kernel_rfl) (by kernel_rfl)
  have h8 := @run_callFunc_extern Tryz.prog 220 _ (ReflectliteValue.method (ReflectliteValue.valueError "reflectlite.Value.IsNil" 0) ReflectliteValue.isNil) Tryz.func220 (by kernel_rfl) (by kernel_rfl) (by kernel_rfl) (by kernel_rfl)
  have h27 := @run_callFunc_extern Tryz.prog 296 _ (ReflectliteType.abiMethod fun t => do pure (.int .u8 (← Rtype.kind t))) Tryz.func296 (by kernel_rfl) (by kernel_rfl) (by kernel_rfl) (by kernel_rfl)
  have h37 := @run_callFunc_extern Tryz.prog 322 _ (ReflectliteType.method ReflectliteType.elem) Tryz.func322 (by kernel_rfl) (by kernel_rfl) (by kernel_rfl) (by kernel_rfl)
  have h38 := @run_callFunc_extern Tryz.prog 323 _ (ReflectliteType.relation "Implements" ReflectliteType.implements_) Tryz.func323 (by kernel_rfl) (by kernel_rfl) (by kernel_rfl) (by kernel_rfl)
  have h10 := @run_callFunc_extern Tryz.prog 247 _ ReflectliteType.typeOf Tryz.func247 (by kernel_rfl) (by kernel_rfl) (by kernel_rfl) (by kernel_rfl)
  have h35 := @run_callFunc_extern Tryz.prog 320 _ (ReflectliteType.relation "AssignableTo" ReflectliteType.assignableTo) Tryz.func320 (by kernel_rfl) (by kernel_rfl) (by kernel_rfl) (by kernel_rfl)
  have h11 := @run_callFunc_extern Tryz.prog 248 _ (ReflectliteValue.method (ReflectliteValue.valueError "reflectlite.Value.Elem" 0) ReflectliteValue.elem) Tryz.func248 (by kernel_rfl) (by kernel_rfl) (by kernel_rfl) (by kernel_rfl)
  have h12 := @run_callFunc_extern Tryz.prog 249 _ ReflectliteValue.set Tryz.func249 (by kernel_rfl) (by kernel_rfl) (by kernel_rfl) (by kernel_rfl)
  have tO := Tryz.astypeOf25
  have mA := Tryz.asmethodAssignableTo
  have a25 := Tryz.asassignable25
  have v25 := Tryz.asvalueOf25
  have f6 := Tryz.asvalueOf27
  have f7 := Tryz.astype27
  have mK := Tryz.asmethodKind
  have mE := Tryz.asmethodElem
  have mI := Tryz.asmethodImplements
  have k27 := Tryz.askind27
  have k25 := Tryz.askind25
  have e27 := Tryz.aselem27
  have i25 := Tryz.asimplements25
  have n8 := Tryz.asisNil27 ⟨w.heap.size, 0, none⟩ t ((w.alloc (.cells #[.pointer (some t)] 218)).alloc (.cells #[.pointer (some ⟨3, 218, none⟩), .pointer (some ⟨w.heap.size, 0, none⟩), .int .u64 150] 261)) (by simp)
  have hlt : 0 < w.heap.size := by
    rcases Nat.eq_zero_or_pos w.heap.size with h0 | h
    · simp [World.cell?, h0] at hg
    · exact h
  have hg2 : ((w.alloc (.cells #[.pointer (some t)] 218)).alloc (.cells #[.pointer (some ⟨3, 218, none⟩), .pointer (some ⟨w.heap.size, 0, none⟩), .int .u64 150] 261)).cell? ⟨0, 0, none⟩ = some (.iface 292 (.agg #[.pointer (some ⟨3, 179, none⟩)])) := by
    rw [World.cell?_alloc_lt _ _ ⟨0, 0, none⟩ (by simp), World.cell?_alloc_lt _ _ ⟨0, 0, none⟩ hlt]; exact hg
  have htl : t.block < w.heap.size := by
    rcases Nat.lt_or_ge t.block w.heap.size with h | h
    · exact h
    · simp [World.cell?, Array.getElem?_eq_none h] at ht0
  have el := Tryz.aselemV27 ⟨w.heap.size, 0, none⟩ t (((w.alloc (.cells #[.pointer (some t)] 218)).alloc (.cells #[.pointer (some ⟨3, 218, none⟩), .pointer (some ⟨w.heap.size, 0, none⟩), .int .u64 150] 261)).alloc (.cells #[.pointer (some ⟨3, 218, none⟩), .pointer (some ⟨w.heap.size, 0, none⟩), .int .u64 150] 261)) (by rw [World.cell?_alloc_lt _ _ ⟨w.heap.size, 0, none⟩ (by simp; omega)]; simp)
  have st := Tryz.asset25 t ⟨w.heap.size + 1 + 1 + 1, 0, none⟩ n old ((((w.alloc (.cells #[.pointer (some t)] 218)).alloc (.cells #[.pointer (some ⟨3, 218, none⟩), .pointer (some ⟨w.heap.size, 0, none⟩), .int .u64 150] 261)).alloc (.cells #[.pointer (some ⟨3, 218, none⟩), .pointer (some ⟨w.heap.size, 0, none⟩), .int .u64 150] 261)).alloc (.cells #[.int .i64 n] 216))
    (by rw [World.cell?_alloc_at _ _ _ _ (by simp)]; rfl)
    (by rw [World.cell?_alloc_lt _ _ t (by simp; omega), World.cell?_alloc_lt _ _ t (by simp; omega), World.cell?_alloc_lt _ _ t (by simp; omega), World.cell?_alloc_lt _ _ t htl]; exact ht0)
    (by rw [World.frozen?_alloc_old _ _ t (by simp; omega), World.frozen?_alloc_old _ _ t (by simp; omega), World.frozen?_alloc_old _ _ t (by simp; omega), World.frozen?_alloc_old _ _ t (Nat.ne_of_lt htl)]; exact hf0)
  go_enter Tryz.func175, Tryz.ntmps175
  go_wp2
  refine wp_loop_rounds 1 ?_
  rw [rounds_succ]
  go_wp2
  go_ret
  exact ⟨rfl, rfl⟩
end Go.Proofs.YtbajncpfmemdgaaGreatDoor
namespace Go.Proofs.YtbajncpfmemdgaaGreatDoor
open Go.RowKit Go.Extern.Stop Go.Stop Go.Extern

theorem number_nil (w : World) : Calls Tryz.prog 133 #[.nilIface] w fun e w' => e = .returned (.int .i64 0) ∧ Below w.heap.size w w' := by
  go_enter Tryz.func133, Tryz.ntmps133
  go_wp2_with (first | (go_at_call 175; refine (as_nil _ _).mono ?_; rintro e w' ⟨rfl, rfl⟩))
  go_ret
  exact ⟨rfl, (Below.refl _ _).alloc (Nat.le_refl _) _⟩
set_option maxRecDepth 100000 in
set_option maxHeartbeats 4000000 in
theorem number_hit (n : Int) (w : World) (hg : w.cell? ⟨0, 0, none⟩ = some (.iface 292 (.agg #[.pointer (some ⟨3, 179, none⟩)]))) :
    Calls Tryz.prog 133 #[.iface 216 (.agg #[.int .i64 n])] w fun e w' => e = .returned (.int .i64 n) ∧ Below w.heap.size w w' := by
  have hlt : 0 < w.heap.size := by
    rcases Nat.eq_zero_or_pos w.heap.size with h0 | h
    · simp [World.cell?, h0] at hg
    · exact h
  have hgA : (w.alloc (.cells #[.int .i64 0] 216)).cell? ⟨0, 0, none⟩ = some (.iface 292 (.agg #[.pointer (some ⟨3, 179, none⟩)])) := by
    rw [World.cell?_alloc_lt _ _ ⟨0, 0, none⟩ hlt]; exact hg
  have htA : (w.alloc (.cells #[.int .i64 0] 216)).cell? ⟨w.heap.size, 0, none⟩ = some (.int .i64 0) := by simp
  have hfA : (w.alloc (.cells #[.int .i64 0] 216)).frozen? ⟨w.heap.size, 0, none⟩ = false := by simp
  go_enter Tryz.func133, Tryz.ntmps133
  go_wp2_with (first | (go_at_call 175; refine (as_hit _ _ (.int .i64 0) _ hgA htA hfA).mono ?_; rintro e w' ⟨rfl, rfl⟩))
  go_ret
  refine ⟨rfl, ?_⟩
  repeat (first | exact Below.refl _ _ | refine Below.alloc ?_ (by simp; try omega) _)
end Go.Proofs.YtbajncpfmemdgaaGreatDoor
namespace Go.Proofs.YtbajncpfmemdgaaGreatDoor
open Go Go.Ev

/-- The variable errors.errorType is laid. -/
class ErrT [Env] : Prop where
  h : ((0, 0, .iface 292 (.agg #[.pointer (some ⟨3, 179, none⟩)])) : Nat × Nat × Value) ∈ Env.laid
theorem enter133 (args : Array Value) (w : World) : (callFunc 133 args).run Tryz.prog w = .ok (.enter 133 args) w := callFunc_run (fn := Tryz.f133) (by kernel_rfl) (by unfold Tryz.f133; rfl) (by kernel_rfl) args
section
variable [Env] {σ : St}
theorem S133_nil : CallS Tryz.prog 133 [.niliface] (fun v σ' => v = .int .i64 0 ∧ σ' = σ) σ :=
  CallS.of_calls ⟨_, rfl⟩ fun ρ w vs' hr hv => by
    cases hv with
    | cons h hl => cases hl; cases h; exact ⟨enter133 _ _, (number_nil w).mono fun e w' hx => ⟨_, _, rfl, hx.1, .int _ _, hx.2⟩⟩
theorem S133_hit [ErrT] {n : Int} : CallS Tryz.prog 133 [.iface 216 (.agg [.int .i64 n])] (fun v σ' => v = .int .i64 n ∧ σ' = σ) σ :=
  CallS.of_calls ⟨_, rfl⟩ fun ρ w vs' hr hv => by
    cases hv with
    | cons h hl =>
      cases hl
      cases h with
      | iface h =>
        cases h with
        | agg h =>
          cases h with
          | cons h hl =>
            cases hl; cases h
            exact ⟨enter133 _ _, (number_hit n w (hr.imm _ _ _ (hr.laid _ ErrT.h)).1).mono fun e w' hx => ⟨_, _, rfl, hx.1, .int _ _, hx.2⟩⟩
end
end Go.Proofs.YtbajncpfmemdgaaGreatDoor
