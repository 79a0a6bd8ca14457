/- disk, part E: errors.Is and errors.As at a fault (the world's own level; after the kit's Sentry and Toyas). -/
import Derived.Test.YtgnmhonbcejnfaaGreatDoorProg
import Derived.WalkKit
import Derived.LaidEql
import Derived.Stop.Asserts
import Derived.RowKitTokens
set_option linter.unusedVariables false
set_option linter.unusedSimpArgs false
set_option maxRecDepth 20000
set_option maxHeartbeats 2000000
namespace Go.Proofs.YtgnmhonbcejnfaaGreatDoor.Dk
open Go.RowKit Go.Extern.Stop Go.Stop Go.Extern

theorem e_typeOf (v : Value) (w : World) : (Extern.ReflectliteType.typeOf #[.iface 164 v]).run Tryz.prog w = .ok (.iface 127 (.agg #[.pointer (some ⟨2, 164, none⟩)])) w := by kernel_rfl
theorem e_comparable (w : World) : ((Extern.ReflectliteType.method fun t => do Rtype.noPackHeld "Comparable" t; (fun a => Value.bool a.comparable) <$> typeInfo t) #[.agg #[.pointer (some ⟨2, 164, none⟩)]]).run Tryz.prog w = .ok (.bool true) w := by kernel_rfl
theorem e_mComparable (v : Value) (w : World) : (Go.method 296 127 v "Comparable").run Tryz.prog w = .ok (116, v) w := by kernel_rfl
theorem e_mIs (v : Value) (w : World) : (Go.method 296 97 v "Is").run Tryz.prog w = .ok (110, v) w := by kernel_rfl
theorem e_comp : (Tryz.prog.info? 164).map (·.comparable) = some true := by kernel_rfl
theorem e_size : (Tryz.prog.info? 184).map (·.size) = some 1 := by kernel_rfl
theorem e_hasIs (v : Value) (xT : TypeId) (w : World) : (Instr.typeAssert (.iface 97 v) xT 129 true).run Tryz.prog w = .ok (.tuple #[.iface 97 v, .bool true]) w := run_typeAssert_hasB Tryz.underlying129 (by kernel_rfl) v xT w
theorem e_noUnwrap (v : Value) (xT : TypeId) (w : World) : (Instr.typeAssert (.iface 97 v) xT 132 true).run Tryz.prog w = .ok (.tuple #[.nilIface, .bool false]) w := run_typeAssert_lacksB Tryz.underlying132 (by kernel_rfl) (by kernel_rfl) v xT w
theorem e_noUnwraps (v : Value) (xT : TypeId) (w : World) : (Instr.typeAssert (.iface 97 v) xT 134 true).run Tryz.prog w = .ok (.tuple #[.nilIface, .bool false]) w := run_typeAssert_lacksB Tryz.underlying134 (by kernel_rfl) (by kernel_rfl) v xT w

/-- (*fault).Is at the sentinel. -/
theorem faultIs (pb po : Nat) (b : Addr) (k : Int) (w : World) (h0 : w.cell? ⟨0, 0, none⟩ = some (.iface 164 (.pointer (some b)))) (h1 : w.cell? ⟨pb, po + 1, none⟩ = some (.int .i64 k)) :
    Calls Tryz.prog 110 #[.pointer (some ⟨pb, po, none⟩), .iface 164 (.pointer (some b))] w fun e w' => e = .returned (.bool (decide (k = 5))) ∧ w' = w := by
  obtain ⟨i, hi, hcmp⟩ := Option.map_eq_some_iff.1 e_comp
  obtain ⟨j, hj, hjs⟩ := Option.map_eq_some_iff.1 e_size
  have heq := run_eql_iface_ptr_same (P := Tryz.prog) w b Tryz.underlying79 Tryz.underlying164 hi hcmp hj
  by_cases hk : k = 5
  · subst hk
    go_enter Tryz.func110, Tryz.ntmps110
    go_wp2
    go_ret
    exact ⟨rfl, rfl⟩
  · have hk2 : (k == 5) = false := by simpa using hk
    go_enter Tryz.func110, Tryz.ntmps110
    go_wp2
    go_ret
    exact ⟨by simp [hk], rfl⟩
/-- errors.Is(fault, the sentinel). -/
theorem is_fault (pb po : Nat) (b : Addr) (k : Int) (w : World) (h0 : w.cell? ⟨0, 0, none⟩ = some (.iface 164 (.pointer (some b)))) (h1 : w.cell? ⟨pb, po + 1, none⟩ = some (.int .i64 k)) :
    Calls Tryz.prog 55 #[.iface 97 (.pointer (some ⟨pb, po, none⟩)), .iface 164 (.pointer (some b))] w fun e w' => e = .returned (.bool (decide (k = 5))) ∧ w' = w := by
  have h64 := @run_callFunc_extern Tryz.prog 62 _ Extern.ReflectliteType.typeOf Tryz.func62 (by kernel_rfl) (by kernel_rfl) (by kernel_rfl) (by kernel_rfl)
  have h118 := @run_callFunc_extern Tryz.prog 116 _ (Extern.ReflectliteType.method fun t => do Rtype.noPackHeld "Comparable" t; pure (.bool (← typeInfo t).comparable)) Tryz.func116 (by kernel_rfl) (by kernel_rfl) (by kernel_rfl) (by kernel_rfl)
  have tT := e_typeOf
  have cT := e_comparable
  have mR := e_mComparable
  have mI := e_mIs
  have aI := e_hasIs
  have uE := e_noUnwrap
  have vE := e_noUnwraps
  have hty := run_eql_iface_types (P := Tryz.prog) 97 164 (.pointer (some ⟨pb, po, none⟩)) (.pointer (some b)) Tryz.underlying79 (by decide) w
  have hpk : (Rtype.noPackHeld "Comparable" 164).run Tryz.prog w = .ok () w := by kernel_rfl
  obtain ⟨i, hi, hcmp⟩ := Option.map_eq_some_iff.1 e_comp
  obtain ⟨j, hj, hjs⟩ := Option.map_eq_some_iff.1 e_size
  have heq := run_eql_iface_ptr_same (P := Tryz.prog) w b Tryz.underlying79 Tryz.underlying164 hi hcmp hj
  by_cases hk : k = 5
  · subst hk
    go_enter Tryz.func55, Tryz.ntmps55
    go_wp2
    refine wp_loop_rounds 1 ?_
    rw [rounds_succ]
    go_wp2
    go_ret
    exact ⟨rfl, rfl⟩
  · have hk2 : (k == 5) = false := by simpa using hk
    go_enter Tryz.func55, Tryz.ntmps55
    go_wp2
    refine wp_loop_rounds 1 ?_
    rw [rounds_succ]
    go_wp2
    go_ret
    exact ⟨by simp [hk], rfl⟩
end Go.Proofs.YtgnmhonbcejnfaaGreatDoor.Dk
