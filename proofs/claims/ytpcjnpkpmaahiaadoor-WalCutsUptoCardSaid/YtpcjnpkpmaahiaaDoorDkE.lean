/- disk, part E: errors.Is and errors.As at a fault (the world's own level; after the kit's Sentry and Toyas). -/
import Derived.Test.YtpcjnpkpmaahiaaDoorProg
import Derived.WalkKit
import Derived.LaidEql
import Derived.Stop.Asserts
import Derived.RowKitTokens
set_option linter.unusedVariables false
set_option linter.unusedSimpArgs false
set_option maxRecDepth 20000
set_option maxHeartbeats 2000000
namespace Go.Proofs.YtpcjnpkpmaahiaaDoor.Dk
open Go.RowKit Go.Extern.Stop Go.Stop Go.Extern

theorem e_typeOf (v : Value) (w : World) : (Extern.ReflectliteType.typeOf #[.iface 144 v]).run Tryd.prog w = .ok (.iface 129 (.agg #[.pointer (some ⟨2, 144, none⟩)])) w := by kernel_rfl
theorem e_comparable (w : World) : ((Extern.ReflectliteType.method fun t => do Rtype.noPackHeld "Comparable" t; (fun a => Value.bool a.comparable) <$> typeInfo t) #[.agg #[.pointer (some ⟨2, 144, none⟩)]]).run Tryd.prog w = .ok (.bool true) w := by kernel_rfl
theorem e_mComparable (v : Value) (w : World) : (Go.method 276 129 v "Comparable").run Tryd.prog w = .ok (93, v) w := by kernel_rfl
theorem e_mIs (v : Value) (w : World) : (Go.method 276 105 v "Is").run Tryd.prog w = .ok (87, v) w := by kernel_rfl
theorem e_comp : (Tryd.prog.info? 144).map (·.comparable) = some true := by kernel_rfl
theorem e_size : (Tryd.prog.info? 164).map (·.size) = some 1 := by kernel_rfl
theorem e_hasIs (v : Value) (xT : TypeId) (w : World) : (Instr.typeAssert (.iface 105 v) xT 131 true).run Tryd.prog w = .ok (.tuple #[.iface 105 v, .bool true]) w := run_typeAssert_hasB Tryd.underlying131 (by kernel_rfl) v xT w
theorem e_noUnwrap (v : Value) (xT : TypeId) (w : World) : (Instr.typeAssert (.iface 105 v) xT 134 true).run Tryd.prog w = .ok (.tuple #[.nilIface, .bool false]) w := run_typeAssert_lacksB Tryd.underlying134 (by kernel_rfl) (by kernel_rfl) v xT w
theorem e_noUnwraps (v : Value) (xT : TypeId) (w : World) : (Instr.typeAssert (.iface 105 v) xT 136 true).run Tryd.prog w = .ok (.tuple #[.nilIface, .bool false]) w := run_typeAssert_lacksB Tryd.underlying136 (by kernel_rfl) (by kernel_rfl) v xT w

/-- (*fault).Is at the sentinel. -/
theorem faultIs (pb po : Nat) (b : Addr) (k : Int) (w : World) (h0 : w.cell? ⟨0, 0, none⟩ = some (.iface 144 (.pointer (some b)))) (h1 : w.cell? ⟨pb, po + 1, none⟩ = some (.int .i64 k)) :
    Calls Tryd.prog 87 #[.pointer (some ⟨pb, po, none⟩), .iface 144 (.pointer (some b))] w fun e w' => e = .returned (.bool (decide (k = 5))) ∧ w' = w := by
  obtain ⟨i, hi, hcmp⟩ := Option.map_eq_some_iff.1 e_comp
  obtain ⟨j, hj, hjs⟩ := Option.map_eq_some_iff.1 e_size
  have heq := run_eql_iface_ptr_same (P := Tryd.prog) w b Tryd.underlying88 Tryd.underlying144 hi hcmp hj
  by_cases hk : k = 5
  · subst hk
    go_enter Tryd.func87, Tryd.ntmps87
    go_wp2
    go_ret
    exact ⟨rfl, rfl⟩
  · have hk2 : (k == 5) = false := by simpa using hk
    go_enter Tryd.func87, Tryd.ntmps87
    go_wp2
    go_ret
    exact ⟨by simp [hk], rfl⟩
/-- errors.Is(fault, the sentinel). -/
theorem is_fault (pb po : Nat) (b : Addr) (k : Int) (w : World) (h0 : w.cell? ⟨0, 0, none⟩ = some (.iface 144 (.pointer (some b)))) (h1 : w.cell? ⟨pb, po + 1, none⟩ = some (.int .i64 k)) :
    Calls Tryd.prog 57 #[.iface 105 (.pointer (some ⟨pb, po, none⟩)), .iface 144 (.pointer (some b))] w fun e w' => e = .returned (.bool (decide (k = 5))) ∧ w' = w := by
  have h64 := @run_callFunc_extern Tryd.prog 60 _ Extern.ReflectliteType.typeOf Tryd.func60 (by kernel_rfl) (by kernel_rfl) (by kernel_rfl) (by kernel_rfl)
  have h118 := @run_callFunc_extern Tryd.prog 93 _ (Extern.ReflectliteType.method fun t => do Rtype.noPackHeld "Comparable" t; pure (.bool (← typeInfo t).comparable)) Tryd.func93 (by kernel_rfl) (by kernel_rfl) (by kernel_rfl) (by kernel_rfl)
  have tT := e_typeOf
  have cT := e_comparable
  have mR := e_mComparable
  have mI := e_mIs
  have aI := e_hasIs
  have uE := e_noUnwrap
  have vE := e_noUnwraps
  have hty := run_eql_iface_types (P := Tryd.prog) 105 144 (.pointer (some ⟨pb, po, none⟩)) (.pointer (some b)) Tryd.underlying88 (by decide) w
  have hpk : (Rtype.noPackHeld "Comparable" 144).run Tryd.prog w = .ok () w := by kernel_rfl
  obtain ⟨i, hi, hcmp⟩ := Option.map_eq_some_iff.1 e_comp
  obtain ⟨j, hj, hjs⟩ := Option.map_eq_some_iff.1 e_size
  have heq := run_eql_iface_ptr_same (P := Tryd.prog) w b Tryd.underlying88 Tryd.underlying144 hi hcmp hj
  by_cases hk : k = 5
  · subst hk
    go_enter Tryd.func57, Tryd.ntmps57
    go_wp2
    refine wp_loop_rounds 1 ?_
    rw [rounds_succ]
    go_wp2
    go_ret
    exact ⟨rfl, rfl⟩
  · have hk2 : (k == 5) = false := by simpa using hk
    go_enter Tryd.func57, Tryd.ntmps57
    go_wp2
    refine wp_loop_rounds 1 ?_
    rw [rounds_succ]
    go_wp2
    go_ret
    exact ⟨by simp [hk], rfl⟩
end Go.Proofs.YtpcjnpkpmaahiaaDoor.Dk
