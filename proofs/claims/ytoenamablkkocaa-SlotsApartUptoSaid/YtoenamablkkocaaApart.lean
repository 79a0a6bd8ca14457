/- WHAT IS PROVED: 'SlotsApart' returns true, and its arguments read as they did, where what it is handed is of bulk at most 1048576 ('Rows.SlotsApartUptoSaid'). -/
import Derived.Test.YtoenamablkkocaaRows
import Derived.Test.YtoenamablkkocaaPmS
import Derived.Test.YtoenamablkkocaaSlP
namespace Go.Proofs.Ytoenamablkkocaa.slotsApart
open Go.ChangeShapes Go.WideShapes Go.ChangeAt Go.RowKit
open Go.Proofs.Ytoenamablkkocaa.Pm
set_option linter.unusedSimpArgs false
set_option linter.unusedVariables false

theorem own : ownKnob Try.prog.godebug = none := by kernel_rfl
theorem laidOut : laidOutB Try.prog = true := by kernel_rfl
def tys : List Ty := [.str, (.sl 5 (.cons 1 (.int .i64) (.cons 1 .str (.cons 1 (.int .i64) (.cons 2 (.cons 1 (.int .i64) (.cons 1 (.int .i64) .nil)) .nil))))), (.sl 5 (.cons 1 (.int .i64) (.cons 1 .str (.cons 1 (.int .i64) (.cons 2 (.cons 1 (.int .i64) (.cons 1 (.int .i64) .nil)) .nil)))))]
theorem typed : tysOf Try.prog 9 Try.f3.params.toList = some tys := by kernel_rfl

set_option maxRecDepth 100000 in
theorem lifted (os : Os) (started : os.Started) (H : Type) (enc : TypeId × Value → H) (F : Stop.Interp) :
    ReturnsInHanded {} Try.checked os 3 .any ((Rows.OpenSpec.upto Rows.slotsApartSpec).pre6 enc Try.prog Try.f3 Rows.slotsApartUptoRow.domain false) (((Rows.OpenSpec.upto Rows.slotsApartSpec).at F).post enc Try.prog Try.f3 false true false false) := by
  refine returnsInHanded_of_cond (C := Try.checked) (s := Rows.OpenSpec.upto Rows.slotsApartSpec) (k := Rows.uptoSmall) rfl own started (by kernel_rfl) Try.func3
    (OpenSpec.witness (enc := enc) (C := Try.checked) (s := Rows.OpenSpec.upto Rows.slotsApartSpec) (k := Rows.uptoSmall) rfl false ⟨#[], #[.string ByteArray.empty, .slice none 0 0, .slice none 0 0], []⟩ 8 (by kernel_rfl) (by kernel_rfl) (by kernel_rfl)
      (x := ([.lit (.string []), .nil, .nil], [], [])) (by kernel_rfl) rfl (by kernel_rfl)) ?_
  intro W base args ds gs before hval0 hW hcnd hk _
  have hval : ∀ (j : Nat) t v, Try.f3.params[j]? = some t → args[j]? = some v → Value.okWide Try.prog W .any base t v := hval0
  have hval' : ∀ (j : Nat) t v, Try.f3.params.toList[j]? = some t → args.toList[j]? = some v → Value.okWide Try.prog W .any base t v := fun j t v hj hv => hval j t v (by simpa using hj) (by simpa using hv)
  have hW' := hW
  obtain ⟨p, q, hA0, hV, rfl, hfz, hnd⟩ := hW
  have hA0 : DataW.TrodAll enc Try.prog W 0 (fun _ => true) true Try.f3.params.toList args.toList ds p := hA0
  obtain ⟨rfl, rfl⟩ := trodVars_none hV
  have hk : Rows.uptoBulkAll _ ≤ 1048576 := of_decide_eq_true hk
  simp only [List.append_nil] at hk
  obtain ⟨m, h, us, k, _, S, _, hv, hsh, hkb⟩ := rd_all typed hA0 hval' (In0.empty W)
  have hA := hA0
  rw [Try.params3] at hA
  obtain ⟨v0, vs0, d0, ds0, p0, q0, e0, rfl, rfl, h0, r0⟩ := trodAll_cons hA
  obtain ⟨v1, vs1, d1, ds1, p1, q1, e1, rfl, rfl, h1, r1⟩ := trodAll_cons r0
  obtain ⟨v2, vs2, d2, ds2, p2, q2, e2, rfl, rfl, h2, r2⟩ := trodAll_cons r1
  obtain ⟨_, rfl, rfl⟩ := trodAll_nil r2
  refine (calls_of S hv (u := .bool true) rfl (Sl.apart_law hsh (by omega))).mono fun e W' ⟨he, bel⟩ => ?_
  subst he
  have hB := trodAll_below laidOut bel (by kernel_rfl) hA0
  exact ⟨_, rfl, _, _, _, [], _, [], hW', trodAll_mk1 (shut_bool (by kernel_rfl) _), hB, rfl, bel.frame _, fun h => by cases h⟩

theorem over : Rows.slotsApartUptoRow.holds Try.pinned (Rows.OpenSpec.upto Rows.slotsApartSpec) :=
  OpenClaim.holds_of_cond 3 Try.f3 rfl rfl rfl rfl rfl rfl rfl ⟨rfl, rfl, rfl, rfl, rfl⟩ rfl rfl rfl rfl rfl (by kernel_rfl) Try.func3 (by kernel_rfl)
    (of_decide_eq_true (by kernel_rfl)) (by unfold Func.isWrapper; first | (rw [if_pos (by decide +kernel)]; kernel_rfl) | (rw [if_neg (by decide +kernel)]; exact ⟨rfl, rfl⟩))
    (fun os started H enc _ F => lifted os started H enc F)

/-- ████ THE STATEMENT ████ -/
theorem proved : Rows.SlotsApartUptoSaid := over
#print axioms proved
end Go.Proofs.Ytoenamablkkocaa.slotsApart
