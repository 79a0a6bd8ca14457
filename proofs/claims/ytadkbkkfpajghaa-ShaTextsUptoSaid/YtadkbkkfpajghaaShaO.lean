/- SHA-256, part O: text read as digests. -/
import Derived.Test.YtadkbkkfpajghaaShaM
import Derived.Laws.RangeString
set_option linter.unusedVariables false
set_option linter.unusedSimpArgs false
set_option maxRecDepth 100000
namespace Go.Proofs.Ytadkbkkfpajghaa.Sha
open Go Go.RowKit Go.Proofs.Ytadkbkkfpajghaa.Pm Go.Proofs.Ytadkbkkfpajghaa.Fs

/-- a digit's number, or -1. -/
def dg (c : UInt8) : Int := if 48 ≤ c.toNat ∧ c.toNat ≤ 57 then (c.toNat : Int) - 48 else if 97 ≤ c.toNat ∧ c.toNat ≤ 102 then (c.toNat : Int) - 87 else if 65 ≤ c.toNat ∧ c.toNat ≤ 70 then (c.toNat : Int) - 55 else -1
theorem dg_lt (c : UInt8) : dg c < 16 := by unfold dg; split; omega; split; omega; split <;> omega
theorem dg_ascii {c : UInt8} (h : 0 ≤ dg c) : c.toNat < 128 := by
  unfold dg at h
  split at h
  · omega
  · split at h
    · omega
    · split at h
      · omega
      · omega
def isI (k : IntKind) (n : Int) : Option Value → Bool
  | some (.int k' m) => decide (k' = k) && decide (m = n)
  | _ => false
theorem isI_eq {k : IntKind} {n : Int} : ∀ {r : Option Value}, isI k n r = true → r = some (.int k n)
  | some (.int k' m), h => by simp [isI] at h; rw [h.1, h.2]
  | none, h => by simp [isI] at h
  | some (.bool _), h | some (.string _), h | some (.float _ _), h | some (.complex ..), h | some (.pointer _), h | some (.slice ..), h | some (.map _), h | some (.func ..), h | some .nilFunc, h | some (.chan _), h | some (.iface ..), h | some .nilIface, h | some (.agg _), h | some (.tuple _), h => by simp [isI] at h
def isT (n : Int) (b : Bool) : Option Value → Bool
  | some (.tuple a) => match a.toList with
    | [.int k m, .bool c] => decide (k = .u8) && decide (m = n) && decide (c = b)
    | _ => false
  | _ => false
theorem isT_eq {n : Int} {b : Bool} {r : Option Value} (h : isT n b r = true) : r = some (.tuple #[.int .u8 n, .bool b]) := by
  unfold isT at h
  split at h
  · rename_i a
    split at h
    · rename_i k m c ha
      simp only [Bool.and_eq_true, decide_eq_true_eq] at h
      obtain ⟨⟨rfl, rfl⟩, rfl⟩ := h
      rw [← Array.toArray_toList (xs := a), ha]
    · cases h
  · cases h
theorem dig_runs : ∀ c : Fin 256, isT (if 0 ≤ dg (UInt8.ofNat c.val) then dg (UInt8.ofNat c.val) else 0) (decide (0 ≤ dg (UInt8.ofNat c.val))) (runF GA 200 f_sha_digit [.int .u8 c.val] VH.empty) = true := by decide +kernel
theorem rdig_runs : ∀ c : Fin 256, isI .i64 (dg (UInt8.ofNat c.val)) (runF GA 200 f_ref03_digit [.int .u8 c.val] VH.empty) = true := by decide +kernel
theorem digit_ok (c : UInt8) (h : VH) : PCalls Try.prog f_sha_digit [.int .u8 c.toNat] h (fun u h' => u = .tuple #[.int .u8 (if 0 ≤ dg c then dg c else 0), .bool (decide (0 ≤ dg c))] ∧ h' = h) := by
  have := isT_eq (dig_runs ⟨c.toNat, c.toNat_lt⟩)
  simp only [UInt8.ofNat_toNat] at this
  exact run_alone GA_ok this rfl rfl h
theorem rdigit_ok (c : UInt8) (h : VH) : PCalls Try.prog f_ref03_digit [.int .u8 c.toNat] h (fun u h' => u = .int .i64 (dg c) ∧ h' = h) := by
  have := isI_eq (rdig_runs ⟨c.toNat, c.toNat_lt⟩)
  simp only [UInt8.ofNat_toNat] at this
  exact run_alone GA_ok this rfl rfl h
end Go.Proofs.Ytadkbkkfpajghaa.Sha
