/- The pure machine, part Sa: what came in, read: bytes, strings, numbers, rows. -/
import Derived.Test.YtdnkpgbggpbgaaaPmS
import Derived.Test.YtdnkpgbggpbgaaaPmZa
set_option linter.unusedVariables false
set_option linter.unusedSimpArgs false
namespace Go.Proofs.Ytdnkpgbggpbgaaa.Pm
open Go.RowKit

theorem u8_of_wf {n : Int} (h : (Lit.int .u8 n).wf = true) : ∃ b : UInt8, n = (b.toNat : Int) := by
  have := wf_u8 h
  exact ⟨UInt8.ofNat n.toNat, (byteOf_toNat this).symm⟩
theorem wf_i64 {n : Int} (h : (Lit.int .i64 n).wf = true) : -9223372036854775808 ≤ n ∧ n < 9223372036854775808 := by
  simp [Lit.wf] at h
  have h1 : IntKind.i64.min = -9223372036854775808 := rfl
  have h2 : IntKind.i64.max = 9223372036854775807 := rfl
  omega
theorem wf_u64 {n : Int} (h : (Lit.int .u64 n).wf = true) : 0 ≤ n ∧ n < 18446744073709551616 := by
  simp [Lit.wf] at h
  have h1 : IntKind.u64.min = 0 := rfl
  have h2 : IntKind.u64.max = 18446744073709551615 := rfl
  omega
/-- rows of single bytes. -/
theorem bytes_rows {h : VH} : ∀ (es : List (List Value × Nat)), (∀ x ∈ es, x.1.length = 1 ∧ Sh h (.int .u8) x.1 x.2) → ∃ bs : List UInt8, (es.map (·.1)).flatten = u8s bs ∧ bs.length = es.length ∧ (es.map (·.2)).sum = es.length
  | [], _ => ⟨[], rfl, rfl, rfl⟩
  | x :: es, hx => by
    obtain ⟨bs, h1, h2, h3⟩ := bytes_rows es (fun y hy => hx y (List.mem_cons_of_mem _ hy))
    obtain ⟨n, hn, hw, hk⟩ := (hx x (List.mem_cons_self ..)).2
    obtain ⟨b, rfl⟩ := u8_of_wf hw
    refine ⟨b :: bs, ?_, by simp [h2], ?_⟩
    · simp only [List.map_cons, List.flatten_cons, h1, hn]; rfl
    · simp only [List.map_cons, List.sum_cons, List.length_cons, h3, hk]; omega
/-- a slice of bytes that came in. -/
theorem Sh.bytes {h : VH} {v : Value} {k : Nat} (H : Sh h (.sl 1 (.int .u8)) [v] k) : ∃ bs, IsBytes h v bs ∧ bs.length + 1 ≤ k := by
  rcases H with ⟨h1, rfl⟩ | ⟨i, n, c, cs, ow, es, h1, h2, h3, h4, h5, h6, h7, h8⟩
  · injection h1 with h1 _
    subst h1
    exact ⟨[], .inl ⟨rfl, rfl⟩, by simp⟩
  · injection h1 with h1 _
    subst h1
    obtain ⟨bs, b1, b2, b3⟩ := bytes_rows es h7
    have hl : (bs.take n).length = n := by simp; omega
    refine ⟨bs.take n, .inr ⟨i, 0, c, cs, ow, ⟨h3, by omega⟩, by rw [hl], h4, ?_, ?_⟩, by omega⟩
    · rw [hl, h6, b1]; simp [u8s]; omega
    · rw [hl, h6, b1]; simp [u8s, List.map_take]
theorem Sh.str {h : VH} {v : Value} {k : Nat} (H : Sh h .str [v] k) : ∃ s, v = .string (strB s) ∧ s.length + 1 ≤ k := by
  obtain ⟨s, h1, _, h2⟩ := H
  injection h1 with h1 _
  refine ⟨s.data.toList, by rw [strB_of]; exact h1, ?_⟩
  have : s.data.toList.length = s.size := Array.length_toList
  omega
theorem Sh.i64 {h : VH} {vs : List Value} {k : Nat} (H : Sh h (.int .i64) vs k) : ∃ n, vs = [.int .i64 n] ∧ -9223372036854775808 ≤ n ∧ n < 9223372036854775808 ∧ k = 1 := by
  obtain ⟨n, h1, h2, h3⟩ := H
  have := wf_i64 h2
  exact ⟨n, h1, this.1, this.2, h3⟩
theorem Sh.u64 {h : VH} {vs : List Value} {k : Nat} (H : Sh h (.int .u64) vs k) : ∃ n : Nat, vs = [.int .u64 (n : Int)] ∧ n < 18446744073709551616 ∧ k = 1 := by
  obtain ⟨n, h1, h2, h3⟩ := H
  have := wf_u64 h2
  obtain ⟨m, rfl⟩ := Int.eq_ofNat_of_zero_le this.1
  exact ⟨m, h1, by omega, h3⟩
theorem Sh.b {h : VH} {vs : List Value} {k : Nat} (H : Sh h .bool vs k) : ∃ b, vs = [.bool b] ∧ k = 1 := H
theorem list_one {vs : List Value} (h : vs.length = 1) : ∃ v, vs = [v] := by
  match vs, h with
  | [v], _ => exact ⟨v, rfl⟩
end Go.Proofs.Ytdnkpgbggpbgaaa.Pm
