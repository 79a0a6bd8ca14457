/- SHA-256, part N: the laws, out of the shapes of their arguments. -/
import Derived.Test.YtadkbkkfpajghaaShaM
import Derived.Test.YtadkbkkfpajghaaPmS
set_option linter.unusedVariables false
set_option linter.unusedSimpArgs false
set_option maxRecDepth 100000
namespace Go.Proofs.Ytadkbkkfpajghaa.Sha
open Go Go.RowKit Go.Proofs.Ytadkbkkfpajghaa.Pm Go.Proofs.Ytadkbkkfpajghaa.Fs

theorem u8_of_wf {n : Int} (h : (Lit.int .u8 n).wf = true) : ∃ b : UInt8, n = (b.toNat : Int) := by
  have := wf_u8 h
  exact ⟨UInt8.ofNat n.toNat, (byteOf_toNat this).symm⟩
/-- rows of single bytes. -/
theorem bytes_rows {h : VH} : ∀ (es : List (List Value × Nat)), (∀ x ∈ es, x.1.length = 1 ∧ Sh h (.int .u8) x.1 x.2) → ∃ bs : List UInt8, (es.map (·.1)).flatten = u8s bs ∧ bs.length = es.length ∧ (es.map (·.2)).sum = es.length
  | [], _ => ⟨[], rfl, rfl, rfl⟩
  | x :: es, hx => by
    obtain ⟨bs, h1, h2, h3⟩ := bytes_rows es (fun y hy => hx y (List.mem_cons_of_mem _ hy))
    obtain ⟨n, hn, hw, hk⟩ := (hx x (List.mem_cons_self ..)).2
    obtain ⟨b, rfl⟩ := u8_of_wf hw
    refine ⟨b :: bs, ?_, by simp [h2], ?_⟩
    · simp only [List.map_cons, List.flatten_cons, h1, hn]; rfl
    · simp only [List.map_cons, List.sum_cons, List.length_cons, h3, hk]; omega
/-- a slice of bytes that came in. -/
theorem Sh.bytes {h : VH} {v : Value} {k : Nat} (H : Sh h (.sl 1 (.int .u8)) [v] k) : ∃ bs, IsBytes h v bs ∧ bs.length + 1 ≤ k := by
  rcases H with ⟨h1, rfl⟩ | ⟨i, n, c, cs, ow, es, h1, h2, h3, h4, h5, h6, h7, h8⟩
  · injection h1 with h1 _
    subst h1
    exact ⟨[], .inl ⟨rfl, rfl⟩, by simp⟩
  · injection h1 with h1 _
    subst h1
    obtain ⟨bs, b1, b2, b3⟩ := bytes_rows es h7
    have hl : (bs.take n).length = n := by simp; omega
    refine ⟨bs.take n, .inr ⟨i, 0, c, cs, ow, ⟨h3, by omega⟩, by rw [hl], h4, ?_, ?_⟩, by omega⟩
    · rw [hl, h6, b1]; simp [u8s]; omega
    · rw [hl, h6, b1]; simp [u8s, List.map_take]
/-- an array of bytes that came in. -/
theorem ShV.bytes {h : VH} {n : Nat} {v : Value} {k : Nat} (H : ShV h (.arr n 1 (.int .u8)) v k) : ∃ l : List UInt8, v = digV l ∧ l.length = n := by
  obtain ⟨cs, rfl, es, h1, h2, h3, h4⟩ := H
  obtain ⟨bs, b1, b2, b3⟩ := bytes_rows es h3
  exact ⟨bs, by rw [h2, b1]; rfl, by omega⟩

theorem sums_law {h : VH} {us : List Value} {k : Nat} (H : ShA h [.sl 1 (.int .u8), .arr 32 1 (.int .u8), .arr 32 1 (.int .u8)] us k) (hk : k ≤ 1048576) :
    PCalls Try.prog f_law03_ShaSums us h (fun u h' => u = .bool true ∧ h' = h) := by
  obtain ⟨v, r, k1, k2, rfl, h1, ⟨a, r2, k3, k4, rfl, h2, ⟨c, r3, k5, k6, rfl, h3, ⟨rfl, h4⟩, h5⟩, h6⟩, h7⟩ := H
  obtain ⟨bs, hb, hl⟩ := Sh.bytes h1
  obtain ⟨a, rfl, ha⟩ := ShV.bytes h2
  obtain ⟨c, rfl, hc⟩ := ShV.bytes h3
  exact sums_ok hb (by omega) ha hc
end Go.Proofs.Ytadkbkkfpajghaa.Sha
