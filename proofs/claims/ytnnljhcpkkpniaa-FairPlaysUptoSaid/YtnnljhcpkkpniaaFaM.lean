/- fair, part M: what comes in: calls (Op). -/
import Derived.Test.YtnnljhcpkkpniaaFaK
import Derived.Test.YtnnljhcpkkpniaaPmSb
set_option linter.unusedVariables false
set_option linter.unusedSimpArgs false
set_option maxRecDepth 100000
namespace Go.Proofs.Ytnnljhcpkkpniaa.Fa
open Go Go.RowKit Go.Proofs.Ytnnljhcpkkpniaa.Pm Go.Proofs.Ytnnljhcpkkpniaa.Fs

structure OpS where
  k : Int
  nm : List UInt8
  w : Int
  j : Jb
def opC (o : OpS) : List Value := opL o.k (strB o.nm) o.w o.j.id o.j.cost
def i64B (x : Int) : Prop := -9223372036854775808 ≤ x ∧ x < 9223372036854775808
structure OpS.Fit (K : Nat) (o : OpS) : Prop where
  k : i64B o.k
  nm : o.nm.length ≤ K
  w : i64B o.w
  id : i64B o.j.id
  cost : i64B o.j.cost
def jbT : Ty := .cons 1 (.int .i64) (.cons 1 (.int .i64) .nil)
def opT : Ty := .cons 1 (.int .i64) (.cons 1 .str (.cons 1 (.int .i64) (.cons 2 jbT .nil)))
theorem Sh.op {h : VH} {vs : List Value} {k : Nat} (H : Sh h opT vs k) : ∃ o : OpS, vs = opC o ∧ o.Fit k ∧ 1 ≤ k := by
  obtain ⟨v1, r1, k1, l1, rfl, hl1, s1, ⟨v2, r2, k2, l2, rfl, hl2, s2, ⟨v3, r3, k3, l3, rfl, hl3, s3, ⟨v4, r4, k4, l4, rfl, hl4, s4, ⟨rfl, e5⟩, e4⟩, e3⟩, e2⟩, e1⟩ := H
  obtain ⟨v5, r5, k5, l5, rfl, hl5, s5, ⟨v6, r6, k6, l6, rfl, hl6, s6, ⟨rfl, e7⟩, e8⟩, e9⟩ := s4
  obtain ⟨w2, rfl⟩ := list_one hl2
  obtain ⟨a, rfl, a1, a2, ha⟩ := Sh.i64 s1
  obtain ⟨t, rfl, ht⟩ := Sh.str s2
  obtain ⟨b, rfl, b1, b2, hb⟩ := Sh.i64 s3
  obtain ⟨c, rfl, c1, c2, hc⟩ := Sh.i64 s5
  obtain ⟨d, rfl, d1, d2, hd⟩ := Sh.i64 s6
  exact ⟨⟨a, t, b, ⟨c, d⟩⟩, rfl, ⟨⟨a1, a2⟩, by show t.length ≤ k; omega, ⟨b1, b2⟩, ⟨c1, c2⟩, ⟨d1, d2⟩⟩, by omega⟩
theorem OpS.Fit.mono {K K' : Nat} (h : K ≤ K') {o : OpS} (f : o.Fit K) : o.Fit K' := ⟨f.k, Nat.le_trans f.nm h, f.w, f.id, f.cost⟩
theorem Sh.ops {h : VH} {v : Value} {k : Nat} (H : Sh h (.sl 5 opT) [v] k) : ∃ l : List OpS, RowsAt h 5 v (l.map opC) ∧ (∀ o ∈ l, o.Fit k) ∧ l.length ≤ k :=
  Sh.decoded opC _ H (fun vs k' hs hk => let ⟨o, h1, h2, h3⟩ := Sh.op hs; ⟨o, h1, h2.mono hk, h3⟩)
theorem nil_law {h : VH} {us : List Value} {k : Nat} (H : ShA h [opT] us k) (hk : k ≤ 1048576) :
    PCalls Try.prog f_law20_FairNil us h (fun u h' => u = .bool true ∧ h' = h) := by
  obtain ⟨v, r, k1, k2, rfl, ⟨cs, rfl, hcs⟩, ⟨rfl, _⟩, h6⟩ := H
  obtain ⟨o, rfl, _⟩ := Sh.op hcs
  exact (nil_ok'.mono fun u _ e => by subst e; exact ⟨rfl, rfl⟩).drop
end Go.Proofs.Ytnnljhcpkkpniaa.Fa
