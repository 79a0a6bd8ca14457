/- wal, part C: numbers are put, frames are made. -/
import Derived.Test.YtpcjnpkpmaahiaaDoorWaB
set_option linter.unusedVariables false
set_option linter.unusedSimpArgs false
set_option maxRecDepth 100000
namespace Go.Proofs.YtpcjnpkpmaahiaaDoor.Wa
open Go Go.RowKit Go.Proofs.YtpcjnpkpmaahiaaDoor.Pm Go.Proofs.YtpcjnpkpmaahiaaDoor.Fs
attribute [-simp] BitVec.toNat_or BitVec.toNat_xor BitVec.toNat_add BitVec.toNat_and BitVec.toNat_not BitVec.toNat_shiftLeft BitVec.toNat_ushiftRight

/-- v, a row of bytes that is owned, has become u, of bytes l. -/
structure GrP (h h' : VH) (v u : Value) (l : List UInt8) : Prop where
  own : OwnP h' 1 u (u8s l) l.length
  fr : Fr h h' (idOf v)
  ids : ∀ i ∈ idOf u, i ∈ idOf v ∨ h.n ≤ i
theorem GrP.start {h : VH} {v : Value} {l : List UInt8} (hs : OwnP h 1 v (u8s l) l.length) : GrP h h v v l := ⟨hs, Fr.refl _ _, fun _ hi => .inl hi⟩
theorem GrP.trans {a b c : VH} {u v w : Value} {l m : List UInt8} (h : GrP a b u v l) (k : GrP b c v w m) : GrP a c u w m :=
  ⟨k.own, h.fr.trans' k.fr (fun y hy => h.ids y hy), fun i hi => (k.ids i hi).elim (fun e => h.ids i e) (fun e => .inr (Nat.le_trans h.fr.n e))⟩
theorem GrP.shape {h h' : VH} {v u : Value} {l : List UInt8} (k : GrP h h' v u l) : ∃ a c, u = .slice a l.length c := k.own.shape
theorem GrP.sh {h h' : VH} {v u : Value} {l : List UInt8} (k : GrP h h' v u l) : ∃ a n c, u = .slice a n c := by
  obtain ⟨a, c, rfl⟩ := k.shape
  exact ⟨_, _, _, rfl⟩
theorem GrP.step {h h' g : VH} {v u : Value} {l : List UInt8} (k : GrP h h' v u l) (hf : Fr h' g []) : GrP h g v u l :=
  ⟨k.own.fr hf (fun i _ => by simp), k.fr.trans (hf.sub (fun x hx => by simp at hx)), k.ids⟩
theorem GrP.append {h h' : VH} {v u : Value} {l : List UInt8} (k : GrP h h' v u l) (ys : List UInt8) (hl : l.length + ys.length ≤ 140737488355328) :
    ∃ w g, appendV h' 1 1 u (u8s ys) ys.length = some (w, g) ∧ GrP h g v w (l ++ ys) := by
  obtain ⟨w, g, hap, ho, hf, hid⟩ := k.own.append (bytes := 1) (ys := u8s ys) (k := ys.length) (by simp) (by omega)
  exact ⟨w, g, hap, k.trans ⟨by rw [u8s_append, List.length_append]; exact ho, hf, hid⟩⟩
theorem GrP.byte {h h' : VH} {v u : Value} {l : List UInt8} (k : GrP h h' v u l) (b : UInt8) (hl : l.length < 140737488355328) :
    ∃ w g, appendV (h'.push (.cells [.int .u8 b.toNat] true 1)) 1 1 u [.int .u8 b.toNat] 1 = some (w, g) ∧ GrP h g v w (l ++ [b]) :=
  (k.step (Fr.push h' _ [])).append [b] (by simp; omega)
/-- what may be appended to: an owned row whose end is the slice's. -/
theorem grown_ok {h : VH} {v : Value} {l : List UInt8} (hs : OwnP h 1 v (u8s l) l.length) {n : Nat} (hn : n < 18446744073709551616) (hl : l.length ≤ 100000000) :
    PCalls Tryd.prog f_wire_grown [v, .int .u64 (n : Int)] h (fun u h' => (∃ a k c, u = .slice a k c) ∧ GrP h h' v u (l ++ varint n)) := by
  refine PCalls_of_pw st_wire_grown (by simp [n_wire_grown]) ?_
  rw [b_wire_grown]
  simp (disch := first|omega|(simp only [np,ns];try omega)) [B_wire_grown]
  refine pw_loopN (fun k s g => ∃ (l' : List UInt8) (n' : Nat) (w : Value), s 0 = w ∧ s 1 = .int .u64 (n' : Int) ∧ GrP h g v w l' ∧ l ++ varint n = l' ++ varint n' ∧ n' < 2 ^ (70 - 7 * k) ∧ n' < 18446744073709551616 ∧ l'.length = l.length + k ∧ (∃ a k c, w = .slice a k c)) 10 ?_ ?_
  · obtain ⟨a, c, rfl⟩ := hs.shape
    exact ⟨l, n, _, by simp [upd_apply, s0_apply], by simp [upd_apply, s0_apply], GrP.start hs, rfl, by omega, hn, rfl, _, _, _, rfl⟩
  · rintro k s g hk ⟨l', n', w, h0', h1, hb', he, hlt, hn', hll, a, q, c, rfl⟩
    by_cases hg : 127 < n'
    · have hgI : (127 : Int) < (n' : Int) := by omega
      have hgN : ¬ n' < 128 := by omega
      have hk10 : k < 10 := by
        by_cases hk9 : k < 10
        · exact hk9
        · obtain rfl : k = 10 := by omega
          simp at hlt
          omega
      obtain ⟨C, hC⟩ : ∃ C, C = UInt8.ofNat (n' % 128 + 128) := ⟨_, rfl⟩
      obtain ⟨D, hD⟩ : ∃ D, D = UInt8.ofNat n' := ⟨_, rfl⟩
      have hw1 : IntKind.u8.wrap (n' : Int) = (D.toNat : Int) := by rw [hD]; exact u8_wrapN n'
      have hw2 : Go.bits .or .u8 (D.toNat : Int) 128 = (C.toNat : Int) := by rw [or128, hD, or128_eq, hC]
      obtain ⟨w', g', hap, hb2⟩ := hb'.byte C (by omega)
      obtain ⟨a', c', rfl⟩ := hb2.shape
      have hfill : fillC [.int .u8 0] [(0, 1, .int .u8 (C.toNat : Int))] = some [.int .u8 (C.toNat : Int)] := fill1 rfl
      have hone : [Value.int .u8 (C.toNat : Int)].all Value.oneCell' = true := rfl
      have hrow : ∀ x, rowObj (.cells [x] true 1) 0 1 = some [x] := fun x => rfl
      simp (disch := first|omega|(simp only [np,ns];try omega)) [h0', h1, hgI, hg, shr7, hw1, hw2, hfill, hone, hrow, hap]
      rw [hC] at hb2
      rw [List.length_append] at hb2
      refine ⟨hk10, _, n' / 128, rfl, hb2, ?_, ?_, by omega, by simp; omega⟩
      · rw [he, varint_ge hgN]; simp
      · rw [show 70 - 7 * k = 7 + (70 - 7 * (k + 1)) by omega, Nat.pow_add] at hlt
        exact Nat.div_lt_of_lt_mul (by omega)
    · have hgI : ¬ (127 : Int) < (n' : Int) := by omega
      have hgN : n' < 128 := by omega
      obtain ⟨D, hD⟩ : ∃ D, D = UInt8.ofNat n' := ⟨_, rfl⟩
      have hw1 : IntKind.u8.wrap (n' : Int) = (D.toNat : Int) := by rw [hD]; exact u8_wrapN n'
      obtain ⟨w', g', hap, hb2⟩ := hb'.byte D (by omega)
      obtain ⟨a', c', rfl⟩ := hb2.shape
      have hfill : fillC [.int .u8 0] [(0, 1, .int .u8 (D.toNat : Int))] = some [.int .u8 (D.toNat : Int)] := fill1 rfl
      have hone : [Value.int .u8 (D.toNat : Int)].all Value.oneCell' = true := rfl
      have hrow : ∀ x, rowObj (.cells [x] true 1) 0 1 = some [x] := fun x => rfl
      simp (disch := first|omega|(simp only [np,ns];try omega)) [r_wire_grown, h0', h1, hgI, hg, shr7, hw1, hfill, hone, hrow, hap]
      rw [hD] at hb2
      rw [List.length_append] at hb2
      rw [he, varint_lt hgN]
      exact hb2


/-- bytes gathered in an owned row that was laid behind h0, of which nothing has turned. -/
structure BufP (h0 g : VH) (w : Value) (l : List UInt8) : Prop where
  own : OwnP g 1 w (u8s l) l.length
  fr : Fr h0 g []
  ids : ∀ i ∈ idOf w, h0.n ≤ i
theorem BufP.is {h0 g : VH} {w : Value} {l : List UInt8} (k : BufP h0 g w l) : IsBytes g w l := k.own.bytes
theorem BufP.shape {h0 g : VH} {w : Value} {l : List UInt8} (k : BufP h0 g w l) : ∃ a c, w = .slice a l.length c := k.own.shape
theorem BufP.step {h0 g g' : VH} {w : Value} {l : List UInt8} (k : BufP h0 g w l) (hf : Fr g g' []) : BufP h0 g' w l := ⟨k.own.fr hf (fun _ _ => by simp), k.fr.trans hf, k.ids⟩
theorem BufP.base {h0 h1 g : VH} {w : Value} {l : List UInt8} (hf : Fr h0 h1 []) (k : BufP h1 g w l) : BufP h0 g w l := ⟨k.own, hf.trans k.fr, fun i hi => Nat.le_trans hf.n (k.ids i hi)⟩
theorem BufP.append {h0 g : VH} {w : Value} {l : List UInt8} (k : BufP h0 g w l) (ys : List UInt8) (hl : l.length + ys.length ≤ 140737488355328) :
    ∃ w' g', appendV g 1 1 w (u8s ys) ys.length = some (w', g') ∧ BufP h0 g' w' (l ++ ys) := by
  obtain ⟨w', g', hap, ho, hf, hid⟩ := k.own.append (bytes := 1) (ys := u8s ys) (k := ys.length) (by simp) (by omega)
  refine ⟨w', g', hap, by rw [u8s_append, List.length_append]; exact ho, k.fr.trans' hf (fun y hy => .inr (k.ids y hy)), fun i hi => ?_⟩
  rcases hid i hi with h1 | h1
  · exact k.ids i h1
  · exact Nat.le_trans k.fr.n h1
theorem _root_.Go.Proofs.YtpcjnpkpmaahiaaDoor.Pm.Buf.p {h0 g : VH} {w : Value} {l : List UInt8} (k : Buf h0 g w l) : BufP h0 g w l := ⟨k.own.p, k.fr, k.ids⟩
theorem madeRow_u8 (n : Nat) : (madeRow [.int .u8 0] n).length = n := by simp [madeRow]
set_option maxHeartbeats 1000000 in
theorem put_ok {h : VH} {v : Value} {bs : List UInt8} (hb : IsBytes h v bs) {n : Nat} (hn : n < 18446744073709551616) (hl : bs.length ≤ 10000000) :
    PCalls Tryd.prog f_wire_Put [v, .int .u64 (n : Int)] h (fun u h' => (∃ a k c, u = .slice a k c) ∧ BufP h h' u (bs ++ varint n)) := by
  refine PCalls_of_pw st_wire_Put (by simp [n_wire_Put]) ?_
  rw [b_wire_Put]
  obtain ⟨L, hL⟩ : ∃ L, L = bs.length := ⟨_, rfl⟩
  obtain ⟨M, hM⟩ : ∃ M, M = L + 10 := ⟨_, rfl⟩
  obtain ⟨va, vc, hv⟩ := hb.shape
  rw [← hL] at hv
  have eM : IntKind.i64.wrap ((L : Int) + 10) = (M : Int) := by rw [i64_small (by omega) (by omega)]; omega
  obtain ⟨g0, hg0⟩ : ∃ g0, g0 = h.push (.cells (madeRow [.int .u8 0] M) true 1) := ⟨_, rfl⟩
  have f0 : Fr h g0 [] := by rw [hg0]; exact Fr_push (Fr.refl _ _)
  have b0 : BufP h g0 (.slice (some ⟨h.n, 0, none⟩) 0 M) [] := ⟨.inr ⟨h.n, 0, M, madeRow [.int .u8 0] M, by rw [hg0]; simp, Nat.zero_le _, rfl, by rw [hg0, VH.get_push_new], by simp [u8s], by simp⟩, f0, fun i hi => by simp [idOf] at hi; omega⟩
  have hb0 := hb.fr f0 (fun _ _ => by simp)
  have hsrc := hb0.src
  obtain ⟨w1, g1, hap, b1⟩ := b0.append bs (by simp; omega)
  rw [← hL] at hap
  rw [hv] at hsrc
  obtain ⟨wa, wc, hw⟩ := b1.shape
  have hle : M ≤ 140737488355328 := by omega
  have hMI : ¬ (M : Int) < 0 := by omega
  have hMI2 : (M : Int) ≤ 140737488355328 := by omega
  rw [hv]
  simp (disch := first|omega|(simp only [np,ns];try omega)) [B_wire_Put, eM, hle, hMI, hMI2, ← hg0, hsrc, hap]
  refine (grown_ok b1.own hn (by simp; omega)).mono ?_
  rintro u g2 ⟨⟨ua, uk, uc, rfl⟩, k⟩
  simp (disch := first|omega|(simp only [np,ns];try omega)) [r_wire_Put]
  rw [List.nil_append] at b1 k
  refine ⟨k.own, b1.fr.trans' k.fr (fun y hy => .inr (b1.ids y hy)), fun i hi => ?_⟩
  rcases k.ids i hi with h1 | h1
  · exact b1.ids i h1
  · exact Nat.le_trans b1.fr.n h1
/-- the four bytes of a sum. -/
theorem u8_div (n m : Nat) : IntKind.u8.wrap ((n / m : Nat) : Int) = ((UInt8.ofNat (n / m % 256)).toNat : Int) := by
  rw [u8_wrapN]
  congr 1
  simp [UInt8.toNat_ofNat']
theorem shr8 (n : Nat) : Int.fdiv (n : Int) 256 = ((n / 256 : Nat) : Int) := shr_u n 8
theorem shr16 (n : Nat) : Int.fdiv (n : Int) 65536 = ((n / 65536 : Nat) : Int) := shr_u n 16
theorem shr24 (n : Nat) : Int.fdiv (n : Int) 16777216 = ((n / 16777216 : Nat) : Int) := shr_u n 24
def sum4 (n : Nat) : List UInt8 := [UInt8.ofNat (n % 256), UInt8.ofNat (n / 256 % 256), UInt8.ofNat (n / 65536 % 256), UInt8.ofNat (n / 16777216 % 256)]
theorem sum4_eq (n : Nat) : lowB 4 n = sum4 n := by
  simp only [lowB, sum4]
  rw [Nat.div_div_eq_div_mul, Nat.div_div_eq_div_mul]
def numL (q : Nat) (v : Value) : List Value := [.int .u64 (q : Int), v]
set_option maxHeartbeats 2000000 in
theorem frame_ok {h : VH} {v : Value} {b : List UInt8} (hb : IsBytes h v b) {q : Nat} (hq : q < 18446744073709551616) (hl : b.length ≤ 1000000) :
    PCalls Tryd.prog f_wal_frame [.agg (numL q v).toArray] h (fun u h' => (∃ a k c, u = .slice a k c) ∧ BufP h h' u (frameS q b)) := by
  refine PCalls_of_pw st_wal_frame (by simp [n_wal_frame]) ?_
  rw [b_wal_frame]
  obtain ⟨L, hL⟩ : ∃ L, L = b.length := ⟨_, rfl⟩
  obtain ⟨va, vc, hv⟩ := hb.shape
  rw [← hL] at hv
  have hone : (numL q v).all Value.oneCell' = true := by rw [hv]; rfl
  obtain ⟨g0, hg0⟩ : ∃ g0, g0 = h.push (.cells (numL q v) true 1) := ⟨_, rfl⟩
  have f0 : Fr h g0 [] := by rw [hg0]; exact Fr_push (Fr.refl _ _)
  have n0 : g0.n = h.n + 1 := by rw [hg0]; rfl
  have o0 : g0.get h.n = .cells (numL q v) true 1 := by rw [hg0, VH.get_push_new]
  have l0 : loadObj (.cells (numL q v) true 1) 0 none = some (.int .u64 (q : Int)) := rfl
  have l1 : loadObj (.cells (numL q v) true 1) 1 none = some (.slice va L vc) := by rw [← hv]; rfl
  have eL : IntKind.u64.wrap (L : Int) = (L : Int) := u64_small (by omega) (by omega)
  simp (disch := first|omega|(simp only [np,ns];try omega)) [B_wal_frame, hone, ← hg0, o0, l0, l1, eL]
  refine (put_ok (h := g0) (v := .slice none 0 0) (bs := []) (.inl ⟨rfl, rfl⟩) hq (by simp)).mono ?_
  rintro u g1 ⟨⟨ua, uk, uc, rfl⟩, b1⟩
  rw [List.nil_append] at b1
  have o1 := (b1.fr.get h.n (by omega) (by simp)).trans o0
  have hq10 := varint_len10 hq
  have hl10 := varint_len10 (n := L) (by omega)
  simp (disch := first|omega|(simp only [np,ns];try omega)) [o1, l1, eL]
  refine (put_ok b1.is (n := L) (by omega) (by omega)).mono ?_
  rintro u g2 ⟨⟨xa, xk, xc, rfl⟩, b2⟩
  have b2 := b2.base b1.fr
  have o2 := (b2.fr.get h.n (by omega) (by simp)).trans o0
  have hb2 := hb.fr (f0.trans b2.fr) (fun _ _ => by simp)
  have hsrc := hb2.src
  rw [hv] at hsrc
  obtain ⟨w3, g3, hap, b3⟩ := b2.append b (by rw [List.length_append, ← hL]; omega)
  rw [← hL] at hap
  have hh : varint q ++ varint L ++ b = headS q b := by rw [hL]; rfl
  rw [hh] at b3
  obtain ⟨ya, yc, hw3⟩ := b3.shape
  have hhl : (headS q b).length ≤ 2000000 := by rw [← hh]; simp only [List.length_append]; omega
  obtain ⟨HL, hHL⟩ : ∃ HL, HL = (headS q b).length := ⟨_, rfl⟩
  rw [← hHL] at hw3 hhl
  have b3is := b3.is
  rw [hw3] at hap b3is
  simp (disch := first|omega|(simp only [np,ns];try omega)) [o2, l1, hsrc, hap]
  refine (sum_ok b3is (by omega)).mono ?_
  rintro u g4 ⟨rfl, hg4⟩
  rw [hg4]
  obtain ⟨S, hS⟩ : ∃ S, S = (sumS (headS q b)).toNat := ⟨_, rfl⟩
  have e0 : IntKind.u8.wrap (S : Int) = ((UInt8.ofNat (S % 256)).toNat : Int) := by rw [u8_wrapN]; congr 1; simp [UInt8.toNat_ofNat']
  have e8 : IntKind.u8.wrap (Int.fdiv (S : Int) 256) = ((UInt8.ofNat (S / 256 % 256)).toNat : Int) := by rw [shr8]; exact u8_div _ _
  have e16 : IntKind.u8.wrap (Int.fdiv (S : Int) 65536) = ((UInt8.ofNat (S / 65536 % 256)).toNat : Int) := by rw [shr16]; exact u8_div _ _
  have e24 : IntKind.u8.wrap (Int.fdiv (S : Int) 16777216) = ((UInt8.ofNat (S / 16777216 % 256)).toNat : Int) := by rw [shr24]; exact u8_div _ _
  obtain ⟨c0, hc0⟩ : ∃ c : UInt8, c = UInt8.ofNat (S % 256) := ⟨_, rfl⟩
  obtain ⟨c1, hc1⟩ : ∃ c : UInt8, c = UInt8.ofNat (S / 256 % 256) := ⟨_, rfl⟩
  obtain ⟨c2, hc2⟩ : ∃ c : UInt8, c = UInt8.ofNat (S / 65536 % 256) := ⟨_, rfl⟩
  obtain ⟨c3, hc3⟩ : ∃ c : UInt8, c = UInt8.ofNat (S / 16777216 % 256) := ⟨_, rfl⟩
  have hs4e : sum4 S = [c0, c1, c2, c3] := by rw [hc0, hc1, hc2, hc3]; rfl
  rw [← hc0] at e0
  rw [← hc1] at e8
  rw [← hc2] at e16
  rw [← hc3] at e24
  have hfr : fillC [.int .u8 0, .int .u8 0, .int .u8 0, .int .u8 0] [(0, 1, .int .u8 (c0.toNat : Int)), (1, 1, .int .u8 (c1.toNat : Int)), (2, 1, .int .u8 (c2.toNat : Int)), (3, 1, .int .u8 (c3.toNat : Int))] = some (u8s (sum4 S)) := by rw [hs4e]; rfl
  have hone4 : (u8s (sum4 S)).all Value.oneCell' = true := rfl
  rw [← hS]
  have hrow4 : ∀ x : List Value, x.length = 4 → rowObj (.cells x true 1) 0 4 = some x := fun x hx => by simp [rowObj, hx, List.take_of_length_le]
  obtain ⟨g5, hg5⟩ : ∃ g5, g5 = g3.push (.cells (u8s (sum4 S)) true 1) := ⟨_, rfl⟩
  have f5 : Fr g3 g5 [] := by rw [hg5]; exact Fr_push (Fr.refl _ _)
  have o5 : g5.get g3.n = .cells (u8s (sum4 S)) true 1 := by rw [hg5, VH.get_push_new]
  have hr5 := hrow4 (u8s (sum4 S)) rfl
  have b5 := b3.step f5
  obtain ⟨w6, g6, hap6, b6⟩ := b5.append (sum4 S) (by rw [← hHL]; simp [sum4]; omega)
  have hs4 : (sum4 S).length = 4 := rfl
  rw [hs4, hw3] at hap6
  simp (disch := first|omega|(simp only [np,ns];try omega)) [r_wal_frame, e0, e8, e16, e24, hfr, hone4, ← hg5, o5, hr5, hap6]
  obtain ⟨za, zc, hw6⟩ := b6.shape
  have hfin : headS q b ++ sum4 S = frameS q b := by rw [frameS, sum4_eq, hS]
  rw [hfin] at b6
  exact ⟨⟨_, _, _, hw6⟩, b6.base f0⟩
set_option maxHeartbeats 2000000 in
theorem rframe_ok {h : VH} {v : Value} {b : List UInt8} (hb : IsBytes h v b) {q : Nat} (hq0 : 1 ≤ q) (hq : q < 18446744073709551616) (hl : b.length ≤ 65536) :
    PCalls Tryd.prog f_ref07_Frame [.int .u64 (q : Int), v] h (fun u h' => ∃ w, u = .tuple #[w, .int .i64 0] ∧ (∃ a k c, w = .slice a k c) ∧ BufP h h' w (frameS q b)) := by
  refine PCalls_of_pw st_ref07_Frame (by simp [n_ref07_Frame]) ?_
  rw [b_ref07_Frame]
  obtain ⟨L, hL⟩ : ∃ L, L = b.length := ⟨_, rfl⟩
  obtain ⟨va, vc, hv⟩ := hb.shape
  rw [← hL] at hv
  have eL : IntKind.u64.wrap (L : Int) = (L : Int) := u64_small (by omega) (by omega)
  have hqz : ((q : Int) == 0) = false := by simp; omega
  have hLI : ¬ (65536 : Int) < (L : Int) := by omega
  have hLN : ¬ 65536 < L := by omega
  rw [hv]
  have hq1 : ¬ q = 0 := by omega
  simp (disch := first|omega|(simp only [np,ns];try omega)) [B_ref07_Frame, hqz, hq1, hLI, hLN]
  refine (rput_ok (h := h) (v := .slice none 0 0) (bs := []) (.inl ⟨rfl, rfl⟩) hq (by simp)).mono ?_
  rintro u g1 ⟨⟨ua, uk, uc, rfl⟩, b1⟩
  rw [List.nil_append] at b1
  have hq10 := varint_len10 hq
  have hl10 := varint_len10 (n := L) (by omega)
  simp (disch := first|omega|(simp only [np,ns];try omega)) [eL]
  refine (rput_ok b1.is (n := L) (by omega) (by omega)).mono ?_
  rintro u g2 ⟨⟨xa, xk, xc, rfl⟩, b2⟩
  have b2 := b2.p.base b1.fr
  have hb2 := hb.fr b2.fr (fun _ _ => by simp)
  have hsrc := hb2.src
  rw [hv] at hsrc
  obtain ⟨w3, g3, hap, b3⟩ := b2.append b (by rw [List.length_append, ← hL]; omega)
  rw [← hL] at hap
  have hh : varint q ++ varint L ++ b = headS q b := by rw [hL]; rfl
  rw [hh] at b3
  obtain ⟨ya, yc, hw3⟩ := b3.shape
  have hhl : (headS q b).length ≤ 2000000 := by rw [← hh]; simp only [List.length_append]; omega
  obtain ⟨HL, hHL⟩ : ∃ HL, HL = (headS q b).length := ⟨_, rfl⟩
  rw [← hHL] at hw3 hhl
  have b3is := b3.is
  rw [hw3] at hap b3is
  simp (disch := first|omega|(simp only [np,ns];try omega)) [hsrc, hap]
  refine (sumr_ok b3is (by omega)).mono ?_
  rintro u g4 ⟨rfl, hg4⟩
  rw [hg4, ← sum_eq]
  obtain ⟨S, hS⟩ : ∃ S, S = (sumS (headS q b)).toNat := ⟨_, rfl⟩
  have e0 : IntKind.u8.wrap (S : Int) = ((UInt8.ofNat (S % 256)).toNat : Int) := by rw [u8_wrapN]; congr 1; simp [UInt8.toNat_ofNat']
  have e8 : IntKind.u8.wrap (Int.fdiv (S : Int) 256) = ((UInt8.ofNat (S / 256 % 256)).toNat : Int) := by rw [shr8]; exact u8_div _ _
  have e16 : IntKind.u8.wrap (Int.fdiv (S : Int) 65536) = ((UInt8.ofNat (S / 65536 % 256)).toNat : Int) := by rw [shr16]; exact u8_div _ _
  have e24 : IntKind.u8.wrap (Int.fdiv (S : Int) 16777216) = ((UInt8.ofNat (S / 16777216 % 256)).toNat : Int) := by rw [shr24]; exact u8_div _ _
  obtain ⟨c0, hc0⟩ : ∃ c : UInt8, c = UInt8.ofNat (S % 256) := ⟨_, rfl⟩
  obtain ⟨c1, hc1⟩ : ∃ c : UInt8, c = UInt8.ofNat (S / 256 % 256) := ⟨_, rfl⟩
  obtain ⟨c2, hc2⟩ : ∃ c : UInt8, c = UInt8.ofNat (S / 65536 % 256) := ⟨_, rfl⟩
  obtain ⟨c3, hc3⟩ : ∃ c : UInt8, c = UInt8.ofNat (S / 16777216 % 256) := ⟨_, rfl⟩
  have hs4e : sum4 S = [c0, c1, c2, c3] := by rw [hc0, hc1, hc2, hc3]; rfl
  rw [← hc0] at e0
  rw [← hc1] at e8
  rw [← hc2] at e16
  rw [← hc3] at e24
  have hfr : fillC [.int .u8 0, .int .u8 0, .int .u8 0, .int .u8 0] [(0, 1, .int .u8 (c0.toNat : Int)), (1, 1, .int .u8 (c1.toNat : Int)), (2, 1, .int .u8 (c2.toNat : Int)), (3, 1, .int .u8 (c3.toNat : Int))] = some (u8s (sum4 S)) := by rw [hs4e]; rfl
  have hone4 : (u8s (sum4 S)).all Value.oneCell' = true := rfl
  rw [← hS]
  have hrow4 : ∀ x : List Value, x.length = 4 → rowObj (.cells x true 1) 0 4 = some x := fun x hx => by simp [rowObj, hx, List.take_of_length_le]
  obtain ⟨g5, hg5⟩ : ∃ g5, g5 = g3.push (.cells (u8s (sum4 S)) true 1) := ⟨_, rfl⟩
  have f5 : Fr g3 g5 [] := by rw [hg5]; exact Fr_push (Fr.refl _ _)
  have o5 : g5.get g3.n = .cells (u8s (sum4 S)) true 1 := by rw [hg5, VH.get_push_new]
  have hr5 := hrow4 (u8s (sum4 S)) rfl
  have b5 := b3.step f5
  obtain ⟨w6, g6, hap6, b6⟩ := b5.append (sum4 S) (by rw [← hHL]; simp [sum4]; omega)
  have hs4 : (sum4 S).length = 4 := rfl
  rw [hs4, hw3] at hap6
  simp (disch := first|omega|(simp only [np,ns];try omega)) [r_ref07_Frame, e0, e8, e16, e24, hfr, hone4, ← hg5, o5, hr5, hap6]
  obtain ⟨za, zc, hw6⟩ := b6.shape
  have hfin : headS q b ++ sum4 S = frameS q b := by rw [frameS, sum4_eq, hS]
  rw [hfin] at b6
  exact ⟨⟨_, _, _, hw6⟩, b6⟩
end Go.Proofs.YtpcjnpkpmaahiaaDoor.Wa
