/- wire, part B: numbers and fields are written (the program). -/
import Derived.Test.YtdnkpgbggpbgaaaWrA
import Derived.Laws.Bits64b
set_option linter.unusedVariables false
set_option linter.unusedSimpArgs false
set_option maxRecDepth 100000
namespace Go.Proofs.Ytdnkpgbggpbgaaa.Wr
open Go Go.RowKit Go.Proofs.Ytdnkpgbggpbgaaa.Pm Go.Proofs.Ytdnkpgbggpbgaaa.Fs
attribute [-simp] BitVec.toNat_or BitVec.toNat_xor BitVec.toNat_add BitVec.toNat_and BitVec.toNat_not BitVec.toNat_shiftLeft BitVec.toNat_ushiftRight

theorem shr_u (n k : Nat) : Int.fdiv (n : Int) (2 ^ k) = ((n / 2 ^ k : Nat) : Int) := by
  rw [Int.fdiv_eq_ediv_of_nonneg _ (Int.le_of_lt (Int.pow_pos (by decide)))]
  simp
theorem shr7 (n : Nat) : Int.fdiv (n : Int) 128 = ((n / 128 : Nat) : Int) := shr_u n 7
theorem u8_wrapN (n : Nat) : IntKind.u8.wrap (n : Int) = ((UInt8.ofNat n).toNat : Int) := by
  rw [wrapN_u8, UInt8.toNat_ofNat']
theorem or128 (b : UInt8) : Go.bits .or .u8 (b.toNat : Int) 128 = ((b ||| 128).toNat : Int) := by
  have := bits_or_u8 b.toBitVec 128#8
  simpa [BitVec.toNat_or, BitVec.toNat_add, BitVec.toNat_and, BitVec.toNat_xor] using this
theorem or128_eq (n : Nat) : UInt8.ofNat n ||| 128 = UInt8.ofNat (n % 128 + 128) := by
  have h1 : UInt8.ofNat n = UInt8.ofNat (n % 256) := by
    apply UInt8.toNat_inj.1
    simp [UInt8.toNat_ofNat']
  have h2 : n % 128 = (n % 256) % 128 := by omega
  rw [h1, h2]
  have h3 : n % 256 < 256 := by omega
  generalize n % 256 = m at h3
  have : ∀ m : Fin 256, UInt8.ofNat m.1 ||| 128 = UInt8.ofNat (m.1 % 128 + 128) := by decide +kernel
  exact this ⟨m, h3⟩

/-- v, a row of bytes that is owned, has become u, of bytes l. -/
structure Gr (h h' : VH) (v u : Value) (l : List UInt8) : Prop where
  own : OwnSl h' 1 u (u8s l) l.length
  fr : Fr h h' (idOf v)
  ids : ∀ i ∈ idOf u, i ∈ idOf v ∨ h.n ≤ i
theorem Gr.start {h : VH} {v : Value} {l : List UInt8} (hs : OwnSl h 1 v (u8s l) l.length) : Gr h h v v l := ⟨hs, Fr.refl _ _, fun _ hi => .inl hi⟩
theorem Gr.trans {a b c : VH} {u v w : Value} {l m : List UInt8} (h : Gr a b u v l) (k : Gr b c v w m) : Gr a c u w m :=
  ⟨k.own, h.fr.trans' k.fr (fun y hy => h.ids y hy), fun i hi => (k.ids i hi).elim (fun e => h.ids i e) (fun e => .inr (Nat.le_trans h.fr.n e))⟩
theorem Gr.shape {h h' : VH} {v u : Value} {l : List UInt8} (k : Gr h h' v u l) : ∃ a c, u = .slice a l.length c := k.own.shapeN
theorem Gr.sh {h h' : VH} {v u : Value} {l : List UInt8} (k : Gr h h' v u l) : ∃ a n c, u = .slice a n c := by
  obtain ⟨a, c, rfl⟩ := k.shape
  exact ⟨_, _, _, rfl⟩
theorem Gr.step {h h' g : VH} {v u : Value} {l : List UInt8} (k : Gr h h' v u l) (hf : Fr h' g []) : Gr h g v u l :=
  ⟨k.own.fr hf (fun i _ => by simp), k.fr.trans (hf.sub (fun x hx => by simp at hx)), k.ids⟩
theorem Gr.append {h h' : VH} {v u : Value} {l : List UInt8} (k : Gr h h' v u l) (ys : List UInt8) (hl : l.length + ys.length ≤ 140737488355328) :
    ∃ w g, appendV h' 1 1 u (u8s ys) ys.length = some (w, g) ∧ Gr h g v w (l ++ ys) := by
  obtain ⟨w, g, hap, ho, hf, hid⟩ := k.own.append (bytes := 1) (ys := u8s ys) (k := ys.length) (by simp) (by omega)
  exact ⟨w, g, hap, k.trans ⟨by rw [u8s_append, List.length_append]; exact ho, hf, hid⟩⟩
theorem Gr.byte {h h' : VH} {v u : Value} {l : List UInt8} (k : Gr h h' v u l) (b : UInt8) (hl : l.length < 140737488355328) :
    ∃ w g, appendV (h'.push (.cells [.int .u8 b.toNat] true 1)) 1 1 u [.int .u8 b.toNat] 1 = some (w, g) ∧ Gr h g v w (l ++ [b]) :=
  (k.step (Fr.push h' _ [])).append [b] (by simp; omega)
theorem Gr.buf {h0 h h' : VH} {v u : Value} {l m : List UInt8} (hb : Buf h0 h v l) (k : Gr h h' v u m) : Buf h0 h' u m :=
  ⟨k.own, hb.fr.trans' k.fr (fun y hy => .inr (hb.ids y hy)), fun i hi => (k.ids i hi).elim (fun e => hb.ids i e) (fun e => Nat.le_trans hb.fr.n e)⟩

/-- what may be appended to: an owned row whose end is the slice's. -/
theorem grown_ok {h : VH} {v : Value} {l : List UInt8} (hs : OwnSl h 1 v (u8s l) l.length) {n : Nat} (hn : n < 18446744073709551616) (hl : l.length ≤ 100000000) :
    PCalls Try.prog f_wire_grown [v, .int .u64 (n : Int)] h (fun u h' => (∃ a k c, u = .slice a k c) ∧ Gr h h' v u (l ++ varint n)) := by
  refine PCalls_of_pw st_wire_grown (by simp [n_wire_grown]) ?_
  rw [b_wire_grown]
  simp (disch := first|omega|(simp only [np,ns];try omega)) [B_wire_grown]
  refine pw_loopN (fun k s g => ∃ (l' : List UInt8) (n' : Nat) (w : Value), s 0 = w ∧ s 1 = .int .u64 (n' : Int) ∧ Gr h g v w l' ∧ l ++ varint n = l' ++ varint n' ∧ n' < 2 ^ (70 - 7 * k) ∧ n' < 18446744073709551616 ∧ l'.length = l.length + k ∧ (∃ a k c, w = .slice a k c)) 10 ?_ ?_
  · obtain ⟨a, c, rfl⟩ := hs.shapeN
    exact ⟨l, n, _, by simp [upd_apply, s0_apply], by simp [upd_apply, s0_apply], Gr.start hs, rfl, by omega, hn, rfl, _, _, _, rfl⟩
  · rintro k s g hk ⟨l', n', w, h0', h1, hb', he, hlt, hn', hll, a, q, c, rfl⟩
    by_cases hg : 127 < n'
    · have hgI : (127 : Int) < (n' : Int) := by omega
      have hgN : ¬ n' < 128 := by omega
      have hk10 : k < 10 := by
        by_cases hk9 : k < 10
        · exact hk9
        · obtain rfl : k = 10 := by omega
          simp at hlt
          omega
      obtain ⟨C, hC⟩ : ∃ C, C = UInt8.ofNat (n' % 128 + 128) := ⟨_, rfl⟩
      obtain ⟨D, hD⟩ : ∃ D, D = UInt8.ofNat n' := ⟨_, rfl⟩
      have hw1 : IntKind.u8.wrap (n' : Int) = (D.toNat : Int) := by rw [hD]; exact u8_wrapN n'
      have hw2 : Go.bits .or .u8 (D.toNat : Int) 128 = (C.toNat : Int) := by rw [or128, hD, or128_eq, hC]
      obtain ⟨w', g', hap, hb2⟩ := hb'.byte C (by omega)
      obtain ⟨a', c', rfl⟩ := hb2.shape
      have hfill : fillC [.int .u8 0] [(0, 1, .int .u8 (C.toNat : Int))] = some [.int .u8 (C.toNat : Int)] := fill1 rfl
      have hone : [Value.int .u8 (C.toNat : Int)].all Value.oneCell' = true := rfl
      have hrow : ∀ x, rowObj (.cells [x] true 1) 0 1 = some [x] := fun x => rfl
      simp (disch := first|omega|(simp only [np,ns];try omega)) [h0', h1, hgI, hg, shr7, hw1, hw2, hfill, hone, hrow, hap]
      rw [hC] at hb2
      rw [List.length_append] at hb2
      refine ⟨hk10, _, n' / 128, rfl, hb2, ?_, ?_, by omega, by simp; omega⟩
      · rw [he, varint_ge hgN]; simp
      · rw [show 70 - 7 * k = 7 + (70 - 7 * (k + 1)) by omega, Nat.pow_add] at hlt
        exact Nat.div_lt_of_lt_mul (by omega)
    · have hgI : ¬ (127 : Int) < (n' : Int) := by omega
      have hgN : n' < 128 := by omega
      obtain ⟨D, hD⟩ : ∃ D, D = UInt8.ofNat n' := ⟨_, rfl⟩
      have hw1 : IntKind.u8.wrap (n' : Int) = (D.toNat : Int) := by rw [hD]; exact u8_wrapN n'
      obtain ⟨w', g', hap, hb2⟩ := hb'.byte D (by omega)
      obtain ⟨a', c', rfl⟩ := hb2.shape
      have hfill : fillC [.int .u8 0] [(0, 1, .int .u8 (D.toNat : Int))] = some [.int .u8 (D.toNat : Int)] := fill1 rfl
      have hone : [Value.int .u8 (D.toNat : Int)].all Value.oneCell' = true := rfl
      have hrow : ∀ x, rowObj (.cells [x] true 1) 0 1 = some [x] := fun x => rfl
      simp (disch := first|omega|(simp only [np,ns];try omega)) [r_wire_grown, h0', h1, hgI, hg, shr7, hw1, hfill, hone, hrow, hap]
      rw [hD] at hb2
      rw [List.length_append] at hb2
      rw [he, varint_lt hgN]
      exact hb2

/-! ### a field's bytes -/
def okF (f : Fd) : Bool := decide (1 ≤ f.num) && decide (f.num < 536870912) &&
  (if f.ty = 0 then decide (f.b.length = 0) else if f.ty = 1 then decide (f.b.length = 0) else if f.ty = 5 then decide (f.b.length = 0) && decide (f.n < 4294967296) else if f.ty = 2 then decide (f.n = 0) else false)
def headF (f : Fd) : List UInt8 := varint (8 * f.num + f.ty).toNat ++
  (if f.ty = 0 then varint f.n else if f.ty = 1 then lowB 8 f.n else if f.ty = 5 then lowB 4 f.n else if f.ty = 2 then varint f.b.length else [])
def encF (f : Fd) : List UInt8 := headF f ++ f.b
theorem okF_ty {f : Fd} (h : okF f = true) : f.ty = 0 ∨ f.ty = 1 ∨ f.ty = 5 ∨ f.ty = 2 := by
  unfold okF at h
  by_cases h0 : f.ty = 0
  · exact .inl h0
  by_cases h1 : f.ty = 1
  · exact .inr (.inl h1)
  by_cases h5 : f.ty = 5
  · exact .inr (.inr (.inl h5))
  by_cases h2 : f.ty = 2
  · exact .inr (.inr (.inr h2))
  simp [h0, h1, h5, h2] at h
theorem okF_num {f : Fd} (h : okF f = true) : 1 ≤ f.num ∧ f.num < 536870912 := by
  unfold okF at h
  simp only [Bool.and_eq_true, decide_eq_true_eq] at h
  exact h.1
theorem can_ok {h : VH} {f : Fd} {w : Value} (hw : IsBytes h w f.b) (hf : f.wf) (hl : f.b.length < 9223372036854775808) :
    PCalls Try.prog f_wire_Field_can [fdV f w] h (fun u h' => u = .bool (okF f) ∧ Fr h h' []) := by
  refine PCalls_of_pw st_wire_Field_can (by simp [n_wire_Field_can]) ?_
  rw [b_wire_Field_can]
  obtain ⟨a, c, rfl⟩ := hw.shape
  obtain ⟨hn1, hn2, ht1, ht2, hn⟩ := hf
  obtain ⟨L, hL⟩ : ∃ L, L = f.b.length := ⟨_, rfl⟩
  obtain ⟨q, hq⟩ : ∃ q, q = f.n / 4294967296 := ⟨_, rfl⟩
  have hok : okF f = (decide (1 ≤ f.num) && decide (f.num < 536870912) && (if f.ty = 0 then decide (L = 0) else if f.ty = 1 then decide (L = 0) else if f.ty = 5 then decide (L = 0) && decide (q = 0) else if f.ty = 2 then decide (f.n = 0) else false)) := by
    have hqq : decide (q = 0) = decide (f.n < 4294967296) := decide_eq_decide.2 (by omega)
    unfold okF; rw [hL, hqq]
  rw [← hL]
  have hone : (cellsL (fdV f (.slice a L c))).all Value.oneCell' = true := rfl
  have hc : cellsL (fdV f (.slice a L c)) = [.int .i64 f.num, .int .i64 f.ty, .int .u64 (f.n : Int), .slice a L c] := rfl
  have hsh := shr_u f.n 32
  rw [show (2 : Int) ^ 32 = 4294967296 by decide, show (2 : Nat) ^ 32 = 4294967296 by decide, ← hq] at hsh
  have bz : ∀ n : Nat, ((n : Int) == 0) = decide (n = 0) := fun n => by by_cases h : n = 0 <;> simp [h]
  rw [hok]
  simp (disch := first|omega|(simp only [np,ns];try omega)) [B_wire_Field_can, hone, hc]
  have hfr : ∀ o : VObj, Fr h (h.push o) [] := fun o => Fr.push _ _ _
  by_cases h1 : f.num < 1
  · have k1 : ¬ 1 ≤ f.num := by omega
    simp (disch := first|omega|(simp only [np,ns];try omega)) [r_wire_Field_can, ld4_0, h1, k1, hfr]
  by_cases h2 : 536870911 < f.num
  · have k2 : ¬ f.num < 536870912 := by omega
    simp (disch := first|omega|(simp only [np,ns];try omega)) [r_wire_Field_can, ld4_0, h1, h2, k2, hfr]
  have k1 : 1 ≤ f.num := by omega
  have k2 : f.num < 536870912 := by omega
  by_cases h0 : f.ty = 0
  · simp (disch := first|omega|(simp only [np,ns];try omega)) [r_wire_Field_can, ld4_0, ld4_1, ld4_3, h1, h2, h0, k1, k2, bz, hfr]
  have h0b : (f.ty == 0) = false := by simpa using h0
  by_cases h01 : f.ty = 1
  · simp (disch := first|omega|(simp only [np,ns];try omega)) [r_wire_Field_can, ld4_0, ld4_1, ld4_3, h1, h2, h0, h01, h0b, k1, k2, bz, hfr]
  have h01b : (f.ty == 1) = false := by simpa using h01
  by_cases h5 : f.ty = 5
  · by_cases hb0 : L = 0
    · simp (disch := first|omega|(simp only [np,ns];try omega)) [r_wire_Field_can, ld4_0, ld4_1, ld4_2, ld4_3, h1, h2, h0, h01, h5, h0b, h01b, k1, k2, bz, hb0, hsh, hfr]
    · simp (disch := first|omega|(simp only [np,ns];try omega)) [r_wire_Field_can, ld4_0, ld4_1, ld4_2, ld4_3, h1, h2, h0, h01, h5, h0b, h01b, k1, k2, bz, hb0, hsh, hfr]
  have h5b : (f.ty == 5) = false := by simpa using h5
  by_cases h22 : f.ty = 2
  · simp (disch := first|omega|(simp only [np,ns];try omega)) [r_wire_Field_can, ld4_0, ld4_1, ld4_2, ld4_3, h1, h2, h0, h01, h5, h22, h0b, h01b, h5b, k1, k2, bz, hfr]
  · have h22b : (f.ty == 2) = false := by simpa using h22
    simp (disch := first|omega|(simp only [np,ns];try omega)) [r_wire_Field_can, ld4_0, ld4_1, ld4_2, ld4_3, h1, h2, h0, h01, h5, h22, h0b, h01b, h5b, h22b, k1, k2, bz, hfr]

theorem size_ok {h : VH} {ty : Int} : PCalls Try.prog f_wire_size [.int .i64 ty] h (fun u h' => u = .int .i64 (if ty = 1 then 8 else 4) ∧ h' = h) := by
  refine PCalls_of_pw st_wire_size (by simp [n_wire_size]) ?_
  rw [b_wire_size]
  by_cases h1 : ty = 1
  · simp (disch := first|omega|(simp only [np,ns];try omega)) [r_wire_size, B_wire_size, h1]
  · have h1b : (ty == 1) = false := by simpa using h1
    simp (disch := first|omega|(simp only [np,ns];try omega)) [r_wire_size, B_wire_size, h1, h1b]
theorem key_int {f : Fd} (hk : okF f = true) : Go.bits .or .u64 (IntKind.u64.wrap (IntKind.u64.wrap f.num * 8)) (IntKind.u64.wrap f.ty) = (((8 * f.num + f.ty).toNat : Nat) : Int) := by
  obtain ⟨h1, h2⟩ := okF_num hk
  obtain ⟨N, hN⟩ := Int.eq_ofNat_of_zero_le (show 0 ≤ f.num by omega)
  obtain ⟨T, hT⟩ := Int.eq_ofNat_of_zero_le (show 0 ≤ f.ty by have := okF_ty hk; omega)
  have hT8 : T < 2 ^ 3 := by have := okF_ty hk; omega
  have e0 : IntKind.u64.wrap f.num = (N : Int) := by rw [hN]; exact u64_small (by omega) (by omega)
  have e1 : IntKind.u64.wrap ((N : Int) * 8) = ((N <<< 3 : Nat) : Int) := by rw [u64_small (by omega) (by omega), Nat.shiftLeft_eq]; simp
  have e2 : IntKind.u64.wrap f.ty = (T : Int) := by rw [hT]; exact u64_small (by omega) (by omega)
  rw [e0, e1, e2, bits_or_u64_nat _ _ (by rw [Nat.shiftLeft_eq]; omega) (by omega), ← Nat.shiftLeft_add_eq_or_of_lt hT8 N, Nat.shiftLeft_eq]
  omega
theorem key_lt {f : Fd} (hk : okF f = true) : (8 * f.num + f.ty).toNat < 4294967296 := by
  obtain ⟨h1, h2⟩ := okF_num hk
  have := okF_ty hk
  omega
theorem low_byte (n j : Nat) : IntKind.u8.wrap (Int.fdiv (n : Int) (2 ^ (8 * j))) = ((UInt8.ofNat (n / 256 ^ j % 256)).toNat : Int) := by
  rw [shr_u, Nat.pow_mul, u8_wrapN]
  congr 2
  apply UInt8.toNat_inj.1
  simp [UInt8.toNat_ofNat']
set_option maxHeartbeats 1000000 in
theorem put_ok {h : VH} {v w : Value} {l : List UInt8} {f : Fd} (hs : OwnSl h 1 v (u8s l) l.length) (hw : IsBytes h w f.b) (hv : ∀ i ∈ idOf w, i ∉ idOf v) (hk : okF f = true) (hn : f.n < 18446744073709551616) (hl : l.length ≤ 10000000) (hbl : f.b.length ≤ 10000000) :
    PCalls Try.prog f_wire_Field_put [fdV f w, v] h (fun u h' => (∃ a k c, u = .slice a k c) ∧ Gr h h' v u (l ++ encF f)) := by
  refine PCalls_of_pw st_wire_Field_put (by simp [n_wire_Field_put]) ?_
  rw [b_wire_Field_put]
  obtain ⟨a, c, rfl⟩ := hw.shape
  obtain ⟨L, hL⟩ : ∃ L, L = f.b.length := ⟨_, rfl⟩
  have hlen1 := varint_len10 (n := (8 * f.num + f.ty).toNat) (by have := key_lt hk; omega)
  rw [← hL] at hw hv ⊢
  have hone : (cellsL (fdV f (.slice a L c))).all Value.oneCell' = true := rfl
  have hc : cellsL (fdV f (.slice a L c)) = [.int .i64 f.num, .int .i64 f.ty, .int .u64 (f.n : Int), .slice a L c] := rfl
  obtain ⟨K, hK⟩ : ∃ K, K = (8 * f.num + f.ty).toNat := ⟨_, rfl⟩
  have hKl : K < 4294967296 := by rw [hK]; exact key_lt hk
  have henc : encF f = varint K ++ ((if f.ty = 0 then varint f.n else if f.ty = 1 then lowB 8 f.n else if f.ty = 5 then lowB 4 f.n else if f.ty = 2 then varint f.b.length else []) ++ f.b) := by unfold encF headF; rw [← hK, List.append_assoc]
  have hlen1 := varint_len10 (n := K) (by omega)
  have hki := key_int hk
  rw [← hK] at hki
  have hfill : ∀ x, fillC [.int .u8 0] [(0, 1, .int .u8 x)] = some [.int .u8 x] := fun x => fill1 rfl
  have hrow : ∀ x, rowObj (.cells [x] true 1) 0 1 = some [x] := fun x => rfl
  simp (disch := first|omega|(simp only [np,ns];try omega)) [B_wire_Field_put, hone, hc, ld4_0, ld4_1, hki]
  obtain ⟨g0, hg0⟩ : ∃ g0, g0 = h.push (.cells [.int .i64 f.num, .int .i64 f.ty, .int .u64 (f.n : Int), .slice a L c] true 1) := ⟨_, rfl⟩
  rw [← hg0]
  have hf0 : Fr h g0 [] := by rw [hg0]; exact Fr.push _ _ _
  have hg0n : g0.n = h.n + 1 := by rw [hg0]; rfl
  have hs0 := hs.fr hf0 (fun _ _ => by simp)
  refine (grown_ok (n := K) hs0 (by omega) (by omega)).mono ?_
  rintro u g1 ⟨⟨a1, k1, c1, rfl⟩, G1⟩
  have hnv : h.n ∉ idOf v := fun hx => by have := hs.lt _ hx; omega
  have hob1 : g1.get h.n = .cells [.int .i64 f.num, .int .i64 f.ty, .int .u64 (f.n : Int), .slice a L c] true 1 := by
    rw [G1.fr.get h.n (by omega) hnv, hg0, VH.get_push_new]
  have G1' : Gr h g1 v (.slice a1 k1 c1) (l ++ varint K) := ((Gr.start hs).step hf0).trans G1
  have hg1n := G1.fr.n
  have hw1 : IsBytes g1 (.slice a L c) f.b := hw.fr G1'.fr hv
  have hn1 : h.n ∉ idOf (.slice a1 k1 c1) := fun hx => (G1.ids _ hx).elim hnv (fun e => by omega)
  have hcase : f.ty = 0 ∨ f.ty = 2 ∨ ∃ M, M ≤ 8 ∧ f.b = [] ∧ encF f = varint K ++ lowB M f.n ∧ (if f.ty = 1 then (8 : Int) else 4) = (M : Int) ∧ (f.ty == 0) = false ∧ (f.ty == 2) = false := by
    rcases okF_ty hk with h0 | h1 | h5 | h2
    · exact .inl h0
    · have hb0 : f.b = [] := by
        unfold okF at hk
        simp [h1] at hk
        exact hk.2
      exact .inr (.inr ⟨8, by omega, hb0, by rw [henc, hb0]; simp [h1], by simp [h1], by simp [h1], by simp [h1]⟩)
    · have hb0 : f.b = [] := by
        unfold okF at hk
        simp [h5] at hk
        exact hk.2.1
      exact .inr (.inr ⟨4, by omega, hb0, by rw [henc, hb0]; simp [h5], by simp [h5], by simp [h5], by simp [h5]⟩)
    · exact .inr (.inl h2)
  rcases hcase with h0 | h2 | ⟨M, hM8, hb0, hencM, hsz, hty0, hty2⟩
  · simp (disch := first|omega|(simp only [np,ns];try omega)) [hob1, ld4_1, ld4_2, h0]
    refine (grown_ok (n := f.n) G1'.own hn (by simp; omega)).mono ?_
    rintro u g2 ⟨⟨a2, k2, c2, rfl⟩, G2⟩
    simp (disch := first|omega|(simp only [np,ns];try omega)) [r_wire_Field_put]
    have := G1'.trans G2
    have hb0 : f.b = [] := by
      unfold okF at hk
      simp [h0] at hk
      exact hk.2
    rw [henc, hb0, List.append_nil, if_pos h0, ← List.append_assoc]
    exact this
  · have hLw : IntKind.u64.wrap (L : Int) = (L : Int) := u64_small (by omega) (by omega)
    simp (disch := first|omega|(simp only [np,ns];try omega)) [hob1, ld4_1, ld4_3, h2, hLw]
    refine (grown_ok (n := L) G1'.own (by omega) (by simp; omega)).mono ?_
    rintro u g2 ⟨⟨a2, k2, c2, rfl⟩, G2⟩
    have hob2 : g2.get h.n = .cells [.int .i64 f.num, .int .i64 f.ty, .int .u64 (f.n : Int), .slice a L c] true 1 := by
      rw [G2.fr.get h.n (by omega) hn1, hob1]
    have G2' := G1'.trans G2
    have hw2 : IsBytes g2 (.slice a L c) f.b := hw.fr G2'.fr hv
    have hlen2 := varint_len10 (n := L) (by omega)
    obtain ⟨w', g', hap, G'⟩ := G2'.append f.b (by simp; omega)
    rw [← hL] at hap
    obtain ⟨a3, c3, rfl⟩ := G'.shape
    have hsrc := hw2.src
    rw [h2] at hob2
    simp (disch := first|omega|(simp only [np,ns];try omega)) [r_wire_Field_put, hob2, ld4_3, hsrc, hap]
    rw [henc, h2]
    simpa [hL] using G'
  · simp (disch := first|omega|(simp only [np,ns];try omega)) [hob1, ld4_1, ld4_2, hty0, hty2]
    refine size_ok.mono ?_
    rintro u g2 ⟨rfl, rfl⟩
    simp (disch := first|omega|(simp only [np,ns];try omega)) [hsz]
    refine pw_loopN (fun k s g => ∃ w, s 1 = w ∧ (∃ a k c, w = .slice a k c) ∧ s 2 = .pointer (some ⟨h.n, 0, none⟩) ∧ s 37 = .int .i64 (M : Int) ∧ s 38 = .int .i64 (k : Int) ∧ Gr h g v w (l ++ varint K ++ (lowB M f.n).take k) ∧ g.get h.n = g2.get h.n ∧ h.n < g.n ∧ h.n ∉ idOf w) M ?_ ?_
    · refine ⟨_, by simp [upd_apply], ⟨_, _, _, rfl⟩, by simp [upd_apply], by simp [upd_apply], by simp [upd_apply], by simpa using G1', rfl, by omega, hn1⟩
    · rintro k s g hk8 ⟨w, k1', ⟨a2, k2, c2, rfl⟩, e2, e37, e38, G, hgo, hgn, hgw⟩
      by_cases hlt : k < M
      · have hltI : (k : Int) < (M : Int) := by omega
        obtain ⟨D, hD⟩ : ∃ D, D = UInt8.ofNat (f.n / 256 ^ k % 256) := ⟨_, rfl⟩
        have hlow := low_byte f.n k
        rw [← hD] at hlow
        have e8 : IntKind.i64.wrap (8 * (k : Int)) = 8 * (k : Int) := i64_small (by omega) (by omega)
        have e1' : IntKind.i64.wrap ((k : Int) + 1) = ((k + 1 : Nat) : Int) := by rw [i64_small (by omega) (by omega)]; omega
        have hge : ¬ (8 * (k : Int)) < 0 := by omega
        have emin : min (8 * (k : Int)).toNat 64 = 8 * k := by omega
        have hoD : [Value.int .u8 (D.toNat : Int)].all Value.oneCell' = true := rfl
        obtain ⟨w', g', hap, G2⟩ := (Gr.start G.own).byte D (by simp [lowB_length]; omega)
        have G' := G.trans G2
        obtain ⟨a3, n3, c3, rfl⟩ := G'.sh
        simp (disch := first|omega|(simp only [np,ns];try omega)) [k1', e2, e37, e38, hltI, hlt, hgo, hob1, ld4_2, e8, hge, emin, hlow, hfill, hoD, hrow, hap, e1']
        refine ⟨?_, (G2.fr.get h.n hgn hgw).trans (hgo.trans hob1), by have := G2.fr.n; omega, fun hx => (G2.ids _ hx).elim hgw (fun e => by omega)⟩
        rw [lowB_take hlt, ← hD, ← List.append_assoc, ← List.append_assoc]
        exact G'
      · obtain rfl : k = M := by omega
        simp (disch := first|omega|(simp only [np,ns];try omega)) [r_wire_Field_put, k1', e2, e37, e38, hgo, hob1, ld4_2]
        rw [hencM]
        simpa [lowB_length, List.take_of_length_le] using G
theorem isB_lt {h : VH} {v : Value} {bs : List UInt8} (hb : IsBytes h v bs) : ∀ i ∈ idOf v, i < h.n := by
  rcases hb with ⟨rfl, _⟩ | ⟨i, o, c, cs, own, h0, rfl, h2, _⟩
  · intro i hi; simp [idOf] at hi
  · intro j hj; simp [idOf] at hj; subst hj; exact h0.1
theorem FdAt.fr {h h' : VH} {i o : Nat} {f : Fd} {w : Value} (k : FdAt h i o f w) (hf : Fr h h' []) (hi : i < h.n) : FdAt h' i o f w := by
  have e := hf.get i hi (by simp)
  exact ⟨by rw [e]; exact k.all, by rw [e]; exact k.l0, by rw [e]; exact k.l1, by rw [e]; exact k.l2, by rw [e]; exact k.l3, isB_fr hf k.bytes⟩
theorem take_one {α : Type} {l : List α} {k : Nat} (hk : k < l.length) : l.take (k + 1) = l.take k ++ [l[k]] := List.take_succ_eq_append_getElem hk
def encL (fs : List Fd) : List UInt8 := fs.flatMap encF
theorem encL_append (a b : List Fd) : encL (a ++ b) = encL a ++ encL b := by simp [encL]
theorem encL_take {fs : List Fd} {k : Nat} (hk : k < fs.length) : encL (fs.take (k + 1)) = encL (fs.take k) ++ encF fs[k] := by
  rw [take_one hk, encL_append]
  simp [encL]
theorem encL_take_le (fs : List Fd) (k : Nat) : (encL (fs.take k)).length ≤ (encL fs).length := by
  have : encL fs = encL (fs.take k) ++ encL (fs.drop k) := by rw [← encL_append, List.take_append_drop]
  rw [this]
  simp
theorem encF_b (f : Fd) : f.b.length ≤ (encF f).length := by simp [encF]
def writeS (fs : List Fd) : List UInt8 × Int :=
  if 4096 < fs.length then ([], 7) else if fs.all okF = false then ([], 30) else if 1048576 < (encL fs).length then ([], 4) else (encL fs, 0)
theorem headF_len {f : Fd} (hk : okF f = true) (hn : f.n < 18446744073709551616) (hb : f.b.length ≤ 10000000) : (headF f).length ≤ 20 := by
  have h1 := varint_len10 (n := (8 * f.num + f.ty).toNat) (by have := key_lt hk; omega)
  have h2 := varint_len10 hn
  have h3 := varint_len10 (n := f.b.length) (by omega)
  unfold headF
  rw [List.length_append]
  split
  · omega
  · split
    · rw [lowB_length]; omega
    · split
      · rw [lowB_length]; omega
      · split
        · omega
        · simp; omega

set_option maxHeartbeats 2000000 in
theorem write_ok {h : VH} {v : Value} {fs : List Fd} (hv : IsFds h v fs) (hwf : ∀ f ∈ fs, f.wf) (hbl : ∀ f ∈ fs, f.b.length ≤ 8000000) (hlen : fs.length ≤ 100000000) :
    PCalls Try.prog f_wire_Write [v] h (fun u h' => ∃ a n c, u = .tuple #[.slice a n c, .int .i64 (writeS fs).2] ∧ Buf h h' (.slice a n c) (writeS fs).1) := by
  refine PCalls_of_pw st_wire_Write (by simp [n_wire_Write]) ?_
  rw [b_wire_Write]
  obtain ⟨va, vc, rfl⟩ := hv.shape
  obtain ⟨L, hL⟩ : ∃ L, L = fs.length := ⟨_, rfl⟩
  have hnilB : ∀ g, Fr h g [] → Buf h g (.slice none 0 0) [] := fun g hg => (Buf.nil h).step hg
  rw [← hL]
  by_cases hbig : 4096 < L
  · have hbigI : (4096 : Int) < (L : Int) := by omega
    have hw : writeS fs = ([], 7) := by unfold writeS; rw [if_pos (by omega)]
    rw [hw]
    simp (disch := first|omega|(simp only [np,ns];try omega)) [r_wire_Write, B_wire_Write, hbig, hbigI]
    exact ⟨_, _, _, ⟨rfl, rfl, rfl⟩, hnilB h (Fr.refl _ _)⟩
  have hbigI : ¬ (4096 : Int) < (L : Int) := by omega
  simp (disch := first|omega|(simp only [np,ns];try omega)) [B_wire_Write, hbig, hbigI]
  refine pw_loopN (fun k s g => Fr h g [] ∧ (∀ x ∈ fs.take k, okF x = true) ∧ s 0 = .slice va L vc ∧ s 12 = .slice va L vc ∧ s 13 = .int .i64 (L : Int) ∧ s 14 = .int .i64 (k : Int)) L ?_ ?_
  · exact ⟨Fr.refl _ _, by simp, by simp [upd_apply, s0_apply], by simp [upd_apply, s0_apply], by simp [upd_apply, s0_apply], by simp [upd_apply, s0_apply]⟩
  rintro k s g hk ⟨hfr, hall, e0, e12, e13, e14⟩
  by_cases hlt : k < L
  · have hltI : (k : Int) < (L : Int) := by omega
    have hkf : k < fs.length := by omega
    obtain ⟨i, o, c, hi, hc, hva, hez, hat⟩ := hv.at_ (by omega)
    rw [← hL] at hva hc
    injection hva with hva1 _ hva3
    subst hva1
    subst hva3
    obtain ⟨w, hA⟩ := hat k hkf
    have hA := hA.fr hfr hi
    obtain ⟨wa, wc, hwv⟩ := hA.bytes.shape
    have hmem : fs[k] ∈ fs := List.getElem_mem hkf
    obtain ⟨f, hf⟩ : ∃ f, f = fs[k] := ⟨_, rfl⟩
    rw [← hf] at hA hmem hwv
    have hAll := hA.all
    rw [hwv] at hAll
    have hst : ∀ a b c d, storeObj (.cells [a, b, c, d] true 1) 0 4 (fdV f (.slice wa f.b.length wc)) = some (.cells [.int .i64 f.num, .int .i64 f.ty, .int .u64 (f.n : Int), .slice wa f.b.length wc] true 1) := fun _ _ _ _ => rfl
    have hld : loadObj (.cells [.int .i64 f.num, .int .i64 f.ty, .int .u64 (f.n : Int), .slice wa f.b.length wc] true 1) 0 (some 4) = some (fdV f (.slice wa f.b.length wc)) := rfl
    have eW : IntKind.i64.wrap ((k : Int) + 1) = ((k + 1 : Nat) : Int) := by rw [i64_small (by omega) (by omega)]; omega
    simp (disch := first|omega|(simp only [np,ns];try omega)) [e0, e12, e13, e14, hltI, hAll, hst, hld]
    obtain ⟨g1, hg1⟩ : ∃ g1, g1 = (g.push (.cells [.int .i64 0, .int .i64 0, .int .u64 0, .slice none 0 0] true 1)).set g.n (.cells [.int .i64 f.num, .int .i64 f.ty, .int .u64 (f.n : Int), .slice wa f.b.length wc] true 1) := ⟨_, rfl⟩
    rw [← hg1]
    have hf1 : Fr g g1 [] := by rw [hg1]; exact Fr_set (Fr_push (Fr.refl _ _)) (Nat.le_refl _)
    have hA1 := isB_fr hf1 hA.bytes
    rw [hwv] at hA1
    refine (can_ok hA1 (hwf f hmem) (by have := hbl f hmem; omega)).mono ?_
    rintro u g2 ⟨rfl, hf2⟩
    by_cases hok : okF f = true
    · simp (disch := first|omega|(simp only [np,ns];try omega)) [hok, eW, e0, e12, e13, e14]
      refine ⟨by omega, hfr.trans (hf1.trans hf2), ?_⟩
      rw [take_one hkf, ← hf]
      intro x hx
      rcases List.mem_append.1 hx with hx | hx
      · exact hall x hx
      · rw [List.mem_singleton.1 hx]; exact hok
    · have hok : okF f = false := by simpa using hok
      have hw : writeS fs = ([], 30) := by
        unfold writeS
        rw [if_neg (by omega), if_pos]
        rw [List.all_eq_false]
        exact ⟨f, hmem, by simp [hok]⟩
      rw [hw]
      simp (disch := first|omega|(simp only [np,ns];try omega)) [r_wire_Write, hok]
      exact ⟨_, _, _, ⟨rfl, rfl, rfl⟩, hnilB _ (hfr.trans (hf1.trans hf2))⟩
  · obtain rfl : k = L := by omega
    have hall : fs.all okF = true := by rw [hL, List.take_length] at hall; exact List.all_eq_true.2 hall
    have hwS : writeS fs = if 1048576 < (encL fs).length then ([], 4) else (encL fs, 0) := by
      unfold writeS
      rw [if_neg (by omega), if_neg (by simp [hall])]
    simp (disch := first|omega|(simp only [np,ns];try omega)) [e0, e12, e13, e14]
    clear e12 e13 e14
    refine pw_loopN (fun j s g => ∃ a n c, Buf h g (.slice a n c) (encL (fs.take j)) ∧ n = (encL (fs.take j)).length ∧ (encL (fs.take j)).length ≤ 1048576 ∧ s 6 = .slice a n c ∧ s 22 = .slice va k vc ∧ s 23 = .int .i64 (k : Int) ∧ s 24 = .int .i64 (j : Int)) k ?_ ?_
    · exact ⟨none, 0, 0, hnilB g hfr, rfl, by simp [encL], by simp [upd_apply], by simp [upd_apply], by simp [upd_apply], by simp [upd_apply]⟩
    rintro j s g hj ⟨ba, bn, bc, hB, hbn, hble, e6, e22, e23, e24⟩
    by_cases hlt : j < k
    · have hltI : (j : Int) < (k : Int) := by omega
      have hjf : j < fs.length := by omega
      obtain ⟨i, o, c, hi, hc, hva, hez, hat⟩ := hv.at_ (by omega)
      rw [← hL] at hva hc
      injection hva with hva1 _ hva3
      subst hva1
      subst hva3
      obtain ⟨w, hA0⟩ := hat j hjf
      have hwlt := isB_lt hA0.bytes
      have hA := hA0.fr hB.fr hi
      obtain ⟨wa, wc, hwv⟩ := hA.bytes.shape
      have hmem : fs[j] ∈ fs := List.getElem_mem hjf
      have htk := encL_take hjf
      obtain ⟨f, hf⟩ : ∃ f, f = fs[j] := ⟨_, rfl⟩
      rw [← hf] at hA hmem hwv htk
      have hokf : okF f = true := List.all_eq_true.1 hall f hmem
      have hAll := hA.all
      rw [hwv] at hAll
      obtain ⟨FL, hFL⟩ : ∃ FL, FL = f.b.length := ⟨_, rfl⟩
      rw [← hFL] at hAll hwv
      have hst : ∀ a b c d, storeObj (.cells [a, b, c, d] true 1) 0 4 (fdV f (.slice wa FL wc)) = some (.cells [.int .i64 f.num, .int .i64 f.ty, .int .u64 (f.n : Int), .slice wa FL wc] true 1) := fun _ _ _ _ => rfl
      have hld : loadObj (.cells [.int .i64 f.num, .int .i64 f.ty, .int .u64 (f.n : Int), .slice wa FL wc] true 1) 0 (some 4) = some (fdV f (.slice wa FL wc)) := rfl
      have eW : IntKind.i64.wrap ((j : Int) + 1) = ((j + 1 : Nat) : Int) := by rw [i64_small (by omega) (by omega)]; omega
      have hfb := hbl f hmem
      have hel := encF_b f
      have htot := encL_take_le fs (j + 1)
      rw [htk, List.length_append] at htot
      by_cases hFbig : 1048576 < FL
      · have hFbigI : (1048576 : Int) < (FL : Int) := by omega
        have hw : writeS fs = ([], 4) := by rw [hwS, if_pos (by omega)]
        rw [hw]
        simp (disch := first|omega|(simp only [np,ns];try omega)) [r_wire_Write, e6, e22, e23, e24, hltI, hlt, hAll, hst, hld, ld4_3, hFbigI, hFbig]
        exact ⟨_, _, _, ⟨rfl, rfl, rfl⟩, hnilB _ (hB.fr.trans (Fr_set (Fr_push (Fr.refl _ _)) (Nat.le_refl _)))⟩
      have hFbigI : ¬ (1048576 : Int) < (FL : Int) := by omega
      simp (disch := first|omega|(simp only [np,ns];try omega)) [e6, e22, e23, e24, hltI, hlt, hAll, hst, hld, ld4_3, hFbigI, hFbig]
      obtain ⟨g1, hg1⟩ : ∃ g1, g1 = (g.push (.cells [.int .i64 0, .int .i64 0, .int .u64 0, .slice none 0 0] true 1)).set g.n (.cells [.int .i64 f.num, .int .i64 f.ty, .int .u64 (f.n : Int), .slice wa FL wc] true 1) := ⟨_, rfl⟩
      rw [← hg1]
      have hf1 : Fr g g1 [] := by rw [hg1]; exact Fr_set (Fr_push (Fr.refl _ _)) (Nat.le_refl _)
      have hB1 := hB.step hf1
      have hA1 := isB_fr hf1 hA.bytes
      have hown := hB1.own
      rw [hwv] at hA1
      refine (put_ok hown hA1 (fun x hx hx2 => ?_) hokf (hwf f hmem).2.2.2.2 (by omega) (by omega)).mono ?_
      · have h1 := hB1.ids x hx2
        have h2 := hwlt x (by rw [hwv]; exact hx)
        omega
      rintro u g2 ⟨⟨ua, un, uc, rfl⟩, G⟩
      have hB2 := Gr.buf hB1 G
      rw [← htk] at hB2
      obtain ⟨E, hE⟩ : ∃ E, E = (encL (fs.take (j + 1))).length := ⟨_, rfl⟩
      have hun : un = E := by
        obtain ⟨a', c', h1⟩ := hB2.shape
        injection h1 with _ h1 _
        rw [h1, hE]
      have hel2 : E ≤ (encL fs).length := by rw [hE]; exact encL_take_le fs (j + 1)
      subst hun
      by_cases hbig2 : 1048576 < un
      · have hbig2I : (1048576 : Int) < (un : Int) := by omega
        have hw : writeS fs = ([], 4) := by rw [hwS, if_pos (by omega)]
        rw [hw]
        simp (disch := first|omega|(simp only [np,ns];try omega)) [r_wire_Write, hbig2I, hbig2]
        exact ⟨_, _, _, ⟨rfl, rfl, rfl⟩, hnilB _ hB2.fr⟩
      have hbig2I : ¬ (1048576 : Int) < (un : Int) := by omega
      simp (disch := first|omega|(simp only [np,ns];try omega)) [e22, e23, e24, hbig2I, hbig2, eW]
      exact ⟨hlt, ua, un, uc, hB2, hE, by omega, rfl, rfl, rfl⟩
    · obtain rfl : j = k := by omega
      have e : fs.take j = fs := by rw [hL]; exact List.take_length
      rw [e] at hB hble
      have hw : writeS fs = (encL fs, 0) := by rw [hwS, if_neg (by omega)]
      rw [hw]
      simp (disch := first|omega|(simp only [np,ns];try omega)) [r_wire_Write, e6, e22, e23, e24]
      exact ⟨_, _, _, ⟨rfl, rfl, rfl⟩, hB⟩
end Go.Proofs.Ytdnkpgbggpbgaaa.Wr
