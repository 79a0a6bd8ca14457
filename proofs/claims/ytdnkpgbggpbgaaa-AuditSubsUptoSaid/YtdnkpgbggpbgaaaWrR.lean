/- wire, part R: a message is read (the reference). -/
import Derived.Test.YtdnkpgbggpbgaaaWrE
import Derived.Test.YtdnkpgbggpbgaaaWrN
import Derived.Test.YtdnkpgbggpbgaaaFsF
set_option linter.unusedVariables false
set_option linter.unusedSimpArgs false
set_option maxRecDepth 100000
namespace Go.Proofs.Ytdnkpgbggpbgaaa.Wr
open Go Go.RowKit Go.Proofs.Ytdnkpgbggpbgaaa.Pm Go.Proofs.Ytdnkpgbggpbgaaa.Fs
attribute [-simp] BitVec.toNat_or BitVec.toNat_xor BitVec.toNat_add BitVec.toNat_and BitVec.toNat_not BitVec.toNat_shiftLeft BitVec.toNat_ushiftRight

theorem and127_lt (c : UInt8) (h : c.toNat < 128) : c.toNat &&& 127 = c.toNat := by
  rw [show (127 : Nat) = 2 ^ 7 - 1 by decide, Nat.and_two_pow_sub_one_eq_mod]
  omega
set_option maxHeartbeats 2000000 in
theorem rget_ok {h : VH} {v : Value} {bs : List UInt8} (hb : IsBytes h v bs) {at_ : Nat} (ha : at_ ≤ bs.length) (hlen : bs.length ≤ 1000000000) :
    PCalls Try.prog f_ref02_Get [v, .int .i64 (at_ : Int)] h (fun u h' => u = .tuple #[.int .u64 ((getS 0 0 (bs.drop at_)).1 : Int), .int .i64 (if (getS 0 0 (bs.drop at_)).2.2 = 0 then ((at_ + (getS 0 0 (bs.drop at_)).2.1 : Nat) : Int) else 0), .int .i64 (getS 0 0 (bs.drop at_)).2.2] ∧ h' = h) := by
  refine PCalls_of_pw st_ref02_Get (by simp [n_ref02_Get]) ?_
  rw [b_ref02_Get]
  obtain ⟨va, vc, rfl⟩ := hb.shape
  obtain ⟨T, hT⟩ : ∃ T, T = bs.drop at_ := ⟨_, rfl⟩
  obtain ⟨L, hL⟩ : ∃ L, L = bs.length := ⟨_, rfl⟩
  have hTL : T.length = L - at_ := by rw [hT, hL]; simp
  rw [← hT]
  rw [← hL] at ha hlen hb ⊢
  have h1 : ¬ (at_ : Int) < 0 := by omega
  have h2 : ¬ (L : Int) < (at_ : Int) := by omega
  have h2' : ¬ L < at_ := by omega
  simp (disch := first|omega|(simp only [np,ns];try omega)) [B_ref02_Get, h1, h2, h2']
  refine pw_loopN (fun k s g => g = h ∧ ∃ acc : Nat, acc < 18446744073709551616 ∧ k ≤ T.length ∧ k ≤ 9 ∧ getS 0 0 T = getS k acc (T.drop k) ∧ s 0 = .slice va L vc ∧ s 1 = .int .i64 (at_ : Int) ∧ s 7 = .int .u64 (acc : Int) ∧ s 8 = .int .i64 (k : Int)) 10 ?_ ?_
  · exact ⟨rfl, 0, by omega, by omega, by omega, rfl, by simp [upd_apply, s0_apply], by simp [upd_apply, s0_apply], by simp [upd_apply], by simp [upd_apply]⟩
  rintro k s g hk ⟨rfl, acc, hacc, hkT, hk9, hgs, e0, e1, e7, e8⟩
  have h10 : (k : Int) < 10 := by omega
  have h10' : k < 10 := by omega
  obtain ⟨P, hP⟩ : ∃ P, P = at_ + k := ⟨_, rfl⟩
  have eA : IntKind.i64.wrap ((at_ : Int) + (k : Int)) = (P : Int) := by rw [i64_small (by omega) (by omega)]; omega
  by_cases hlt : P < L
  case neg =>
    have hge : ((L : Int) ≤ (P : Int)) := by omega
    have hge' : L ≤ P := by omega
    have hend : T.drop k = [] := List.drop_eq_nil_of_le (by omega)
    rw [hend] at hgs
    have hgs : getS 0 0 T = (0, 0, 8) := hgs
    rw [hgs]
    simp (disch := first|omega|(simp only [np,ns];try omega)) [r_ref02_Get, e0, e1, e7, e8, h10, h10', eA, hge, hge']
  have hge : ¬ ((L : Int) ≤ (P : Int)) := by omega
  have hge' : ¬ L ≤ P := by omega
  obtain ⟨i, o, c, hi, hc, hv, hat⟩ := nil_at hb (by omega)
  injection hv with hv1 hv2 hv3
  subst hv1 hv3
  have hkl : k < T.length := by omega
  have hld := hat.at_ (k := at_ + k) (by omega)
  obtain ⟨C, hC⟩ : ∃ C, C = T[k] := ⟨_, rfl⟩
  have hbe : bs[at_ + k]'(by omega) = C := by rw [hC]; subst hT; rw [List.getElem_drop]
  rw [hbe] at hld
  have hdr : T.drop k = C :: T.drop (k + 1) := by rw [hC]; exact List.drop_eq_getElem_cons hkl
  rw [hdr, getS_cons] at hgs
  have hC256 := C.toNat_lt
  rw [← hP] at hld
  have hPL : P < L := by omega
  have hPLI : (P : Int) < (L : Int) := by omega
  by_cases hbad : k = 9 ∧ 1 < C.toNat
  · have h9b : ((k : Int) == 9) = true := by simp; omega
    have hbadI : (1 : Int) < (C.toNat : Int) := by omega
    have hbad1 := hbad.2
    rw [if_pos hbad] at hgs
    rw [hgs]
    simp (disch := first|omega|(simp only [np,ns];try omega)) [r_ref02_Get, e0, e1, e7, e8, h10, h10', eA, hge, hge', hPL, hPLI, hld, h9b, hbad1, hbadI]
  rw [if_neg hbad] at hgs
  obtain ⟨D, hD⟩ : ∃ D, D = C.toNat &&& 127 := ⟨_, rfl⟩
  have hD128 : D < 128 := by rw [hD]; exact Nat.lt_succ_of_le Nat.and_le_right
  have hand := and127 C
  rw [← hD] at hand
  have hDw : IntKind.u64.wrap (D : Int) = (D : Int) := u64_small (by omega) (by omega)
  obtain ⟨S7, hS7⟩ : ∃ S7, S7 = 7 * k := ⟨_, rfl⟩
  have h7w : IntKind.i64.wrap (7 * (k : Int)) = (S7 : Int) := by rw [i64_small (by omega) (by omega)]; omega
  have h7u : IntKind.u64.wrap (S7 : Int) = (S7 : Int) := u64_small (by omega) (by omega)
  have h7n : ¬ (S7 : Int) < 0 := by omega
  have hmin : min S7 64 = S7 := by omega
  have hshD := shl_u64N D S7
  obtain ⟨ZD, hZD⟩ : ∃ ZD, ZD = (D * 2 ^ S7) % 18446744073709551616 := ⟨_, rfl⟩
  have horD := or_u64 (b := ZD) hacc (by omega)
  have hacc2 := or_lt64 (b := ZD) hacc (by omega)
  rw [← hZD] at hshD
  obtain ⟨VD, hVD⟩ : ∃ VD, VD = acc ||| ZD := ⟨_, rfl⟩
  rw [← hVD] at horD hacc2
  have eB : IntKind.i64.wrap ((P : Int) + 1) = ((P + 1 : Nat) : Int) := by rw [i64_small (by omega) (by omega)]; omega
  have eK : IntKind.i64.wrap ((k : Int) + 1) = ((k + 1 : Nat) : Int) := by rw [i64_small (by omega) (by omega)]; omega
  have fin : ∀ (h9 : ((k : Int) == 9) = false ∨ (((k : Int) == 9) = true ∧ ¬ 1 < C.toNat)), True := fun _ => trivial
  by_cases h128 : C.toNat < 128
  · have h128I : (C.toNat : Int) < 128 := by omega
    have hDC : D = C.toNat := by rw [hD]; exact and127_lt C h128
    rw [if_pos h128, ← hDC, ← hS7, ← hZD, ← hVD] at hgs
    rw [hgs]
    have hres : (if (0 : Int) = 0 then ((at_ + (k + 1) : Nat) : Int) else 0) = ((P + 1 : Nat) : Int) := by rw [if_pos rfl]; omega
    by_cases h9 : k = 9
    · have h9b : ((k : Int) == 9) = true := by simp; omega
      have hn1 : ¬ 1 < C.toNat := fun e => hbad ⟨h9, e⟩
      have hn1I : ¬ (1 : Int) < (C.toNat : Int) := by omega
      simp (disch := first|omega|(simp only [np,ns];try omega)) [r_ref02_Get, e0, e1, e7, e8, h10, h10', eA, hge, hge', hPL, hPLI, hld, h9b, hn1, hn1I, hand, hDw, h7w, h7u, h7n, hmin, hshD, horD, h128, h128I, eB]
      omega
    · have h9b : ((k : Int) == 9) = false := by simp; omega
      simp (disch := first|omega|(simp only [np,ns];try omega)) [r_ref02_Get, e0, e1, e7, e8, h10, h10', eA, hge, hge', hPL, hPLI, hld, h9b, hand, hDw, h7w, h7u, h7n, hmin, hshD, horD, h128, h128I, eB]
      omega
  · have h128I : ¬ (C.toNat : Int) < 128 := by omega
    have k9 : ¬ 9 ≤ k := fun e => hbad ⟨by omega, by omega⟩
    have h9b : ((k : Int) == 9) = false := by simp; omega
    rw [if_neg h128, if_neg k9, ← hD, ← hS7, ← hZD, ← hVD] at hgs
    simp (disch := first|omega|(simp only [np,ns];try omega)) [e0, e1, e7, e8, h10, h10', eA, hge, hge', hPL, hPLI, hld, h9b, hand, hDw, h7w, h7u, h7n, hmin, hshD, horD, h128, h128I, eK]
    exact ⟨VD, hacc2, by omega, by omega, hgs, rfl⟩

theorem numB_snoc : ∀ (l : List UInt8) (b : UInt8), numB (l ++ [b]) = numB l + b.toNat * 256 ^ l.length
  | [], b => by simp [numB]
  | c :: r, b => by
    rw [List.cons_append]
    simp only [numB, numB_snoc r b, List.length_cons, Nat.pow_succ, Nat.mul_add]
    rw [Nat.mul_comm (256 ^ r.length) 256, Nat.mul_left_comm, Nat.add_assoc]
set_option maxHeartbeats 2000000 in
theorem rlow_ok {h : VH} {i o c : Nat} {L : Nat} {bs : List UInt8} (hat : BytesAt h i o bs) (hL : L = bs.length) {at_ S : Nat} (hS : S ≤ 8) (ha : at_ + S ≤ bs.length) (hlen : bs.length ≤ 1000000000) :
    PCalls Try.prog f_ref02_low [.slice (some ⟨i, o, none⟩) L c, .int .i64 (at_ : Int), .int .i64 (S : Int)] h (fun u h' => u = .int .u64 (numB ((bs.drop at_).take S) : Int) ∧ h' = h) := by
  refine PCalls_of_pw st_ref02_low (by simp [n_ref02_low]) ?_
  rw [b_ref02_low]
  obtain ⟨T, hT⟩ : ∃ T, T = bs.drop at_ := ⟨_, rfl⟩
  have hTL : T.length = L - at_ := by rw [hT, hL]; simp
  rw [← hT]
  simp (disch := first|omega|(simp only [np,ns];try omega)) [B_ref02_low]
  refine pw_loopN (fun k s g => g = h ∧ s 0 = .slice (some ⟨i, o, none⟩) L c ∧ s 1 = .int .i64 (at_ : Int) ∧ s 2 = .int .i64 (S : Int) ∧ s 7 = .int .u64 (numB (T.take k) : Int) ∧ s 8 = .int .i64 (k : Int)) S ?_ ?_
  · exact ⟨rfl, by simp [upd_apply, s0_apply], by simp [upd_apply, s0_apply], by simp [upd_apply, s0_apply], by simp [upd_apply, numB], by simp [upd_apply]⟩
  rintro k s g hk ⟨rfl, e0, e1, e2, e7, e8⟩
  by_cases hlt : k < S
  case neg =>
    obtain rfl : k = S := by omega
    simp (disch := first|omega|(simp only [np,ns];try omega)) [r_ref02_low, e0, e1, e2, e7, e8]
  have hltI : (k : Int) < (S : Int) := by omega
  have eA : IntKind.i64.wrap ((at_ : Int) + (k : Int)) = ((at_ + k : Nat) : Int) := by rw [i64_small (by omega) (by omega)]; omega
  have hkl : k < T.length := by omega
  have hld := hat.at_ (k := at_ + k) (by omega)
  obtain ⟨C, hC⟩ : ∃ C, C = T[k] := ⟨_, rfl⟩
  have hbe : bs[at_ + k]'(by omega) = C := by rw [hC]; subst hT; rw [List.getElem_drop]
  rw [hbe] at hld
  obtain ⟨P, hP⟩ : ∃ P, P = at_ + k := ⟨_, rfl⟩
  rw [← hP] at eA hld
  have hPL : P < L := by omega
  have hPLI : (P : Int) < (L : Int) := by omega
  have hC256 := C.toNat_lt
  have hCw : IntKind.u64.wrap (C.toNat : Int) = (C.toNat : Int) := u64_small (by omega) (by omega)
  obtain ⟨S8, hS8⟩ : ∃ S8, S8 = 8 * k := ⟨_, rfl⟩
  have h8w : IntKind.i64.wrap (8 * (k : Int)) = (S8 : Int) := by rw [i64_small (by omega) (by omega)]; omega
  have h8u : IntKind.u64.wrap (S8 : Int) = (S8 : Int) := u64_small (by omega) (by omega)
  have h8n : ¬ (S8 : Int) < 0 := by omega
  have hmin : min S8 64 = S8 := by omega
  have hsh := shl_u64N C.toNat S8
  have hpow : 256 ^ k = 2 ^ S8 := by rw [hS8, show (256 : Nat) = 2 ^ 8 by decide, ← Nat.pow_mul]
  have hlk : (T.take k).length = k := by simp; omega
  have hacc := numB_lt (T.take k)
  rw [hlk, hpow] at hacc
  have hlt64 : C.toNat * 2 ^ S8 < 18446744073709551616 := by
    have h1 : C.toNat * 2 ^ S8 ≤ 255 * 2 ^ S8 := Nat.mul_le_mul_right _ (by omega)
    have h2 : 2 ^ S8 ≤ 2 ^ 56 := Nat.pow_le_pow_right (by decide) (by omega)
    omega
  have hp56 : 2 ^ S8 ≤ 2 ^ 56 := Nat.pow_le_pow_right (by decide) (by omega)
  rw [Nat.mod_eq_of_lt hlt64] at hsh
  obtain ⟨acc, hac⟩ : ∃ acc, acc = numB (T.take k) := ⟨_, rfl⟩
  rw [← hac] at hacc e7
  have hor := or_u64 (a := acc) (b := C.toNat * 2 ^ S8) (by omega) hlt64
  have hnx : numB (T.take (k + 1)) = acc ||| C.toNat * 2 ^ S8 := by
    rw [or_shl _ _ _ hacc, List.take_succ_eq_append_getElem hkl, ← hC, numB_snoc, hlk, hpow, hac]
  obtain ⟨Z, hZ⟩ : ∃ Z, Z = C.toNat * 2 ^ S8 := ⟨_, rfl⟩
  rw [← hZ] at hsh hor hnx
  rw [← hnx] at hor
  have eK : IntKind.i64.wrap ((k : Int) + 1) = ((k + 1 : Nat) : Int) := by rw [i64_small (by omega) (by omega)]; omega
  simp (disch := first|omega|(simp only [np,ns];try omega)) [e0, e1, e2, e7, e8, hlt, hltI, eA, hPL, hPLI, hld, hCw, h8w, h8u, h8n, hmin, hsh, hor, eK]

set_option maxHeartbeats 8000000 in
theorem rfield_ok {h : VH} {v : Value} {bs : List UInt8} (hb : IsBytes h v bs) {at_ : Nat} (ha : at_ < bs.length) (hlen : bs.length ≤ 1000000000) :
    PCalls Try.prog f_ref02_field [v, .int .i64 (at_ : Int)] h (NextP h bs at_) := by
  refine PCalls_of_pw st_ref02_field (by simp [n_ref02_field]) ?_
  rw [b_ref02_field]
  obtain ⟨T, hT⟩ : ∃ T, T = bs.drop at_ := ⟨_, rfl⟩
  obtain ⟨i, o, c, hi, hc, rfl, hat⟩ := nil_at hb (by omega)
  obtain ⟨L, hL⟩ : ∃ L, L = bs.length := ⟨_, rfl⟩
  have hTl : T.length = L - at_ := by rw [hT, hL]; simp
  simp (disch := first|omega|(simp only [np,ns];try omega)) [B_ref02_field]
  obtain ⟨H, hH⟩ : ∃ H, H = h.push (.cells [.int .i64 0, .int .i64 0, .int .u64 0, .slice none 0 0] true 1) := ⟨_, rfl⟩
  rw [← hH]
  have hf0 : Fr h H [] := by rw [hH]; exact Fr.push _ _ _
  have hb0 := isB_fr hf0 hb
  refine (rget_ok hb0 (Nat.le_of_lt ha) hlen).mono ?_
  rintro u g1 ⟨rfl, rfl⟩
  rw [← hT]
  obtain ⟨s1, s2, s3⟩ := getS_spec T 0 0 (by omega) (by omega)
  generalize hq : getS 0 0 T = q at s1 s2 s3
  obtain ⟨key, k, e⟩ := q
  simp only at s1 s2 s3 ⊢
  have hg1n : g1.n = h.n + 1 := by rw [hH]; rfl
  have hg1o : g1.get h.n = .cells [.int .i64 0, .int .i64 0, .int .u64 0, .slice none 0 0] true 1 := by rw [hH]; exact VH.get_push_new _ _
  clear hH
  have hfin : ∀ (e : Int) (g : VH), e ≠ 0 → Fr h g [] → (nextS T).2.2 = e → ∀ (a b c : Int) (p : Option Addr) (q r : Nat) (d : Int), NextP h bs at_ (.tuple #[.agg #[.int .i64 a, .int .i64 b, .int .u64 c, .slice p q r], .int .i64 d, .int .i64 e]) g := by
    intro e g he hf hn a b c p q r d
    refine ⟨hf, a, b, c, p, q, r, d, ?_, ?_⟩
    · rw [← hT, hn]
    · rw [← hT, hn]; exact fun h0 => absurd h0 he
  by_cases he : e = 0
  case neg =>
    have heb : (e != 0) = true := by simpa using he
    have hns : (nextS T).2.2 = e := by unfold nextS; rw [hq]; simp [he]
    simp (disch := first|omega|(simp only [np,ns];try omega)) [r_ref02_field, heb, he, fill4_0, st4_all, ld4_all, hg1o]
    exact hfin e _ he (Fr_set hf0 (by omega)) hns _ _ _ _ _ _ _
  subst he
  obtain ⟨k1, k2⟩ := s2 rfl
  obtain ⟨N, hN⟩ : ∃ N, N = key / 8 := ⟨_, rfl⟩
  obtain ⟨Y, hY⟩ : ∃ Y, Y = key % 8 := ⟨_, rfl⟩
  have hqd : (key : Int).tdiv 8 = (N : Int) := by rw [hN]; exact (Int.ofNat_tdiv key 8).symm
  have hqm : (key : Int).tmod 8 = (Y : Int) := by rw [hY]; exact (Int.ofNat_tmod key 8).symm
  have hNu : IntKind.u64.wrap (N : Int) = (N : Int) := u64_small (by omega) (by omega)
  have hY8 : Y < 8 := by omega
  have hYw : IntKind.i64.wrap (Y : Int) = (Y : Int) := i64_small (by omega) (by omega)
  by_cases hbig : 536870911 < N
  · have hns : (nextS T).2.2 = 30 := by unfold nextS; rw [hq]; simp [← hN, hbig]
    have hbigI : (536870911 : Int) < (N : Int) := by omega
    have hz : ¬ (N : Int) < 1 := by omega
    have hz' : ¬ N = 0 := by omega
    simp (disch := first|omega|(simp only [np,ns];try omega)) [r_ref02_field, hqd, hNu, hbig, hbigI, hz, hz', fill4_0, st4_all, ld4_all, hg1o]
    exact hfin 30 _ (by decide) (Fr_set hf0 (by omega)) hns _ _ _ _ _ _ _
  have hbigI : ¬ (536870911 : Int) < (N : Int) := by omega
  have hNw : IntKind.i64.wrap (N : Int) = (N : Int) := i64_small (by omega) (by omega)
  by_cases hzero : N = 0
  · have hns : (nextS T).2.2 = 30 := by unfold nextS; rw [hq]; simp [← hN, hzero]
    have hz : (N : Int) < 1 := by omega
    simp (disch := first|omega|(simp only [np,ns];try omega)) [r_ref02_field, hqd, hNu, hbig, hbigI, hz, eq_true hzero, fill4_0, st4_all, ld4_all, hg1o]
    exact hfin 30 _ (by decide) (Fr_set hf0 (by omega)) hns _ _ _ _ _ _ _
  have hz : ¬ (N : Int) < 1 := by omega
  have hdd : ∀ j, (bs.drop (at_ + j)) = T.drop j := fun j => by rw [hT, List.drop_drop]
  obtain ⟨G, hG⟩ : ∃ G, G = (g1.push (.cells [.int .i64 0, .int .i64 0, .int .u64 0, .slice none 0 0] true 1)).set g1.n (.cells [.int .i64 (N : Int), .int .i64 (Y : Int), .int .u64 0, .slice none 0 0] true 1) := ⟨_, rfl⟩
  have hGF : Fr h G [] := by rw [hG]; exact Fr_set (Fr_push hf0) (by omega)
  have hGn : G.n = h.n + 2 := by rw [hG]; simp; omega
  have hGo : G.get h.n = .cells [.int .i64 0, .int .i64 0, .int .u64 0, .slice none 0 0] true 1 := by rw [hG, VH.get_set_ne _ _ (by omega), VH.get_push_lt _ _ (by omega), hg1o]
  have hG9 : G.get g1.n = .cells [.int .i64 (N : Int), .int .i64 (Y : Int), .int .u64 0, .slice none 0 0] true 1 := by rw [hG, VH.get_set_same]
  have hbG := isB_fr hGF hb
  have hatG : BytesAt G i o bs := hat.congr (hGF.get i hi (by simp))
  have hiG : i < G.n := by omega
  have hok : ∀ (F : Fd) (kk : Nat) (g : VH) (p : Option Addr) (q r : Nat) (d : Int), d = ((at_ + kk : Nat) : Int) → nextS T = (F, kk, 0) → Fr h g [] → IsBytes g (.slice p q r) F.b → (∀ i ∈ idOf (.slice p q r), h.n ≤ i) →
      NextP h bs at_ (.tuple #[.agg #[.int .i64 F.num, .int .i64 F.ty, .int .u64 (F.n : Int), .slice p q r], .int .i64 d, .int .i64 0]) g := by
    intro F kk g p q r d hd hn hf hby hid
    subst hd
    refine ⟨hf, F.num, F.ty, (F.n : Int), p, q, r, ((at_ + kk : Nat) : Int), ?_, ?_⟩
    · rw [← hT, hn]
    · rw [← hT, hn]
      exact fun _ => ⟨rfl, rfl, rfl, rfl, hby, hid⟩
  have hnilB : ∀ g : VH, IsBytes g (.slice none 0 0) [] := fun g => .inl ⟨rfl, rfl⟩
  have hkL : at_ + k ≤ bs.length := by omega
  have hnk : (nextS T) = (if Y = 0 then
      (⟨(N : Nat), 0, (getS 0 0 (T.drop k)).1, []⟩, k + (getS 0 0 (T.drop k)).2.1, (getS 0 0 (T.drop k)).2.2)
    else if Y = 1 then if (T.drop k).length < 8 then (zeroF, 0, 8) else (⟨(N : Nat), 1, numB ((T.drop k).take 8), []⟩, k + 8, 0)
    else if Y = 5 then if (T.drop k).length < 4 then (zeroF, 0, 8) else (⟨(N : Nat), 5, numB ((T.drop k).take 4), []⟩, k + 4, 0)
    else if Y = 2 then
      if (getS 0 0 (T.drop k)).2.2 ≠ 0 then (zeroF, 0, (getS 0 0 (T.drop k)).2.2) else
      if (T.drop (k + (getS 0 0 (T.drop k)).2.1)).length < (getS 0 0 (T.drop k)).1 then (zeroF, 0, 8) else
      (⟨(N : Nat), 2, 0, (T.drop (k + (getS 0 0 (T.drop k)).2.1)).take (getS 0 0 (T.drop k)).1⟩, k + (getS 0 0 (T.drop k)).2.1 + (getS 0 0 (T.drop k)).1, 0)
    else (zeroF, 0, 30)) := by
    unfold nextS
    rw [hq]
    simp only [← hN, ← hY]
    rw [if_neg (by simp), if_neg (by omega)]
  clear hN hq s2 s3
  have hgetk := rget_ok hbG (at_ := at_ + k) hkL hlen
  rw [hdd] at hgetk
  obtain ⟨A, hA⟩ : ∃ A, A = at_ + k := ⟨_, rfl⟩
  have hAI : (at_ : Int) + (k : Int) = (A : Int) := by omega
  have hAz : (if (0 : Int) = 0 then ((at_ + k : Nat) : Int) else 0) = (A : Int) := by rw [if_pos rfl, hA]
  rw [← hA] at hgetk hkL
  obtain ⟨t1, t2, t3⟩ := getS_spec (T.drop k) 0 0 (by omega) (by omega)
  obtain ⟨D, hDk⟩ : ∃ D, D = T.drop k := ⟨_, rfl⟩
  have hDl : D.length = L - A := by rw [hDk]; simp; omega
  have hDd : ∀ j, T.drop (k + j) = D.drop j := fun j => by rw [hDk, List.drop_drop]
  rw [← hDk] at hgetk hnk t1 t2 t3
  simp only [hDd] at hnk
  by_cases hY0 : Y = 0
  · have hY0b : ((Y : Int) == 0) = true := by simp [hY0]
    have hY0I : (Y : Int) = 0 := by omega
    rw [if_pos hY0] at hnk
    simp (disch := first|omega|(simp only [np,ns];try omega)) [hqd, hNu, hNw, hqm, hYw, hbig, hbigI, hz, hzero, hAI, fill4_2, fill4_0, st4_all, ld4_all, ld4_1, hg1o, ← hG, hG9, hY0b]
    refine hgetk.mono ?_
    rintro u g2 ⟨rfl, rfl⟩
    generalize getS 0 0 D = q2 at hnk t1 t2 t3 ⊢
    obtain ⟨n2, k2, e2⟩ := q2
    simp only at hnk t1 t2 t3 ⊢
    have hF3 : ∀ a b, Fr h ((g2.set g1.n a).set h.n b) [] := fun a b => Fr_set (Fr_set hGF (by omega)) (by omega)
    simp (disch := first|omega|(simp only [np,ns];try omega)) [r_ref02_field, hG9, hGo, st4_2, ld4_all, st4_all]
    by_cases he2 : e2 = 0
    · subst he2
      have := hok ⟨(N : Int), 0, n2, []⟩ (k + k2) ((g2.set g1.n (.cells [.int .i64 (N : Int), .int .i64 (Y : Int), .int .u64 (n2 : Int), .slice none 0 0] true 1)).set h.n (.cells [.int .i64 (N : Int), .int .i64 (Y : Int), .int .u64 (n2 : Int), .slice none 0 0] true 1)) none 0 0 (if (0 : Int) = 0 then ((A + k2 : Nat) : Int) else 0) (by rw [if_pos rfl]; omega) hnk (hF3 _ _) (hnilB _) (by simp [idOf])
      rw [hY0I] at this ⊢
      exact this
    · exact hfin e2 _ he2 (hF3 _ _) (by rw [hnk]) _ _ _ _ _ _ _
  rw [if_neg hY0] at hnk
  have hY0b : ((Y : Int) == 0) = false := by simp; omega
  by_cases hY1 : Y = 1 ∨ Y = 5
  · obtain ⟨S, hS, hnS⟩ : ∃ S : Nat, (S = 8 ∨ S = 4) ∧ ((Y = 1 ∧ S = 8) ∨ (Y = 5 ∧ S = 4)) ∧ (nextS T = if D.length < S then (zeroF, 0, 8) else (⟨(N : Nat), (Y : Int), numB (D.take S), []⟩, k + S, 0)) := by
      rcases hY1 with rfl | rfl
      · exact ⟨8, .inl rfl, .inl ⟨rfl, rfl⟩, by rw [hnk, if_pos rfl]; rfl⟩
      · exact ⟨4, .inr rfl, .inr ⟨rfl, rfl⟩, by rw [hnk, if_neg (by decide), if_pos rfl]; rfl⟩
    obtain ⟨hSv, hnS⟩ := hnS
    have hsz : IntKind.i64.wrap ((L : Int) - (A : Int)) = ((L - A : Nat) : Int) := by rw [i64_small (by omega) (by omega)]; omega
    obtain ⟨LA, hLA⟩ : ∃ LA, LA = L - A := ⟨_, rfl⟩
    rw [← hLA] at hsz hDl
    have hlow := rlow_ok hatG hL (c := c) (at_ := A) (S := S) (by omega)
    rw [show bs.drop A = D by rw [hA, hdd, hDk]] at hlow
    have hAS : IntKind.i64.wrap ((A : Int) + (S : Int)) = ((A + S : Nat) : Int) := by rw [i64_small (by omega) (by omega)]; omega
    rcases hSv with ⟨hyv, rfl⟩ | ⟨hyv, rfl⟩
    · have b1 : ((Y : Int) == 1) = true := by simp [hyv]
      have b5 : ((Y : Int) == 5) = false := by simp; omega
      by_cases hsh : LA < 8
      · have hshI : (LA : Int) < 8 := by omega
        rw [if_pos (by omega)] at hnS
        simp (disch := first|omega|(simp only [np,ns];try omega)) [r_ref02_field, hqd, hNu, hNw, hqm, hYw, hbig, hbigI, hz, hzero, hAI, fill4_2, fill4_0, st4_all, ld4_all, ld4_1, hg1o, ← hG, hG9, hGo, ← hL, hsz, hsh, hshI, hY0b, b1, b5]
        exact hfin 8 _ (by decide) (Fr_set hGF (by omega)) (by rw [hnS]) _ _ _ _ _ _ _
      · have hshI : ¬ (LA : Int) < 8 := by omega
        rw [if_neg (by omega)] at hnS
        simp (disch := first|omega|(simp only [np,ns];try omega)) [hqd, hNu, hNw, hqm, hYw, hbig, hbigI, hz, hzero, hAI, fill4_2, fill4_0, st4_all, ld4_all, ld4_1, hg1o, ← hG, hG9, hGo, ← hL, hsz, hsh, hshI, hY0b, b1, b5]
        refine (hlow (by omega) (by omega)).mono ?_
        rintro u g2 ⟨rfl, rfl⟩
        simp (disch := first|omega|(simp only [np,ns];try omega)) [r_ref02_field, hG9, hGo, st4_2, ld4_all, st4_all]
        exact hok _ _ _ none 0 0 _ (by omega) hnS (Fr_set (Fr_set hGF (by omega)) (by omega)) (hnilB _) (by simp [idOf])
    · have b1 : ((Y : Int) == 1) = false := by simp; omega
      have b5 : ((Y : Int) == 5) = true := by simp [hyv]
      by_cases hsh : LA < 4
      · have hshI : (LA : Int) < 4 := by omega
        rw [if_pos (by omega)] at hnS
        simp (disch := first|omega|(simp only [np,ns];try omega)) [r_ref02_field, hqd, hNu, hNw, hqm, hYw, hbig, hbigI, hz, hzero, hAI, fill4_2, fill4_0, st4_all, ld4_all, ld4_1, hg1o, ← hG, hG9, hGo, ← hL, hsz, hsh, hshI, hY0b, b1, b5]
        exact hfin 8 _ (by decide) (Fr_set hGF (by omega)) (by rw [hnS]) _ _ _ _ _ _ _
      · have hshI : ¬ (LA : Int) < 4 := by omega
        rw [if_neg (by omega)] at hnS
        simp (disch := first|omega|(simp only [np,ns];try omega)) [hqd, hNu, hNw, hqm, hYw, hbig, hbigI, hz, hzero, hAI, fill4_2, fill4_0, st4_all, ld4_all, ld4_1, hg1o, ← hG, hG9, hGo, ← hL, hsz, hsh, hshI, hY0b, b1, b5]
        refine (hlow (by omega) (by omega)).mono ?_
        rintro u g2 ⟨rfl, rfl⟩
        simp (disch := first|omega|(simp only [np,ns];try omega)) [r_ref02_field, hG9, hGo, st4_2, ld4_all, st4_all]
        exact hok _ _ _ none 0 0 _ (by omega) hnS (Fr_set (Fr_set hGF (by omega)) (by omega)) (hnilB _) (by simp [idOf])
  rw [if_neg (by omega), if_neg (by omega)] at hnk
  have hY1b : ((Y : Int) == 1) = false := by simp; omega
  have hY5b : ((Y : Int) == 5) = false := by simp; omega
  by_cases hY2 : Y = 2
  case neg =>
    have hY2b : ((Y : Int) == 2) = false := by simp; omega
    rw [if_neg hY2] at hnk
    simp (disch := first|omega|(simp only [np,ns];try omega)) [r_ref02_field, hqd, hNu, hNw, hqm, hYw, hbig, hbigI, hz, hzero, hAI, fill4_2, fill4_0, st4_all, ld4_all, ld4_1, hg1o, ← hG, hG9, hGo, hY0b, hY1b, hY5b, hY2b]
    exact hfin 30 _ (by decide) (Fr_set hGF (by omega)) (by rw [hnk]) _ _ _ _ _ _ _
  have hY2b : ((Y : Int) == 2) = true := by simp [hY2]
  have hY2I : (Y : Int) = 2 := by omega
  rw [if_pos hY2] at hnk
  simp (disch := first|omega|(simp only [np,ns];try omega)) [hqd, hNu, hNw, hqm, hYw, hbig, hbigI, hz, hzero, hAI, fill4_2, fill4_0, st4_all, ld4_all, ld4_1, hg1o, ← hG, hG9, hGo, hY0b, hY1b, hY5b, hY2b]
  refine hgetk.mono ?_
  rintro u g2 ⟨rfl, rfl⟩
  generalize getS 0 0 D = q2 at hnk t1 t2 t3 ⊢
  obtain ⟨n2, k2, e2⟩ := q2
  simp only at hnk t1 t2 t3 ⊢
  by_cases he2 : e2 = 0
  case neg =>
    have he2b : (e2 != 0) = true := by simpa using he2
    rw [if_pos he2] at hnk
    simp (disch := first|omega|(simp only [np,ns];try omega)) [r_ref02_field, he2b, he2, fill4_0, st4_all, ld4_all, hGo]
    exact hfin e2 _ he2 (Fr_set hGF (by omega)) (by rw [hnk]) _ _ _ _ _ _ _
  subst he2
  obtain ⟨q1, q2⟩ := t2 rfl
  rw [if_neg (by simp)] at hnk
  obtain ⟨E, hE⟩ : ∃ E, E = A + k2 := ⟨_, rfl⟩
  have hEz : (if (0 : Int) = 0 then ((A + k2 : Nat) : Int) else 0) = (E : Int) := by rw [if_pos rfl, hE]
  have hEI : (A : Int) + (k2 : Int) = (E : Int) := by omega
  obtain ⟨LE, hLE⟩ : ∃ LE, LE = L - E := ⟨_, rfl⟩
  have hsz : IntKind.i64.wrap ((L : Int) - (E : Int)) = (LE : Int) := by rw [i64_small (by omega) (by omega)]; omega
  have hszu : IntKind.u64.wrap (LE : Int) = (LE : Int) := u64_small (by omega) (by omega)
  have hDE : (D.drop k2).length = LE := by simp; omega
  rw [hDE] at hnk
  by_cases hsh : LE < n2
  · have hshI : (LE : Int) < (n2 : Int) := by omega
    rw [if_pos hsh] at hnk
    simp (disch := first|omega|(simp only [np,ns];try omega)) [r_ref02_field, hEI, ← hL, hsz, hszu, hsh, hshI, fill4_0, st4_all, ld4_all, hGo]
    exact hfin 8 _ (by decide) (Fr_set hGF (by omega)) (by rw [hnk]) _ _ _ _ _ _ _
  have hshI : ¬ (LE : Int) < (n2 : Int) := by omega
  rw [if_neg hsh] at hnk
  have hn2w : IntKind.i64.wrap (n2 : Int) = (n2 : Int) := i64_small (by omega) (by omega)
  obtain ⟨F, hF⟩ : ∃ F, F = E + n2 := ⟨_, rfl⟩
  have hEn : IntKind.i64.wrap ((E : Int) + (n2 : Int)) = (F : Int) := by rw [i64_small (by omega) (by omega)]; omega
  have hFL : F ≤ L := by omega
  have hsubl : F - E = n2 := by omega
  have hEF : E ≤ F := by omega
  have hsubB := isB_sub (n := n2) (c := c - E) hiG hatG (a := E) (by omega) (by omega)
  have hBd : (bs.drop E).take n2 = (D.drop k2).take n2 := by
    rw [hE, hA, hDk, hT, List.drop_drop, List.drop_drop, Nat.add_assoc]
  rw [hBd] at hsubB
  have hsrc := hsubB.src
  obtain ⟨w', g3, hap, B3⟩ := (Buf.nil g2).append ((D.drop k2).take n2) (by simp; omega)
  have hn2l : ((D.drop k2).take n2).length = n2 := by simp; omega
  obtain ⟨pa, pc, rfl⟩ := B3.shape
  simp only [List.nil_append] at hap B3
  rw [hn2l] at hap
  have hez := hatG.esz
  have n3 := B3.fr.n
  have gG9 := (B3.fr.get g1.n (by omega) (by simp)).trans hG9
  have gGo := (B3.fr.get h.n (by omega) (by simp)).trans hGo
  have hcF : F ≤ c := by omega
  have hb3 := B3.is
  rw [hn2l] at hb3
  simp (disch := first|omega|(simp only [np,ns];try omega)) [r_ref02_field, hEI, ← hL, hsz, hszu, hsh, hshI, hn2w, hEn, hez, hFL, hcF, hEF, hsubl, -srcCells_at, hsrc, Option.bind_some, hap, hG9, ld4_3, gG9, st4_3, ld4_all, gGo, st4_all]
  have hid3 : ∀ x ∈ idOf (.slice pa n2 pc), g2.n ≤ x := by have := B3.ids; rw [hn2l] at this; exact this
  refine hok ⟨(N : Int), (Y : Int), 0, (D.drop k2).take n2⟩ (k + k2 + n2) _ pa n2 pc (F : Int) (by omega) (by rw [hY2I]; exact hnk) (Fr_set (Fr_set (hGF.trans B3.fr) (by omega)) (by omega)) (hb3.get_eq (by simp) ?_) (fun x hx => by have := hid3 x hx; omega)
  intro x o' n' c' hx hv
  have := hid3 x (by rw [hv]; simp [idOf])
  rw [VH.get_set_ne _ _ (by omega), VH.get_set_ne _ _ (by omega)]

set_option maxHeartbeats 4000000 in
theorem rread_ok {h : VH} {v : Value} {bs : List UInt8} (hb : IsBytes h v bs) (hlen : bs.length ≤ 1000000000) :
    PCalls Try.prog f_ref02_Read [v] h (ReadN h bs) := by
  refine PCalls_of_pw st_ref02_Read (by simp [n_ref02_Read]) ?_
  rw [b_ref02_Read]
  obtain ⟨va, vc, rfl⟩ := hb.shape
  obtain ⟨L, hL⟩ : ∃ L, L = bs.length := ⟨_, rfl⟩
  have hnil : ∀ g, Fr h g [] → FBufN h g (.slice none 0 0) [] := fun g hg => (FBufN.nil h).step hg
  have herr : ∀ (e : Int) (p : Nat) (g : VH), readS bs = ([], e, p) → Fr h g [] → ReadN h bs (.tuple #[.slice none 0 0, .int .i64 e, .int .i64 (p : Int)]) g := by
    intro e p g hr hf
    exact ⟨none, 0, 0, by rw [hr], by rw [hr]; exact hnil g hf⟩
  rw [← hL] at hb ⊢
  by_cases hbig : 1048576 < L
  · have hbigI : (1048576 : Int) < (L : Int) := by omega
    simp (disch := first|omega|(simp only [np,ns];try omega)) [r_ref02_Read, B_ref02_Read, hbig, hbigI]
    exact herr 4 0 _ (by unfold readS; rw [if_pos (by omega)]) (Fr.refl _ _)
  have hbigI : ¬ (1048576 : Int) < (L : Int) := by omega
  obtain ⟨R, hR⟩ : ∃ R, R = readR (L + 1) 0 bs := ⟨_, rfl⟩
  have hrs : readS bs = if R.2.1 = 0 then (R.1, 0, 0) else ([], R.2.1, R.2.2) := by unfold readS; rw [if_neg (by omega), ← hL, ← hR]
  simp (disch := first|omega|(simp only [np,ns];try omega)) [B_ref02_Read, hbig, hbigI]
  refine pw_loopN (fun k s g => ∃ (at_ f : Nat) (fs : List Fd) (a : Option Addr) (n c : Nat), FBufN h g (.slice a n c) fs ∧ n = fs.length ∧ at_ ≤ L ∧ k ≤ at_ ∧ L ≤ f + at_ ∧ fs.length ≤ 4096 ∧ (∀ x ∈ fs, x.b.length ≤ L) ∧
    R = (fs ++ (readR (f + 1) fs.length (bs.drop at_)).1, (readR (f + 1) fs.length (bs.drop at_)).2.1, at_ + (readR (f + 1) fs.length (bs.drop at_)).2.2) ∧
    s 0 = .slice va L vc ∧ s 5 = .slice a n c ∧ s 6 = .int .i64 (at_ : Int)) L ?_ ?_
  · exact ⟨0, L, [], none, 0, 0, hnil _ (Fr.refl _ _), rfl, by omega, by omega, by omega, by simp, by simp, by rw [hR]; simp, by simp [upd_apply, s0_apply], by simp [upd_apply], by simp [upd_apply]⟩
  rintro k s g hk ⟨at_, f, fs, ba, bn, bc, hB, hbn, hat, hka, hfa, hfs, hfb, hRe, e0, e5, e6⟩
  by_cases hlt : at_ < L
  · have hltI : (at_ : Int) < (L : Int) := by omega
    have hl0 : (bs.drop at_).length ≠ 0 := by simp; omega
    rw [readR_succ, if_neg hl0] at hRe
    by_cases hfull : bn = 4096
    · have hfI : (4096 : Int) ≤ (bn : Int) := by omega
      have hfN : 4096 ≤ bn := by omega
      rw [if_pos (by omega)] at hRe
      simp (disch := first|omega|(simp only [np,ns];try omega)) [r_ref02_Read, e0, e5, e6, hltI, hlt, hfI, hfN]
      exact herr 7 at_ _ (by rw [hrs, hRe]; rfl) hB.fr
    have hfI : ¬ (4096 : Int) ≤ (bn : Int) := by omega
    have hfN : ¬ 4096 ≤ bn := by omega
    rw [if_neg (by omega)] at hRe
    simp (disch := first|omega|(simp only [np,ns];try omega)) [e0, e5, e6, hltI, hlt, hfI, hfN]
    have hbg := isB_fr hB.fr hb
    rw [hL] at hbg
    rw [hL]
    refine (rfield_ok hbg (at_ := at_) (by omega) hlen).mono ?_
    rintro u g2 ⟨hf2, xa, xb, xc, p, q, r, e, rfl, hok⟩
    rw [← hL]
    have hnn := hB.fr.n
    obtain ⟨T, hT⟩ : ∃ T, T = bs.drop at_ := ⟨_, rfl⟩
    rw [← hT] at hRe hok ⊢
    have hsp := @nextS_spec T
    have hTl : T.length = L - at_ := by rw [hT, hL]; simp
    have hdd : ∀ j, T.drop j = bs.drop (at_ + j) := fun j => by rw [hT, List.drop_drop]
    generalize nextS T = q0 at hRe hok hsp ⊢
    obtain ⟨F, kk, e1⟩ := q0
    simp only at hRe hok hsp ⊢
    by_cases he : e1 = 0
    · subst he
      obtain ⟨rfl, rfl, rfl, rfl, hby, hid⟩ := hok rfl
      obtain ⟨k1, k2, k3, k4, k5, k6, k7, k8⟩ := hsp rfl
      rw [if_neg (by simp), hdd] at hRe
      have hst : ∀ a b c d, storeObj (.cells [a, b, c, d] true 1) 0 4 (.agg #[.int .i64 F.num, .int .i64 F.ty, .int .u64 (F.n : Int), .slice p q r]) = some (.cells [.int .i64 F.num, .int .i64 F.ty, .int .u64 (F.n : Int), .slice p q r] true 1) := fun _ _ _ _ => rfl
      obtain ⟨g3, hg3⟩ : ∃ g3, g3 = (g2.push (.cells [.int .i64 0, .int .i64 0, .int .u64 0, .slice none 0 0] true 1)).set g2.n (.cells [.int .i64 F.num, .int .i64 F.ty, .int .u64 (F.n : Int), .slice p q r] true 1) := ⟨_, rfl⟩
      have hf3 : Fr g2 g3 [] := by rw [hg3]; exact Fr_set (Fr_push (Fr.refl _ _)) (Nat.le_refl _)
      have hg3o : g3.get g2.n = .cells [.int .i64 F.num, .int .i64 F.ty, .int .u64 (F.n : Int), .slice p q r] true 1 := by rw [hg3, VH.get_set_same]
      have hB3 := (hB.step hf2).step hf3
      obtain ⟨wa, wn, wc, g4, hap, hB4⟩ := hB3.append (f := F) (isB_fr hf3 hby) (fun x hx => by have := hid x hx; omega) (by omega)
      have hfl : fillC [.int .i64 0, .int .i64 0, .int .u64 0, .slice none 0 0] [(0, 4, .agg #[.int .i64 F.num, .int .i64 F.ty, .int .u64 (F.n : Int), .slice p q r])] = some (fdL F (.slice p q r)) := rfl
      have hone : (fdL F (.slice p q r)).all Value.oneCell' = true := rfl
      have hrow : rowObj (.cells (fdL F (.slice p q r)) true 4) 0 4 = some (fdL F (.slice p q r)) := rfl
      simp (disch := first|omega|(simp only [np,ns];try omega)) [e0, e5, e6, ← hg3, hg3o, hst, ld4_all, hfl, hone, hrow, hap]
      have hwn : wn = (fs ++ [F]).length := by
        obtain ⟨a', c', h1⟩ := hB4.shape
        injection h1
      obtain ⟨f', rfl⟩ : ∃ f', f = f' + 1 := ⟨f - 1, by omega⟩
      refine ⟨by omega, at_ + kk, f', fs ++ [F], wa, wn, wc, hB4, hwn, by omega, by omega, by omega, by simp; omega, ?_, ?_, ⟨rfl, rfl, rfl⟩, by omega⟩
      · intro x hx
        rcases List.mem_append.1 hx with hx | hx
        · exact hfb x hx
        · rw [List.mem_singleton.1 hx]; omega
      · rw [hRe]
        simp [Nat.add_assoc]
    · have heb : (e1 != 0) = true := by simpa using he
      rw [if_pos he] at hRe
      have hst : ∀ a b c d, storeObj (.cells [a, b, c, d] true 1) 0 4 (.agg #[.int .i64 xa, .int .i64 xb, .int .u64 xc, .slice p q r]) = some (.cells [.int .i64 xa, .int .i64 xb, .int .u64 xc, .slice p q r] true 1) := fun _ _ _ _ => rfl
      simp (disch := first|omega|(simp only [np,ns];try omega)) [r_ref02_Read, e0, e5, e6, heb, hst]
      exact herr e1 at_ _ (by rw [hrs, hRe]; simp [he]) (Fr_set (Fr_push (hB.fr.trans hf2)) (by have := hB.fr.n; have := hf2.n; omega))
  · obtain rfl : at_ = L := by omega
    have hd : (bs.drop at_).length = 0 := by simp; omega
    rw [readR_succ, if_pos hd] at hRe
    simp (disch := first|omega|(simp only [np,ns];try omega)) [r_ref02_Read, e0, e5, e6]
    have hrs2 : readS bs = (fs, 0, 0) := by rw [hrs, hRe]; simp
    exact ⟨ba, bn, bc, by rw [hrs2]; rfl, by rw [hrs2]; exact hB⟩
end Go.Proofs.Ytdnkpgbggpbgaaa.Wr
