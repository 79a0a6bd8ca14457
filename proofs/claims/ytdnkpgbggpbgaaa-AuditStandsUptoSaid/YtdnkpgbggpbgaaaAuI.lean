/- audit, part I: entries that were written are read again (plain); a log is verified (the program). -/
import Derived.Test.YtdnkpgbggpbgaaaAuF
import Derived.Test.YtdnkpgbggpbgaaaWrN
import Derived.Test.YtdnkpgbggpbgaaaPmSa
set_option linter.unusedVariables false
set_option linter.unusedSimpArgs false
set_option maxRecDepth 100000
namespace Go.Proofs.Ytdnkpgbggpbgaaa.Au
open Go Go.RowKit Go.Proofs.Ytdnkpgbggpbgaaa.Pm Go.Proofs.Ytdnkpgbggpbgaaa.Fs Go.Proofs.Ytdnkpgbggpbgaaa.Wr Go.Proofs.Ytdnkpgbggpbgaaa.Sha



theorem cutS_frame {b : List UInt8} (h : b.length ≤ 131072) (r : List UInt8) : cutS (frameS b ++ r) = (b, (frameS b).length, 0) := by
  have hg : getS 0 0 (frameS b ++ r) = (b.length, (varint b.length).length, 0) := by
    unfold frameS
    rw [List.append_assoc]
    exact get_varint (by omega) _
  unfold cutS
  rw [hg]
  simp only
  have hl : (frameS b ++ r).length = (varint b.length).length + (b.length + r.length) := by simp [frameS]
  rw [if_neg (by decide), if_neg (by omega), if_neg (by omega)]
  unfold frameS
  rw [List.append_assoc, List.drop_left, List.take_left]
  simp

theorem fds_ok {e : En} {a : List UInt8} (h : wrongS e = 0) (ha : a.length = 32) : ∀ f ∈ fdsE e a, okF f = true ∧ f.n < 18446744073709551616 ∧ f.b.length ≤ 65536 := by
  obtain ⟨w1, w2, w3, w4, w5, w6⟩ := wrongS_ok h
  intro f hf
  simp only [fdsE, List.mem_cons, List.not_mem_nil, or_false] at hf
  rcases hf with rfl | rfl | rfl | rfl | rfl
  · exact ⟨rfl, by simp, by simp; omega⟩
  · exact ⟨rfl, by simp only; omega, by simp⟩
  · exact ⟨rfl, by simp, by simp; omega⟩
  · exact ⟨rfl, by simp, by simp; omega⟩
  · exact ⟨rfl, by simp, by simp; omega⟩
theorem encF_le {f : Wr.Fd} (hk : okF f = true) (hn : f.n < 18446744073709551616) (hb : f.b.length ≤ 65536) : (encF f).length ≤ 20 + f.b.length := by
  have := headF_len hk hn (by omega)
  unfold encF
  simp only [List.length_append]
  omega
theorem fds_enc {e : En} {a : List UInt8} (h : wrongS e = 0) (ha : a.length = 32) : (encL (fdsE e a)).length ≤ 66000 ∧ bytesS e a = encL (fdsE e a) ∧ readS (bytesS e a) = (fdsE e a, 0, 0) := by
  have hf := fds_ok h ha
  obtain ⟨w1, w2, w3, w4, w5, w6⟩ := wrongS_ok h
  have hl : (encL (fdsE e a)).length ≤ 66000 := by
    have e1 := encF_le (hf ⟨1, 2, 0, e.t⟩ (by simp [fdsE])).1 (by simp) (by simp; omega)
    have e2 := encF_le (hf ⟨2, 0, e.at_.toNat, []⟩ (by simp [fdsE])).1 (by simp only; omega) (by simp)
    have e3 := encF_le (hf ⟨3, 2, 0, e.w⟩ (by simp [fdsE])).1 (by simp) (by simp; omega)
    have e4 := encF_le (hf ⟨4, 2, 0, e.b⟩ (by simp [fdsE])).1 (by simp) (by simp; omega)
    have e5 := encF_le (hf ⟨5, 2, 0, a⟩ (by simp [fdsE])).1 (by simp) (by simp; omega)
    simp only at e1 e2 e3 e4 e5
    simp only [encL, fdsE, List.flatMap_cons, List.flatMap_nil, List.length_append, List.append_nil]
    simp only [List.length_nil] at e2
    omega
  have hw : writeS (fdsE e a) = (encL (fdsE e a), 0) := by
    unfold writeS
    rw [if_neg (by simp [fdsE]), if_neg (by rw [List.all_eq_true.2 (fun f h => (hf f h).1)]; decide), if_neg (by omega)]
  have hb : bytesS e a = encL (fdsE e a) := by unfold bytesS; rw [hw]
  refine ⟨hl, hb, ?_⟩
  rw [hb]
  exact readS_enc (fun f h => ⟨(hf f h).1, (hf f h).2.1, by have := (hf f h).2.2; omega⟩) (by simp [fdsE]) (by omega) (encL_ge _)
theorem en_back {e : En} {a : List UInt8} (h : wrongS e = 0) : enOf (fdsE e a) = e ∧ ahOf (fdsE e a) = a := by
  obtain ⟨w1, w2, w3, w4, w5, w6⟩ := wrongS_ok h
  obtain ⟨t, at_, w, b⟩ := e
  simp only at w3
  refine ⟨?_, rfl⟩
  have : ((at_.toNat : Nat) : Int) = at_ := by omega
  simp [enOf, fdsE]
  omega
theorem okS_back {e : En} {a : List UInt8} (h : wrongS e = 0) (ha : a.length = 32) : okS (bytesS e a) = true := by
  obtain ⟨h1, h2, h3⟩ := fds_enc h ha
  obtain ⟨w1, w2, w3, w4, w5, w6⟩ := wrongS_ok h
  obtain ⟨b1, b2⟩ := en_back (a := a) h
  unfold okS
  rw [h3]
  simp only [b1, b2, ha, h, decide_true, Bool.true_and]
  simp [fdsE]
  omega
theorem walk_frame {e : En} {n : Nat} {l : List UInt8} {subs : Sbs} (h : wrongS e = 0) (hs : ∀ p ∈ subs, p.2.length = 32) (f : Nat) (r : List UInt8) :
    walkR (f + 1) (frameS (bytesS e (aheadS subs e.t)) ++ r) n l subs =
      ⟨(walkR f r (n + 1) (shaS (l ++ bytesS e (aheadS subs e.t))) (sput e.t (shaS (bytesS e (aheadS subs e.t))) subs)).n,
       (walkR f r (n + 1) (shaS (l ++ bytesS e (aheadS subs e.t))) (sput e.t (shaS (bytesS e (aheadS subs e.t))) subs)).l,
       (walkR f r (n + 1) (shaS (l ++ bytesS e (aheadS subs e.t))) (sput e.t (shaS (bytesS e (aheadS subs e.t))) subs)).subs,
       (walkR f r (n + 1) (shaS (l ++ bytesS e (aheadS subs e.t))) (sput e.t (shaS (bytesS e (aheadS subs e.t))) subs)).err,
       (frameS (bytesS e (aheadS subs e.t))).length + (walkR f r (n + 1) (shaS (l ++ bytesS e (aheadS subs e.t))) (sput e.t (shaS (bytesS e (aheadS subs e.t))) subs)).at_⟩ := by
  have ha : (aheadS subs e.t).length = 32 := sget_len hs
  obtain ⟨h1, h2, h3⟩ := fds_enc h ha
  obtain ⟨b1, b2⟩ := en_back (a := aheadS subs e.t) h
  have hok := okS_back h ha
  have hbl : (bytesS e (aheadS subs e.t)).length ≤ 131072 := by rw [h2]; omega
  have hc := cutS_frame hbl r
  generalize hB : bytesS e (aheadS subs e.t) = B at *
  have hne : (frameS B ++ r).length ≠ 0 := by
    have := varint_ne B.length
    have hl : (varint B.length).length ≠ 0 := fun h0 => this (List.eq_nil_of_length_eq_zero h0)
    simp only [frameS, List.length_append]
    omega
  rw [walkR_succ, if_neg hne, hc]
  simp only
  rw [if_neg (by simp), if_neg (by rw [hok]; simp), h3]
  simp only [b1, b2]
  rw [if_neg (by simp), List.drop_left]

/-- what Verify tells. -/
def verifyS (bs hd : List UInt8) : Value :=
  if (walkS bs).err ≠ 0 then .tuple #[.int .i64 (walkS bs).err, .int .i64 ((walkS bs).at_ : Int)] else
  if shaS (be8 (walkS bs).n ++ (walkS bs).l) ≠ hd then .tuple #[.int .i64 70, .int .i64 (bs.length : Int)] else .tuple #[.int .i64 0, .int .i64 0]

set_option maxHeartbeats 4000000 in
theorem verify_ok {h : VH} {v : Value} {bs hd : List UInt8} (hb : IsBytes h v bs) (hlen : bs.length ≤ 1000000000) (hdl : hd.length = 32) :
    PCalls Try.prog f_audit_Verify [v, digV hd] h (fun u h' => u = verifyS bs hd ∧ Fr h h' []) := by
  refine PCalls_of_pw st_audit_Verify (by simp [n_audit_Verify]) ?_
  rw [b_audit_Verify]
  obtain ⟨va, vc, rfl⟩ := hb.shape
  obtain ⟨L, hL⟩ : ∃ L, L = bs.length := ⟨_, rfl⟩
  obtain ⟨V, hV⟩ : ∃ V, V = verifyS bs hd := ⟨_, rfl⟩
  rw [← hV]
  unfold verifyS at hV
  rw [← hL] at hV
  rw [← hL] at hb
  rw [← hL]
  have hcd : cellsL (digV hd) = u8s hd := rfl
  have hall : (u8s hd).all Value.oneCell' = true := by simp [u8s, Value.oneCell']
  obtain ⟨g0, hg0⟩ : ∃ x, x = h.push (.cells (u8s hd) true 1) := ⟨_, rfl⟩
  have F0 : Fr h g0 [] := by rw [hg0]; exact Fr_push (Fr.refl _ _)
  have c0 : g0.get h.n = .cells (u8s hd) true 1 := by rw [hg0, VH.get_push_new]
  have n0 : g0.n = h.n + 1 := by rw [hg0]; simp
  simp (disch := first|omega|(simp only [np,ns];try omega)) [B_audit_Verify, hcd, hall, ← hg0]
  refine (walk_ok (isB_fr F0 hb) hlen).mono ?_
  rintro u g1 ⟨F1, ae, ne, ce, al, nl, cl, ab, nb, cb, i, j, rfl, K, hs32, hi, hj, hn, _⟩
  obtain ⟨w, hw⟩ : ∃ w, w = walkS bs := ⟨_, rfl⟩
  rw [← hw] at K hs32 hn hV ⊢
  obtain ⟨n, l, subs, err, at_⟩ := w
  simp only at K hs32 hn hV ⊢
  obtain ⟨g2, hg2⟩ : ∃ x, x = (g1.push (.cells [.slice none 0 0, .slice none 0 0, .slice none 0 0, .pointer none, .int .i64 0, .int .i64 0] true 1)).set g1.n (.cells [.slice ae ne ce, .slice al nl cl, .slice ab nb cb, .pointer (some ⟨i, 0, none⟩), .int .i64 err, .int .i64 (at_ : Int)] true 1) := ⟨_, rfl⟩
  have F2 : Fr g1 g2 [] := by rw [hg2]; exact Fr_set (Fr_push (Fr.refl _ _)) (Nat.le_refl _)
  have c2 : g2.get g1.n = .cells [.slice ae ne ce, .slice al nl cl, .slice ab nb cb, .pointer (some ⟨i, 0, none⟩), .int .i64 err, .int .i64 (at_ : Int)] true 1 := by rw [hg2, VH.get_set_same]
  have n1 := F1.n
  have d2 := (F2.get h.n (by omega) (by simp)).trans ((F1.get h.n (by omega) (by simp)).trans c0)
  have FF := (F0.trans F1).trans F2
  by_cases he : err = 0
  case neg =>
    have heb : (err != 0) = true := by simpa using he
    rw [if_pos he] at hV
    simp (disch := first|omega|(simp only [np,ns];try omega)) [r_audit_Verify, hV, st6_A, ← hg2, c2, ld6_4, ld6_5, heb]
    exact FF
  have hdd : loadObj (.cells (u8s hd) true 1) 0 (some 32) = some (.agg (u8s hd).toArray) := dig_load hdl
  have heb : (err != 0) = false := by simpa using he
  rw [if_neg (by simpa using he)] at hV
  simp (disch := first|omega|(simp only [np,ns];try omega)) [st6_A, ← hg2, c2, d2, hdd, ld6_3, ld6_4, ld6_5, heb]
  refine (head_ok (K.fr F2)).mono ?_
  rintro u g3 ⟨rfl, F3⟩
  obtain ⟨X, hX⟩ : ∃ X, X = shaS (be8 n ++ l) := ⟨_, rfl⟩
  have hXl : X.length = 32 := by rw [hX]; exact shaS_len _
  rw [← hX] at hV ⊢
  have d3 := (F3.get h.n (by have := F2.n; omega) (by simp)).trans d2
  have hf1 := fits32 hXl
  have hf2 := fits32 hdl
  have hcb := cellsB_u8s X hd (by rw [hXl, hdl])
  have hdx : digV X = .agg (u8s X).toArray := rfl
  by_cases hXd : X = hd
  · have hb1 : (X == hd) = true := by simpa using hXd
    rw [hb1] at hcb
    rw [if_neg (by simpa using hXd)] at hV
    simp (disch := first|omega|(simp only [np,ns];try omega)) [r_audit_Verify, hV, hdx, d3, hdd, hf1, hf2, hcb]
    exact FF.trans F3
  · have hb1 : (X == hd) = false := by simpa using hXd
    rw [hb1] at hcb
    rw [if_pos hXd] at hV
    simp (disch := first|omega|(simp only [np,ns];try omega)) [r_audit_Verify, hV, hdx, d3, hdd, hf1, hf2, hcb]
    exact FF.trans F3

/- audit, part J: what is known. -/

def acme : En := ⟨[97, 99, 109, 101], 5, [112, 117, 116], []⟩
theorem acme_ok : wrongS acme = 0 := by decide
def z40 : List UInt8 := List.replicate 40 0
theorem z40_eq : be8 0 ++ zero32 = z40 := by decide
theorem walk_nil : walkS [] = ⟨0, zero32, [], 0, 0⟩ := rfl
theorem cut_five : cutS [5] = ([], 0, 8) := by
  have : getS 0 0 [5] = (5, 1, 0) := by decide
  have hv : varint 5 = [5] := varint_lt (by decide)
  unfold cutS
  rw [this]
  simp [hv]
theorem walk_five : walkS [5] = ⟨0, zero32, [], 8, 0⟩ := by
  unfold walkS
  rw [List.length_singleton, walkR_succ, cut_five]
  simp
theorem acme_walk : walkS (frameS (bytesS acme zero32)) = ⟨1, shaS (zero32 ++ bytesS acme zero32), sput acme.t (shaS (bytesS acme zero32)) [], 0, (frameS (bytesS acme zero32)).length⟩ := by
  have h := walk_frame (e := acme) (n := 0) (l := zero32) (subs := []) acme_ok (by simp) (frameS (bytesS acme zero32)).length []
  rw [show aheadS [] acme.t = zero32 from rfl, List.append_nil] at h
  unfold walkS
  rw [h]
  have hne : (frameS (bytesS acme zero32)).length ≠ 0 := by
    have := varint_ne (bytesS acme zero32).length
    have hl : (varint (bytesS acme zero32).length).length ≠ 0 := fun h0 => this (List.eq_nil_of_length_eq_zero h0)
    simp only [frameS, List.length_append]
    omega
  obtain ⟨f, hf⟩ : ∃ f, (frameS (bytesS acme zero32)).length = f + 1 := ⟨_, (Nat.succ_pred_eq_of_ne_zero hne).symm⟩
  rw [hf]
  rfl
theorem acme_long : 40 < (frameS (bytesS acme zero32)).length := by
  have ha : zero32.length = 32 := rfl
  obtain ⟨h1, h2, h3⟩ := fds_enc acme_ok ha
  have l1 := varint_ne (bytesS acme zero32).length
  have l2 : (varint (bytesS acme zero32).length).length ≠ 0 := fun h0 => l1 (List.eq_nil_of_length_eq_zero h0)
  have hh : ∀ f : Wr.Fd, 1 ≤ (headF f).length := by
    intro f
    have := varint_ne (8 * f.num + f.ty).toNat
    have hl : (varint (8 * f.num + f.ty).toNat).length ≠ 0 := fun h0 => this (List.eq_nil_of_length_eq_zero h0)
    unfold headF
    rw [List.length_append]
    omega
  have e1 := hh ⟨1, 2, 0, acme.t⟩
  have e3 := hh ⟨3, 2, 0, acme.w⟩
  have e5 := hh ⟨5, 2, 0, zero32⟩
  have e2 := hh ⟨2, 0, acme.at_.toNat, []⟩
  have t1 : acme.t.length = 4 := rfl
  have t2 : acme.w.length = 3 := rfl
  have : 40 ≤ (encL (fdsE acme zero32)).length := by
    simp only [encL, fdsE, encF, List.flatMap_cons, List.flatMap_nil, List.length_append, List.append_nil]
    omega
  simp only [frameS, List.length_append]
  rw [h2] at l2 ⊢
  omega

set_option maxHeartbeats 8000000 in
theorem known_ok' {h : VH} : PCalls Try.prog f_law09_known [] h (fun u _ => u = .bool true) := by
  refine PCalls_of_pw st_law09_known (by simp [n_law09_known]) ?_
  rw [b_law09_known]
  simp (disch := first|omega|(simp only [np,ns];try omega)) [B_law09_known]
  refine (new_ok _).mono ?_
  rintro u g ⟨rfl, K, F⟩
  obtain ⟨i, hi⟩ : ∃ i, i = h.n + 1 := ⟨_, rfl⟩
  obtain ⟨j, hj⟩ : ∃ j, j = h.n := ⟨_, rfl⟩
  rw [← hi, ← hj] at K
  rw [← hi]
  have hmr : madeRow [.int .u8 0] 40 = u8s z40 := rfl
  have hz : ∀ p : VH, IsBytes (p.push (.cells (u8s z40) true 1)) (.slice (some ⟨p.n, 0, none⟩) 40 40) z40 := fun p => box_b rfl
  obtain ⟨Z, hZ⟩ : ∃ Z, Z = shaS z40 := ⟨_, rfl⟩
  have hZl : Z.length = 32 := by rw [hZ]; exact shaS_len _
  have hf1 := fits32 hZl
  have hcb := cellsB_u8s Z Z rfl
  rw [beq_self_eq_true] at hcb
  have hdx : digV Z = .agg (u8s Z).toArray := rfl
  simp (disch := first|omega|(simp only [np,ns];try omega)) [hmr]
  generalize hKK : kSeq Try.prog _ _ = KK
  have tail : ∀ (s : Slots) (g : VH), s 1 = .pointer (some ⟨i, 0, none⟩) → s 19 = .bool false → Chain g i j 0 zero32 [] → KK .normal s g := by
    intro s g e1 e19 K
    rw [← hKK]
    simp (disch := first|omega|(simp only [np,ns];try omega)) [e1, e19]
    refine (head_ok K).mono ?_
    rintro u g1 ⟨rfl, F1⟩
    rw [z40_eq, ← hZ]
    have K1 := K.fr F1
    simp (disch := first|omega|(simp only [np,ns];try omega)) []
    refine (verify_ok (bs := []) (.inl ⟨rfl, rfl⟩) (by simp) hZl).mono ?_
    rintro u g2 ⟨rfl, F2⟩
    have K2 := K1.fr F2
    have v1 : verifyS [] Z = .tuple #[.int .i64 0, .int .i64 0] := by
      unfold verifyS
      rw [walk_nil]
      simp only
      rw [if_neg (by decide), z40_eq, ← hZ, if_neg (by simp)]
    rw [v1]
    have hf5 : fillC [.int .u8 0] [(0, 1, .int .u8 5)] = some [.int .u8 5] := rfl
    have ho5 : ([Value.int .u8 5]).all Value.oneCell' = true := rfl
    obtain ⟨g3, hg3⟩ : ∃ x, x = g2.push (.cells [.int .u8 5] true 1) := ⟨_, rfl⟩
    have F3 : Fr g2 g3 [] := by rw [hg3]; exact Fr_push (Fr.refl _ _)
    have b5 : IsBytes g3 (.slice (some ⟨g2.n, 0, none⟩) 1 1) [5] := by rw [hg3]; exact box_b (l := [5]) rfl
    have K3 := K2.fr F3
    simp (disch := first|omega|(simp only [np,ns];try omega)) [e1, hf5, ho5, ← hg3]
    refine (head_ok K3).mono ?_
    rintro u g4 ⟨rfl, F4⟩
    rw [z40_eq, ← hZ]
    have K4 := K3.fr F4
    simp (disch := first|omega|(simp only [np,ns];try omega)) []
    refine (verify_ok (isB_fr F4 b5) (by simp) hZl).mono ?_
    rintro u g5 ⟨rfl, F5⟩
    have K5 := K4.fr F5
    have v2 : verifyS [5] Z = .tuple #[.int .i64 8, .int .i64 0] := by
      unfold verifyS
      rw [walk_five]
      simp only
      rw [if_pos (by decide)]
      rfl
    rw [v2]
    have hfa : fillC [.string ⟨#[]⟩, .int .i64 0, .string ⟨#[]⟩, .slice none 0 0] [(0, 1, .string ⟨#[97, 99, 109, 101]⟩), (1, 1, .int .i64 5), (2, 1, .string ⟨#[112, 117, 116]⟩)] = some [.string ⟨#[97, 99, 109, 101]⟩, .int .i64 5, .string ⟨#[112, 117, 116]⟩, .slice none 0 0] := rfl
    simp (disch := first|omega|(simp only [np,ns];try omega)) [e1, hfa]
    refine (add_ok (e := acme) (v := .slice none 0 0) K5 (by simp) (.inl ⟨rfl, rfl⟩) (by decide) (by decide) (by decide) (by decide)).mono ?_
    intro u g6 hA
    unfold AddP at hA
    rw [acme_ok, if_neg (by simp)] at hA
    obtain ⟨a, m, c, rfl, Bo, hid, K6, F6⟩ := hA
    rw [show aheadS [] acme.t = zero32 from rfl] at Bo K6
    have Bf := Bo.bytes
    clear Bo
    have hw := acme_walk
    have hlong := acme_long
    have hml : m = (frameS (bytesS acme zero32)).length := by
      obtain ⟨a', c', h1⟩ := Bf.shape
      injection h1
    have hfl : (frameS (bytesS acme zero32)).length ≤ 1000000000 := by
      have := fds_enc acme_ok (a := zero32) rfl
      have h10 := varint_len10 (n := (bytesS acme zero32).length) (by rw [this.2.1]; omega)
      simp only [frameS, List.length_append]
      rw [this.2.1] at h10 ⊢
      omega
    obtain ⟨X, hX⟩ : ∃ x, x = shaS (be8 (0 + 1) ++ shaS (zero32 ++ bytesS acme zero32)) := ⟨_, rfl⟩
    have hXl : X.length = 32 := by rw [hX]; exact shaS_len _
    have v3 : verifyS (frameS (bytesS acme zero32)) X = .tuple #[.int .i64 0, .int .i64 0] := by
      unfold verifyS
      rw [hw]
      simp only
      rw [if_neg (by decide), ← hX, if_neg (by simp)]
    generalize hFF : frameS (bytesS acme zero32) = FF at *
    simp (disch := first|omega|(simp only [np,ns];try omega)) [e1]
    refine (head_ok K6).mono ?_
    rintro u g7 ⟨rfl, F7⟩
    rw [← hX]
    simp (disch := first|omega|(simp only [np,ns];try omega)) []
    refine (verify_ok (isB_fr F7 Bf) hfl hXl).mono ?_
    rintro u g8 ⟨rfl, F8⟩
    rw [v3]
    have hmI : (40 : Int) < (m : Int) := by omega
    have K8 := (K6.fr F7).fr F8
    simp (disch := first|omega|(simp only [np,ns];try omega)) [hmI, e1]
    refine (len_ok K8).mono ?_
    rintro u g9 ⟨rfl, rfl⟩
    simp (disch := first|omega|(simp only [np,ns];try omega)) [r_law09_known]
  refine ⟨?_, ?_⟩
  · refine (head_ok K).mono ?_
    rintro u g1 ⟨rfl, F1⟩
    rw [z40_eq, ← hZ]
    simp (disch := first|omega|(simp only [np,ns];try omega)) [hmr]
    refine (rsum_ok (hz _) (by decide)).mono ?_
    rintro u g2 ⟨rfl, rfl⟩
    rw [← hZ]
    simp (disch := first|omega|(simp only [np,ns];try omega)) [hdx, hf1, hcb]
    exact tail _ _ (by simp [upd_apply]) (by simp [upd_apply]) ((K.fr F1).fr (Fr_push (Fr.refl _ _)))
  · have FP : Fr g (g.push (.cells (u8s z40) true 1)) [] := Fr_push (Fr.refl _ _)
    refine (head_ok (K.fr FP)).mono ?_
    rintro u g1 ⟨rfl, F1⟩
    rw [z40_eq, ← hZ]
    simp (disch := first|omega|(simp only [np,ns];try omega)) [hmr]
    refine (rsum_ok (isB_fr F1 (hz g)) (by decide)).mono ?_
    rintro u g2 ⟨rfl, rfl⟩
    rw [← hZ]
    simp (disch := first|omega|(simp only [np,ns];try omega)) [hdx, hf1, hcb]
    exact tail _ _ (by simp [upd_apply]) (by simp [upd_apply]) ((K.fr FP).fr F1)
theorem known_ok (h : VH) : PCalls Try.prog f_law09_known [] h (fun u h' => u = .bool true ∧ h' = h) :=
  PCalls.alone rfl (known_ok'.mono fun u _ e => by subst e; exact ⟨rfl, rfl⟩) h

/- audit, part K: what there is not. -/

theorem fr_end {h g : VH} (hf : Fr h g []) : Fr h g [] := hf

set_option maxHeartbeats 4000000 in
theorem given_ok {h : VH} {e : En} {v : Value} (hb : IsBytes h v e.b) (hl : e.b.length ≤ 140737488355328) : PCalls Try.prog f_law09_given [enV e v] h
    (fun u h' => ∃ a n c, u = enV e (.slice a n c) ∧ Buf h h' (.slice a n c) e.b) := by
  refine PCalls_of_pw st_law09_given (by simp [n_law09_given]) ?_
  rw [b_law09_given]
  obtain ⟨va, vc, rfl⟩ := hb.shape
  obtain ⟨N, hN⟩ : ∃ N, N = e.b.length := ⟨_, rfl⟩
  rw [← hN] at hb ⊢
  have hcell : cellsL (enV e (.slice va N vc)) = [.string (strB e.t), .int .i64 e.at_, .string (strB e.w), .slice va N vc] := rfl
  have hfi : fillC [.string ⟨#[]⟩, .int .i64 0, .string ⟨#[]⟩, .slice none 0 0] [(0, 1, .string (strB e.t)), (1, 1, .int .i64 e.at_), (2, 1, .string (strB e.w))] = some [.string (strB e.t), .int .i64 e.at_, .string (strB e.w), .slice none 0 0] := rfl
  have hsA : ∀ (a b c d : Value) (p : Option Addr) (q r : Nat), storeObj (.cells [a, b, c, d] true 1) 0 4 (.agg #[.string (strB e.t), .int .i64 e.at_, .string (strB e.w), .slice p q r]) = some (.cells [.string (strB e.t), .int .i64 e.at_, .string (strB e.w), .slice p q r] true 1) := fun _ _ _ _ _ _ _ => rfl
  obtain ⟨g, hg⟩ : ∃ x, x = (((h.push (.cells [.string (strB e.t), .int .i64 e.at_, .string (strB e.w), .slice va N vc] true 1)).push (.cells [.string ⟨#[]⟩, .int .i64 0, .string ⟨#[]⟩, .slice none 0 0] true 1)).push (.cells [.string ⟨#[]⟩, .int .i64 0, .string ⟨#[]⟩, .slice none 0 0] true 1)).set (h.n + 1 + 1) (.cells [.string (strB e.t), .int .i64 e.at_, .string (strB e.w), .slice none 0 0] true 1) := ⟨_, rfl⟩
  have F : Fr h g [] := by rw [hg]; exact Fr_set (Fr_push (Fr_push (Fr_push (Fr.refl _ _)))) (by omega)
  have gn : g.n = h.n + 3 := by rw [hg]; simp
  have g0 : g.get h.n = .cells [.string (strB e.t), .int .i64 e.at_, .string (strB e.w), .slice va N vc] true 1 := by
    rw [hg, VH.get_set_ne _ _ (by omega), VH.get_push_lt _ _ (by simp; omega), VH.get_push_lt _ _ (by simp), VH.get_push_new]
  have g1 : g.get (h.n + 1) = .cells [.string ⟨#[]⟩, .int .i64 0, .string ⟨#[]⟩, .slice none 0 0] true 1 := by
    rw [hg, VH.get_set_ne _ _ (by omega), VH.get_push_lt _ _ (by simp)]; exact VH.get_push_at (by simp)
  have g2 : g.get (h.n + 1 + 1) = .cells [.string (strB e.t), .int .i64 e.at_, .string (strB e.w), .slice none 0 0] true 1 := by rw [hg, VH.get_set_same]
  have hsr := (isB_fr F hb).src
  obtain ⟨w, G, hap, B⟩ := (Buf.nil g).append e.b (by simp; omega)
  rw [List.nil_append] at B
  rw [← hN] at hap
  obtain ⟨pa, pn, pc, rfl⟩ : ∃ a n c, w = .slice a n c := by
    obtain ⟨a, c, rfl⟩ := B.shape
    exact ⟨_, _, _, rfl⟩
  have G1 := (B.fr.get (h.n + 1) (by omega) (by simp)).trans g1
  have G2 := (B.fr.get (h.n + 1 + 1) (by omega) (by simp)).trans g2
  have hfi2 : storeObj (.cells [.string (strB e.t), .int .i64 e.at_, .string (strB e.w), .slice none 0 0] true 1) 3 1 (.slice pa pn pc) = some (.cells [.string (strB e.t), .int .i64 e.at_, .string (strB e.w), .slice pa pn pc] true 1) := rfl
  simp (disch := first|omega|(simp only [np,ns];try omega)) [r_law09_given, B_law09_given, hcell, en_all, hfi, hsA, ← hg, g0, g1, g2, ld4_0, ld4_1, ld4_2, ld4_3, ld4_all, hsr, hap, G1, G2, hfi2]
  have FF : ∀ o o', Fr G ((G.set (h.n + 1 + 1) o).set (h.n + 1) o') [h.n + 1 + 1, h.n + 1] := fun o o' => (Fr.set _ _ (by simp)).trans (Fr.set _ _ (by simp))
  refine ⟨pa, pn, pc, rfl, ⟨B.own.fr (FF _ _) (fun x hx => by have := B.ids x hx; simp; omega), ?_, fun x hx => by have := B.ids x hx; omega⟩⟩
  exact Fr_set (Fr_set (F.trans B.fr) (by omega)) (by omega)

theorem addNil_ok {h : VH} {e : En} {a : Option Addr} {n c : Nat} : PCalls Try.prog f_audit_Chain_Add [.pointer none, enV e (.slice a n c)] h (fun u h' => u = .tuple #[.slice none 0 0, .int .i64 2] ∧ Fr h h' []) := by
  refine PCalls_of_pw st_audit_Chain_Add (by simp [n_audit_Chain_Add]) ?_
  rw [b_audit_Chain_Add]
  have hcell : cellsL (enV e (.slice a n c)) = [.string (strB e.t), .int .i64 e.at_, .string (strB e.w), .slice a n c] := rfl
  simp (disch := first|omega|(simp only [np,ns];try omega)) [r_audit_Chain_Add, B_audit_Chain_Add, hcell, en_all]
  exact Fr_push (Fr.refl _ _)
theorem subNil_ok {h : VH} {t : List UInt8} : PCalls Try.prog f_audit_Chain_Sub [.pointer none, .string (strB t)] h (fun u h' => u = .tuple #[digV zero32, .bool false] ∧ Fr h h' []) := by
  refine PCalls_of_pw st_audit_Chain_Sub (by simp [n_audit_Chain_Sub]) ?_
  rw [b_audit_Chain_Sub]
  have hfD : fillC [.int .u8 0, .int .u8 0, .int .u8 0, .int .u8 0, .int .u8 0, .int .u8 0, .int .u8 0, .int .u8 0, .int .u8 0, .int .u8 0, .int .u8 0, .int .u8 0, .int .u8 0, .int .u8 0, .int .u8 0, .int .u8 0, .int .u8 0, .int .u8 0, .int .u8 0, .int .u8 0, .int .u8 0, .int .u8 0, .int .u8 0, .int .u8 0, .int .u8 0, .int .u8 0, .int .u8 0, .int .u8 0, .int .u8 0, .int .u8 0, .int .u8 0, .int .u8 0] [] = some [.int .u8 0, .int .u8 0, .int .u8 0, .int .u8 0, .int .u8 0, .int .u8 0, .int .u8 0, .int .u8 0, .int .u8 0, .int .u8 0, .int .u8 0, .int .u8 0, .int .u8 0, .int .u8 0, .int .u8 0, .int .u8 0, .int .u8 0, .int .u8 0, .int .u8 0, .int .u8 0, .int .u8 0, .int .u8 0, .int .u8 0, .int .u8 0, .int .u8 0, .int .u8 0, .int .u8 0, .int .u8 0, .int .u8 0, .int .u8 0, .int .u8 0, .int .u8 0] := rfl
  have hsD : storeObj (.cells [.int .u8 0, .int .u8 0, .int .u8 0, .int .u8 0, .int .u8 0, .int .u8 0, .int .u8 0, .int .u8 0, .int .u8 0, .int .u8 0, .int .u8 0, .int .u8 0, .int .u8 0, .int .u8 0, .int .u8 0, .int .u8 0, .int .u8 0, .int .u8 0, .int .u8 0, .int .u8 0, .int .u8 0, .int .u8 0, .int .u8 0, .int .u8 0, .int .u8 0, .int .u8 0, .int .u8 0, .int .u8 0, .int .u8 0, .int .u8 0, .int .u8 0, .int .u8 0] true 1) 0 32 (.agg #[.int .u8 0, .int .u8 0, .int .u8 0, .int .u8 0, .int .u8 0, .int .u8 0, .int .u8 0, .int .u8 0, .int .u8 0, .int .u8 0, .int .u8 0, .int .u8 0, .int .u8 0, .int .u8 0, .int .u8 0, .int .u8 0, .int .u8 0, .int .u8 0, .int .u8 0, .int .u8 0, .int .u8 0, .int .u8 0, .int .u8 0, .int .u8 0, .int .u8 0, .int .u8 0, .int .u8 0, .int .u8 0, .int .u8 0, .int .u8 0, .int .u8 0, .int .u8 0]) = some (.cells [.int .u8 0, .int .u8 0, .int .u8 0, .int .u8 0, .int .u8 0, .int .u8 0, .int .u8 0, .int .u8 0, .int .u8 0, .int .u8 0, .int .u8 0, .int .u8 0, .int .u8 0, .int .u8 0, .int .u8 0, .int .u8 0, .int .u8 0, .int .u8 0, .int .u8 0, .int .u8 0, .int .u8 0, .int .u8 0, .int .u8 0, .int .u8 0, .int .u8 0, .int .u8 0, .int .u8 0, .int .u8 0, .int .u8 0, .int .u8 0, .int .u8 0, .int .u8 0] true 1) := rfl
  have hlD : loadObj (.cells [.int .u8 0, .int .u8 0, .int .u8 0, .int .u8 0, .int .u8 0, .int .u8 0, .int .u8 0, .int .u8 0, .int .u8 0, .int .u8 0, .int .u8 0, .int .u8 0, .int .u8 0, .int .u8 0, .int .u8 0, .int .u8 0, .int .u8 0, .int .u8 0, .int .u8 0, .int .u8 0, .int .u8 0, .int .u8 0, .int .u8 0, .int .u8 0, .int .u8 0, .int .u8 0, .int .u8 0, .int .u8 0, .int .u8 0, .int .u8 0, .int .u8 0, .int .u8 0] true 1) 0 (some 32) = some (digV zero32) := rfl
  simp (disch := first|omega|(simp only [np,ns];try omega)) [r_audit_Chain_Sub, B_audit_Chain_Sub, hfD, hsD, hlD]
  exact Fr_set (Fr_push (Fr.refl _ _)) (Nat.le_refl _)
theorem headNil_ok {h : VH} : PCalls Try.prog f_audit_Chain_Head [.pointer none] h (fun u h' => u = digV zero32 ∧ Fr h h' []) := by
  refine PCalls_of_pw st_audit_Chain_Head (by simp [n_audit_Chain_Head]) ?_
  rw [b_audit_Chain_Head]
  have hfD : fillC [.int .u8 0, .int .u8 0, .int .u8 0, .int .u8 0, .int .u8 0, .int .u8 0, .int .u8 0, .int .u8 0, .int .u8 0, .int .u8 0, .int .u8 0, .int .u8 0, .int .u8 0, .int .u8 0, .int .u8 0, .int .u8 0, .int .u8 0, .int .u8 0, .int .u8 0, .int .u8 0, .int .u8 0, .int .u8 0, .int .u8 0, .int .u8 0, .int .u8 0, .int .u8 0, .int .u8 0, .int .u8 0, .int .u8 0, .int .u8 0, .int .u8 0, .int .u8 0] [] = some [.int .u8 0, .int .u8 0, .int .u8 0, .int .u8 0, .int .u8 0, .int .u8 0, .int .u8 0, .int .u8 0, .int .u8 0, .int .u8 0, .int .u8 0, .int .u8 0, .int .u8 0, .int .u8 0, .int .u8 0, .int .u8 0, .int .u8 0, .int .u8 0, .int .u8 0, .int .u8 0, .int .u8 0, .int .u8 0, .int .u8 0, .int .u8 0, .int .u8 0, .int .u8 0, .int .u8 0, .int .u8 0, .int .u8 0, .int .u8 0, .int .u8 0, .int .u8 0] := rfl
  have hsD : storeObj (.cells [.int .u8 0, .int .u8 0, .int .u8 0, .int .u8 0, .int .u8 0, .int .u8 0, .int .u8 0, .int .u8 0, .int .u8 0, .int .u8 0, .int .u8 0, .int .u8 0, .int .u8 0, .int .u8 0, .int .u8 0, .int .u8 0, .int .u8 0, .int .u8 0, .int .u8 0, .int .u8 0, .int .u8 0, .int .u8 0, .int .u8 0, .int .u8 0, .int .u8 0, .int .u8 0, .int .u8 0, .int .u8 0, .int .u8 0, .int .u8 0, .int .u8 0, .int .u8 0] true 1) 0 32 (.agg #[.int .u8 0, .int .u8 0, .int .u8 0, .int .u8 0, .int .u8 0, .int .u8 0, .int .u8 0, .int .u8 0, .int .u8 0, .int .u8 0, .int .u8 0, .int .u8 0, .int .u8 0, .int .u8 0, .int .u8 0, .int .u8 0, .int .u8 0, .int .u8 0, .int .u8 0, .int .u8 0, .int .u8 0, .int .u8 0, .int .u8 0, .int .u8 0, .int .u8 0, .int .u8 0, .int .u8 0, .int .u8 0, .int .u8 0, .int .u8 0, .int .u8 0, .int .u8 0]) = some (.cells [.int .u8 0, .int .u8 0, .int .u8 0, .int .u8 0, .int .u8 0, .int .u8 0, .int .u8 0, .int .u8 0, .int .u8 0, .int .u8 0, .int .u8 0, .int .u8 0, .int .u8 0, .int .u8 0, .int .u8 0, .int .u8 0, .int .u8 0, .int .u8 0, .int .u8 0, .int .u8 0, .int .u8 0, .int .u8 0, .int .u8 0, .int .u8 0, .int .u8 0, .int .u8 0, .int .u8 0, .int .u8 0, .int .u8 0, .int .u8 0, .int .u8 0, .int .u8 0] true 1) := rfl
  have hlD : loadObj (.cells [.int .u8 0, .int .u8 0, .int .u8 0, .int .u8 0, .int .u8 0, .int .u8 0, .int .u8 0, .int .u8 0, .int .u8 0, .int .u8 0, .int .u8 0, .int .u8 0, .int .u8 0, .int .u8 0, .int .u8 0, .int .u8 0, .int .u8 0, .int .u8 0, .int .u8 0, .int .u8 0, .int .u8 0, .int .u8 0, .int .u8 0, .int .u8 0, .int .u8 0, .int .u8 0, .int .u8 0, .int .u8 0, .int .u8 0, .int .u8 0, .int .u8 0, .int .u8 0] true 1) 0 (some 32) = some (digV zero32) := rfl
  simp (disch := first|omega|(simp only [np,ns];try omega)) [r_audit_Chain_Head, B_audit_Chain_Head, hfD, hsD, hlD]
  exact Fr_set (Fr_push (Fr.refl _ _)) (Nat.le_refl _)
theorem lenNil_ok {h : VH} : PCalls Try.prog f_audit_Chain_Len [.pointer none] h (fun u h' => u = .int .i64 0 ∧ h' = h) := by
  refine PCalls_of_pw st_audit_Chain_Len (by simp [n_audit_Chain_Len]) ?_
  rw [b_audit_Chain_Len]
  simp (disch := first|omega|(simp only [np,ns];try omega)) [r_audit_Chain_Len, B_audit_Chain_Len]
theorem copyNil_ok {h : VH} : PCalls Try.prog f_audit_Chain_Copy [.pointer none] h (fun u h' => u = .pointer none ∧ h' = h) := by
  refine PCalls_of_pw st_audit_Chain_Copy (by simp [n_audit_Chain_Copy]) ?_
  rw [b_audit_Chain_Copy]
  simp (disch := first|omega|(simp only [np,ns];try omega)) [r_audit_Chain_Copy, B_audit_Chain_Copy]

set_option maxHeartbeats 4000000 in
theorem nil_ok' {h : VH} {e : En} {v : Value} (hb : IsBytes h v e.b) (hl : e.b.length ≤ 140737488355328) : PCalls Try.prog f_law09_AuditNil [enV e v] h (fun u _ => u = .bool true) := by
  refine PCalls_of_pw st_law09_AuditNil (by simp [n_law09_AuditNil]) ?_
  rw [b_law09_AuditNil]
  obtain ⟨va, vc, rfl⟩ := hb.shape
  obtain ⟨N, hN⟩ : ∃ N, N = e.b.length := ⟨_, rfl⟩
  rw [← hN] at hb ⊢
  have hcell : cellsL (enV e (.slice va N vc)) = [.string (strB e.t), .int .i64 e.at_, .string (strB e.w), .slice va N vc] := rfl
  obtain ⟨g, hg⟩ : ∃ x, x = h.push (.cells [.string (strB e.t), .int .i64 e.at_, .string (strB e.w), .slice va N vc] true 1) := ⟨_, rfl⟩
  have F : Fr h g [] := by rw [hg]; exact Fr_push (Fr.refl _ _)
  have g0 : g.get h.n = .cells [.string (strB e.t), .int .i64 e.at_, .string (strB e.w), .slice va N vc] true 1 := by rw [hg, VH.get_push_new]
  have gn : g.n = h.n + 1 := by rw [hg]; simp
  have hlE : loadObj (.cells [.string (strB e.t), .int .i64 e.at_, .string (strB e.w), .slice va N vc] true 1) 0 (some 4) = some (enV e (.slice va N vc)) := rfl
  simp (disch := first|omega|(simp only [np,ns];try omega)) [B_law09_AuditNil, hcell, en_all, ← hg, g0, hlE]
  refine (given_ok (isB_fr F hb) hl).mono ?_
  rintro u g1 ⟨a, n, c, rfl, B⟩
  have e1 := (B.fr.get h.n (by omega) (by simp)).trans g0
  have n1 := B.fr.n
  simp (disch := first|omega|(simp only [np,ns];try omega)) []
  refine (addNil_ok).mono ?_
  rintro u g2 ⟨rfl, F2⟩
  have e2 := (F2.get h.n (by omega) (by simp)).trans e1
  have n2 := F2.n
  simp (disch := first|omega|(simp only [np,ns];try omega)) [e2, ld4_0]
  refine (subNil_ok).mono ?_
  rintro u g3 ⟨rfl, F3⟩
  have n3 := F3.n
  have hst : storeObj (.cells [.int .u8 0, .int .u8 0, .int .u8 0, .int .u8 0, .int .u8 0, .int .u8 0, .int .u8 0, .int .u8 0, .int .u8 0, .int .u8 0, .int .u8 0, .int .u8 0, .int .u8 0, .int .u8 0, .int .u8 0, .int .u8 0, .int .u8 0, .int .u8 0, .int .u8 0, .int .u8 0, .int .u8 0, .int .u8 0, .int .u8 0, .int .u8 0, .int .u8 0, .int .u8 0, .int .u8 0, .int .u8 0, .int .u8 0, .int .u8 0, .int .u8 0, .int .u8 0] true 1) 0 32 (digV zero32) = some (.cells (u8s zero32) true 1) := rfl
  have hlz : loadObj (.cells (u8s zero32) true 1) 0 (some 32) = some (.agg (u8s zero32).toArray) := rfl
  have hfz : fillC [.int .u8 0, .int .u8 0, .int .u8 0, .int .u8 0, .int .u8 0, .int .u8 0, .int .u8 0, .int .u8 0, .int .u8 0, .int .u8 0, .int .u8 0, .int .u8 0, .int .u8 0, .int .u8 0, .int .u8 0, .int .u8 0, .int .u8 0, .int .u8 0, .int .u8 0, .int .u8 0, .int .u8 0, .int .u8 0, .int .u8 0, .int .u8 0, .int .u8 0, .int .u8 0, .int .u8 0, .int .u8 0, .int .u8 0, .int .u8 0, .int .u8 0, .int .u8 0] [] = some (u8s zero32) := rfl
  have hfk := fits32 (l := zero32) rfl
  have hcb := cellsB_u8s zero32 zero32 rfl
  rw [beq_self_eq_true] at hcb
  have hdz : digV zero32 = .agg (u8s zero32).toArray := rfl
  simp (disch := first|omega|(simp only [np,ns];try omega)) [hst]
  refine (copyNil_ok).mono ?_
  rintro u g4 ⟨rfl, rfl⟩
  simp (disch := first|omega|(simp only [np,ns];try omega)) [hlz, hfz, hfk, hcb]
  refine (headNil_ok).mono ?_
  rintro u g5 ⟨rfl, F5⟩
  simp (disch := first|omega|(simp only [np,ns];try omega)) [hdz, hfz, hfk, hcb]
  refine (lenNil_ok).mono ?_
  rintro u g6 ⟨rfl, rfl⟩
  simp (disch := first|omega|(simp only [np,ns];try omega)) []
  refine (known_ok _).mono ?_
  rintro u g7 ⟨rfl, rfl⟩
  simp (disch := first|omega|(simp only [np,ns];try omega)) [r_law09_AuditNil]

/-- the shape of an entry. -/
def enT : Ty := .cons 1 .str (.cons 1 (.int .i64) (.cons 1 .str (.cons 1 (.sl 1 (.int .u8)) .nil)))
theorem Sh.en {h : VH} {vs : List Value} {k : Nat} (H : Sh h enT vs k) : ∃ e v, vs = enL e v ∧ IsBytes h v e.b ∧ e.t.length + e.w.length + e.b.length + 4 ≤ k ∧ -9223372036854775808 ≤ e.at_ ∧ e.at_ < 9223372036854775808 := by
  obtain ⟨v1, r1, k1, l1, rfl, hl1, s1, ⟨v2, r2, k2, l2, rfl, hl2, s2, ⟨v3, r3, k3, l3, rfl, hl3, s3, ⟨v4, r4, k4, l4, rfl, hl4, s4, ⟨rfl, e5⟩, e4⟩, e3⟩, e2⟩, e1⟩ := H
  obtain ⟨w1, rfl⟩ := list_one hl1
  obtain ⟨w3, rfl⟩ := list_one hl3
  obtain ⟨w4, rfl⟩ := list_one hl4
  obtain ⟨t, rfl, ht⟩ := Sh.str s1
  obtain ⟨n, rfl, n1, n2, hn⟩ := Sh.i64 s2
  obtain ⟨w, rfl, hw⟩ := Sh.str s3
  obtain ⟨b, hb, hbl⟩ := Sh.bytes s4
  exact ⟨⟨t, n, w, b⟩, w4, rfl, hb, by simp only; omega, n1, n2⟩
theorem nil_law {h : VH} {us : List Value} {k : Nat} (H : ShA h [enT] us k) (hk : k ≤ 1048576) :
    PCalls Try.prog f_law09_AuditNil us h (fun u h' => u = .bool true ∧ h' = h) := by
  obtain ⟨v, r, k1, k2, rfl, ⟨cs, rfl, hcs⟩, ⟨rfl, _⟩, h6⟩ := H
  obtain ⟨e, v, rfl, hb, hl, _⟩ := Sh.en hcs
  exact ((nil_ok' (e := e) hb.ro (by omega)).mono fun u _ e => by subst e; exact ⟨rfl, rfl⟩).drop
end Go.Proofs.Ytdnkpgbggpbgaaa.Au
