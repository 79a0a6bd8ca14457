/- audit, part M: a log that the reference made; counts; the walk's chain. -/
import Derived.Test.YtdnkpgbggpbgaaaAuL
import Derived.Test.YtdnkpgbggpbgaaaFsD
set_option linter.unusedVariables false
set_option linter.unusedSimpArgs false
set_option maxRecDepth 100000
namespace Go.Proofs.Ytdnkpgbggpbgaaa.Au
open Go Go.RowKit Go.Proofs.Ytdnkpgbggpbgaaa.Pm Go.Proofs.Ytdnkpgbggpbgaaa.Fs Go.Proofs.Ytdnkpgbggpbgaaa.Wr Go.Proofs.Ytdnkpgbggpbgaaa.Sha


structure MS where
  log : List UInt8
  n : Nat
  l : List UInt8
  subs : Sbs
  ins : List En
def stepM (s : MS) (e : En) : MS := ⟨if wrongS e = 0 then s.log ++ (addS s.n s.l s.subs e).fr else s.log, (addS s.n s.l s.subs e).n, (addS s.n s.l s.subs e).l, (addS s.n s.l s.subs e).subs, if wrongS e = 0 then s.ins ++ [e] else s.ins⟩
def ms0 : MS := ⟨[], 0, zero32, [], []⟩
def madeS (es : List En) : MS := (es.take 40).foldl stepM ms0
theorem addS_w (n : Nat) (l : List UInt8) (subs : Sbs) (e : En) : (addS n l subs e).w = wrongS e := by
  unfold addS
  split
  · rfl
  · rename_i h; simp at h; exact h.symm
theorem count_ok {h : VH} {a m : Int} (ha : -9223372036854775808 ≤ a ∧ a < 9223372036854775808) (hm : 0 < m ∧ m < 4611686018427387904) : PCalls Try.prog f_ref02_Count [.int .i64 a, .int .i64 m] h (fun u h' => ∃ k : Nat, (k : Int) < m ∧ u = .int .i64 (k : Int) ∧ h' = h) := by
  refine PCalls_of_pw st_ref02_Count (by simp [n_ref02_Count]) ?_
  rw [b_ref02_Count]
  have hmz : ¬ m = 0 := by omega
  have h1 := Int.tmod_lt_of_pos a hm.1
  have h2 := Int.lt_tmod_of_pos a hm.1
  obtain ⟨r, hr⟩ : ∃ r, r = a.tmod m := ⟨_, rfl⟩
  rw [← hr] at h1 h2
  have hw : IntKind.i64.wrap r = r := i64_small (by omega) (by omega)
  have hw' : IntKind.i64.wrap (a.tmod m) = r := by rw [← hr]; exact hw
  have hw2 : IntKind.i64.wrap (r + m) = r + m := i64_small (by omega) (by omega)
  by_cases hneg : r < 0
  · simp (disch := first|omega|(simp only [np,ns];try omega)) [r_ref02_Count, B_ref02_Count, hmz, ← hr, hw, hneg, hw2]
    exact ⟨(r + m).toNat, by omega, by omega⟩
  · simp (disch := first|omega|(simp only [np,ns];try omega)) [r_ref02_Count, B_ref02_Count, hmz, ← hr, hw, hneg]
    exact ⟨r.toNat, by omega, by omega⟩
def ResP (h : VH) (bs : List UInt8) (u : Value) (h' : VH) : Prop := ∃ i j, u = .tuple #[.pointer (some ⟨i, 0, none⟩), .int .i64 ((walkS bs).at_ : Int)] ∧ Chain h' i j (walkS bs).n (walkS bs).l (walkS bs).subs ∧ Fr h h' [] ∧ (∀ p ∈ (walkS bs).subs, p.2.length = 32) ∧ h.n ≤ i ∧ h.n ≤ j ∧ (walkS bs).n ≤ bs.length
set_option maxHeartbeats 4000000 in
theorem resume_ok {h : VH} {v : Value} {bs : List UInt8} (hb : IsBytes h v bs) (hlen : bs.length ≤ 1000000000) : PCalls Try.prog f_audit_Resume [v] h (ResP h bs) := by
  refine PCalls_of_pw st_audit_Resume (by simp [n_audit_Resume]) ?_
  rw [b_audit_Resume]
  simp (disch := first|omega|(simp only [np,ns];try omega)) [B_audit_Resume]
  refine (walk_ok hb hlen).mono ?_
  rintro u g ⟨F, ae, ne, ce, al, nl, cl, ab, nb, cb, i, j, rfl, K, hs, hi, hj, hn, _⟩
  have Fo : ∀ o o', Fr g ((g.push o).set g.n o') [] := fun o o' => Fr_set (Fr_push (Fr.refl _ _)) (Nat.le_refl _)
  simp (disch := first|omega|(simp only [np,ns];try omega)) [r_audit_Resume, st6_A, ld6_3, ld6_5]
  exact ⟨i, j, rfl, K.fr (Fo _ _), F.trans (Fo _ _), hs, hi, hj, hn⟩
theorem sput_le (t d : List UInt8) : ∀ (q : Sbs), (sput t d q).length ≤ q.length + 1
  | [] => by simp [sput]
  | x :: q => by
    have ih := sput_le t d q
    unfold sput
    split
    · simp
    · simp only [List.length_cons]; omega
theorem fr_le {n : Nat} {l : List UInt8} {subs : Sbs} {e : En} : (addS n l subs e).fr.length ≤ 1048586 := by
  unfold addS
  split
  · simp
  · show (frameS _).length ≤ _
    have h1 := bytesS_le e (aheadS subs e.t)
    have h2 := varint_len10 (n := (bytesS e (aheadS subs e.t)).length) (by omega)
    unfold frameS
    rw [List.length_append]
    omega
/-- entries as the reference keeps them: their bodies are those that came in. -/
def InsAt (h g : VH) (v : Value) (ins : List En) : Prop := ∃ rows : List (En × Value), rows.map Prod.fst = ins ∧ OwnSl g 4 v (rows.flatMap fun p => enL p.1 p.2) ins.length ∧ ∀ p ∈ rows, ∃ a n c, p.2 = .slice a n c ∧ IsBytes h p.2 p.1.b
def MadeI (h g : VH) (ir : Nat) (v : Value) (al : Option Addr) (cl : Nat) (ai : Option Addr) (ci : Nat) (S : MS) : Prop :=
  Fr h g [] ∧ RCh g ir S.n S.l S.subs v ∧ OwnSl g 1 (.slice al S.log.length cl) (u8s S.log) S.log.length ∧ InsAt h g (.slice ai S.ins.length ci) S.ins ∧ h.n ≤ ir ∧ (∀ x ∈ idOf v, h.n ≤ x) ∧ (∀ x ∈ idOf (.slice al S.log.length cl), ir < x) ∧ (∀ x ∈ idOf (.slice ai S.ins.length ci), ir < x)
def MadeP (h : VH) (es : List En) (u : Value) (g : VH) : Prop := ∃ ir v al cl ai ci, u = .tuple #[.slice al (madeS es).log.length cl, .pointer (some ⟨ir, 0, none⟩), .slice ai (madeS es).ins.length ci] ∧ MadeI h g ir v al cl ai ci (madeS es)
def MdL (h : VH) (va : Option Addr) (L vc ir : Nat) (es : List En) (k : Nat) (s : Slots) (g : VH) : Prop := ∃ (v : Value) (al : Option Addr) (cl : Nat) (ai : Option Addr) (ci : Nat) (S : MS),
  (s 0 = .slice va L vc ∧ s 5 = .pointer (some ⟨ir, 0, none⟩) ∧ s 6 = .slice al S.log.length cl ∧ s 7 = .slice ai S.ins.length ci ∧ s 8 = .int .i64 (k : Int)) ∧ MadeI h g ir v al cl ai ci S ∧ S = (es.take k).foldl stepM ms0 ∧ S.n ≤ k ∧ S.subs.length ≤ k ∧ S.ins.length ≤ k ∧ S.log.length ≤ k * 1048586
set_option maxHeartbeats 8000000 in
theorem made_ok {h : VH} {v0 : Value} {es : List En} (hv : IsEns h v0 es) (hes : ∀ e ∈ es, e.t.length ≤ 1048576 ∧ e.w.length ≤ 1048576 ∧ e.b.length ≤ 1048576) (hlen : es.length ≤ 1048576) :
    PCalls Try.prog f_law09_made [v0] h (MadeP h es) := by
  refine PCalls_of_pw st_law09_made (by simp [n_law09_made]) ?_
  rw [b_law09_made]
  obtain ⟨va, vc, rfl, hat⟩ := hv
  obtain ⟨L, hL⟩ : ∃ L, L = es.length := ⟨_, rfl⟩
  rw [← hL]
  obtain ⟨ir, hir⟩ : ∃ ir, ir = h.n := ⟨_, rfl⟩
  have hfr : fillC (.int .i64 0 :: ([.int .u8 0, .int .u8 0, .int .u8 0, .int .u8 0, .int .u8 0, .int .u8 0, .int .u8 0, .int .u8 0, .int .u8 0, .int .u8 0, .int .u8 0, .int .u8 0, .int .u8 0, .int .u8 0, .int .u8 0, .int .u8 0, .int .u8 0, .int .u8 0, .int .u8 0, .int .u8 0, .int .u8 0, .int .u8 0, .int .u8 0, .int .u8 0, .int .u8 0, .int .u8 0, .int .u8 0, .int .u8 0, .int .u8 0, .int .u8 0, .int .u8 0, .int .u8 0] ++ [.slice none 0 0])) [] = some (rchL 0 zero32 (.slice none 0 0)) := rfl
  simp only [List.cons_append, List.nil_append] at hfr
  have hcr : cellsL (.agg (rchL 0 zero32 (.slice none 0 0)).toArray) = rchL 0 zero32 (.slice none 0 0) := rfl
  have har : (rchL 0 zero32 (.slice none 0 0)).all Value.oneCell' = true := rfl
  obtain ⟨g1, hg1⟩ : ∃ x, x = h.push (.cells (rchL 0 zero32 (.slice none 0 0)) true 1) := ⟨_, rfl⟩
  have F1 : Fr h g1 [] := by rw [hg1]; exact Fr_push (Fr.refl _ _)
  have R1 : RCh g1 ir 0 zero32 [] (.slice none 0 0) := ⟨by rw [hg1, hir]; exact VH.get_push_new _ _, OwnSl.nil _ _, by rw [hg1, hir]; simp, rfl, by simp⟩
  simp (disch := first|omega|(simp only [np,ns];try omega)) [B_law09_made, hfr, hcr, har, ← hir, ← hg1]
  refine pw_loopN (MdL h va L vc ir es) (min L 40) ?_ ?_
  · refine ⟨.slice none 0 0, none, 0, none, 0, ms0, ?_, ⟨F1, R1, OwnSl.nil _ _, ⟨[], rfl, OwnSl.nil _ _, by simp⟩, by omega, by simp [idOf], by simp [idOf], by simp [idOf]⟩, by simp, by simp [ms0], by simp [ms0], by simp [ms0], by simp [ms0]⟩
    simp [upd_apply, s0_apply, ms0]
  rintro k s g hk ⟨v, al, cl, ai, ci, S, ⟨z0, z5, z6, z7, z8⟩, ⟨F, R, O, I, i0, iv, il, ii⟩, hS, hn, hsl, hin, hlg⟩
  by_cases hlt : k < L ∧ k < 40
  case neg =>
    have hfin : MadeP h es (.tuple #[.slice al S.log.length cl, .pointer (some ⟨ir, 0, none⟩), .slice ai S.ins.length ci]) g := by
      have : S = madeS es := by
        rw [hS]
        unfold madeS
        congr 1
        by_cases hkL : k < L
        · rw [show k = 40 by omega]
        · rw [List.take_of_length_le (by omega), List.take_of_length_le (by omega)]
      exact ⟨ir, v, al, cl, ai, ci, by rw [← this], by rw [← this]; exact ⟨F, R, O, I, i0, iv, il, ii⟩⟩
    by_cases hkl : k < L
    · have h40 : ¬ k < 40 := fun h => hlt ⟨hkl, h⟩
      have hkI : (k : Int) < (L : Int) := by omega
      have h40I : ¬ (k : Int) < 40 := by omega
      simp (disch := first|omega|(simp only [np,ns];try omega)) [r_law09_made, z0, z5, z6, z7, z8, hkl, hkI, h40, h40I]
      exact hfin
    · have hkI : ¬ (k : Int) < (L : Int) := by omega
      simp (disch := first|omega|(simp only [np,ns];try omega)) [r_law09_made, z0, z5, z6, z7, z8, hkl, hkI]
      exact hfin
  obtain ⟨hkl, h40⟩ := hlt
  have hkI : (k : Int) < (L : Int) := by omega
  have h40I : (k : Int) < 40 := by omega
  have hkk : IntKind.i64.wrap ((k : Int) + 1) = ((k + 1 : Nat) : Int) := by rw [i64_small (by omega) (by omega)]; omega
  obtain ⟨vi, vo, rfl, hvi, hesz, hel⟩ := hat (by omega)
  obtain ⟨p, m, d, l1, l2, hb⟩ := hel k (by omega)
  obtain ⟨e, he⟩ : ∃ e, e = es[k]'(by omega) := ⟨_, rfl⟩
  rw [← he] at l1 hb
  obtain ⟨b1, b2, b3⟩ := hes e (by rw [he]; exact List.getElem_mem _)
  have hgv : g.get vi = h.get vi := F.get vi hvi (by simp)
  simp (disch := first|omega|(simp only [np,ns];try omega)) [z0, z5, z8, hkl, hkI, h40, h40I, hgv, hesz, l1]
  refine (radd_ok R (isB_fr F hb) (by omega) (by omega) (by omega) (by omega) (by omega)).mono ?_
  intro u g2 hA
  obtain ⟨a, am, ac, v', rfl, hbA, R2, F2, hid⟩ := radd_out R hA
  clear hA
  have hstep : (es.take (k + 1)).foldl stepM ms0 = stepM S e := by
    rw [List.take_succ_eq_append_getElem (by omega), List.foldl_append, ← hS, he]; rfl
  obtain ⟨A, hA⟩ : ∃ A, A = addS S.n S.l S.subs e := ⟨_, rfl⟩
  have hAw : A.w = wrongS e := by rw [hA]; exact addS_w _ _ _ _
  have hAf : A.fr.length ≤ 1048586 := by rw [hA]; exact fr_le
  rw [← hA] at hbA R2 ⊢
  have irl := R.lti
  have n2 := F2.n
  have nF := F.n
  have hiv' : ∀ x ∈ idOf v', h.n ≤ x := fun x hx => (hid x hx).elim (iv x) (fun h => by omega)
  have hlv : ∀ x ∈ idOf (.slice al S.log.length cl), x ∉ idOf v := fun x hx hx' => by
    obtain ⟨d1, g1⟩ := Wr.OwnSl.cells O x hx
    obtain ⟨d2, g2⟩ := Wr.OwnSl.cells R.own x hx'
    rw [g1] at g2
    injection g2 with _ _ e3
    exact absurd e3 (by decide)
  obtain ⟨rows, hr1, hr2, hr3⟩ := I
  have hiv : ∀ x ∈ idOf (.slice ai S.ins.length ci), x ∉ idOf v := fun x hx hx' => by
    obtain ⟨d1, g1⟩ := Wr.OwnSl.cells hr2 x hx
    obtain ⟨d2, g2⟩ := Wr.OwnSl.cells R.own x hx'
    rw [g1] at g2
    injection g2 with _ _ e3
    exact absurd e3 (by decide)
  have F02 : Fr h g2 [] := F.trans' F2 (fun y hy => .inr (by
    rcases List.mem_cons.1 hy with rfl | hy
    · exact i0
    · exact iv y hy))
  have O2 := O.fr F2 (fun x hx hx' => by
    rcases List.mem_cons.1 hx' with rfl | hx'
    · have := il _ hx; omega
    · exact hlv x hx hx')
  have I2 := hr2.fr F2 (fun x hx hx' => by
    rcases List.mem_cons.1 hx' with rfl | hx'
    · have := ii _ hx; omega
    · exact hiv x hx hx')
  have hAn : A.n ≤ S.n + 1 ∧ A.subs.length ≤ S.subs.length + 1 := by
    rw [hA]
    unfold addS
    split
    · exact ⟨by simp, by simp⟩
    · refine ⟨Nat.le_refl _, ?_⟩
      exact sput_le _ _ _
  by_cases hw : wrongS e = 0
  case neg =>
    have hwb : (A.w == 0) = false := by rw [hAw]; simpa using hw
    have hst : stepM S e = ⟨S.log, A.n, A.l, A.subs, S.ins⟩ := by simp [stepM, hw, ← hA]
    simp (disch := first|omega|(simp only [np,ns];try omega)) [hwb, z8, hkk]
    refine ⟨Nat.lt_min.2 ⟨hkl, h40⟩, v', al, cl, ai, ci, ⟨S.log, A.n, A.l, A.subs, S.ins⟩, ?_, ⟨F02, R2, O2, ⟨rows, hr1, I2, hr3⟩, i0, hiv', il, ii⟩, by rw [hstep, hst], Nat.le_trans hAn.1 (Nat.succ_le_succ hn), Nat.le_trans hAn.2 (Nat.succ_le_succ hsl), Nat.le_succ_of_le hin, Nat.le_trans hlg (Nat.mul_le_mul_right _ (Nat.le_succ k))⟩
    simp [upd_apply, z0, z5, z6, z7]
  have hwb : (A.w == 0) = true := by rw [hAw]; simpa using hw
  have hst : stepM S e = ⟨S.log ++ A.fr, A.n, A.l, A.subs, S.ins ++ [e]⟩ := by simp [stepM, hw, ← hA]
  obtain ⟨a', c', hsh⟩ := hbA.shape
  injection hsh with e1 e2 e3
  subst e1
  subst e3
  subst e2
  have hls := hbA.src
  obtain ⟨w3, g3, hap3, O3, F3, id3⟩ := O2.append (bytes := 1) (ys := u8s A.fr) (k := A.fr.length) (by simp) (by omega)
  obtain ⟨p3, c3, rfl⟩ := O3.shapeN
  have n3 := F3.n
  have hid3 : ∀ x ∈ idOf (.slice p3 (S.log.length + A.fr.length) c3), ir < x := fun x hx => (id3 x hx).elim (il x) (fun h => by omega)
  have F03 : Fr h g3 [] := F02.trans' F3 (fun y hy => .inr (by have := il y hy; omega))
  have hgv3 : g3.get vi = h.get vi := F03.get vi hvi (by simp)
  have hfi : fillC [.string ⟨#[]⟩, .int .i64 0, .string ⟨#[]⟩, .slice none 0 0] [(0, 4, enV e (.slice p m d))] = some (enL e (.slice p m d)) := rfl
  have hone : (enL e (.slice p m d)).all Value.oneCell' = true := rfl
  have hro : rowObj (.cells (enL e (.slice p m d)) true 4) 0 4 = some (enL e (.slice p m d)) := rfl
  obtain ⟨g4, hg4⟩ : ∃ g4, g4 = g3.push (.cells (enL e (.slice p m d)) true 4) := ⟨_, rfl⟩
  have F4 : Fr g3 g4 [] := by rw [hg4]; exact Fr_push (Fr.refl _ _)
  have q4 : g4.get g3.n = .cells (enL e (.slice p m d)) true 4 := by rw [hg4, VH.get_push_new]
  have n4 := F4.n
  have hli : ∀ x ∈ idOf (.slice ai S.ins.length ci), x ∉ idOf (.slice al S.log.length cl) := fun x hx hx' => own_disj I2 O2 (by decide) x hx hx'
  have I4 := (I2.fr F3 hli).fr F4 (fun _ _ => by simp)
  obtain ⟨w5, g5, hap5, O5, F5, id5⟩ := I4.append (bytes := 64) (ys := enL e (.slice p m d)) (k := 1) rfl (by omega)
  obtain ⟨p5, c5, rfl⟩ := O5.shapeN
  have n5 := F5.n
  have hid5 : ∀ x ∈ idOf (.slice p5 (S.ins.length + 1) c5), ir < x := fun x hx => (id5 x hx).elim (ii x) (fun h => by omega)
  have F05 : Fr h g5 [] := (F03.trans F4).trans' F5 (fun y hy => .inr (by have := ii y hy; omega))
  have v2lt := R2.own.lt
  have hv'l : ∀ x ∈ idOf v', x ∉ idOf (.slice al S.log.length cl) := fun x hx hx' => own_disj R2.own O2 (by decide) x hx hx'
  have hv'i : ∀ x ∈ idOf v', x ∉ idOf (.slice ai S.ins.length ci) := fun x hx hx' => own_disj R2.own I2 (by decide) x hx hx'
  have R5 := ((R2.fr F3 (fun hx => by have := il _ hx; omega) hv'l).fr F4 (by simp) (fun _ _ => by simp)).fr F5 (fun hx => by have := ii _ hx; omega) hv'i
  have O3' := O3.fr F4 (fun _ _ => by simp)
  have O35 := O3'.fr F5 (fun x hx hx' => own_disj O3' I4 (by decide) x hx hx')
  simp (disch := first|omega|(simp only [np,ns];try omega)) [hwb, z6, hls, hap3, z0, z8, z7, hkl, hkI, hgv3, hesz, l1, hfi, hone, ← hg4, q4, hro, Option.bind_some, hap5, hkk]
  refine ⟨Nat.lt_min.2 ⟨hkl, h40⟩, v', p3, c3, p5, c5, ⟨S.log ++ A.fr, A.n, A.l, A.subs, S.ins ++ [e]⟩, ?_, ⟨F05, R5, ?_, ⟨rows ++ [(e, .slice p m d)], by simp [hr1], ?_, fun q hq => ?_⟩, i0, hiv', ?_, ?_⟩, by rw [hstep, hst], Nat.le_trans hAn.1 (Nat.succ_le_succ hn), Nat.le_trans hAn.2 (Nat.succ_le_succ hsl), by simp only [List.length_append, List.length_singleton]; exact Nat.succ_le_succ hin, by simp only [List.length_append]; rw [Nat.succ_mul]; exact Nat.add_le_add hlg hAf⟩
  · simp [upd_apply, z0, z5]
  · simp only [List.length_append, u8s_append]
    exact O35
  · simp only [List.length_append, List.flatMap_append, List.flatMap_singleton, List.length_singleton]
    exact O5
  · rcases List.mem_append.1 hq with hq | hq
    · exact hr3 q hq
    · simp at hq; subst hq; exact ⟨p, m, d, rfl, hb⟩
  · simp only [List.length_append]; exact hid3
  · simp only [List.length_append, List.length_singleton]; exact hid5
end Go.Proofs.Ytdnkpgbggpbgaaa.Au
