/- disk, part Zb: DiskApart. -/
import Derived.Test.YtgnmhonbcejnfaaGreatDoorDkY
set_option linter.unusedVariables false
set_option linter.unusedSimpArgs false
set_option maxRecDepth 100000
namespace Go.Proofs.YtgnmhonbcejnfaaGreatDoor.Dk
open Go Go.RowKit Go.Proofs.YtgnmhonbcejnfaaGreatDoor.Pm Go.Proofs.YtgnmhonbcejnfaaGreatDoor.Fs
attribute [-simp] BitVec.toNat_or BitVec.toNat_xor BitVec.toNat_add BitVec.toNat_and BitVec.toNat_not BitVec.toNat_shiftLeft BitVec.toNat_ushiftRight


theorem app_other {S : Ds} {nm b x : List UInt8} (h : x ≠ nm) : findF x (appD S nm b).2.fs = findF x S.fs := by
  unfold appD
  split
  · rfl
  split
  · rfl
  split
  · rename_i f hf
    split
    · rfl
    · show findF x (setF _ S.fs) = _
      rw [findF_setF, if_neg (by rw [show ({ nm := f.nm, s := f.s, ws := f.ws ++ [b] } : Fl).nm = f.nm from rfl, (findF_some hf).2]; exact h)]
  · rename_i hf
    split
    · rfl
    · show findF x (insF _ S.fs) = _
      rw [findF_insF (by exact hf), if_neg (by exact h)]
theorem syn_other {S : Ds} {nm x : List UInt8} (h : x ≠ nm) : findF x (synD S nm).2.fs = findF x S.fs := by
  unfold synD
  split
  · rfl
  · show findF x (setF _ S.fs) = _
    rw [findF_setF, if_neg (by exact h)]
theorem cut_other {S : Ds} {nm x : List UInt8} {c : Int} (h : x ≠ nm) : findF x (cutD S nm c).2.fs = findF x S.fs := by
  unfold cutD
  split
  · rfl
  split
  · rfl
  · show findF x (setF _ S.fs) = _
    rw [findF_setF, if_neg (by exact h)]
theorem rem_other {S : Ds} {nm x : List UInt8} (hu : Uni S.fs) (h : x ≠ nm) : findF x (remD S nm).2.fs = findF x S.fs := by
  unfold remD
  split
  · rfl
  · show findF x (delF nm S.fs) = _
    rw [findF_delF hu, if_neg h]
/-- a disk alone, beside the reference's. -/
theorem Bo.dstep {h0 h h1 : VH} {i ri : Nat} {S S1 : Ds} {X R Y Q : List Nat} {Z : Ds} (kd : DkAt h i S X R) (kr : RfDk h ri Z Y) (fr : Fr h0 h []) (hX : ∀ x ∈ X, h0.n ≤ x) (xy : ∀ x ∈ X, x ∉ Y) (hd : DkP h i X R S1 h1) :
    ∃ X' R', DkAt h1 i S1 X' R' ∧ RfDk h1 ri Z Y ∧ Fr h0 h1 [] ∧ (∀ x ∈ X', h0.n ≤ x) ∧ ∀ x ∈ X', x ∉ Y := by
  obtain ⟨X', R', d1, m1⟩ := hd
  have hn := fr.n
  refine ⟨X', R', d1, kr.fr m1.fr (fun x hx hxX => xy x hxX hx), fr.trans' m1.fr (fun y hy => .inr (hX y hy)), fun x hx => ?_, fun x hx hy => ?_⟩
  · rcases m1.ids x hx with h1 | h1
    · exact hX x h1
    · omega
  · rcases m1.ids x hx with h1 | h1
    · exact xy x h1 hy
    · have := kr.lt x hy; omega
theorem KeepsAt.ro {D : Nat → Prop} {h : VH} {v : Value} {q : List ((List UInt8 × List Int) × Value)} (K : KeepsAt D h v q) : KeepsAt D h.ro v q :=
  ⟨K.rows.ro, fun p hp => (K.ints p hp).ro, K.lt, K.ltv, K.len⟩
theorem OpAt.ro {n0 : Nat} {h : VH} {o : OpR} {bv kv : Value} (K : OpAt n0 h o bv kv) : OpAt n0 h.ro o bv kv := ⟨K.b.ro, K.q.ro, K.lt, K.nm, K.to, K.bl⟩
theorem ScrAt.ro {n0 : Nat} {h : VH} {v : Value} {l : List (OpR × Value × Value)} (K : ScrAt n0 h v l) : ScrAt n0 h.ro v l := ⟨K.rows.ro, fun p hp => (K.ops p hp).ro, K.ltv⟩
theorem sum_perm {a b : List Nat} (h : a.Perm b) : a.sum = b.sum := by
  induction h with
  | nil => rfl
  | cons x _ ih => simp [ih]
  | swap x y l => simp; omega
  | trans _ _ h1 h2 => exact h1.trans h2
theorem sum_le {m : Nat} : ∀ {l : List Nat}, (∀ x ∈ l, x ≤ m) → l.sum ≤ l.length * m
  | [], _ => by simp
  | x :: l, h => by
    have h1 := h x (List.mem_cons_self ..)
    have h2 := sum_le (l := l) (fun y hy => h y (List.mem_cons_of_mem _ hy))
    rw [List.sum_cons, List.length_cons, Nat.succ_mul]
    omega
theorem Rep.flen {g : VH} {i j : Nat} {rs : List Rf} {S : Ds} (k : Rep g i j rs S) : rs.length = S.fs.length := by
  have := k.perm.length_eq
  simpa using this
theorem Rep.okf {g : VH} {i j : Nat} {rs : List Rf} {S : Ds} (k : Rep g i j rs S) (ok : OkD S) {r : Rf} (hr : r ∈ rs) : OkF r.f := ok.fl _ (k.perm.mem_iff.1 (List.mem_map_of_mem hr))
def sumW (l : List Rf) : Nat := (l.map fun r => r.f.ws.length).sum
set_option maxHeartbeats 2000000 in
theorem pending_ok {h : VH} {i : Nat} {S : Ds} {X R : List Nat} (K : DkAt h i S X R) (ok : OkD S) :
    PCalls Tryz.prog f_disk_Disk_Pending [.pointer (some ⟨i, 0, none⟩)] h (fun u h' => u = .int .i64 (pendD S : Int) ∧ Fr h h' []) := by
  refine PCalls_of_pw st_disk_Disk_Pending (by simp [n_disk_Disk_Pending]) ?_
  rw [b_disk_Disk_Pending]
  unfold B_disk_Disk_Pending
  obtain ⟨j, rs, rfl, rfl, k⟩ := K
  obtain ⟨clk, hj, hlt⟩ := k.map_
  have hi := k.rec_
  have hle := ok.len
  have hfl := k.flen
  have hpend : pendD S = (rs.map fun r => r.f.ws.length).sum := by
    have h1 := k.perm.map (fun f : Fl => f.ws.length)
    rw [List.map_map] at h1
    exact (sum_perm h1).symm
  obtain ⟨es, hes⟩ : ∃ es, es = rs.map entF := ⟨_, rfl⟩
  rw [← hes] at hj
  have hbnd : ∀ l : List Rf, l.length ≤ 64 → (∀ r ∈ l, r ∈ rs) → (l.map fun r => r.f.ws.length).sum ≤ 67108864 := by
    intro l hl hin
    have h1 := sum_le (m := 1048576) (l := l.map fun r => r.f.ws.length) (fun x hx => by
      obtain ⟨r, hr, rfl⟩ := List.mem_map.1 hx
      have o := k.okf ok (hin r hr)
      have := o.wl; have := o.sz; omega)
    rw [List.length_map] at h1
    have h2 : l.length * 1048576 ≤ 64 * 1048576 := Nat.mul_le_mul_right _ hl
    omega
  simp (disch := first|omega|(simp only [np,ns];try omega)) [hi, l2_0, hj]
  refine pw_loop (fun t s g => ∃ dn td : List Rf, t = td.length ∧ (dn ++ td).Perm rs ∧ Fr h g [] ∧ h.n < g.n ∧ g.get h.n = .miter (some j) clk (dn.map fun r => (entF r).2.2) clk ∧ s 12 = .pointer (some ⟨h.n, 0, none⟩) ∧ s 3 = .int .i64 ((sumW dn : Nat) : Int)) rs.length ?_ ?_
  · exact ⟨[], rs, rfl, List.Perm.refl _, Fr.push _ _ _, by simp, VH.get_push_new _ _, by simp [upd_apply], by simp [upd_apply, sumW]⟩
  rintro t s g ⟨dn, td, rfl, hp, F, hn, hit, e12, e3⟩
  have gj := (F.get j k.ltj (by simp)).trans hj
  simp (disch := first|omega|(simp only [np,ns];try omega)) [e12]
  refine range_next hes hp k.bnd (fun r hr => hlt r hr) hit gj ?_ ?_
  · rintro rfl
    rw [List.append_nil] at hp
    have hsum := sum_perm (hp.map fun r : Rf => r.f.ws.length)
    rw [sumW, hsum, ← hpend] at e3
    simp (disch := first|omega|(simp only [np,ns];try omega)) [r_disk_Disk_Pending, e3]
    exact F
  · intro x a b sn htd hsn hlast
    have hx : x ∈ rs := hp.mem_iff.1 (by rw [htd]; simp)
    obtain ⟨g1, hg1⟩ : ∃ g1, g1 = g.set h.n (.miter (some j) clk sn clk) := ⟨_, rfl⟩
    have F1 : Fr h g1 [] := by rw [hg1]; exact Fr_set F (Nat.le_refl _)
    have q1 : g1.get h.n = .miter (some j) clk sn clk := by rw [hg1, VH.get_set_same]
    have n1 : g1.n = g.n := by rw [hg1]; rfl
    have j1 := (F1.get j k.ltj (by simp)).trans hj
    have T := (k.fil x hx).fr F1 (fun _ _ => by simp) (fun _ _ => by simp)
    have hr := T.rec_
    obtain ⟨sa, sc, hsv⟩ := T.safe.shape
    obtain ⟨ma, mc, hmv⟩ := T.more.shape
    rw [hsv, hmv] at hr
    obtain ⟨V, hV⟩ : ∃ V, V = x.f.ws.length := ⟨_, rfl⟩
    rw [← hV] at hr
    have hdl : dn.length ≤ 63 := by
      have := hp.length_eq
      rw [htd] at this
      simp at this
      omega
    have hb := hbnd (dn ++ [x]) (by simp; omega) (fun r hr => by
      rcases List.mem_append.1 hr with hr | hr
      · exact hp.mem_iff.1 (List.mem_append_left _ hr)
      · simp at hr; subst hr; exact hx)
    rw [List.map_append, List.sum_append] at hb
    obtain ⟨D, hD⟩ : ∃ D, D = (dn.map fun r => r.f.ws.length).sum := ⟨_, rfl⟩
    rw [← hD] at hb
    rw [sumW, ← hD] at e3
    simp only [List.map_cons, List.map_nil, List.sum_cons, List.sum_nil, Nat.add_zero, ← hV] at hb
    obtain ⟨D1, hD1⟩ : ∃ D1, D1 = D + V := ⟨_, rfl⟩
    have hadd : IntKind.i64.wrap ((D : Int) + (V : Int)) = (D1 : Int) := by rw [i64_small (by omega) (by omega)]; omega
    simp (disch := first|omega|(simp only [np,ns];try omega)) [e12, e3, ← hg1, q1, j1, hlast, entF, hr, l2_1, hadd]
    refine ⟨_, by have := (perm_step hp htd).2; exact this, dn ++ [x], a ++ b, rfl, (perm_step hp htd).1, F1, by omega, by rw [hsn]; rfl, ?_⟩
    rw [hD1, hD, hV]
    simp [sumW]

/-! ### Copy -/
theorem clone_ok {h : VH} {v : Value} {bs : List UInt8} (K : SeqAt h 1 v (u8s bs) bs.length) (hb : bs.length ≤ 1099511627000) :
    PCalls Tryz.prog f_slices_Clone_byte_byte [v] h (fun u h' => BufE h h' 1 u (u8s bs) bs.length) := by
  refine PCalls_of_pw st_slices_Clone_byte_byte (by simp [n_slices_Clone_byte_byte]) ?_
  rw [b_slices_Clone_byte_byte]
  unfold B_slices_Clone_byte_byte
  obtain ⟨L, hL⟩ : ∃ L, L = bs.length := ⟨_, rfl⟩
  rw [← hL] at K ⊢
  have hsrc := K.src
  obtain ⟨a, c, rfl⟩ := K.shape
  cases a with
  | none =>
    rcases K with ⟨h1, h2, h3⟩ | ⟨_, _, _, _, _, _, _, h1, _⟩
    · injection h1 with _ h4 h5
      subst h4
      rw [h2]
      simp (disch := first|omega|(simp only [np,ns];try omega)) [r_slices_Clone_byte_byte]
      exact BufE.nil _ _
    · cases h1
  | some a =>
    obtain ⟨g1, hg1⟩ : ∃ g1, g1 = h.push (.cells [] true 1) := ⟨_, rfl⟩
    have F1 : Fr h g1 [] := by rw [hg1]; exact Fr_push (Fr.refl _ _)
    have q1 : g1.get h.n = .cells [] true 1 := by rw [hg1, VH.get_push_new]
    have B1 : BufE h g1 1 (.slice (some ⟨h.n, 0, none⟩) 0 0) [] 0 := by
      refine ⟨.inr ⟨h.n, 0, 0, [], by rw [hg1]; simp, Nat.le_refl _, rfl, q1, rfl, rfl, Nat.le_refl _⟩, F1, fun x hx => by simp [idOf] at hx; omega⟩
    obtain ⟨w, g2, hap, B2, _⟩ := B1.append (bytes := 1) (ys := u8s bs) (k := L) (by simp [hL]) (by omega)
    have hsrc1 := (K.fr F1 (fun _ _ => by simp)).src
    rw [List.nil_append, Nat.zero_add] at B2
    have hfi : fillC ([] : List Value) [] = some [] := rfl
    have hone : (([] : List Value).all Value.oneCell') = true := rfl
    simp (disch := first|omega|(simp only [np,ns];try omega)) [r_slices_Clone_byte_byte, hfi, hone, ← hg1, hsrc1, Option.bind_some, hap]
    exact B2
theorem cloneW_ok {h : VH} {v : Value} {cs : List Value} {n : Nat} (K : SeqAt h 2 v cs n) (hl : cs.length = n * 2) (hb : n ≤ 1048576) :
    PCalls Tryz.prog f_slices_Clone_disk_write_disk_write [v] h (fun u h' => BufE h h' 2 u cs n) := by
  refine PCalls_of_pw st_slices_Clone_disk_write_disk_write (by simp [n_slices_Clone_disk_write_disk_write]) ?_
  rw [b_slices_Clone_disk_write_disk_write]
  unfold B_slices_Clone_disk_write_disk_write
  have hsrc := K.src
  obtain ⟨a, c, rfl⟩ := K.shape
  cases a with
  | none =>
    rcases K with ⟨h1, h2, h3⟩ | ⟨_, _, _, _, _, _, _, h1, _⟩
    · injection h1 with _ h4 h5
      subst h4
      rw [h2]
      simp (disch := first|omega|(simp only [np,ns];try omega)) [r_slices_Clone_disk_write_disk_write]
      exact BufE.nil _ _
    · cases h1
  | some a =>
    obtain ⟨g1, hg1⟩ : ∃ g1, g1 = h.push (.cells [] true 2) := ⟨_, rfl⟩
    have F1 : Fr h g1 [] := by rw [hg1]; exact Fr_push (Fr.refl _ _)
    have q1 : g1.get h.n = .cells [] true 2 := by rw [hg1, VH.get_push_new]
    have B1 : BufE h g1 2 (.slice (some ⟨h.n, 0, none⟩) 0 0) [] 0 := by
      refine ⟨.inr ⟨h.n, 0, 0, [], by rw [hg1]; simp, Nat.le_refl _, rfl, q1, rfl, rfl, Nat.le_refl _⟩, F1, fun x hx => by simp [idOf] at hx; omega⟩
    obtain ⟨w, g2, hap, B2, _⟩ := B1.append (bytes := 32) (ys := cs) (k := n) hl (by omega)
    have hsrc1 := (K.fr F1 (fun _ _ => by simp)).src
    rw [List.nil_append, Nat.zero_add] at B2
    have hfi : fillC ([] : List Value) [] = some [] := rfl
    have hone : (([] : List Value).all Value.oneCell') = true := rfl
    simp (disch := first|omega|(simp only [np,ns];try omega)) [r_slices_Clone_disk_write_disk_write, hfi, hone, ← hg1, hsrc1, Option.bind_some, hap]
    exact B2
/-- where a copy stands. -/
def CopJ (h : VH) (ci cj qq j clk : Nat) (rs : List Rf) (S : Ds) (t : Nat) (g : VH) : Prop :=
  ∃ (dn td rcs : List Rf) (fsd : List Fl), t = td.length ∧ (dn ++ td).Perm rs ∧ Fr h g [] ∧ qq < g.n ∧ g.get qq = .miter (some j) clk (dn.map fun r => (entF r).2.2) clk ∧ Rep g ci cj rcs ⟨fsd, S.sy⟩ ∧ rcs.map (·.f) = dn.map (·.f) ∧
    (∀ x ∈ fpS ci cj rcs, h.n ≤ x ∧ x ≠ qq) ∧ ∀ x ∈ rdS rcs, x ∈ rdS rs
set_option maxHeartbeats 8000000 in
theorem copy_ok {h : VH} {i : Nat} {S : Ds} {X R : List Nat} (K : DkAt h i S X R) (ok : OkD S) :
    PCalls Tryz.prog f_disk_Disk_Copy [.pointer (some ⟨i, 0, none⟩)] h (fun u h' => ∃ ci Xc Rc, u = .pointer (some ⟨ci, 0, none⟩) ∧ DkAt h' ci S Xc Rc ∧ Fr h h' [] ∧ (∀ x ∈ Xc, h.n ≤ x) ∧ ∀ x ∈ Rc, x ∈ R) := by
  refine PCalls_of_pw st_disk_Disk_Copy (by simp [n_disk_Disk_Copy]) ?_
  rw [b_disk_Disk_Copy]
  unfold B_disk_Disk_Copy
  obtain ⟨j, rs, rfl, rfl, k⟩ := K
  obtain ⟨clk, hj, hlt⟩ := k.map_
  have hi := k.rec_
  have hu := ok.ord.uni
  have hltj := k.ltj
  obtain ⟨es, hes⟩ : ∃ es, es = rs.map entF := ⟨_, rfl⟩
  rw [← hes] at hj
  simp (disch := first|omega|(simp only [np,ns];try omega)) []
  refine dnew_ok.mono ?_
  rintro u h1 ⟨rfl, D1, F1⟩
  obtain ⟨cj, rc0, hX0, hR0, kc0⟩ := D1
  have n1 := F1.n
  have hrc0 : rc0 = [] := by
    have := kc0.perm.length_eq
    simp [Ds0] at this
    exact this
  subst hrc0
  simp only [fpS, List.flatMap_nil, List.cons.injEq, and_true, true_and] at hX0
  subst hX0
  have hc0 := kc0.rec_
  have i1 := (F1.get i k.lti (by simp)).trans hi
  obtain ⟨h2, hh2⟩ : ∃ h2, h2 = h1.set (h.n + 1) (.cells [.map (some h.n), .int .i64 (S.sy : Int)] true 1) := ⟨_, rfl⟩
  have kc2 : Rep h2 (h.n + 1) h.n [] ⟨[], S.sy⟩ := by rw [hh2]; exact kc0.upd S.sy
  have F12 : Fr h1 h2 [h.n + 1] := by rw [hh2]; exact Fr.set _ _ (by simp)
  have F2 : Fr h h2 [] := F1.trans' F12 (fun y hy => by simp at hy; exact .inr (by omega))
  have n2 : h2.n = h1.n := by rw [hh2]; rfl
  have hh1n : h.n + 1 < h1.n := kc0.lti
  have i2 := (F2.get i k.lti (by simp)).trans hi
  have j2 := (F2.get j k.ltj (by simp)).trans hj
  have hc0' : h1.get (h.n + 1) = .cells [.map (some h.n), .int .i64 0] true 1 := hc0
  simp (disch := first|omega|(simp only [np,ns];try omega)) [i1, l2_1, hc0', s2_1i, ← hh2, i2, l2_0, j2]
  refine pw_loop (fun t s g => CopJ h (h.n + 1) h.n h2.n j clk rs S t g ∧ s 3 = .pointer (some ⟨h.n + 1, 0, none⟩) ∧ s 20 = .pointer (some ⟨h2.n, 0, none⟩)) rs.length ?_ ?_
  · have F3 : Fr h2 (h2.push (.miter (some j) clk [] clk)) [] := Fr.push _ _ _
    refine ⟨⟨[], rs, [], [], rfl, List.Perm.refl _, F2.trans F3, by simp, VH.get_push_new _ _, kc2.fr0 F3, rfl, fun x hx => ?_, by simp [rdS]⟩, by simp [upd_apply], by simp [upd_apply]⟩
    simp [fpS] at hx
    omega
  rintro t s g ⟨⟨dn, td, rcs, fsd, rfl, hp, F, hqn, hit, kc, hfs, hfp, hrd⟩, e3, e20⟩
  have gj := (F.get j k.ltj (by simp)).trans hj
  simp (disch := first|omega|(simp only [np,ns];try omega)) [e20]
  refine range_next hes hp k.bnd (fun r hr => hlt r hr) hit gj ?_ ?_
  · rintro rfl
    rw [List.append_nil] at hp
    simp (disch := first|omega|(simp only [np,ns];try omega)) [r_disk_Disk_Copy, e3]
    have hperm : (rcs.map (·.f)).Perm S.fs := by rw [hfs]; exact (hp.map _).trans k.perm
    refine ⟨_, _, ⟨h.n, rcs, rfl, rfl, ⟨kc.lti, kc.ltj, kc.nd, kc.rd, kc.rec_, kc.map_, kc.bnd, kc.fil, hperm⟩⟩, F, fun x hx => (hfp x hx).1, hrd⟩
  · intro x ta tb sn htds hsn hlast
    have hxt : x ∈ td := by rw [htds]; simp
    have hx : x ∈ rs := hp.mem_iff.1 (List.mem_append_right _ hxt)
    obtain ⟨g1, hg1⟩ : ∃ g1, g1 = g.set h2.n (.miter (some j) clk sn clk) := ⟨_, rfl⟩
    have f1 : Fr g g1 [h2.n] := by rw [hg1]; exact Fr.set _ _ (by simp)
    have Fg1 : Fr h g1 [] := F.trans' f1 (fun y hy => by simp at hy; have := F2.n; exact .inr (by omega))
    have q1 : g1.get h2.n = .miter (some j) clk sn clk := by rw [hg1, VH.get_set_same]
    have m1 : g1.n = g.n := by rw [hg1]; rfl
    have j1 := (Fg1.get j k.ltj (by simp)).trans hj
    have kc1 := kc.fr f1 (fun y hy hyq => by simp at hyq; exact (hfp y hy).2 hyq) (fun y hy hyq => by
      simp at hyq
      subst hyq
      obtain ⟨z, hz, hy2⟩ := List.mem_flatMap.1 (hrd _ hy)
      have := (k.fil z hz).rlts _ hy2
      have := F2.n
      omega)
    have T := (k.fil x hx).fr Fg1 (fun _ _ => by simp) (fun _ _ => by simp)
    have hxok := k.okf ok hx
    have hr := T.rec_
    obtain ⟨sa, sc, hsv⟩ := T.safe.shape
    obtain ⟨ma, mc, hmv⟩ := T.more.shape
    obtain ⟨V, hV⟩ : ∃ V, V = x.f.ws.length := ⟨_, rfl⟩
    obtain ⟨A, hA⟩ : ∃ A, A = x.f.s.length := ⟨_, rfl⟩
    have hAsz : A ≤ 1048576 := by have := hxok.sz; simp [Fl.all] at this; omega
    have hVsz : V ≤ 1048576 := by have := hxok.sz; have := hxok.wl; omega
    have c1 := kc1.rec_
    obtain ⟨ck, hcm, hclt⟩ := kc1.map_
    have hr' := hr
    rw [hsv, hmv, ← hV, ← hA] at hr'
    simp (disch := first|omega|(simp only [np,ns];try omega)) [e20, e3, ← hg1, q1, j1, hlast, entF, c1, l2_0, l2_1, hr']
    have hcl := clone_ok T.safe.seq (by omega)
    rw [hsv, ← hA] at hcl
    refine hcl.mono ?_
    rintro u1 g2 B2
    have kc2' := kc1.fr0 B2.fr
    have c2 := kc2'.rec_
    have hr2 := (B2.fr.get x.it T.lt (by simp)).trans hr'
    have T2 := T.fr B2.fr (fun _ _ => by simp) (fun _ _ => by simp)
    simp (disch := first|omega|(simp only [np,ns];try omega)) [hr2, c2, l2_0, l2_1]
    have hcw := cloneW_ok T2.more.seq T2.more.len (by omega)
    rw [hmv, ← hV] at hcw
    refine hcw.mono ?_
    rintro u2 g3 B3
    obtain ⟨pa, pc, rfl⟩ := B2.shape
    obtain ⟨pb, pd, rfl⟩ := B3.shape
    have kc3 := kc2'.fr0 B3.fr
    have c3 := kc3.rec_
    have F13 : Fr g1 g3 [] := B2.fr.trans B3.fr
    obtain ⟨g4, hg4⟩ : ∃ g4, g4 = g3.push (.cells [.slice pa A pc, .slice pb V pd] true 1) := ⟨_, rfl⟩
    have F34 : Fr g3 g4 [] := by rw [hg4]; exact Fr_push (Fr.refl _ _)
    have n4 : g4.n = g3.n + 1 := by rw [hg4]; rfl
    have n3 := F13.n
    have b4 : g4.get g3.n = .cells [.slice pa A pc, .slice pb V pd] true 1 := by rw [hg4, VH.get_push_new]
    have kc4 := kc3.fr0 F34
    have c4 := kc4.rec_
    have hcm4 : g4.get h.n = .map (rcs.map entF) ck true := (F34.get _ kc3.ltj (by simp)).trans ((F13.get _ kc1.ltj (by simp)).trans hcm)
    have hfi : fillC [.slice none 0 0, .slice none 0 0] [(0, 1, .slice pa A pc), (1, 1, .slice pb V pd)] = some [.slice pa A pc, .slice pb V pd] := rfl
    have hone : ([.slice pa A pc, .slice pb V pd] : List Value).all Value.oneCell' = true := rfl
    have hnone : mget (.string (strB x.f.nm)) (rcs.map entF) = none := by
      have h' : findF x.f.nm (rcs.map (·.f)) = none := by
        rw [hfs]
        cases hf : findF x.f.nm (dn.map (·.f)) with
        | none => rfl
        | some f =>
          exfalso
          obtain ⟨h5, h6⟩ := findF_some hf
          obtain ⟨y, hy, rfl⟩ := List.mem_map.1 h5
          have hun : ((dn ++ td).map fun r => r.f.nm).Nodup := by
            have h7 : (rs.map fun r => r.f.nm).Nodup := by
              have := (k.perm.map (fun f : Fl => f.nm)).nodup_iff.2 hu
              rwa [List.map_map] at this
            exact (hp.map _).nodup_iff.2 h7
          rw [List.map_append, List.nodup_append] at hun
          exact hun.2.2 _ (List.mem_map_of_mem hy) _ (List.mem_map_of_mem hxt) h6
      rw [← find_rs, Option.map_eq_none_iff] at h'
      rw [mget_rs, h']; rfl
    obtain ⟨hput, hhas⟩ := mput_new (v := .pointer (some ⟨g3.n, 0, none⟩)) (c := ck) hnone
    have htick : mtick (.string (strB x.f.nm)) ck (rcs.map entF) = ck + 1 := by simp [mtick, hhas]
    obtain ⟨r', hr'⟩ : ∃ r' : Rf, r' = ⟨x.f, g3.n, .slice pa A pc, .slice pb V pd, x.wv, ck⟩ := ⟨_, rfl⟩
    have hes2 : rcs.map entF ++ [(.string (strB x.f.nm), .pointer (some ⟨g3.n, 0, none⟩), ck)] = (rcs ++ [r']).map entF := by rw [List.map_append, hr']; rfl
    rw [hes2] at hput
    have hkf : keysFit .s (rcs.map entF) = true := keys_rs
    obtain ⟨ec, hec⟩ : ∃ ec, ec = rcs.map entF := ⟨_, rfl⟩
    obtain ⟨ec2, hec2⟩ : ∃ ec2, ec2 = (rcs ++ [r']).map entF := ⟨_, rfl⟩
    rw [← hec, ← hec2] at hput
    rw [← hec] at hkf hcm4 htick
    have hfit : fitK .s (.string (strB x.f.nm)) = true := rfl
    obtain ⟨g5, hg5⟩ : ∃ g5, g5 = g4.set h.n (.map ec2 (ck + 1) true) := ⟨_, rfl⟩
    have F45 : Fr g4 g5 [h.n] := by rw [hg5]; exact Fr.set _ _ (by simp)
    have n5 : g5.n = g4.n := by rw [hg5]; rfl
    simp (disch := first|omega|(simp only [np,ns];try omega)) [hfi, hone, ← hg4, c3, c4, l2_0, hcm4, hfit, hkf, hput, htick, ← hg5]
    have hn2 := F2.n
    have hids2 := B2.ids
    have hids3 := B3.ids
    have hB2n := B2.fr.n
    have F35 : Fr g3 g5 [h.n] := (F34.sub (by simp)).trans F45
    have hxr : x.it < h.n := (k.fil x hx).lt
    have T5 : FilAt g5 r' := by
      rw [hr']
      refine ⟨by show g3.n < _; omega, ?_, ?_, ?_, T.wl, fun q v w h1 h2 => ?_⟩
      · exact (F45.get g3.n (by omega) (by simp; omega)).trans b4
      · have := (B2.own.fr B3.fr (fun _ _ => by simp)).fr F35 (fun y hy hyn => by simp at hyn; subst hyn; have := hids2 _ hy; omega)
        rw [hA] at this ⊢
        exact this.p
      · have := B3.own.fr F35 (fun y hy hyn => by simp at hyn; subst hyn; have := hids3 _ hy; omega)
        rw [hV] at this ⊢
        exact this
      · have hwx := k.fil x hx
        refine (hwx.wr q v w h1 h2).fr (Fg1.trans' (F13.sub (X := []) (Y := [h.n]) (by simp) |>.trans F35) (fun y hy => by simp at hy; exact .inr (by omega))) (fun _ _ => by simp)
    have hfpr : fpF r' = g3.n :: (idOf (.slice pa A pc) ++ idOf (.slice pb V pd)) := by rw [hr']; rfl
    have hlt2 : ∀ y ∈ idOf (.slice pa A pc), y < g2.n := fun y hy => B2.own.lt y hy
    have hlt3 : ∀ y ∈ idOf (.slice pb V pd), y < g3.n := fun y hy => B3.own.lt y hy
    have hrdr : rdF r' = rdF x := by rw [hr']; rfl
    have hxrd : ∀ y ∈ rdF x, y < h.n := fun y hy => (k.fil x hx).rlts y hy
    have hB3n := B3.fr.n
    have hge : ∀ y ∈ fpF r', g1.n ≤ y := by
      rw [hfpr]
      intro y hy
      rcases List.mem_cons.1 hy with rfl | hy
      · omega
      · rcases List.mem_append.1 hy with hy | hy
        · exact hids2 y hy
        · have := hids3 y hy; omega
    have k6 := kc1.add (clk := ck) (r := r') hcm hclt (((F13.sub (X := []) (Y := [h.n]) (by simp)).trans F35)) (by rw [hg5, VH.get_set_same, hec2]) (by rw [hr']) T5 (by
        rw [hfpr, List.nodup_cons, List.nodup_append]
        refine ⟨fun hy => ?_, idOf_nodup _, idOf_nodup _, fun y hy z hz e => ?_⟩
        · rcases List.mem_append.1 hy with hy | hy
          · have := hlt2 _ hy; omega
          · have := hlt3 _ hy; omega
        · subst e
          have := hlt2 y hy; have := hids3 y hz; omega) hge (fun y hy => by
        rw [hrdr] at hy
        have h8 := hxrd y hy
        refine ⟨fun hf => by have := (hfp y hf).1; omega, fun hf => by have := hge y hf; omega⟩)
    refine ⟨_, by have := (perm_step hp htds).2; exact this, ⟨dn ++ [x], ta ++ tb, rcs ++ [r'], insF r'.f fsd, rfl, (perm_step hp htds).1, ?_, by omega, ?_, k6, ?_, fun y hy => ?_, fun y hy => ?_⟩, e3, e20⟩
    · exact Fg1.trans' ((F13.sub (X := []) (Y := [h.n]) (by simp)).trans F35) (fun y hy => by simp at hy; exact .inr (by omega))
    · rw [F35.get _ (by omega) (by simp; omega), F13.get _ (by omega) (by simp), q1, hsn]
    · rw [List.map_append, List.map_append, hfs, hr']; rfl
    · have e : fpS (h.n + 1) h.n (rcs ++ [r']) = fpS (h.n + 1) h.n rcs ++ fpF r' := by simp [fpS]
      rw [e] at hy
      rcases List.mem_append.1 hy with hy | hy
      · exact hfp y hy
      · have := hge y hy
        have := F2.n
        have hqq : h2.n < g1.n := by omega
        exact ⟨by omega, by omega⟩
    · have e : rdS (rcs ++ [r']) = rdS rcs ++ rdF r' := by simp [rdS]
      rw [e, hrdr] at hy
      rcases List.mem_append.1 hy with hy | hy
      · exact hrd y hy
      · exact rd_in hx y hy

/- disk, part Zd: Same. -/

/-! ### files in order, the same -/
theorem ord_len : ∀ {b a : List Fl}, OrdF a → OrdF b → (∀ f ∈ a, f ∈ b) → a.length ≤ b.length
  | [], [], _, _, _ => Nat.le_refl _
  | [], x :: r, _, _, h => by have := h x (List.mem_cons_self ..); cases this
  | y :: s, [], _, _, _ => Nat.zero_le _
  | y :: s, x :: r, ha, hb, h => by
    have ha' := List.pairwise_cons.1 ha
    have hb' := List.pairwise_cons.1 hb
    rcases List.mem_cons.1 (h x (List.mem_cons_self ..)) with hx | hx
    · subst hx
      have := ord_len (b := s) (a := r) ha'.2 hb'.2 (fun f hf => by
        rcases List.mem_cons.1 (h f (List.mem_cons_of_mem _ hf)) with e | e
        · exact absurd (ha'.1 f hf) (by rw [e]; exact List.lt_irrefl _)
        · exact e)
      simpa using this
    · have := ord_len (b := s) (a := x :: r) ha hb'.2 (fun f hf => by
        rcases List.mem_cons.1 (h f hf) with e | e
        · exfalso
          subst e
          rcases List.mem_cons.1 hf with e2 | e2
          · subst e2; exact List.lt_irrefl _ (hb'.1 _ hx)
          · exact List.lt_irrefl _ (List.lt_trans (hb'.1 _ hx) (ha'.1 _ e2))
        · exact e)
      simp at this ⊢
      omega
theorem ord_eq : ∀ {b a : List Fl}, OrdF a → OrdF b → (∀ f ∈ a, f ∈ b) → a.length = b.length → a = b
  | [], [], _, _, _, _ => rfl
  | [], x :: r, _, _, _, h => by simp at h
  | y :: s, [], _, _, _, h => by simp at h
  | y :: s, x :: r, ha, hb, h, hl => by
    have ha' := List.pairwise_cons.1 ha
    have hb' := List.pairwise_cons.1 hb
    rcases List.mem_cons.1 (h x (List.mem_cons_self ..)) with hx | hx
    · subst hx
      congr 1
      exact ord_eq ha'.2 hb'.2 (fun f hf => by
        rcases List.mem_cons.1 (h f (List.mem_cons_of_mem _ hf)) with e | e
        · exact absurd (ha'.1 f hf) (by rw [e]; exact List.lt_irrefl _)
        · exact e) (by simpa using hl)
    · exfalso
      have := ord_len (b := s) (a := x :: r) ha hb'.2 (fun f hf => by
        rcases List.mem_cons.1 (h f hf) with e | e
        · exfalso
          subst e
          rcases List.mem_cons.1 hf with e2 | e2
          · subst e2; exact List.lt_irrefl _ (hb'.1 _ hx)
          · exact List.lt_irrefl _ (List.lt_trans (hb'.1 _ hx) (ha'.1 _ e2))
        · exact e)
      simp at this hl
      omega
theorem isFn37 : isFn Tryz.prog 16 = true := by kernel_rfl
theorem eq37_ok' {h : VH} {x y : Int} {va vb : Value} {a b : List UInt8} (ha : IsBytes h va a) (hb : IsBytes h vb b) :
    PCalls Tryz.prog 16 [.agg #[.int .i64 x, va], .agg #[.int .i64 y, vb]] h (fun u _ => u = .bool (decide (x = y) && decide (a = b))) := by
  refine PCalls_of_pw st_disk_Disk_Same_1 (by simp [n_disk_Disk_Same_1]) ?_
  rw [b_disk_Disk_Same_1]
  unfold B_disk_Disk_Same_1
  obtain ⟨pa, ca, rfl⟩ := ha.shape
  obtain ⟨pb, cb, rfl⟩ := hb.shape
  obtain ⟨A, hA⟩ : ∃ A, A = a.length := ⟨_, rfl⟩
  obtain ⟨B, hB⟩ : ∃ B, B = b.length := ⟨_, rfl⟩
  rw [← hA] at ha ⊢
  rw [← hB] at hb ⊢
  obtain ⟨g1, hg1⟩ : ∃ g1, g1 = h.push (.cells [.int .i64 x, .slice pa A ca] true 1) := ⟨_, rfl⟩
  obtain ⟨g2, hg2⟩ : ∃ g2, g2 = g1.push (.cells [.int .i64 y, .slice pb B cb] true 1) := ⟨_, rfl⟩
  have F1 : Fr h g1 [] := by rw [hg1]; exact Fr_push (Fr.refl _ _)
  have F2 : Fr g1 g2 [] := by rw [hg2]; exact Fr_push (Fr.refl _ _)
  have n1 : g1.n = h.n + 1 := by rw [hg1]; rfl
  have o1 : ([.int .i64 x, .slice pa A ca] : List Value).all Value.oneCell' = true := rfl
  have o2 : ([.int .i64 y, .slice pb B cb] : List Value).all Value.oneCell' = true := rfl
  have c1 : g2.get h.n = .cells [.int .i64 x, .slice pa A ca] true 1 := (F2.get _ (by omega) (by simp)).trans (by rw [hg1, VH.get_push_new])
  have c2 : g2.get g1.n = .cells [.int .i64 y, .slice pb B cb] true 1 := by rw [hg2, VH.get_push_new]
  have s1 := ofB_eq ((ha.fr F1 (fun _ _ => by simp)).fr F2 (fun _ _ => by simp))
  have s2 := ofB_eq ((hb.fr F1 (fun _ _ => by simp)).fr F2 (fun _ _ => by simp))
  by_cases hxy : x = y
  · subst hxy
    by_cases hab : a = b
    · have e1 : ((strB a).toList == (strB b).toList) = true := by rw [hab]; simp
      have e2 : (decide (x = x) && decide (a = b)) = true := by simp [hab]
      rw [e2]
      simp (disch := first|omega|(simp only [np,ns];try omega)) [r_disk_Disk_Same_1, o1, o2, ← hg1, ← hg2, c1, c2, l2_0, l2_1, s1, s2, e1]
    · have e1 : ((strB a).toList == (strB b).toList) = false := by rw [strB_toList, strB_toList]; simpa using hab
      have e2 : (decide (x = x) && decide (a = b)) = false := by simp [hab]
      rw [e2]
      simp (disch := first|omega|(simp only [np,ns];try omega)) [r_disk_Disk_Same_1, o1, o2, ← hg1, ← hg2, c1, c2, l2_0, l2_1, s1, s2, e1]
  · have e1 : (x == y) = false := by simp [hxy]
    have e2 : (decide (x = y) && decide (a = b)) = false := by simp [hxy]
    rw [e2]
    simp (disch := first|omega|(simp only [np,ns];try omega)) [r_disk_Disk_Same_1, o1, o2, ← hg1, ← hg2, c1, c2, l2_0, l2_1, e1]
theorem eq37_ok {h : VH} {x y : Int} {va vb : Value} {a b : List UInt8} (ha : IsBytes h va a) (hb : IsBytes h vb b) :
    PCalls Tryz.prog 16 [.agg #[.int .i64 x, va], .agg #[.int .i64 y, vb]] h (fun u h' => u = .bool (decide (x = y) && decide (a = b)) ∧ h' = h) :=
  ((eq37_ok' ha.ro hb.ro).mono fun u _ e => by subst e; exact ⟨rfl, rfl⟩).drop
/-- one write out of a row of writes. -/
theorem FilR.at_ {g : VH} {r : Rf} (K : FilR g r) {n : Nat} (hn : n < r.f.ws.length) : ∃ i o c ds ow v, r.mv = .slice (some ⟨i, o, none⟩) r.f.ws.length c ∧ i < g.n ∧ g.get i = .cells ds ow 2 ∧ loadObj (.cells ds ow 2) (o + n * 2) (some 2) = some (.agg #[.int .i64 ((r.f.s.length + upto r.f.ws n : Nat) : Int), v]) ∧ IsBytes g v (r.f.ws.getD n []) := by
  rcases K.more with ⟨_, _, h0⟩ | ⟨i, o, c, ds, ow, hi, hc, hv, hgi, hdr, hol⟩
  · omega
  · have hld := more_ld (c := 0) hgi hdr K.wl hn
    rw [hgi] at hld
    have hwl := K.wl
    have hvs : r.wv[n]? = some (r.wv.getD n .nilFunc) := by simp [List.getD, List.getElem?_eq_getElem (show n < r.wv.length by omega)]
    have hws : r.f.ws[n]? = some (r.f.ws.getD n []) := by simp [List.getD, List.getElem?_eq_getElem hn]
    exact ⟨i, o, c, ds, ow, _, hv, hi, hgi, hld, (K.wr n _ _ hvs hws).bytes⟩
theorem FilR.fr0 {g g' : VH} {r : Rf} (hf : Fr g g' []) (K : FilR g r) : FilR g' r := by
  obtain ⟨k1, ⟨ow, h1⟩, h2, h3, h4, h5⟩ := K
  exact ⟨by have := hf.n; omega, ⟨ow, (hf.get _ k1 (by simp)).trans h1⟩, h2.fr hf (fun _ _ => by simp), h3.fr hf (fun _ _ => by simp), h4, fun k v w a b => (h5 k v w a b).fr hf (fun _ _ => by simp)⟩
set_option maxHeartbeats 4000000 in
theorem eqF_ok' {h : VH} {r t : Rf} (K : FilR h r) (L : FilR h t) (hs : r.f.s.length = t.f.s.length) (hr : r.f.ws.length ≤ 1048576) (ht : t.f.ws.length ≤ 1048576) :
    PCalls Tryz.prog f_slices_EqualFunc_disk_write_disk_write_disk_write_disk_write [r.mv, t.mv, .func (.func 16) #[] #[]] h (fun u _ => ∃ b, u = .bool b ∧ (b = true ↔ r.f.ws = t.f.ws)) := by
  refine PCalls_of_pw st_slices_EqualFunc_disk_write_disk_write_disk_write_disk_write (by simp [n_slices_EqualFunc_disk_write_disk_write_disk_write_disk_write]) ?_
  rw [b_slices_EqualFunc_disk_write_disk_write_disk_write_disk_write]
  unfold B_slices_EqualFunc_disk_write_disk_write_disk_write_disk_write
  obtain ⟨ra, rc, hrm⟩ := K.more.shape
  obtain ⟨ta, tc, htm⟩ := L.more.shape
  obtain ⟨N, hN⟩ : ∃ N, N = r.f.ws.length := ⟨_, rfl⟩
  obtain ⟨M, hM⟩ : ∃ M, M = t.f.ws.length := ⟨_, rfl⟩
  rw [← hN] at hrm hr
  rw [← hM] at htm ht
  rw [hrm, htm]
  by_cases hNM : N = M
  case neg =>
    have hI : ((N : Int) != (M : Int)) = true := by simp; omega
    simp (disch := first|omega|(simp only [np,ns];try omega)) [r_slices_EqualFunc_disk_write_disk_write_disk_write_disk_write, hI]
    intro e
    exact hNM (by rw [hN, hM, e])
  subst hNM
  simp (disch := first|omega|(simp only [np,ns];try omega)) []
  refine pw_loopN (fun n s g => Fr h g [] ∧ s 1 = .slice ta N tc ∧ s 2 = .func (.func 16) #[] #[] ∧ s 15 = .slice ra N rc ∧ s 16 = .int .i64 (N : Int) ∧ s 17 = .int .i64 (n : Int) ∧ r.f.ws.take n = t.f.ws.take n) N ?_ ?_
  · exact ⟨Fr.refl _ _, by simp [upd_apply, s0_apply], by simp [upd_apply, s0_apply], by simp [upd_apply], by simp [upd_apply], by simp [upd_apply], by simp⟩
  rintro n s g hn ⟨F, e1, e2, e15, e16, e17, hpre⟩
  by_cases hlt : n < N
  case neg =>
    obtain rfl : n = N := by omega
    rw [List.take_of_length_le (by omega), List.take_of_length_le (by omega)] at hpre
    simp (disch := first|omega|(simp only [np,ns];try omega)) [r_slices_EqualFunc_disk_write_disk_write_disk_write_disk_write, e16, e17]
    exact hpre
  have hltI : (n : Int) < (N : Int) := by omega
  have hkk : IntKind.i64.wrap ((n : Int) + 1) = ((n + 1 : Nat) : Int) := by rw [i64_small (by omega) (by omega)]; omega
  obtain ⟨i1, o1, c1, d1, w1, v1, hv1, hi1, hg1, hl1, hb1⟩ := (K.fr0 F).at_ (n := n) (by omega)
  obtain ⟨i2, o2, c2, d2, w2, v2, hv2, hi2, hg2, hl2, hb2⟩ := (L.fr0 F).at_ (n := n) (by omega)
  rw [hrm, ← hN] at hv1
  rw [htm, ← hM] at hv2
  injection hv1 with hv1 _ _
  injection hv2 with hv2 _ _
  subst hv1
  subst hv2
  have hat : r.f.s.length + upto r.f.ws n = t.f.s.length + upto t.f.ws n := by unfold upto; rw [hpre, hs]
  obtain ⟨p, hp⟩ : ∃ p, p = r.f.s.length + upto r.f.ws n := ⟨_, rfl⟩
  rw [← hp] at hl1
  rw [← hat, ← hp] at hl2
  obtain ⟨x, hx⟩ : ∃ x, x = r.f.ws.getD n [] := ⟨_, rfl⟩
  obtain ⟨y, hy⟩ : ∃ y, y = t.f.ws.getD n [] := ⟨_, rfl⟩
  rw [← hx] at hb1
  rw [← hy] at hb2
  obtain ⟨pa, pc, hva⟩ := hb1.shape
  obtain ⟨pb, pd, hvb⟩ := hb2.shape
  subst hva
  subst hvb
  obtain ⟨X, hX⟩ : ∃ X, X = x.length := ⟨_, rfl⟩
  obtain ⟨Y, hY⟩ : ∃ Y, Y = y.length := ⟨_, rfl⟩
  rw [← hX] at hl1 hb1
  rw [← hY] at hl2 hb2
  obtain ⟨g1, hgg1⟩ : ∃ g1, g1 = (g.push (.cells [.int .i64 0, .slice none 0 0] true 1)).set g.n (.cells [.int .i64 (p : Int), .slice pa X pc] true 1) := ⟨_, rfl⟩
  have f1 : Fr g g1 [] := by rw [hgg1]; exact Fr_set (Fr_push (Fr.refl _ _)) (Nat.le_refl _)
  have n1 : g1.n = g.n + 1 := by rw [hgg1]; rfl
  have q1 : g1.get g.n = .cells [.int .i64 (p : Int), .slice pa X pc] true 1 := by rw [hgg1, VH.get_set_same]
  obtain ⟨g2, hgg2⟩ : ∃ g2, g2 = (g1.push (.cells [.int .i64 0, .slice none 0 0] true 1)).set g1.n (.cells [.int .i64 (p : Int), .slice pb Y pd] true 1) := ⟨_, rfl⟩
  have f2 : Fr g1 g2 [] := by rw [hgg2]; exact Fr_set (Fr_push (Fr.refl _ _)) (Nat.le_refl _)
  have q2 : g2.get g1.n = .cells [.int .i64 (p : Int), .slice pb Y pd] true 1 := by rw [hgg2, VH.get_set_same]
  have q12 : g2.get g.n = .cells [.int .i64 (p : Int), .slice pa X pc] true 1 := (f2.get _ (by omega) (by simp)).trans q1
  have hg21 : g1.get i2 = .cells d2 w2 2 := (f1.get _ hi2 (by simp)).trans hg2
  have hez1 : eszObj (.cells d1 w1 2) 2 = true := rfl
  have hez2 : eszObj (.cells d2 w2 2) 2 = true := rfl
  have hA : loadObj (.cells [.int .i64 (p : Int), .slice pa X pc] true 1) 0 (some 2) = some (.agg #[.int .i64 (p : Int), .slice pa X pc]) := rfl
  have hB : loadObj (.cells [.int .i64 (p : Int), .slice pb Y pd] true 1) 0 (some 2) = some (.agg #[.int .i64 (p : Int), .slice pb Y pd]) := rfl
  have F2 := f1.trans f2
  simp (disch := first|omega|(simp only [np,ns];try omega)) [e1, e2, e15, e16, e17, hltI, hlt, hg1, hez1, hl1, st2, ← hgg1, hg21, hez2, hl2, ← hgg2, q12, q2, hA, hB]
  refine ⟨isFn37, (eq37_ok (hb1.fr F2 (fun _ _ => by simp)) (hb2.fr F2 (fun _ _ => by simp))).mono ?_⟩
  rintro u g3 ⟨rfl, hg3⟩
  rw [hg3]
  by_cases hxy : x = y
  · have hd : (decide ((p : Int) = (p : Int)) && decide (x = y)) = true := by simp [hxy]
    rw [hd]
    simp (disch := first|omega|(simp only [np,ns];try omega)) [e1, e2, e15, e16, e17, hkk]
    refine ⟨hlt, F.trans F2, ?_⟩
    rw [List.take_succ_eq_append_getElem (by omega), List.take_succ_eq_append_getElem (by omega), hpre]
    congr 2
    have h1 : r.f.ws[n]'(by omega) = x := by rw [hx]; simp [List.getD, List.getElem?_eq_getElem (show n < r.f.ws.length by omega)]
    have h2 : t.f.ws[n]'(by omega) = y := by rw [hy]; simp [List.getD, List.getElem?_eq_getElem (show n < t.f.ws.length by omega)]
    rw [h1, h2, hxy]
  · have hd : (decide ((p : Int) = (p : Int)) && decide (x = y)) = false := by simp [hxy]
    rw [hd]
    simp (disch := first|omega|(simp only [np,ns];try omega)) [r_slices_EqualFunc_disk_write_disk_write_disk_write_disk_write]
    intro e
    exact hxy (by rw [hx, hy, e])
theorem eqF_ok {h : VH} {r t : Rf} (K : FilR h r) (L : FilR h t) (hs : r.f.s.length = t.f.s.length) (hr : r.f.ws.length ≤ 1048576) (ht : t.f.ws.length ≤ 1048576) :
    PCalls Tryz.prog f_slices_EqualFunc_disk_write_disk_write_disk_write_disk_write [r.mv, t.mv, .func (.func 16) #[] #[]] h (fun u h' => (∃ b, u = .bool b ∧ (b = true ↔ r.f.ws = t.f.ws)) ∧ h' = h) :=
  ((eqF_ok' K.ro L.ro hs hr ht).mono fun u _ e => ⟨by obtain ⟨b, rfl, _⟩ := e; rfl, e⟩).drop
set_option maxHeartbeats 8000000 in
theorem same_ok {h : VH} {i i2 : Nat} {S T : Ds} {X R X2 R2 : List Nat} (K : DkAt h i S X R) (L : DkAt h i2 T X2 R2) (okS : OkD S) (okT : OkD T) :
    PCalls Tryz.prog f_disk_Disk_Same [.pointer (some ⟨i, 0, none⟩), .pointer (some ⟨i2, 0, none⟩)] h (fun u h' => (∃ b, u = .bool b ∧ (b = true ↔ S.fs = T.fs)) ∧ Fr h h' []) := by
  refine PCalls_of_pw st_disk_Disk_Same (by simp [n_disk_Disk_Same]) ?_
  rw [b_disk_Disk_Same]
  unfold B_disk_Disk_Same
  obtain ⟨j, rs, rfl, rfl, k⟩ := K
  obtain ⟨j2, ts, rfl, rfl, l⟩ := L
  obtain ⟨clk, hj, hlt⟩ := k.map_
  obtain ⟨clk2, hj2, hlt2⟩ := l.map_
  have hi := k.rec_
  have hi2 := l.rec_
  have hu2 := okT.ord.uni
  have hrl := k.flen
  have htl := l.flen
  have hle := okS.len
  have hle2 := okT.len
  obtain ⟨es, hes⟩ : ∃ es, es = rs.map entF := ⟨_, rfl⟩
  obtain ⟨et, het⟩ : ∃ et, et = ts.map entF := ⟨_, rfl⟩
  have hel : es.length = rs.length := by rw [hes]; simp
  have htel : et.length = ts.length := by rw [het]; simp
  have hkf : keysFit .s et = true := by rw [het]; exact keys_rs
  rw [← hes] at hj
  rw [← het] at hj2
  by_cases hll : es.length = et.length
  case neg =>
    have hI : ((es.length : Int) != (et.length : Int)) = true := by simp; omega
    simp (disch := first|omega|(simp only [np,ns];try omega)) [r_disk_Disk_Same, hi, hi2, l2_0, hj, hj2, hI]
    refine ⟨fun e => hll ?_, Fr.refl _ _⟩
    rw [hel, htel, hrl, htl, e]
  have hI : ((es.length : Int) != (et.length : Int)) = false := by simp; omega
  simp (disch := first|omega|(simp only [np,ns];try omega)) [hi, hi2, l2_0, hj, hj2, hI]
  refine pw_loop (fun t s g => ∃ dn td : List Rf, t = td.length ∧ (dn ++ td).Perm rs ∧ Fr h g [] ∧ h.n < g.n ∧ g.get h.n = .miter (some j) clk (dn.map fun r => (entF r).2.2) clk ∧ s 1 = .pointer (some ⟨i2, 0, none⟩) ∧ s 31 = .pointer (some ⟨h.n, 0, none⟩) ∧ ∀ r ∈ dn, findF r.f.nm T.fs = some r.f) rs.length ?_ ?_
  · exact ⟨[], rs, rfl, List.Perm.refl _, Fr.push _ _ _, by simp, VH.get_push_new _ _, by simp [upd_apply, s0_apply], by simp [upd_apply], by simp⟩
  rintro t s g ⟨dn, td, rfl, hp, F, hn, hit, e1, e31, hall⟩
  have gj := (F.get j k.ltj (by simp)).trans hj
  simp (disch := first|omega|(simp only [np,ns];try omega)) [e31]
  refine range_next hes hp k.bnd (fun r hr => hlt r hr) hit gj ?_ ?_
  · rintro rfl
    rw [List.append_nil] at hp
    have heq : S.fs = T.fs := by
      refine ord_eq okS.ord okT.ord (fun f hf => ?_) (by omega)
      obtain ⟨r, hr, rfl⟩ := List.mem_map.1 (k.perm.mem_iff.2 hf)
      exact (findF_some (hall r (hp.mem_iff.2 hr))).1
    simp (disch := first|omega|(simp only [np,ns];try omega)) [r_disk_Disk_Same]
    exact ⟨heq, F⟩
  · intro x a b sn htd hsn hlast
    have hx : x ∈ rs := hp.mem_iff.1 (by rw [htd]; simp)
    have hxS : x.f ∈ S.fs := k.perm.mem_iff.1 (List.mem_map_of_mem hx)
    obtain ⟨g1, hg1⟩ : ∃ g1, g1 = g.set h.n (.miter (some j) clk sn clk) := ⟨_, rfl⟩
    have F1 : Fr h g1 [] := by rw [hg1]; exact Fr_set F (Nat.le_refl _)
    have q1 : g1.get h.n = .miter (some j) clk sn clk := by rw [hg1, VH.get_set_same]
    have n1 : g1.n = g.n := by rw [hg1]; rfl
    have j1 := (F1.get j k.ltj (by simp)).trans hj
    have j21 := (F1.get j2 l.ltj (by simp)).trans hj2
    have i21 := (F1.get i2 l.lti (by simp)).trans hi2
    have T1 := (k.fil x hx).fr F1 (fun _ _ => by simp) (fun _ _ => by simp)
    have hr := T1.rec_
    have hxok := okS.fl _ hxS
    obtain ⟨sa, sc, hsv⟩ := T1.safe.shape
    obtain ⟨ma, mc, hmv⟩ := T1.more.shape
    have hfit : fitK .s (.string (strB x.f.nm)) = true := rfl
    cases hfd : findF x.f.nm T.fs with
    | none =>
      have hm := l.getN hu2 hfd
      rw [← het] at hm
      have hmv2 : mval false (.pointer none) none = .pointer none := rfl
      simp (disch := first|omega|(simp only [np,ns];try omega)) [r_disk_Disk_Same, e1, e31, ← hg1, q1, j1, hlast, entF, i21, l2_0, j21, hfit, hkf, hm, hmv2]
      refine ⟨fun e => ?_, F1⟩
      rw [← e, findF_mem okS.ord.uni hxS] at hfd
      cases hfd
    | some f =>
      obtain ⟨ya, y, yb, hys, hyf, hm⟩ := l.getS hu2 hfd
      rw [← het] at hm
      have hmv2 : mval false (.pointer none) (some (.pointer (some ⟨y.it, 0, none⟩))) = .pointer (some ⟨y.it, 0, none⟩) := rfl
      have hy : y ∈ ts := by rw [hys]; simp
      have T2 := (l.fil y hy).fr F1 (fun _ _ => by simp) (fun _ _ => by simp)
      have hr2 := T2.rec_
      have hyok := okT.find hfd
      obtain ⟨ua, uc, huv⟩ := T2.safe.shape
      obtain ⟨na, nc, hnv⟩ := T2.more.shape
      have s1 := ofB_eq T1.safe.bytes
      have s2 := ofB_eq T2.safe.bytes
      obtain ⟨A, hA⟩ : ∃ A, A = x.f.s.length := ⟨_, rfl⟩
      obtain ⟨B, hB⟩ : ∃ B, B = y.f.s.length := ⟨_, rfl⟩
      obtain ⟨V, hV⟩ : ∃ V, V = x.f.ws.length := ⟨_, rfl⟩
      obtain ⟨U, hU⟩ : ∃ U, U = y.f.ws.length := ⟨_, rfl⟩
      have hrl1 := hr
      have hrl2 := hr2
      rw [hsv, hmv, ← hA, ← hV] at hrl1
      rw [huv, hnv, ← hB, ← hU] at hrl2
      rw [hsv, ← hA] at s1
      rw [huv, ← hB] at s2
      by_cases hss : x.f.s = y.f.s
      case neg =>
        have hb : ((strB x.f.s).toList == (strB y.f.s).toList) = false := by rw [strB_toList, strB_toList]; simpa using hss
        simp (disch := first|omega|(simp only [np,ns];try omega)) [r_disk_Disk_Same, e1, e31, ← hg1, q1, j1, hlast, entF, i21, l2_0, l2_1, j21, hfit, hkf, hm, hmv2, hrl1, hrl2, s1, s2, hb]
        refine ⟨fun e => hss ?_, F1⟩
        rw [← e, findF_mem okS.ord.uni hxS] at hfd
        injection hfd with hfd
        rw [hyf, hfd]
      have hb : ((strB x.f.s).toList == (strB y.f.s).toList) = true := by rw [hss]; simp
      have heq := eqF_ok T1.r T2.r (by rw [hss]) (by have := hxok.wl; have := hxok.sz; omega) (by rw [hyf]; have := hyok.wl; have := hyok.sz; omega)
      rw [hmv, hnv, ← hV, ← hU] at heq
      simp (disch := first|omega|(simp only [np,ns];try omega)) [e1, e31, ← hg1, q1, j1, hlast, entF, i21, l2_0, l2_1, j21, hfit, hkf, hm, hmv2, hrl1, hrl2, s1, s2, hb]
      refine heq.mono ?_
      rintro u g2 ⟨⟨bb, rfl, hbb⟩, hg2⟩
      rw [hg2]
      cases bb with
      | false =>
        simp (disch := first|omega|(simp only [np,ns];try omega)) [r_disk_Disk_Same]
        refine ⟨fun e => ?_, F1⟩
        rw [← e, findF_mem okS.ord.uni hxS] at hfd
        injection hfd with hfd
        have : x.f.ws = y.f.ws := by rw [hyf, hfd]
        have := hbb.2 this
        cases this
      | true =>
        have hws := hbb.1 rfl
        have hxy : x.f = f := by
          rw [← hyf]
          have hnm : x.f.nm = y.f.nm := by rw [hyf]; exact (findF_some hfd).2.symm
          cases hx' : x.f with
          | mk a1 a2 a3 =>
            cases hy' : y.f with
            | mk b1 b2 b3 =>
              rw [hx', hy'] at hnm hss hws
              simp only at hnm hss hws
              rw [hnm, hss, hws]
        simp (disch := first|omega|(simp only [np,ns];try omega)) [e1, e31]
        refine ⟨_, by have := (perm_step hp htd).2; exact this, dn ++ [x], a ++ b, rfl, (perm_step hp htd).1, F1, by omega, by rw [q1, hsn]; rfl, fun r hr => ?_⟩
        rcases List.mem_append.1 hr with hr | hr
        · exact hall r hr
        · simp at hr; subst hr
          rw [hfd, hxy]
end Go.Proofs.YtgnmhonbcejnfaaGreatDoor.Dk
