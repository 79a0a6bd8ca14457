/- disk, part Zb: DiskApart. -/
import Derived.Test.YtgnmhonbcejnfaaDoorDkY
set_option linter.unusedVariables false
set_option linter.unusedSimpArgs false
set_option maxRecDepth 100000
namespace Go.Proofs.YtgnmhonbcejnfaaDoor.Dk
open Go Go.RowKit Go.Proofs.YtgnmhonbcejnfaaDoor.Pm Go.Proofs.YtgnmhonbcejnfaaDoor.Fs
attribute [-simp] BitVec.toNat_or BitVec.toNat_xor BitVec.toNat_add BitVec.toNat_and BitVec.toNat_not BitVec.toNat_shiftLeft BitVec.toNat_ushiftRight

theorem app_other {S : Ds} {nm b x : List UInt8} (h : x ≠ nm) : findF x (appD S nm b).2.fs = findF x S.fs := by
  unfold appD
  split
  · rfl
  split
  · rfl
  split
  · rename_i f hf
    split
    · rfl
    · show findF x (setF _ S.fs) = _
      rw [findF_setF, if_neg (by rw [show ({ nm := f.nm, s := f.s, ws := f.ws ++ [b] } : Fl).nm = f.nm from rfl, (findF_some hf).2]; exact h)]
  · rename_i hf
    split
    · rfl
    · show findF x (insF _ S.fs) = _
      rw [findF_insF (by exact hf), if_neg (by exact h)]
theorem syn_other {S : Ds} {nm x : List UInt8} (h : x ≠ nm) : findF x (synD S nm).2.fs = findF x S.fs := by
  unfold synD
  split
  · rfl
  · show findF x (setF _ S.fs) = _
    rw [findF_setF, if_neg (by exact h)]
theorem cut_other {S : Ds} {nm x : List UInt8} {c : Int} (h : x ≠ nm) : findF x (cutD S nm c).2.fs = findF x S.fs := by
  unfold cutD
  split
  · rfl
  split
  · rfl
  · show findF x (setF _ S.fs) = _
    rw [findF_setF, if_neg (by exact h)]
theorem rem_other {S : Ds} {nm x : List UInt8} (hu : Uni S.fs) (h : x ≠ nm) : findF x (remD S nm).2.fs = findF x S.fs := by
  unfold remD
  split
  · rfl
  · show findF x (delF nm S.fs) = _
    rw [findF_delF hu, if_neg h]
/-- a disk alone, beside the reference's. -/
theorem Bo.dstep {h0 h h1 : VH} {i ri : Nat} {S S1 : Ds} {X R Y Q : List Nat} {Z : Ds} (kd : DkAt h i S X R) (kr : RfDk h ri Z Y) (fr : Fr h0 h []) (hX : ∀ x ∈ X, h0.n ≤ x) (xy : ∀ x ∈ X, x ∉ Y) (hd : DkP h i X R S1 h1) :
    ∃ X' R', DkAt h1 i S1 X' R' ∧ RfDk h1 ri Z Y ∧ Fr h0 h1 [] ∧ (∀ x ∈ X', h0.n ≤ x) ∧ ∀ x ∈ X', x ∉ Y := by
  obtain ⟨X', R', d1, m1⟩ := hd
  have hn := fr.n
  refine ⟨X', R', d1, kr.fr m1.fr (fun x hx hxX => xy x hxX hx), fr.trans' m1.fr (fun y hy => .inr (hX y hy)), fun x hx => ?_, fun x hx hy => ?_⟩
  · rcases m1.ids x hx with h1 | h1
    · exact hX x h1
    · omega
  · rcases m1.ids x hx with h1 | h1
    · exact xy x h1 hy
    · have := kr.lt x hy; omega
set_option maxHeartbeats 8000000 in
theorem apart_ok {h0 : VH} {v bv : Value} {l : List (OpR × Value × Value)} {nm b : List UInt8} {c : Int} (G : GOK h0) (H : ScrAt h0.n h0 v l) (hl : l.length ≤ 1048576) (hnm : nm.length ≤ 140737488355328) (hb : IsBytes h0 bv b) (hbl : b.length ≤ 1099511627000) (hblt : ∀ x ∈ idOf bv, x < h0.n) :
    PCalls Tryd.prog f_law06_DiskApart [v, .string (strB nm), bv, .int .i64 c] h0 (fun u _ => u = .bool true) := by
  refine PCalls_of_pw st_law06_DiskApart (by simp [n_law06_DiskApart]) ?_
  rw [b_law06_DiskApart]
  unfold B_law06_DiskApart
  simp (disch := first|omega|(simp only [np,ns];try omega)) []
  refine (played_ok G H hl).mono ?_
  rintro u h1 ⟨i, ri, S, rfl, ok, X, R, Y, k⟩
  have okd := ok.ok
  simp (disch := first|omega|(simp only [np,ns];try omega)) []
  -- what is done to one file
  have hb1 := hb.fr k.fr (fun _ _ => by simp)
  refine (append_ok k.d ok hnm hb1 (fun x hx hxX => by have := hblt x hx; have := k.hX x hxX; omega) hbl).mono ?_
  rintro u h2 ⟨rfl, D2⟩
  obtain ⟨X2, R2, d2, r2, f2, x2, xy2⟩ := Bo.dstep (Q := []) k.d k.r k.fr k.hX k.xy D2
  have ok2 := appD_ok ok nm b
  simp (disch := first|omega|(simp only [np,ns];try omega)) []
  refine (sync_ok (G.fr0 f2) d2 ok2 (by omega)).mono ?_
  rintro u h3 ⟨rfl, D3⟩
  obtain ⟨X3, R3, d3, r3, f3, x3, xy3⟩ := Bo.dstep (Q := []) d2 r2 f2 x2 xy2 D3
  have ok3 := synD_ok ok2 nm
  simp (disch := first|omega|(simp only [np,ns];try omega)) []
  refine (cut_ok (G.fr0 f3) d3 ok3).mono ?_
  rintro u h4 ⟨rfl, D4⟩
  obtain ⟨X4, R4, d4, r4, f4, x4, xy4⟩ := Bo.dstep (Q := []) d3 r3 f3 x3 xy3 D4
  have ok4 := cutD_ok ok3 nm c
  simp (disch := first|omega|(simp only [np,ns];try omega)) []
  refine (remove_ok (G.fr0 f4) d4 ok4).mono ?_
  rintro u h5 ⟨rfl, D5⟩
  obtain ⟨X5, R5, d5, r5, f5, x5, xy5⟩ := Bo.dstep (Q := []) d4 r4 f4 x4 xy4 D5
  have ok5 := remD_ok ok4 nm
  obtain ⟨S5, hS5⟩ : ∃ S5, S5 = (remD (cutD (synD (appD S nm b).2 nm).2 nm c).2 nm).2 := ⟨_, rfl⟩
  rw [← hS5] at d5 ok5
  have hfind : ∀ x, x ≠ nm → findF x S5.fs = findF x S.fs := fun x hx => by rw [hS5, rem_other ok4.ok.ord.uni hx, cut_other hx, syn_other hx, app_other hx]
  obtain ⟨rv, rs, hY, kr⟩ := r5
  have hrl := kr.len
  have hle := okd.len
  have hrec := kr.rec_
  obtain ⟨ra, rc, hrv⟩ := kr.own.shapeN
  obtain ⟨N, hN⟩ : ∃ N, N = rs.length := ⟨_, rfl⟩
  rw [← hN] at hrv
  simp (disch := first|omega|(simp only [np,ns];try omega)) []
  refine pw_loopN (fun n s g => Fr h5 g [] ∧ s 1 = .string (strB nm) ∧ s 9 = .pointer (some ⟨i, 0, none⟩) ∧ s 10 = .pointer (some ⟨ri, 0, none⟩) ∧ s 11 = .int .i64 (n : Int)) N ?_ ?_
  · exact ⟨Fr.refl _ _, by simp [upd_apply, s0_apply], by simp [upd_apply], by simp [upd_apply], by simp [upd_apply]⟩
  rintro n s g hn ⟨F, e1, e9, e10, e11⟩
  have kg := kr.fr0 F
  have hrg := kg.rec_
  rw [hrv] at hrg
  by_cases hlt : n < N
  case neg =>
    obtain rfl : n = N := by omega
    simp (disch := first|omega|(simp only [np,ns];try omega)) [e10, e11, hrg, lr_0]
    refine (known_ok g).mono ?_
    rintro u g' ⟨rfl, rfl⟩
    simp (disch := first|omega|(simp only [np,ns];try omega)) [r_law06_DiskApart]
  have hltI : (n : Int) < (N : Int) := by omega
  have hkk : IntKind.i64.wrap ((n : Int) + 1) = ((n + 1 : Nat) : Int) := by rw [i64_small (by omega) (by omega)]; omega
  have hspl := at_split (l := rs) (n := n) (by omega)
  obtain ⟨r, hr⟩ : ∃ r, r = rs[n]'(by omega) := ⟨_, rfl⟩
  rw [← hr] at hspl
  have kg2 := kg
  rw [hspl] at kg2
  obtain ⟨qi, qo, qc, ds, hqv, hqc, hqi, hgq, hezq, _, _, hl0, hl1, _⟩ := kg2.row
  have htl : (rs.take n).length = n := by rw [List.length_take]; omega
  have hl2 : (rs.take n ++ r :: rs.drop (n + 1)).length = N := by rw [← hspl, hN]
  rw [htl] at hl0 hl1
  rw [hl2] at hqv
  rw [hrv] at hqv
  injection hqv with hqv _ hqvc
  subst hqv
  subst hqvc
  have T := kg2.fil r (by simp)
  have hrS : r.f ∈ S.fs := by rw [← kr.fs, hr]; exact List.mem_map_of_mem (List.getElem_mem _)
  have hfS : findF r.f.nm S.fs = some r.f := findF_mem okd.ord.uni hrS
  obtain ⟨ba, bc, hbv⟩ := T.b.shape
  simp (disch := first|omega|(simp only [np,ns];try omega)) [e1, e9, e10, e11, hrg, lr_0, hlt, hltI, hgq, hezq, hl0]
  refine (read_ok ((G.fr0 f5).fr0 F) (d5.fr0 F) ok5.ok).mono ?_
  rintro u g2 ⟨v2, rfl, hb2⟩
  have hrg2 := (hb2.fr.get ri kg.lt (by simp)).trans hrg
  have hgq2 := (hb2.fr.get qi hqi (by simp)).trans hgq
  obtain ⟨bs, hbs⟩ : ∃ bs, bs = (readD S5 r.f.nm).1 := ⟨_, rfl⟩
  obtain ⟨er, her⟩ : ∃ er : Int, er = ((readD S5 r.f.nm).2 : Int) := ⟨_, rfl⟩
  rw [← hbs] at hb2
  rw [← her]
  by_cases hne : r.f.nm = nm
  · have hb1 : ((strB r.f.nm).toList == (strB nm).toList) = true := by rw [hne]; simp
    simp (disch := first|omega|(simp only [np,ns];try omega)) [e1, e9, e10, e11, hrg2, lr_0, hlt, hltI, hgq2, hezq, hl0, hb1, hkk]
    exact F.trans hb2.fr
  · have hb1 : ((strB r.f.nm).toList == (strB nm).toList) = false := by rw [strB_toList, strB_toList]; simpa using hne
    have hrd : readD S5 r.f.nm = (r.f.all, 0) := by unfold readD; rw [hfind _ hne, hfS]
    have he0 : er = 0 := by rw [her, hrd]; rfl
    have hbs' : bs = r.f.all := by rw [hbs, hrd]
    subst he0
    rw [hbs'] at hb2
    have o1 := ofB_eq hb2.is
    have o2 := ofB_eq (T.b.fr hb2.fr (fun _ _ => by simp)).bytes
    obtain ⟨M, hM⟩ : ∃ M, M = r.f.all.length := ⟨_, rfl⟩
    rw [← hM] at hbv
    obtain ⟨va, vc, hv2⟩ := hb2.shape
    rw [← hM] at hv2
    subst hv2
    rw [hbv] at hl1 o2
    simp (disch := first|omega|(simp only [np,ns];try omega)) [e1, e9, e10, e11, hrg2, lr_0, hlt, hltI, hgq2, hezq, hl0, hl1, hb1, o1, o2, hkk]
    exact F.trans hb2.fr
theorem KeepsAt.ro {D : Nat → Prop} {h : VH} {v : Value} {q : List ((List UInt8 × List Int) × Value)} (K : KeepsAt D h v q) : KeepsAt D h.ro v q :=
  ⟨K.rows.ro, fun p hp => (K.ints p hp).ro, K.lt, K.ltv, K.len⟩
theorem OpAt.ro {n0 : Nat} {h : VH} {o : OpR} {bv kv : Value} (K : OpAt n0 h o bv kv) : OpAt n0 h.ro o bv kv := ⟨K.b.ro, K.q.ro, K.lt, K.nm, K.to, K.bl⟩
theorem ScrAt.ro {n0 : Nat} {h : VH} {v : Value} {l : List (OpR × Value × Value)} (K : ScrAt n0 h v l) : ScrAt n0 h.ro v l := ⟨K.rows.ro, fun p hp => (K.ops p hp).ro, K.ltv⟩
theorem apart_law {h : VH} {us : List Value} {k : Nat} (G : GOK h) (H : ShA h [.sl 6 opT, .str, .sl 1 (.int .u8), .int .i64] us k) (hk : k ≤ 1048576) :
    PCalls Tryd.prog f_law06_DiskApart us h (fun u h' => u = .bool true ∧ h' = h) := by
  obtain ⟨v, r, k1, k2, rfl, h1, ⟨v2, r2, k3, k4, rfl, h2, ⟨v3, r3, k5, k6, rfl, h3, ⟨v4, r4, k7, k8, rfl, h4, ⟨rfl, _⟩, e4⟩, e3⟩, e2⟩, e1⟩ := H
  obtain ⟨nm, rfl, hn⟩ := Sh.str (h := h) h2
  obtain ⟨c, hc, _⟩ := Sh.i64 (h := h) h4
  injection hc with hc _
  subst hc
  obtain ⟨l, hs, hl⟩ := scr_at (h := h) (by omega) h1
  obtain ⟨b, hb, hbl⟩ := Sh.bytes (h := h) h3
  exact ((apart_ok G.ro hs.ro hl (by omega) hb.ro (by omega) (sl_lt (h := h) h3)).mono fun u _ e => by subst e; exact ⟨rfl, rfl⟩).drop
end Go.Proofs.YtgnmhonbcejnfaaDoor.Dk
