/- disk, part Zg: Files; both disks alike. -/
import Derived.Test.YtgnmhonbcejnfaaGreatDoorDkZb
import Derived.Test.YtgnmhonbcejnfaaGreatDoorDkSo
set_option linter.unusedVariables false
set_option linter.unusedSimpArgs false
set_option maxRecDepth 100000
namespace Go.Proofs.YtgnmhonbcejnfaaGreatDoor.Dk
open Go Go.RowKit Go.Proofs.YtgnmhonbcejnfaaGreatDoor.Pm Go.Proofs.YtgnmhonbcejnfaaGreatDoor.Fs
attribute [-simp] BitVec.toNat_or BitVec.toNat_xor BitVec.toNat_add BitVec.toNat_and BitVec.toNat_not BitVec.toNat_shiftLeft BitVec.toNat_ushiftRight

set_option maxHeartbeats 2000000 in
theorem rpending_ok {h : VH} {i : Nat} {S : Ds} {X : List Nat} (K : RfDk h i S X) (ok : OkD S) :
    PCalls Tryz.prog f_ref06_Disk_Pending [.pointer (some ⟨i, 0, none⟩)] h (fun u h' => u = .int .i64 (pendD S : Int) ∧ h' = h) := by
  refine PCalls_of_pw st_ref06_Disk_Pending (by simp [n_ref06_Disk_Pending]) ?_
  rw [b_ref06_Disk_Pending]
  unfold B_ref06_Disk_Pending
  obtain ⟨v, rs, rfl, k⟩ := K
  have hlen := k.len
  have hle := ok.len
  have hr := k.rec_
  obtain ⟨ra, rc, hv⟩ := k.own.shapeN
  obtain ⟨N, hN⟩ : ∃ N, N = rs.length := ⟨_, rfl⟩
  rw [← hN] at hv
  rw [hv] at hr
  have hpend : pendD S = (rs.map fun r => r.f.ws.length).sum := by
    unfold pendD
    rw [← k.fs, List.map_map]
    rfl
  obtain ⟨sm, hsm⟩ : ∃ sm : Nat → Nat, sm = fun n => ((rs.take n).map fun r => r.f.ws.length).sum := ⟨_, rfl⟩
  simp (disch := first|omega|(simp only [np,ns];try omega)) []
  refine pw_loopN (fun n s g => g = h ∧ s 0 = .pointer (some ⟨i, 0, none⟩) ∧ s 3 = .int .i64 (sm n : Int) ∧ s 4 = .int .i64 (n : Int) ∧ sm n ≤ n * 1048576) N ?_ ?_
  · exact ⟨rfl, by simp [upd_apply, s0_apply], by simp [upd_apply, hsm], by simp [upd_apply], by simp [hsm]⟩
  rintro n s g hn ⟨rfl, e0, e3, e4, hb⟩
  by_cases hlt : n < N
  · have hltI : (n : Int) < (N : Int) := by omega
    have hkk : IntKind.i64.wrap ((n : Int) + 1) = ((n + 1 : Nat) : Int) := by rw [i64_small (by omega) (by omega)]; omega
    have hspl := at_split (l := rs) (n := n) (by omega)
    obtain ⟨r, hr2⟩ : ∃ r, r = rs[n]'(by omega) := ⟨_, rfl⟩
    rw [← hr2] at hspl
    have k2 := k
    rw [hspl] at k2
    obtain ⟨qi, qo, qc, ds, hqv, hqc, hqi, hgq, hezq, _, _, _, _, _, hl3, _⟩ := k2.row
    have htl : (rs.take n).length = n := by rw [List.length_take]; omega
    have hl2 : (rs.take n ++ r :: rs.drop (n + 1)).length = N := by rw [← hspl, hN]
    rw [htl] at hl3
    rw [hl2, hv] at hqv
    injection hqv with hqv _ hqvc
    subst hqv
    subst hqvc
    have T := k2.fil r (by simp)
    have hrS : r.f ∈ S.fs := by rw [← k.fs, hr2]; exact List.mem_map_of_mem (List.getElem_mem _)
    have hrok := ok.fl _ hrS
    have hrwl := hrok.wl
    have hrsz := hrok.sz
    obtain ⟨_, _, wa, wd, _, hwv⟩ := T.shapes
    obtain ⟨W, hW⟩ : ∃ W, W = r.f.ws.length := ⟨_, rfl⟩
    rw [hwv, ← hW] at hl3
    have hsn : sm (n + 1) = sm n + W := by
      rw [hsm]
      simp only
      rw [List.take_succ_eq_append_getElem (by omega), List.map_append, List.sum_append, ← hr2, hW]
      simp
    have hnb : n * 1048576 ≤ 64 * 1048576 := Nat.mul_le_mul_right _ (by omega)
    have hadd : IntKind.i64.wrap ((sm n : Int) + (W : Int)) = (sm (n + 1) : Int) := by rw [i64_small (by omega) (by omega)]; omega
    simp (disch := first|omega|(simp only [np,ns];try omega)) [e0, e3, e4, hr, lr_0, hltI, hlt, hgq, hezq, hl3, hadd, hkk]
    omega
  · obtain rfl : n = N := by omega
    have hfin : sm n = pendD S := by rw [hpend, hsm]; simp only; rw [List.take_of_length_le (by omega)]
    rw [hfin] at e3
    simp (disch := first|omega|(simp only [np,ns];try omega)) [r_ref06_Disk_Pending, e0, e3, e4, hr, lr_0]
theorem seq_one {h : VH} {v : Value} {cs : List Value} {n k : Nat} {x : Value} (s : SeqAt h 1 v cs n) (hx : cs[k]? = some x) :
    ∃ i o c ds ow, v = .slice (some ⟨i, o, none⟩) n c ∧ k < n ∧ i < h.n ∧ h.get i = .cells ds ow 1 ∧ loadObj (.cells ds ow 1) (o + k) none = some x := by
  rcases s with ⟨_, rfl, _⟩ | ⟨i, o, c, ds, ow, h1, h2, h3, h4, h5, h6⟩
  · simp at hx
  · have hk : k < cs.length := (List.getElem?_eq_some_iff.1 hx).1
    have hkn : k < n := by rw [← h5] at hk; simp at hk; omega
    refine ⟨i, o, c, ds, ow, h3, hkn, h1, h4, ?_⟩
    rw [← h5, List.getElem?_take, if_pos (by omega), List.getElem?_drop] at hx
    exact hx
/-- the files, one by one, each one yielded. -/
theorem filesSeq_ok {y bx i : Nat} {ow2 : Bool} {S : Ds} {X R : List Nat} {h : VH} (J : Nat → VH → Prop) (ok : OkD S) (h0 : J 0 h)
    (hJ : ∀ n g g', J n g → h.n ≤ g.n → Fr g g' [] → J n g')
    (hK : ∀ n g, J n g → bx < g.n ∧ g.get bx = .cells [.pointer (some ⟨i, 0, none⟩)] ow2 1 ∧ DkAt g i S X R)
    (hY : ∀ n g f, J n g → h.n ≤ g.n → S.fs[n]? = some f → PYield Tryz.prog y [.string (strB f.nm), .int .i64 (f.all.length : Int)] g (fun u g' => u = .bool true ∧ J (n + 1) g' ∧ g.n ≤ g'.n ∧ ∀ z, h.n ≤ z → z < g.n → g'.get z = g.get z)) :
    PCalls Tryz.prog f_disk_Disk_Files_1 [.func (.yield y) #[] #[], .pointer (some ⟨bx, 0, none⟩)] h (fun _ g => J S.fs.length g) := by
  refine PCalls_of_pw st_disk_Disk_Files_1 (by simp [n_disk_Disk_Files_1]) ?_
  rw [b_disk_Disk_Files_1]
  unfold B_disk_Disk_Files_1
  obtain ⟨hbn, hb, hd⟩ := hK 0 h h0
  have l1 : loadObj (.cells [.pointer (some ⟨i, 0, none⟩)] ow2 1) 0 none = some (.pointer (some ⟨i, 0, none⟩)) := rfl
  obtain ⟨j, rs, rfl, rfl, k⟩ := hd
  obtain ⟨clk, hj, hlt⟩ := k.map_
  have hi := k.rec_
  have hle := ok.len
  have hfl := k.flen
  obtain ⟨es, hes⟩ : ∃ es, es = rs.map entF := ⟨_, rfl⟩
  rw [← hes] at hj
  simp (disch := first|omega|(simp only [np,ns];try omega)) [hb, l1, hi, l2_0]
  refine keys_ok.mono ?_
  rintro u g1 ⟨rfl, hg1⟩
  have F1 : Fr h g1 [] := by rw [hg1]; exact Fr_push (Fr.refl _ _)
  have n1 : g1.n = h.n + 1 := by rw [hg1]; rfl
  have o1 : g1.get h.n = .cells [.map (some j)] true 1 := by rw [hg1, VH.get_push_new]
  have hltj := k.ltj
  simp (disch := first|omega|(simp only [np,ns];try omega)) []
  refine (sorted_ok sortsS hes k.bnd hlt (by omega) (by omega) o1 ((F1.get _ hltj (by simp)).trans hj) (by omega) (l' := S.fs.map (·.nm)) ?_ ?_).mono ?_
  · have := k.perm.map (fun t => t.nm)
    rw [List.map_map] at this
    exact this
  · rw [List.pairwise_map]; exact ok.ord
  rintro u g2 ⟨ow', F2, hid⟩
  have FA : Fr h g2 [] := F1.trans F2
  have sq := ow'.seq
  rw [List.length_map] at sq
  obtain ⟨a, c, rfl⟩ := sq.shape
  obtain ⟨N, hN⟩ : ∃ N, N = S.fs.length := ⟨_, rfl⟩
  rw [← hN] at sq hid
  rw [← hN]
  have n2 := FA.n
  have hslt := sq.lt
  simp (disch := first|omega|(simp only [np,ns];try omega)) []
  refine pw_loopN (fun n s g => J n g ∧ h.n ≤ g.n ∧ s 0 = .func (.yield y) #[] #[] ∧ s 1 = .pointer (some ⟨bx, 0, none⟩) ∧ s 12 = .slice a N c ∧ s 13 = .int .i64 (N : Int) ∧ s 14 = .int .i64 (n : Int) ∧ SeqAt g 1 (.slice a N c) (strsV (S.fs.map (·.nm))) N) N ?_ ?_
  · exact ⟨hJ _ _ _ h0 (Nat.le_refl _) FA, n2, by simp [upd_apply, s0_apply], by simp [upd_apply, s0_apply], by simp [upd_apply], by simp [upd_apply], by simp [upd_apply], sq⟩
  rintro n s g hn ⟨hj1, hgn, e0, e1, e12, e13, e14, sg⟩
  by_cases hltn : n < N
  case neg =>
    obtain rfl : n = N := by omega
    simp (disch := first|omega|(simp only [np,ns];try omega)) [r_disk_Disk_Files_1, e13, e14]
    exact hj1
  have hltI : (n : Int) < (N : Int) := by omega
  have hkk : IntKind.i64.wrap ((n : Int) + 1) = ((n + 1 : Nat) : Int) := by rw [i64_small (by omega) (by omega)]; omega
  obtain ⟨f, hf⟩ : ∃ f, S.fs[n]? = some f := ⟨_, List.getElem?_eq_getElem (by omega)⟩
  obtain ⟨i1, o1', c1, ds1, ow3, hv, hk1, hi1, hg3, hl3⟩ := seq_one sg (k := n) (x := .string (strB f.nm)) (by simp [strsV, hf])
  injection hv with hv1 _ hv3
  subst hv1
  subst hv3
  have hez : eszObj (.cells ds1 ow3 1) 1 = true := rfl
  obtain ⟨hbn2, hb2, hd2⟩ := hK n g hj1
  obtain ⟨j2, rs2, _, _, k2⟩ := hd2
  obtain ⟨clk2, hj2, _⟩ := k2.map_
  have hi2 := k2.rec_
  have hfm : f ∈ S.fs := List.mem_of_getElem? hf
  have hfd := findF_mem ok.ord.uni hfm
  obtain ⟨ra, r, rb, hrs, hrf, hm⟩ := k2.getS ok.ord.uni hfd
  have T := (k2.fil r (by simp [hrs])).r
  have o := ok.fl _ hfm
  have hkf : keysFit .s (rs2.map entF) = true := keys_rs
  have hfit : fitK .s (.string (strB f.nm)) = true := rfl
  have hmv : mval false (.pointer none) (some (.pointer (some ⟨r.it, 0, none⟩))) = .pointer (some ⟨r.it, 0, none⟩) := rfl
  obtain ⟨es2, hes2⟩ : ∃ es2, es2 = rs2.map entF := ⟨_, rfl⟩
  rw [← hes2] at hj2 hkf hm
  simp (disch := first|omega|(simp only [np,ns];try omega)) [e0, e1, e12, e13, e14, hltI, hltn, hg3, hez, hl3, hb2, l1, hi2, l2_0, hj2, hkf, hfit, hm, hmv]
  rw [← hrf] at o
  refine (size_ok T o).mono ?_
  rintro u g' ⟨rfl, hg'⟩
  rw [hg', hrf]
  simp (disch := first|omega|(simp only [np,ns];try omega)) [e0]
  refine (hY n g f hj1 hgn hf).mono ?_
  rintro u g4 ⟨rfl, hj4, hn4, hk4⟩
  simp (disch := first|omega|(simp only [np,ns];try omega)) [e0, e1, e12, e13, e14, hkk]
  refine ⟨hltn, hj4, by omega, sg.congr hn4 (fun x hx => hk4 x ?_ (sg.lt x hx))⟩
  have := hid x hx
  omega

set_option maxHeartbeats 8000000 in
theorem alike_ok {h0 h : VH} {i ri : Nat} {S : Ds} {X R Y : List Nat} {n : Nat} (G : GOK h0) (k : Bo h0 h i ri S X R Y) (ok : OkN n S) :
    PCalls Tryz.prog f_law06_alike [.pointer (some ⟨i, 0, none⟩), .pointer (some ⟨ri, 0, none⟩)] h (fun u h' => u = .bool true ∧ Fr h h' []) := by
  refine PCalls_of_pw st_law06_alike (by simp [n_law06_alike]) ?_
  rw [b_law06_alike]
  unfold B_law06_alike
  have okd := ok.ok
  have hle := okd.len
  obtain ⟨g1, hg1⟩ : ∃ g1, g1 = h.push (.cells [.pointer (some ⟨i, 0, none⟩)] true 1) := ⟨_, rfl⟩
  obtain ⟨g2, hg2⟩ : ∃ g2, g2 = g1.push (.cells [.pointer (some ⟨ri, 0, none⟩)] true 1) := ⟨_, rfl⟩
  obtain ⟨g3, hg3⟩ : ∃ g3, g3 = g2.push (.cells [.bool false] true 1) := ⟨_, rfl⟩
  obtain ⟨g4, hg4⟩ : ∃ g4, g4 = g3.push (.cells [.int .i64 0] true 1) := ⟨_, rfl⟩
  have n1 : g1.n = h.n + 1 := by rw [hg1]; rfl
  have n2 : g2.n = h.n + 2 := by rw [hg2]; simp [n1]
  have n3 : g3.n = h.n + 3 := by rw [hg3]; simp [n2]
  have n4 : g4.n = h.n + 4 := by rw [hg4]; simp [n3]
  have F14 : Fr h g4 [] := by rw [hg4, hg3, hg2, hg1]; exact Fr_push (Fr_push (Fr_push (Fr_push (Fr.refl _ _))))
  have c1 : g4.get h.n = .cells [.pointer (some ⟨i, 0, none⟩)] true 1 := by rw [hg4, VH.get_push_lt _ _ (by omega), hg3, VH.get_push_lt _ _ (by omega), hg2, VH.get_push_lt _ _ (by omega), hg1, VH.get_push_new]
  have c2 : g4.get (h.n + 1) = .cells [.pointer (some ⟨ri, 0, none⟩)] true 1 := by rw [hg4, VH.get_push_lt _ _ (by omega), hg3, VH.get_push_lt _ _ (by omega), hg2, ← n1, VH.get_push_new]
  have c3 : g4.get (h.n + 2) = .cells [.bool false] true 1 := by rw [hg4, VH.get_push_lt _ _ (by omega), hg3, ← n2, VH.get_push_new]
  have c4 : g4.get (h.n + 3) = .cells [.int .i64 0] true 1 := by rw [hg4, ← n3, VH.get_push_new]
  have hst0 : ∀ m : Int, storeObj (.cells [.int .i64 m] true 1) 0 1 (.int .i64 0) = some (.cells [.int .i64 0] true 1) := fun _ => rfl
  have hself : g4.set (h.n + 3) (.cells [.int .i64 0] true 1) = g4 := VH.set_self c4
  have o1 : ([.pointer (some ⟨i, 0, none⟩)] : List Value).all Value.oneCell' = true := rfl
  have o2 : ([.pointer (some ⟨ri, 0, none⟩)] : List Value).all Value.oneCell' = true := rfl
  have lp : ∀ {p : Value}, loadObj (.cells [p] true 1) 0 none = some p := fun {p} => rfl
  obtain ⟨g5, hg5⟩ : ∃ g5, g5 = g4.push (.cells [.pointer (some ⟨i, 0, none⟩)] true 1) := ⟨_, rfl⟩
  have F45 : Fr g4 g5 [] := by rw [hg5]; exact Fr_push (Fr.refl _ _)
  have n5 : g5.n = h.n + 5 := by rw [hg5]; simp [n4]
  have c5 : g5.get (h.n + 4) = .cells [.pointer (some ⟨i, 0, none⟩)] true 1 := by rw [hg5, ← n4, VH.get_push_new]
  have hfiles : PCalls Tryz.prog f_disk_Disk_Files [.pointer (some ⟨i, 0, none⟩)] g4 (fun u g' => u = .func (.func f_disk_Disk_Files_1) #[] #[.pointer (some ⟨h.n + 4, 0, none⟩)] ∧ g' = g5) := by
    refine PCalls_of_pw st_disk_Disk_Files (by simp [n_disk_Disk_Files]) ?_
    rw [b_disk_Disk_Files]
    unfold B_disk_Disk_Files
    simp (disch := first|omega|(simp only [np,ns];try omega)) [r_disk_Disk_Files, o1, ← hg5, n4]
  simp (disch := first|omega|(simp only [np,ns];try omega)) [o1, o2, ← hg1, n1, ← hg2, n2, ← hg3, n3, ← hg4, c4, hst0, hself, c1, lp]
  refine hfiles.mono ?_
  rintro u g' ⟨rfl, hg'⟩
  rw [hg']
  simp (disch := first|omega|(simp only [np,ns];try omega)) []
  refine pw_rangeF_rule (by simp only [ev_t, upd_apply, if_true]; rfl) (by kernel_rfl) (fun L hY => ?_)
  obtain ⟨H, hH⟩ : ∃ H, H = g5.push (.loop L .ready none) := ⟨_, rfl⟩
  have fH : Fr g5 H [] := by rw [hH]; exact Fr_push (Fr.refl _ _)
  have Hn : H.n = h.n + 6 := by rw [hH]; simp [n5]
  have Hy : H.get (h.n + 5) = .loop L .ready none := by rw [hH, ← n5, VH.get_push_new]
  have FhH : Fr h H [] := (F14.trans F45).trans fH
  have d1 : H.get h.n = .cells [.pointer (some ⟨i, 0, none⟩)] true 1 := ((F45.trans fH).get _ (by omega) (by simp)).trans c1
  have d2 : H.get (h.n + 1) = .cells [.pointer (some ⟨ri, 0, none⟩)] true 1 := ((F45.trans fH).get _ (by omega) (by simp)).trans c2
  have d3 : H.get (h.n + 2) = .cells [.bool false] true 1 := ((F45.trans fH).get _ (by omega) (by simp)).trans c3
  have d4 : H.get (h.n + 3) = .cells [.int .i64 0] true 1 := ((F45.trans fH).get _ (by omega) (by simp)).trans c4
  have d5 : H.get (h.n + 4) = .cells [.pointer (some ⟨i, 0, none⟩)] true 1 := (fH.get _ (by omega) (by simp)).trans c5
  have kH := k.fr0 FhH
  have hXlt := k.d.lt
  have hRlt := k.d.rlt
  have hYlt := k.r.lt
  have n0 := k.fr.n
  have kept : ∀ {g : VH}, Fr H g [h.n + 3, h.n + 5] → Bo h0 g i ri S X R Y := fun F => kH.frX F (fun z hz => by
    simp at hz
    refine ⟨by omega, fun hx => by have := hXlt z hx; omega, fun hx => by have := hRlt z hx; omega, fun hx => by have := hYlt z hx; omega⟩)
  obtain ⟨rv, rs, hYe, kr⟩ := k.r
  have hrl := kr.len
  obtain ⟨ra, rc, hrv⟩ := kr.own.shapeN
  obtain ⟨N, hN⟩ : ∃ N, N = rs.length := ⟨_, rfl⟩
  have hNS : N = S.fs.length := by omega
  rw [← hN] at hrv
  have krk : ∀ {g : VH}, Fr H g [h.n + 3, h.n + 5] → RRep g ri rv rs S := fun F => (kr.fr0 FhH).fr F (fun x hx hxz => by
    have := kr.lts x hx
    simp at hxz
    omega)
  rw [← hH, n5]
  refine PCalls.mono (filesSeq_ok (y := h.n + 5) (bx := h.n + 4) (i := i) (S := S) (X := X) (R := R) (ow2 := true) (fun m g => g.get (h.n + 5) = .loop L .ready none ∧ Fr H g [h.n + 3, h.n + 5] ∧ g.get (h.n + 3) = .cells [.int .i64 (m : Int)] true 1) okd ⟨Hy, Fr.refl _ _, d4⟩ ?_ ?_ ?_) ?_
  · rintro m g g' ⟨a1, a2, a3⟩ hn hf
    exact ⟨(hf.get _ (by omega) (by simp)).trans a1, a2.trans (hf.sub (by simp)), (hf.get _ (by omega) (by simp)).trans a3⟩
  · rintro m g ⟨a1, a2, a3⟩
    have := a2.n
    exact ⟨by omega, (a2.get _ (by omega) (by simp)).trans d5, (kept a2).d⟩
  · rintro m g f ⟨a1, a2, a3⟩ hgn hf
    have hmS : m < S.fs.length := (List.getElem?_eq_some_iff.1 hf).1
    have hmN : m < N := by omega
    have hmI : (m : Int) < (N : Int) := by omega
    have hmge : ¬ (N : Int) ≤ (m : Int) := by omega
    have hmge' : ¬ N ≤ m := by omega
    refine hY _ _ g none _ a1 rfl ?_
    show pw _ _ _ _ (kRound Tryz.prog _ (h.n + 5) L _)
    simp (disch := first|omega|(simp only [np,ns];try omega)) [putAll]
    rw [kRound_normal]
    refine ⟨none, a1, ?_⟩
    obtain ⟨G1, hG1⟩ : ∃ G1, G1 = g.set (h.n + 5) (.loop L .busy none) := ⟨_, rfl⟩
    rw [← hG1]
    have f1 : Fr g G1 [h.n + 5] := by rw [hG1]; exact Fr.set _ _ (by simp)
    have A1 : Fr H G1 [h.n + 3, h.n + 5] := a2.trans (f1.sub (by simp))
    have m1 : G1.n = g.n := by rw [hG1]; rfl
    have y1 : G1.get (h.n + 5) = .loop L .busy none := by rw [hG1, VH.get_set_same]
    have b1 := (A1.get h.n (by omega) (by simp)).trans d1
    have b2 := (A1.get (h.n + 1) (by omega) (by simp)).trans d2
    have b4 : G1.get (h.n + 3) = .cells [.int .i64 (m : Int)] true 1 := (f1.get _ (by omega) (by simp)).trans a3
    have kB := kept A1
    have kg := krk A1
    have hrg := kg.rec_
    rw [hrv] at hrg
    have hspl := at_split (l := rs) (n := m) (by omega)
    obtain ⟨r, hr⟩ : ∃ r, r = rs[m]'(by omega) := ⟨_, rfl⟩
    rw [← hr] at hspl
    have kg2 := kg
    rw [hspl] at kg2
    obtain ⟨qi, qo, qc, ds, hqv, hqc, hqi, hgq, hezq, _, _, hl0, hl1, _⟩ := kg2.row
    have htl : (rs.take m).length = m := by rw [List.length_take]; omega
    have hl2 : (rs.take m ++ r :: rs.drop (m + 1)).length = N := by rw [← hspl, hN]
    rw [htl] at hl0 hl1
    rw [hl2, hrv] at hqv
    injection hqv with hqv _ hqvc
    subst hqv
    subst hqvc
    have T := kg2.fil r (by simp)
    have hrf : r.f = f := by
      have h1 : (rs.map (·.f))[m]? = some f := by rw [kr.fs]; exact hf
      rw [List.getElem?_map, List.getElem?_eq_getElem (show m < rs.length by omega), ← hr] at h1
      simpa using h1
    obtain ⟨ba, bc, hbv⟩ := T.b.shape
    obtain ⟨M, hM⟩ : ∃ M, M = f.all.length := ⟨_, rfl⟩
    rw [hrf] at hl0 hbv
    rw [← hM] at hbv
    rw [hbv] at hl1
    have hfm : f ∈ S.fs := List.mem_of_getElem? hf
    have hfd := findF_mem okd.ord.uni hfm
    have hrd : readD S f.nm = (f.all, 0) := by unfold readD; rw [hfd]
    have hb1 : ((strB f.nm).toList == (strB f.nm).toList) = true := by simp
    rw [← hM]
    simp (disch := first|omega|(simp only [np,ns];try omega)) [b1, b2, b4, lp, hrg, lr_0, hmge, hmge', hmI, hmN, hgq, hezq, hl0, hl1, hb1]
    refine (read_ok (G.fr0 kB.fr) kB.d okd).mono ?_
    rintro u G2 ⟨v2, rfl, hb2⟩
    rw [hrd] at hb2 ⊢
    have kB2 := kB.fr0 hb2.fr
    have e1 := (hb2.fr.get h.n (by omega) (by simp)).trans b1
    simp (disch := first|omega|(simp only [np,ns];try omega)) [e1, lp]
    refine (len_ok (G.fr0 kB2.fr) kB2.d okd).mono ?_
    rintro u G3 ⟨rfl, F3⟩
    rw [hrd]
    have F13 := hb2.fr.trans F3
    have n13 := F13.n
    have e2 := (F13.get (h.n + 1) (by omega) (by simp)).trans b2
    have e4 := (F13.get (h.n + 3) (by omega) (by simp)).trans b4
    have hrg3 := (F13.get ri kg.lt (by simp)).trans hrg
    have hgq3 := (F13.get qi hqi (by simp)).trans hgq
    have s1 := ofB_eq (hb2.step F3).is
    have s2 := ofB_eq (T.b.fr F13 (fun _ _ => by simp)).bytes
    rw [hrf, hbv] at s2
    obtain ⟨va, vc, hv2⟩ := hb2.shape
    simp only [← hM] at hv2 ⊢
    subst hv2
    have hkm : IntKind.i64.wrap ((m : Int) + 1) = ((m + 1 : Nat) : Int) := by rw [i64_small (by omega) (by omega)]; omega
    obtain ⟨m', hm'⟩ : ∃ m', m' = m + 1 := ⟨_, rfl⟩
    rw [← hm'] at hkm
    have hst : storeObj (.cells [.int .i64 (m : Int)] true 1) 0 1 (.int .i64 (m' : Int)) = some (.cells [.int .i64 (m' : Int)] true 1) := rfl
    obtain ⟨G4, hG4⟩ : ∃ G4, G4 = G3.set (h.n + 3) (.cells [.int .i64 (m' : Int)] true 1) := ⟨_, rfl⟩
    have F34 : Fr G3 G4 [h.n + 3] := by rw [hG4]; exact Fr.set _ _ (by simp)
    simp (disch := first|omega|(simp only [np,ns];try omega)) [e2, e4, lp, hrg3, lr_0, hgq3, hezq, hmI, hmN, hl1, s1, s2, hkm, hst, ← hG4]
    have y3 : G4.get (h.n + 5) = .loop L .busy none := (F34.get _ (by omega) (by simp)).trans ((F13.get _ (by omega) (by simp)).trans y1)
    refine rndEnd_normal y3 ?_
    obtain ⟨G5, hG5⟩ : ∃ G5, G5 = G4.set (h.n + 5) (.loop L .ready none) := ⟨_, rfl⟩
    have F45' : Fr G4 G5 [h.n + 5] := by rw [hG5]; exact Fr.set _ _ (by simp)
    rw [← hG5]
    have n34 := F34.n
    have n45 := F45'.n
    have A5 : Fr H G5 [h.n + 3, h.n + 5] := ((A1.trans (F13.sub (by simp))).trans (F34.sub (by simp))).trans (F45'.sub (by simp))
    refine ⟨rfl, ⟨by rw [hG5, VH.get_set_same], A5, ?_⟩, by omega, fun z hz1 hz2 => ?_⟩
    · rw [F45'.get _ (by omega) (by simp), hG4, VH.get_set_same, hm']
      rfl
    · rw [F45'.get z (by omega) (by simp; omega), F34.get z (by omega) (by simp; omega), F13.get z (by omega) (by simp), f1.get z hz2 (by simp; omega)]
  · rintro u g ⟨a1, a2, a3⟩
    refine ⟨.ready, none, a1, by simp, ?_⟩
    obtain ⟨G1, hG1⟩ : ∃ G1, G1 = g.set (h.n + 5) .dead := ⟨_, rfl⟩
    rw [← hG1]
    have f1 : Fr g G1 [h.n + 5] := by rw [hG1]; exact Fr.set _ _ (by simp)
    have m1 : G1.n = g.n := by rw [hG1]; rfl
    have A1 : Fr H G1 [h.n + 3, h.n + 5] := a2.trans (f1.sub (by simp))
    have hgn := a2.n
    have b1 := (A1.get h.n (by omega) (by simp)).trans d1
    have b2 := (A1.get (h.n + 1) (by omega) (by simp)).trans d2
    have b3 := (A1.get (h.n + 2) (by omega) (by simp)).trans d3
    have b4 : G1.get (h.n + 3) = .cells [.int .i64 (S.fs.length : Int)] true 1 := (f1.get _ (by omega) (by simp)).trans a3
    have kB := kept A1
    have kg := krk A1
    have hrg := kg.rec_
    rw [hrv, hNS] at hrg
    show kBlock 0 _ _ _ _
    simp (disch := first|omega|(simp only [np,ns];try omega)) [b1, b2, b4, lp, hrg, lr_0]
    refine (pending_ok kB.d okd).mono ?_
    rintro u G2 ⟨rfl, F2⟩
    have kB2 := kB.fr0 F2
    have n12 := F2.n
    have e1 := (F2.get h.n (by omega) (by simp)).trans b1
    have e2 := (F2.get (h.n + 1) (by omega) (by simp)).trans b2
    have e3 := (F2.get (h.n + 2) (by omega) (by simp)).trans b3
    have hrg2 := (F2.get ri kg.lt (by simp)).trans hrg
    simp (disch := first|omega|(simp only [np,ns];try omega)) [e2, lp]
    refine (rpending_ok kB2.r okd).mono ?_
    rintro u G3 ⟨rfl, hG3⟩
    rw [hG3]
    simp (disch := first|omega|(simp only [np,ns];try omega)) [e1, e2, lp, hrg2, lr_1]
    refine (syncs_ok kB2.d).mono ?_
    rintro u G4 ⟨rfl, hG4⟩
    rw [hG4]
    have hst : storeObj (.cells [.bool false] true 1) 0 1 (.bool true) = some (.cells [.bool true] true 1) := rfl
    obtain ⟨G5, hG5⟩ : ∃ G5, G5 = G2.set (h.n + 2) (.cells [.bool true] true 1) := ⟨_, rfl⟩
    have F25 : Fr G2 G5 [h.n + 2] := by rw [hG5]; exact Fr.set _ _ (by simp)
    have q5 : G5.get (h.n + 2) = .cells [.bool true] true 1 := by rw [hG5, VH.get_set_same]
    simp (disch := first|omega|(simp only [np,ns];try omega)) [r_law06_alike, e1, e2, e3, lp, hrg2, lr_1, hst, ← hG5, q5]
    refine ((FhH.trans' A1 (fun y hy => ?_)).trans F2).trans' F25 (fun y hy => ?_)
    · simp at hy; exact .inr (by omega)
    · simp at hy; exact .inr (by omega)
end Go.Proofs.YtgnmhonbcejnfaaGreatDoor.Dk
