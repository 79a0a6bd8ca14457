/- disk, part J: Read, Len, Sync, Cut, Remove. -/
import Derived.Test.YtgnmhonbcejnfaaGreatDoorDkD
import Derived.Test.YtgnmhonbcejnfaaGreatDoorDkH
set_option linter.unusedVariables false
set_option linter.unusedSimpArgs false
set_option maxRecDepth 100000
namespace Go.Proofs.YtgnmhonbcejnfaaGreatDoor.Dk
open Go Go.RowKit Go.Proofs.YtgnmhonbcejnfaaGreatDoor.Pm Go.Proofs.YtgnmhonbcejnfaaGreatDoor.Fs
attribute [-simp] BitVec.toNat_or BitVec.toNat_xor BitVec.toNat_add BitVec.toNat_and BitVec.toNat_not BitVec.toNat_shiftLeft BitVec.toNat_ushiftRight


theorem GOK.fr {h h' : VH} (g : GOK h) {X : List Nat} (hf : Fr h h' X) (hx : ∀ x ∈ X, 4 ≤ x) : GOK h' := by
  have hn := hf.n
  have h4 := g.n
  exact ⟨by omega, by rw [hf.get 0 (by omega) (fun hm => by have := hx _ hm; omega)]; exact g.e, by rw [hf.get 1 (by omega) (fun hm => by have := hx _ hm; omega)]; exact g.t⟩
theorem GOK.fr0 {h h' : VH} (g : GOK h) (hf : Fr h h' []) : GOK h' := g.fr hf (by simp)
/-- a fault, told. -/
theorem told_new {h : VH} {nm : List UInt8} {k : Int} (G : GOK h) : PCalls Tryz.prog 45 [.iface 97 (.pointer (some ⟨h.n, 0, none⟩))] (h.push (.cells [.string (strB nm), .int .i64 k] true 1)) (fun u h' => u = .int .i64 k ∧ h' = h.push (.cells [.string (strB nm), .int .i64 k] true 1)) :=
  told_ok (G.fr0 (Fr_push (Fr.refl _ _))) (VH.get_push_new _ _) rfl
theorem l2_0 {a b : Value} {ow : Bool} {e : Nat} : loadObj (.cells [a, b] ow e) 0 none = some a := rfl
theorem l2_1 {a b : Value} {ow : Bool} {e : Nat} : loadObj (.cells [a, b] ow e) 1 none = some b := rfl
theorem s2_0s {a b : Value} {p : Option Addr} {l c : Nat} {e : Nat} : storeObj (.cells [a, b] true e) 0 1 (.slice p l c) = some (.cells [.slice p l c, b] true e) := rfl
theorem s2_1s {a b : Value} {p : Option Addr} {l c : Nat} {e : Nat} : storeObj (.cells [a, b] true e) 1 1 (.slice p l c) = some (.cells [a, .slice p l c] true e) := rfl
theorem s2_1i {a b : Value} {n : Int} {e : Nat} : storeObj (.cells [a, b] true e) 1 1 (.int .i64 n) = some (.cells [a, .int .i64 n] true e) := rfl

theorem read_ok {h : VH} {i : Nat} {S : Ds} {X R : List Nat} (G : GOK h) (K : DkAt h i S X R) (ok : OkD S) {nm : List UInt8} :
    PCalls Tryz.prog f_disk_Disk_Read [.pointer (some ⟨i, 0, none⟩), .string (strB nm)] h (fun u h' => ∃ v, u = .tuple #[v, .int .i64 ((readD S nm).2 : Int)] ∧ Buf h h' v (readD S nm).1) := by
  refine PCalls_of_pw st_disk_Disk_Read (by simp [n_disk_Disk_Read]) ?_
  rw [b_disk_Disk_Read]
  unfold B_disk_Disk_Read
  obtain ⟨j, rs, rfl, rfl, k⟩ := K
  obtain ⟨clk, hj, hlt⟩ := k.map_
  cases hfd : findF nm S.fs with
  | some f =>
    obtain ⟨a, r, b, hrs, hrf, hm⟩ := k.getS ok.ord.uni hfd
    have hs : readD S nm = (f.all, 0) := by simp [readD, hfd]
    have T := (k.fil r (by simp [hrs])).r
    have o := ok.find hfd
    simp (disch := first|omega|(simp only [np,ns];try omega)) []
    refine (find_some k.rec_ hj keys_rs hm).mono ?_
    rintro u g ⟨rfl, hg⟩
    rw [hg]
    simp (disch := first|omega|(simp only [np,ns];try omega)) []
    rw [← hrf] at o
    refine (all_ok T o).mono ?_
    rintro u g hb
    rw [hrf] at hb
    obtain ⟨p, c, rfl⟩ := hb.shape
    simp (disch := first|omega|(simp only [np,ns];try omega)) [r_disk_Disk_Read, hs]
    exact hb
  | none =>
    have hm := k.getN ok.ord.uni hfd
    have hs : readD S nm = ([], 5) := by simp [readD, hfd]
    simp (disch := first|omega|(simp only [np,ns];try omega)) []
    refine (find_none k.rec_ hj keys_rs hm).mono ?_
    rintro u g ⟨rfl, hg⟩
    rw [hg]
    simp (disch := first|omega|(simp only [np,ns];try omega)) []
    refine (told_new G).mono ?_
    rintro u g ⟨rfl, hg⟩
    rw [hg]
    simp (disch := first|omega|(simp only [np,ns];try omega)) [r_disk_Disk_Read, hs]
    exact (Buf.nil h).step (Fr_push (Fr.refl _ _))
theorem len_ok {h : VH} {i : Nat} {S : Ds} {X R : List Nat} (G : GOK h) (K : DkAt h i S X R) (ok : OkD S) {nm : List UInt8} :
    PCalls Tryz.prog f_disk_Disk_Len [.pointer (some ⟨i, 0, none⟩), .string (strB nm)] h (fun u h' => u = .tuple #[.int .i64 ((readD S nm).1.length : Int), .int .i64 ((readD S nm).2 : Int)] ∧ Fr h h' []) := by
  refine PCalls_of_pw st_disk_Disk_Len (by simp [n_disk_Disk_Len]) ?_
  rw [b_disk_Disk_Len]
  unfold B_disk_Disk_Len
  obtain ⟨j, rs, rfl, rfl, k⟩ := K
  obtain ⟨clk, hj, hlt⟩ := k.map_
  cases hfd : findF nm S.fs with
  | some f =>
    obtain ⟨a, r, b, hrs, hrf, hm⟩ := k.getS ok.ord.uni hfd
    have hs : readD S nm = (f.all, 0) := by simp [readD, hfd]
    have T := (k.fil r (by simp [hrs])).r
    have o := ok.find hfd
    simp (disch := first|omega|(simp only [np,ns];try omega)) []
    refine (find_some k.rec_ hj keys_rs hm).mono ?_
    rintro u g ⟨rfl, hg⟩
    rw [hg]
    simp (disch := first|omega|(simp only [np,ns];try omega)) []
    rw [← hrf] at o
    refine (size_ok T o).mono ?_
    rintro u g' ⟨rfl, hg'⟩
    subst hg'
    simp (disch := first|omega|(simp only [np,ns];try omega)) [r_disk_Disk_Len, hs, hrf]
    exact Fr.refl _ _
  | none =>
    have hm := k.getN ok.ord.uni hfd
    have hs : readD S nm = ([], 5) := by simp [readD, hfd]
    simp (disch := first|omega|(simp only [np,ns];try omega)) []
    refine (find_none k.rec_ hj keys_rs hm).mono ?_
    rintro u g ⟨rfl, hg⟩
    rw [hg]
    simp (disch := first|omega|(simp only [np,ns];try omega)) []
    refine (told_new G).mono ?_
    rintro u g ⟨rfl, hg⟩
    rw [hg]
    simp (disch := first|omega|(simp only [np,ns];try omega)) [r_disk_Disk_Len, hs]
    exact Fr_push (Fr.refl _ _)
theorem syncs_ok {h : VH} {i : Nat} {S : Ds} {X R : List Nat} (K : DkAt h i S X R) :
    PCalls Tryz.prog f_disk_Disk_Syncs [.pointer (some ⟨i, 0, none⟩)] h (fun u h' => u = .int .i64 (S.sy : Int) ∧ h' = h) := by
  refine PCalls_of_pw st_disk_Disk_Syncs (by simp [n_disk_Disk_Syncs]) ?_
  rw [b_disk_Disk_Syncs]
  unfold B_disk_Disk_Syncs
  obtain ⟨j, rs, rfl, rfl, k⟩ := K
  have hi := k.rec_
  simp (disch := first|omega|(simp only [np,ns];try omega)) [r_disk_Disk_Syncs, hi, l2_1]

/-- a file all of whose bytes are safe. -/
theorem FilAt.safe0 {g : VH} {nm l : List UInt8} {it bn : Nat} {v : Value} (hlt : it < g.n) (hr : g.get it = .cells [v, .slice none 0 0] true 1) (ho : OwnP g 1 v (u8s l) l.length) : FilAt g ⟨⟨nm, l, []⟩, it, v, .slice none 0 0, [], bn⟩ :=
  ⟨hlt, hr, ho, OwnSl.nil _ _, rfl, fun k v w h => by simp at h⟩
set_option maxHeartbeats 1000000 in
theorem sync_ok {h : VH} {i : Nat} {S : Ds} {X R : List Nat} {n : Nat} (G : GOK h) (K : DkAt h i S X R) (ok : OkN n S) (hn : n < 1000000) {nm : List UInt8} :
    PCalls Tryz.prog f_disk_Disk_Sync [.pointer (some ⟨i, 0, none⟩), .string (strB nm)] h (fun u h' => u = .int .i64 ((synD S nm).1 : Int) ∧ DkP h i X R (synD S nm).2 h') := by
  refine PCalls_of_pw st_disk_Disk_Sync (by simp [n_disk_Disk_Sync]) ?_
  rw [b_disk_Disk_Sync]
  unfold B_disk_Disk_Sync
  have K0 := K
  obtain ⟨j, rs, rfl, rfl, k⟩ := K
  obtain ⟨clk, hj, hlt⟩ := k.map_
  cases hfd : findF nm S.fs with
  | some f =>
    obtain ⟨a, r, b, hrs, hrf, hm⟩ := k.getS ok.ok.ord.uni hfd
    have hs : synD S nm = (0, ⟨setF ⟨nm, f.all, []⟩ S.fs, S.sy + 1⟩) := by simp [synD, hfd]
    have T := (k.fil r (by simp [hrs])).r
    have o := ok.ok.find hfd
    simp (disch := first|omega|(simp only [np,ns];try omega)) []
    refine (find_some k.rec_ hj keys_rs hm).mono ?_
    rintro u g ⟨rfl, hg⟩
    rw [hg]
    simp (disch := first|omega|(simp only [np,ns];try omega)) []
    rw [← hrf] at o
    refine (all_ok T o).mono ?_
    rintro u g1 hb
    rw [hrf] at hb
    subst hrs
    have T1 := (k.fil r (by simp)).fr hb.fr (fun _ _ => by simp) (fun _ _ => by simp)
    have hr1 := T1.rec_
    have hl1 := T1.lt
    obtain ⟨sa, sc, hsv⟩ := T1.safe.shape
    obtain ⟨ma, mc, hmv⟩ := T1.more.shape
    obtain ⟨p, c, hp⟩ := hb.shape
    have k1 := k.fr0 hb.fr
    have hi1 := k1.rec_
    have hne : i ≠ r.it := fun e => k.ni r (by simp) (by simp [fpF, e])
    obtain ⟨g2, hg2⟩ : ∃ g2, g2 = g1.set r.it (.cells [.slice p f.all.length c, .slice none 0 0] true 1) := ⟨_, rfl⟩
    have f2 : Fr g1 g2 [r.it] := by rw [hg2]; exact Fr.set _ _ (by simp)
    have hi2 : g2.get i = .cells [.map (some j), .int .i64 (S.sy : Int)] true 1 := (f2.get _ k1.lti (by simpa using hne)).trans hi1
    have hsy := ok.sy
    have hadd : IntKind.i64.wrap ((S.sy : Int) + 1) = ((S.sy + 1 : Nat) : Int) := by rw [i64_small (by omega) (by omega)]; omega
    rw [hsv, hmv] at hr1
    rw [hp] at hb
    subst hp
    simp (disch := first|omega|(simp only [np,ns];try omega)) [r_disk_Disk_Sync, hr1, s2_0s, s2_1s, ← hg2, hi2, l2_1, s2_1i, hadd, hs]
    have T2 : FilAt g2 ⟨⟨nm, f.all, []⟩, r.it, .slice p f.all.length c, .slice none 0 0, [], r.bn⟩ :=
      FilAt.safe0 (by have := f2.n; omega) (by rw [hg2, VH.get_set_same]) (hb.own.p.fr f2 (fun x hx hxi => by simp at hxi; subst hxi; have := hb.ids _ hx; have := (k.fil r (by simp)).lt; omega))
    have hfn : nm = r.f.nm := by rw [hrf]; exact (findF_some hfd).2.symm
    have hids := hb.ids
    have hgn := hb.fr.n
    have hnd : (fpF ⟨⟨nm, f.all, []⟩, r.it, .slice p f.all.length c, .slice none 0 0, [], r.bn⟩).Nodup := by
      have hlt := (k.fil r (by simp)).lt
      cases p with
      | none => simp [fpF, idOf]
      | some p =>
        have := hids p.block (by cases p; simp [idOf])
        obtain ⟨q, o, z⟩ := p
        simp [fpF, idOf] at this ⊢
        omega
    have hfp : ∀ x ∈ fpF ⟨⟨nm, f.all, []⟩, r.it, .slice p f.all.length c, .slice none 0 0, [], r.bn⟩, x ∈ fpF r ∨ h.n ≤ x := by
      intro x hx
      simp only [fpF, List.mem_cons, List.mem_append] at hx ⊢
      rcases hx with hx | hx | hx
      · exact .inl (.inl hx)
      · exact .inr (hids x hx)
      · simp [idOf] at hx
    have f02 : Fr h g2 (fpF r) := (hb.fr.sub (by simp)).trans (f2.sub (by simp [fpF]))
    have k2 := k.one ok.ok.ord.uni f02 T2 hfn rfl rfl hnd hfp (by simp [rdF])
    have k3 := k2.upd (S.sy + 1)
    have := k3.dk1 (h := h) (r := r) ((f02.sub (fun x hx => fp_in (by simp) x hx)).trans (Fr.set _ _ (by simp [fpS]))) hfp (by simp [rdF])
    simpa using this
  | none =>
    have hm := k.getN ok.ok.ord.uni hfd
    have hs : synD S nm = (5, S) := by simp [synD, hfd]
    simp (disch := first|omega|(simp only [np,ns];try omega)) []
    refine (find_none k.rec_ hj keys_rs hm).mono ?_
    rintro u g ⟨rfl, hg⟩
    rw [hg]
    simp (disch := first|omega|(simp only [np,ns];try omega)) []
    refine (told_new G).mono ?_
    rintro u g ⟨rfl, hg⟩
    rw [hg]
    simp (disch := first|omega|(simp only [np,ns];try omega)) [r_disk_Disk_Sync, hs]
    exact DkP.same K0 (Fr_push (Fr.refl _ _))

/- disk, part K: Cut, Remove. -/

/-- a file's bytes are others now, all of them safe. -/
theorem Rep.reset {h g1 g2 : VH} {i j : Nat} {a b : List Rf} {r : Rf} {S : Ds} {v : Value} {l : List UInt8} (k : Rep h i j (a ++ r :: b) S) (hu : Uni S.fs) (hf : Fr h g1 []) (hg2 : g2 = g1.set r.it (.cells [v, .slice none 0 0] true 1)) (ho : OwnP g1 1 v (u8s l) l.length) (hid : ∀ x ∈ idOf v, h.n ≤ x) (hnd : (idOf v).Nodup) :
    Rep g2 i j (a ++ ⟨⟨r.f.nm, l, []⟩, r.it, v, .slice none 0 0, [], r.bn⟩ :: b) { S with fs := setF ⟨r.f.nm, l, []⟩ S.fs } ∧ DkP h i (fpS i j (a ++ r :: b)) (rdS (a ++ r :: b)) { S with fs := setF ⟨r.f.nm, l, []⟩ S.fs } g2 := by
  have f2 : Fr g1 g2 [r.it] := by rw [hg2]; exact Fr.set _ _ (by simp)
  have hlt := (k.fil r (by simp)).lt
  have hn := hf.n
  have hn2 := f2.n
  have T2 : FilAt g2 ⟨⟨r.f.nm, l, []⟩, r.it, v, .slice none 0 0, [], r.bn⟩ :=
    FilAt.safe0 (by omega) (by rw [hg2, VH.get_set_same]) (ho.fr f2 (fun x hx hxi => by simp at hxi; subst hxi; have := hid _ hx; omega))
  have hnd' : (fpF ⟨⟨r.f.nm, l, []⟩, r.it, v, .slice none 0 0, [], r.bn⟩).Nodup := by
    simp only [fpF, List.nodup_cons, List.nodup_append, List.mem_append]
    refine ⟨fun h => ?_, hnd, by simp [idOf], by simp [idOf]⟩
    rcases h with h | h
    · have := hid _ h; omega
    · simp [idOf] at h
  have hfp : ∀ x ∈ fpF ⟨⟨r.f.nm, l, []⟩, r.it, v, .slice none 0 0, [], r.bn⟩, x ∈ fpF r ∨ h.n ≤ x := by
    intro x hx
    simp only [fpF, List.mem_cons, List.mem_append] at hx ⊢
    rcases hx with hx | hx | hx
    · exact .inl (.inl hx)
    · exact .inr (hid x hx)
    · simp [idOf] at hx
  have f02 : Fr h g2 (fpF r) := (hf.sub (by simp)).trans (f2.sub (by simp [fpF]))
  have k2 := k.one (r' := ⟨⟨r.f.nm, l, []⟩, r.it, v, .slice none 0 0, [], r.bn⟩) hu f02 T2 rfl rfl rfl hnd' hfp (by simp [rdF])
  exact ⟨k2, k2.dk1 (h := h) (r := r) (f02.sub (fun x hx => fp_in (by simp) x hx)) hfp (by simp [rdF])⟩
set_option maxHeartbeats 1000000 in
theorem cut_ok {h : VH} {i : Nat} {S : Ds} {X R : List Nat} {n : Nat} (G : GOK h) (K : DkAt h i S X R) (ok : OkN n S) {nm : List UInt8} {c : Int} :
    PCalls Tryz.prog f_disk_Disk_Cut [.pointer (some ⟨i, 0, none⟩), .string (strB nm), .int .i64 c] h (fun u h' => u = .int .i64 ((cutD S nm c).1 : Int) ∧ DkP h i X R (cutD S nm c).2 h') := by
  refine PCalls_of_pw st_disk_Disk_Cut (by simp [n_disk_Disk_Cut]) ?_
  rw [b_disk_Disk_Cut]
  unfold B_disk_Disk_Cut
  have K0 := K
  obtain ⟨j, rs, rfl, rfl, k⟩ := K
  obtain ⟨clk, hj, hlt⟩ := k.map_
  cases hfd : findF nm S.fs with
  | some f =>
    obtain ⟨a, r, b, hrs, hrf, hm⟩ := k.getS ok.ok.ord.uni hfd
    have T := (k.fil r (by simp [hrs])).r
    have o := ok.ok.find hfd
    have hfn := (findF_some hfd).2
    simp (disch := first|omega|(simp only [np,ns];try omega)) []
    refine (find_some k.rec_ hj keys_rs hm).mono ?_
    rintro u g ⟨rfl, hg⟩
    rw [hg]
    rw [← hrf] at o
    have osz := o.sz
    by_cases hc0 : c < 0
    · have hs : cutD S nm c = (1, S) := by simp [cutD, hfd, hc0]
      simp (disch := first|omega|(simp only [np,ns];try omega)) [r_disk_Disk_Cut, hc0, hs]
      exact DkP.same K0 (Fr.refl _ _)
    obtain ⟨C, rfl⟩ : ∃ C : Nat, c = (C : Int) := ⟨c.toNat, by omega⟩
    simp (disch := first|omega|(simp only [np,ns];try omega)) [hc0]
    refine (size_ok T o).mono ?_
    rintro u g' ⟨rfl, hg'⟩
    rw [hg']
    by_cases hcl : f.all.length < C
    · have hclI : ((r.f.all.length : Nat) : Int) < (C : Int) := by rw [hrf]; omega
      have hcl' : r.f.all.length < C := by rw [hrf]; omega
      have hs : cutD S nm (C : Int) = (1, S) := by simp [cutD, hfd, hcl]
      simp (disch := first|omega|(simp only [np,ns];try omega)) [r_disk_Disk_Cut, hclI, hcl', hs]
      exact DkP.same K0 (Fr.refl _ _)
    have hclI : ¬ ((r.f.all.length : Nat) : Int) < (C : Int) := by rw [hrf]; omega
    have hcl' : ¬ r.f.all.length < C := by rw [hrf]; omega
    simp (disch := first|omega|(simp only [np,ns];try omega)) [hclI, hcl']
    refine (all_ok T o).mono ?_
    rintro u g1 hb
    rw [hrf] at hb
    subst hrs
    have T1 := (k.fil r (by simp)).fr hb.fr (fun _ _ => by simp) (fun _ _ => by simp)
    have hr1 := T1.rec_
    obtain ⟨sa, sc, hsv⟩ := T1.safe.shape
    obtain ⟨ma, mc, hmv⟩ := T1.more.shape
    rw [hsv, hmv] at hr1
    have hs : cutD S nm (C : Int) = (0, { S with fs := setF ⟨nm, f.all.take C, []⟩ S.fs }) := by simp [cutD, hfd, hcl]
    have hnm : r.f.nm = nm := by rw [hrf]; exact hfn
    rcases hb.own with ⟨rfl, h1, h2⟩ | ⟨q, o', c', ds, hq, hc, rfl, hgq, hd, hl, hol⟩
    · obtain rfl : C = 0 := by omega
      obtain ⟨g2, hg2⟩ : ∃ g2, g2 = g1.set r.it (.cells [.slice none 0 0, .slice none 0 0] true 1) := ⟨_, rfl⟩
      have hs' : cutD S nm 0 = (0, { S with fs := setF ⟨nm, f.all.take 0, []⟩ S.fs }) := hs
      simp (disch := first|omega|(simp only [np,ns];try omega)) [r_disk_Disk_Cut, hr1, s2_0s, s2_1s, ← hg2, hs']
      have := (k.reset (l := f.all.take 0) ok.ok.ord.uni hb.fr hg2 (by simpa [u8s] using OwnP.nil g1 1) (by simp [idOf]) (by simp [idOf])).2
      rw [hnm] at this
      exact this
    · obtain ⟨g2, hg2⟩ : ∃ g2, g2 = g1.set r.it (.cells [.slice (some ⟨q, o', none⟩) C C, .slice none 0 0] true 1) := ⟨_, rfl⟩
      have hez : eszObj (.cells ds true 1) 1 = true := rfl
      have hCc : C ≤ c' := by omega
      simp (disch := first|omega|(simp only [np,ns];try omega)) [r_disk_Disk_Cut, hgq, hez, hr1, s2_0s, s2_1s, ← hg2, hs]
      have hids := hb.ids
      have hdl : ds.length = o' + f.all.length := by
        have := congrArg List.length hd
        simp at this
        omega
      have hL : (f.all.take C).length = C := by rw [List.length_take]; omega
      have := (k.reset (l := f.all.take C) (v := .slice (some ⟨q, o', none⟩) C C) ok.ok.ord.uni hb.fr hg2 (.inr ⟨q, o', C, ds, hq, by omega, by rw [hL], hgq, by rw [hL, hd, Nat.mul_one]; simp [u8s, List.map_take], by rw [hL, Nat.mul_one]; omega⟩) (by simpa [idOf] using hids) (by simp [idOf])).2
      rw [hnm] at this
      exact this
  | none =>
    have hm := k.getN ok.ok.ord.uni hfd
    have hs : cutD S nm c = (5, S) := by simp [cutD, hfd]
    simp (disch := first|omega|(simp only [np,ns];try omega)) []
    refine (find_none k.rec_ hj keys_rs hm).mono ?_
    rintro u g ⟨rfl, hg⟩
    rw [hg]
    simp (disch := first|omega|(simp only [np,ns];try omega)) []
    refine (told_new G).mono ?_
    rintro u g ⟨rfl, hg⟩
    rw [hg]
    simp (disch := first|omega|(simp only [np,ns];try omega)) [r_disk_Disk_Cut, hs]
    exact DkP.same K0 (Fr_push (Fr.refl _ _))
theorem remove_ok {h : VH} {i : Nat} {S : Ds} {X R : List Nat} {n : Nat} (G : GOK h) (K : DkAt h i S X R) (ok : OkN n S) {nm : List UInt8} :
    PCalls Tryz.prog f_disk_Disk_Remove [.pointer (some ⟨i, 0, none⟩), .string (strB nm)] h (fun u h' => u = .int .i64 ((remD S nm).1 : Int) ∧ DkP h i X R (remD S nm).2 h') := by
  refine PCalls_of_pw st_disk_Disk_Remove (by simp [n_disk_Disk_Remove]) ?_
  rw [b_disk_Disk_Remove]
  unfold B_disk_Disk_Remove
  have K0 := K
  obtain ⟨j, rs, rfl, rfl, k⟩ := K
  obtain ⟨clk, hj, hlt⟩ := k.map_
  have hi := k.rec_
  have hfit : fitK .s (.string (strB nm)) = true := rfl
  cases hfd : findF nm S.fs with
  | some f =>
    obtain ⟨a, r, b, hrs, hrf, hm⟩ := k.getS ok.ok.ord.uni hfd
    have hfn := (findF_some hfd).2
    have hs : remD S nm = (0, { S with fs := delF nm S.fs }) := by simp [remD, hfd]
    simp (disch := first|omega|(simp only [np,ns];try omega)) []
    refine (find_some k.rec_ hj keys_rs hm).mono ?_
    rintro u g ⟨rfl, hg⟩
    rw [hg]
    subst hrs
    have hnm : r.f.nm = nm := by rw [hrf]; exact hfn
    have hnames := k.names ok.ok.ord.uni
    rw [hnm] at hnames
    have hdel := mdel_at (b := b) hnames.1 hnm
    have hkf : keysFit .s ((a ++ r :: b).map entF) = true := keys_rs
    obtain ⟨es, hes⟩ : ∃ es, es = (a ++ r :: b).map entF := ⟨_, rfl⟩
    rw [← hes] at hj hdel hkf
    obtain ⟨es2, hes2⟩ : ∃ es2, es2 = (a ++ b).map entF := ⟨_, rfl⟩
    rw [← hes2] at hdel
    obtain ⟨g2, hg2⟩ : ∃ g2, g2 = h.set j (.map es2 clk true) := ⟨_, rfl⟩
    simp (disch := first|omega|(simp only [np,ns];try omega)) [hi, l2_0, hj, hfit, hkf, hdel, ← hg2]
    refine told_nil.mono ?_
    rintro u g' ⟨rfl, hg'⟩
    rw [hg']
    simp (disch := first|omega|(simp only [np,ns];try omega)) [r_disk_Disk_Remove, hs]
    have f2 : Fr h g2 [j] := by rw [hg2]; exact Fr.set _ _ (by simp)
    have k2 := k.del ok.ok.ord.uni hlt f2 (by rw [hg2, VH.get_set_same, hes2])
    rw [hnm] at k2
    refine ⟨_, _, ⟨j, _, rfl, rfl, k2⟩, f2.sub (by simp [fpS]), fun x hx => .inl ?_, fun x hx => .inl ?_⟩
    · simp only [fpS, List.mem_cons, List.flatMap_append, List.flatMap_cons, List.mem_append] at hx ⊢
      rcases hx with hx | hx | hx | hx <;> simp [hx]
    · simp only [rdS, List.flatMap_append, List.flatMap_cons, List.mem_append] at hx ⊢
      rcases hx with hx | hx <;> simp [hx]
  | none =>
    have hm := k.getN ok.ok.ord.uni hfd
    have hs : remD S nm = (5, S) := by simp [remD, hfd]
    simp (disch := first|omega|(simp only [np,ns];try omega)) []
    refine (find_none k.rec_ hj keys_rs hm).mono ?_
    rintro u g ⟨rfl, hg⟩
    rw [hg]
    simp (disch := first|omega|(simp only [np,ns];try omega)) []
    refine (told_new G).mono ?_
    rintro u g ⟨rfl, hg⟩
    rw [hg]
    simp (disch := first|omega|(simp only [np,ns];try omega)) [r_disk_Disk_Remove, hs]
    exact DkP.same K0 (Fr_push (Fr.refl _ _))

/- disk, part L: Append. -/

theorem idOf_nodup (v : Value) : (idOf v).Nodup := by
  unfold idOf
  split <;> simp
theorem moreL_append : ∀ (n : Nat) (ws : List (List UInt8)) (vs : List Value) (w : List UInt8) (v : Value), vs.length = ws.length → moreL n (ws ++ [w]) (vs ++ [v]) = moreL n ws vs ++ [.int .i64 ((n + ws.flatten.length : Nat) : Int), v]
  | n, [], [], w, v, _ => by simp [moreL]
  | n, x :: ws, y :: vs, w, v, h => by
    simp only [List.cons_append, moreL]
    rw [moreL_append (n + x.length) ws vs w v (by simpa using h)]
    simp [Nat.add_assoc]
  | _, [], _ :: _, _, _, h => by simp at h
  | _, _ :: _, [], _, _, h => by simp at h
theorem setF_insF {x y : Fl} {fs : List Fl} (h : y.nm = x.nm) (hn : findF x.nm fs = none) : setF y (insF x fs) = insF y fs := by
  induction fs with
  | nil => simp [insF, setF, h]
  | cons z r ih =>
    simp only [findF] at hn
    split at hn
    · cases hn
    · rename_i hz
      simp only [insF, h]
      split
      · rename_i hl
        have : ¬ z.nm = y.nm := by rw [h]; exact hz
        simp only [setF, if_neg this, ih hn]
      · simp only [setF, if_pos h.symm]
/-- a write more. -/
theorem Rep.wrote {g g1 g2 g3 : VH} {i j : Nat} {a b : List Rf} {r : Rf} {S : Ds} {w mv' : Value} {bs : List UInt8} {n : Int} (k : Rep g i j (a ++ r :: b) S) (hu : Uni S.fs) (hb : Buf g g1 w bs) (hn : n = ((r.f.s.length + r.f.ws.flatten.length : Nat) : Int))
    (hm : OwnSl g2 2 mv' (moreL r.f.s.length r.f.ws r.wv ++ [.int .i64 n, w]) (r.f.ws.length + 1)) (f12 : Fr (g1.push (.cells [.int .i64 n, w] true 2)) g2 (idOf r.mv)) (hid : ∀ x ∈ idOf mv', x ∈ idOf r.mv ∨ (g1.push (.cells [.int .i64 n, w] true 2)).n ≤ x)
    (hg3 : g3 = g2.set r.it (.cells [r.sv, mv'] true 1)) : DkP g i (fpS i j (a ++ r :: b)) (rdS (a ++ r :: b)) { S with fs := setF ⟨r.f.nm, r.f.s, r.f.ws ++ [bs]⟩ S.fs } g3 := by
  have T := k.fil r (by simp)
  have hfnd := k.fnd (r := r) (by simp)
  have n1 := hb.fr.n
  have n2 := f12.n
  simp only [VH.n_push] at n2 hid
  have hlt := T.lt
  have f3 : Fr g2 g3 [r.it] := by rw [hg3]; exact Fr.set _ _ (by simp)
  have n3 := f3.n
  have F01 : Fr g (g1.push (.cells [.int .i64 n, w] true 2)) [] := Fr_push hb.fr
  have F02 : Fr g g2 (idOf r.mv) := (F01.sub (by simp)).trans f12
  have F03 : Fr g g3 (fpF r) := (F02.sub (fun x hx => by simp [fpF, hx])).trans (f3.sub (by simp [fpF]))
  have hmvlt := T.more.lt
  have hsvlt := T.safe.lt
  simp only [fpF, List.nodup_cons, List.nodup_append, List.mem_append, not_or] at hfnd
  obtain ⟨⟨d1, d2⟩, d3, d4, d5⟩ := hfnd
  have hrd := k.rd
  have hwid := hb.ids
  have hwlt := hb.own.lt
  have hitm : r.it ∉ idOf mv' := fun h => (hid _ h).elim d2 (fun h1 => by omega)
  have T3 : FilAt g3 ⟨⟨r.f.nm, r.f.s, r.f.ws ++ [bs]⟩, r.it, r.sv, mv', r.wv ++ [w], r.bn⟩ := by
    refine ⟨by show r.it < _; omega, by rw [hg3]; exact VH.get_set_same .., ?_, ?_, by simp [T.wl], fun q v x h1 h2 => ?_⟩
    · refine (T.safe.fr F02 (fun x hx hxm => d5 x hx x hxm rfl)).fr f3 (fun x hx hxi => by simp at hxi; subst hxi; exact d1 hx)
    · show OwnSl g3 2 mv' (moreL r.f.s.length (r.f.ws ++ [bs]) (r.wv ++ [w])) (r.f.ws ++ [bs]).length
      rw [moreL_append _ _ _ _ _ T.wl, ← hn, List.length_append, List.length_singleton]
      exact hm.fr f3 (fun x hx hxi => by simp at hxi; subst hxi; exact hitm hx)
    · simp only at h1 h2
      rw [List.getElem?_append] at h1 h2
      rw [T.wl] at h1
      split at h1
      · rename_i hq
        rw [if_pos hq] at h2
        have sq := T.wr q v x h1 h2
        exact (sq.fr F03 (fun y hy hyr => hrd y (rd_in (by simp) y (rdF_mem h1 y hy)) (fp_in (by simp) y hyr)))
      · rename_i hq
        rw [if_neg hq] at h2
        have hq0 : q - r.f.ws.length = 0 := by
          have := (List.getElem?_eq_some_iff.1 h2).1
          simp at this
          omega
        rw [hq0] at h1 h2
        simp at h1 h2
        subst h1
        subst h2
        have fx : Fr g1 g3 (fpF r) := ((Fr.push g1 (.cells [.int .i64 n, w] true 2) (fpF r)).trans (f12.sub (fun x hx => by simp [fpF, hx]))).trans (f3.sub (by simp [fpF]))
        exact hb.own.seq.fr fx (fun y hy hyr => by have := hwid y hy; have := T.lts y hyr; omega)
  have hfp : ∀ x ∈ fpF ⟨⟨r.f.nm, r.f.s, r.f.ws ++ [bs]⟩, r.it, r.sv, mv', r.wv ++ [w], r.bn⟩, x ∈ fpF r ∨ g.n ≤ x := by
    intro x hx
    simp only [fpF, List.mem_cons, List.mem_append] at hx ⊢
    rcases hx with hx | hx | hx
    · exact .inl (.inl hx)
    · exact .inl (.inr (.inl hx))
    · rcases hid x hx with h1 | h1
      · exact .inl (.inr (.inr h1))
      · exact .inr (by omega)
  have hnd : (fpF ⟨⟨r.f.nm, r.f.s, r.f.ws ++ [bs]⟩, r.it, r.sv, mv', r.wv ++ [w], r.bn⟩).Nodup := by
    simp only [fpF, List.nodup_cons, List.nodup_append, List.mem_append, not_or]
    refine ⟨⟨d1, hitm⟩, d3, idOf_nodup _, fun x hx y hy e => ?_⟩
    subst e
    rcases hid x hy with h1 | h1
    · exact d5 x hx x h1 rfl
    · have := hsvlt x hx; omega
  have hrd' : ∀ x ∈ rdF ⟨⟨r.f.nm, r.f.s, r.f.ws ++ [bs]⟩, r.it, r.sv, mv', r.wv ++ [w], r.bn⟩, x ∈ rdF r ∨ (g.n ≤ x ∧ x ∉ fpF ⟨⟨r.f.nm, r.f.s, r.f.ws ++ [bs]⟩, r.it, r.sv, mv', r.wv ++ [w], r.bn⟩) := by
    intro x hx
    simp only [rdF, List.flatMap_append, List.flatMap_cons, List.flatMap_nil, List.append_nil, List.mem_append] at hx
    rcases hx with hx | hx
    · exact .inl hx
    · refine .inr ⟨hwid x hx, ?_⟩
      have h1 := hwid x hx
      have h2 := hwlt x hx
      simp only [fpF, List.mem_cons, List.mem_append, not_or]
      refine ⟨by omega, fun h => by have := hsvlt x h; omega, fun h => ?_⟩
      rcases hid x h with h3 | h3
      · have := hmvlt x h3; omega
      · omega
  have k3 := k.one (r' := ⟨⟨r.f.nm, r.f.s, r.f.ws ++ [bs]⟩, r.it, r.sv, mv', r.wv ++ [w], r.bn⟩) hu F03 T3 rfl rfl rfl hnd hfp hrd'
  exact k3.dk1 (r := r) (F03.sub (fun x hx => fp_in (by simp) x hx)) hfp (fun x hx => (hrd' x hx).imp id (fun h => h.1))

/- disk, part La: Append, walked. -/

theorem DkP.trans {a b c : VH} {i : Nat} {S : Ds} {X R Y Q : List Nat} (k : Mv a b X R Y Q) (l : DkP b i Y Q S c) : DkP a i X R S c := by
  obtain ⟨Z, T, h1, h2⟩ := l
  exact ⟨Z, T, h1, k.trans h2⟩
set_option maxHeartbeats 4000000 in
theorem append_ok {h : VH} {i : Nat} {S : Ds} {X R : List Nat} {n : Nat} (K : DkAt h i S X R) (ok : OkN n S) {nm bs : List UInt8} {v : Value} (hnm : nm.length ≤ 140737488355328) (hv : IsBytes h v bs) (hvx : ∀ x ∈ idOf v, x ∉ X) (hbl : bs.length ≤ 1099511627000) :
    PCalls Tryz.prog f_disk_Disk_Append [.pointer (some ⟨i, 0, none⟩), .string (strB nm), v] h (fun u h' => u = .int .i64 ((appD S nm bs).1 : Int) ∧ DkP h i X R (appD S nm bs).2 h') := by
  refine PCalls_of_pw st_disk_Disk_Append (by simp [n_disk_Disk_Append]) ?_
  rw [b_disk_Disk_Append]
  unfold B_disk_Disk_Append
  have K0 := K
  obtain ⟨j, rs, rfl, rfl, k⟩ := K
  obtain ⟨clk, hj, hlt⟩ := k.map_
  have hi := k.rec_
  obtain ⟨va, vc, rfl⟩ := hv.shape
  obtain ⟨L, hL⟩ : ∃ L, L = bs.length := ⟨_, rfl⟩
  rw [← hL] at hv hvx
  rw [← hL]
  generalize hT : PC.seq (PC.seq (PC.ops (gM 55 2 :: _)) _) _ = T
  have tail : ∀ (s : Slots) (g : VH) (a b : List Rf) (r : Rf) (S1 : Ds) (N : Nat), Rep g i j (a ++ r :: b) S1 → OrdF S1.fs → Mv h g (fpS i j rs) (rdS rs) (fpS i j (a ++ r :: b)) (rdS (a ++ r :: b)) → IsBytes g (.slice va L vc) bs → N = r.f.s.length + r.f.ws.flatten.length → N + L ≤ 1048576 → r.f.ws.length ≤ 1048576 →
      s 2 = .slice va L vc → s 7 = .pointer (some ⟨r.it, 0, none⟩) → s 9 = .int .i64 (N : Int) → (appD S nm bs).1 = 0 → (bs = [] → (appD S nm bs).2 = S1) → (bs ≠ [] → (appD S nm bs).2 = { S1 with fs := setF ⟨r.f.nm, r.f.s, r.f.ws ++ [bs]⟩ S1.fs }) →
      pw Tryz.prog T s g (F_disk_Disk_Append.ret fun u h' => u = .int .i64 ((appD S nm bs).1 : Int) ∧ DkP h i (fpS i j rs) (rdS rs) (appD S nm bs).2 h') := by
    intro s g a b r S1 N k1 ho hmv hv1 hN hsz hwl e2 e7 e9 hs0 hs1 hs2
    rw [← hT]
    by_cases hb0 : bs = []
    · have hL0 : L = 0 := by rw [hL, hb0]; rfl
      have hn1 : ¬ (0 : Int) < (L : Int) := by omega
      have hn2 : ¬ 0 < L := by omega
      simp (disch := first|omega|(simp only [np,ns];try omega)) [r_disk_Disk_Append, e2, hn1, hn2, hs0, hs1 hb0]
      exact ⟨_, _, ⟨j, _, rfl, rfl, k1⟩, hmv⟩
    · have hL0 : 0 < L := by rw [hL]; exact List.length_pos_iff.2 hb0
      have hn1 : (0 : Int) < (L : Int) := by omega
      have T1 := k1.fil r (by simp)
      have hr := T1.rec_
      obtain ⟨sa, sc, hsv⟩ := T1.safe.shape
      obtain ⟨ma, mc, hmv'⟩ := T1.more.shape
      obtain ⟨w, g1, hap, hb⟩ := (Buf.nil g).append bs (by simp; omega)
      rw [List.nil_append] at hb
      rw [← hL] at hap
      have hsrc := hv1.src
      have hr1 : g1.get r.it = .cells [r.sv, r.mv] true 1 := (hb.old T1.lt).trans hr
      obtain ⟨pw_, cw_, hw⟩ := hb.shape
      rw [← hL] at hw
      have hfi : fillC [.int .i64 0, .slice none 0 0] [(0, 1, .int .i64 (N : Int)), (1, 1, .slice pw_ L cw_)] = some [.int .i64 (N : Int), .slice pw_ L cw_] := rfl
      have hfi2 : fillC [.int .i64 0, .slice none 0 0] [(0, 2, .agg #[.int .i64 (N : Int), .slice pw_ L cw_])] = some [.int .i64 (N : Int), .slice pw_ L cw_] := rfl
      have hone : ([.int .i64 (N : Int), .slice pw_ L cw_] : List Value).all Value.oneCell' = true := rfl
      obtain ⟨g1', hg1'⟩ : ∃ g1', g1' = g1.push (.cells [.int .i64 (N : Int), .slice pw_ L cw_] true 2) := ⟨_, rfl⟩
      have f1' : Fr g g1' [] := by rw [hg1']; exact Fr_push hb.fr
      have hr1' : g1'.get r.it = .cells [r.sv, r.mv] true 1 := (f1'.get _ T1.lt (by simp)).trans hr
      have hrow : srcCells g1' 2 (.slice (some ⟨g1.n, 0, none⟩) 1 1) = some [.int .i64 (N : Int), .slice pw_ L cw_] := by
        rw [srcCells_at, hg1', VH.get_push_new]; rfl
      obtain ⟨mv', g2, hap2, ho2, f2, hid2⟩ := (T1.more.fr f1' (fun _ _ => by simp)).append (bytes := 32) (ys := [.int .i64 (N : Int), .slice pw_ L cw_]) (k := 1) rfl (by omega)
      obtain ⟨pm_, cm_, hmvs⟩ := ho2.shapeN
      have n1' := f1'.n
      have hitm : r.it ∉ idOf r.mv := fun hx => by
        have := k1.fnd (r := r) (by simp)
        simp only [fpF, List.nodup_cons, List.mem_append, not_or] at this
        exact this.1.2 hx
      have hr2 : g2.get r.it = .cells [r.sv, r.mv] true 1 := (f2.get _ (by have := T1.lt; omega) hitm).trans hr1'
      rw [hsv, hmv'] at hr hr1 hr1' hr2
      rw [hmv'] at hap2
      rw [hmvs] at hap2
      rw [hw] at hap
      have hpn : g1'.n = g1.n + 1 := by rw [hg1']; rfl
      simp (disch := first|omega|(simp only [np,ns];try omega)) [r_disk_Disk_Append, e2, e7, e9, hn1, hL0, hr, l2_1, hsrc, hap, Option.bind_some, hr1, hfi, hfi2, hone, ← hg1', hr1', hrow, hap2, hr2, s2_1s, hs0, hs2 hb0]
      refine DkP.trans hmv ?_
      rw [← hsv, ← hmvs]
      exact k1.wrote (w := w) (n := (N : Int)) ho.uni hb (by rw [hN]) (by rw [hw]; exact ho2) (by rw [hw, ← hg1']; exact f2) (by rw [hw, ← hg1']; exact hid2) rfl
  clear hT
  by_cases hname : nameS nm = true
  case neg =>
    have hname' : nameS nm = false := by simpa using hname
    have hs : appD S nm bs = (40, S) := by simp [appD, hname']
    simp (disch := first|omega|(simp only [np,ns];try omega)) []
    refine (name_ok hnm).mono ?_
    rintro u g ⟨rfl, hg⟩
    rw [hg]
    simp (disch := first|omega|(simp only [np,ns];try omega)) [r_disk_Disk_Append, hname', hs]
    exact DkP.same K0 (Fr.refl _ _)
  simp (disch := first|omega|(simp only [np,ns];try omega)) []
  refine (name_ok hnm).mono ?_
  rintro u g ⟨rfl, hg⟩
  rw [hg]
  simp (disch := first|omega|(simp only [np,ns];try omega)) [hname]
  cases hfd : findF nm S.fs with
  | some f =>
    obtain ⟨a, r, b, hrs, hrf, hm⟩ := k.getS ok.ok.ord.uni hfd
    have o := ok.ok.find hfd
    have hfn := (findF_some hfd).2
    subst hrs
    refine (find_some hi hj keys_rs hm).mono ?_
    rintro u g ⟨rfl, hg⟩
    rw [hg]
    simp (disch := first|omega|(simp only [np,ns];try omega)) []
    rw [← hrf] at o
    refine (size_ok (k.fil r (by simp)).r o).mono ?_
    rintro u g' ⟨rfl, hg'⟩
    rw [hg']
    obtain ⟨N, hN⟩ : ∃ N, N = r.f.all.length := ⟨_, rfl⟩
    have osz := o.sz
    have owl := o.wl
    rw [← hN] at osz owl
    rw [← hN]
    have hN2 : N = r.f.s.length + r.f.ws.flatten.length := by rw [hN]; simp [Fl.all]
    have hsub : IntKind.i64.wrap (1048576 - (N : Int)) = 1048576 - (N : Int) := i64_small (by omega) (by omega)
    by_cases hbig : 1048576 < N + L
    · have hs : appD S nm bs = (4, S) := by
        unfold appD
        rw [hfd]
        simp only [hname, sizeF, ← hrf, ← hN, ← hL]
        simp [hbig]
      have hI : 1048576 - (N : Int) < (L : Int) := by omega
      simp (disch := first|omega|(simp only [np,ns];try omega)) [r_disk_Disk_Append, hsub, hI, hs]
      exact DkP.same K0 (Fr.refl _ _)
    · have hI : ¬ 1048576 - (N : Int) < (L : Int) := by omega
      have hs : appD S nm bs = (0, if bs = [] then S else { S with fs := setF { f with ws := f.ws ++ [bs] } S.fs }) := by
        unfold appD
        rw [hfd]
        simp only [hname, sizeF, ← hrf, ← hN, ← hL]
        simp [hbig]
      simp (disch := first|omega|(simp only [np,ns];try omega)) [hsub, hI]
      refine tail _ _ a b r S N k ok.ok.ord (Mv.refl _ _ _) hv hN2 (by omega) (by omega) (by simp [upd_apply, s0_apply]) (by simp [upd_apply]) (by simp [upd_apply]) (by rw [hs]) (fun hb => by rw [hs]; simp [hb]) (fun hb => by rw [hs, hrf]; simp [hb])
  | none =>
    have hm := k.getN ok.ok.ord.uni hfd
    refine (find_none hi hj keys_rs hm).mono ?_
    rintro u g ⟨rfl, hg⟩
    obtain ⟨g0, hg0⟩ : ∃ g0, g0 = h.push (.cells [.string (strB nm), .int .i64 5] true 1) := ⟨_, rfl⟩
    rw [hg, ← hg0]
    have F0 : Fr h g0 [] := by rw [hg0]; exact Fr_push (Fr.refl _ _)
    have k0 := k.fr0 F0
    have hi0 := k0.rec_
    have hj0 : g0.get j = .map (rs.map entF) clk true := (F0.get _ k.ltj (by simp)).trans hj
    have n0 := F0.n
    have hkf : keysFit .s (rs.map entF) = true := keys_rs
    have hfit : fitK .s (.string (strB nm)) = true := rfl
    have hsub : IntKind.i64.wrap (1048576 - (0 : Int)) = 1048576 := by decide
    obtain ⟨es, hes⟩ : ∃ es, es = rs.map entF := ⟨_, rfl⟩
    rw [← hes] at hj0 hkf hm
    have hel : es.length = S.fs.length := by
      have := k.perm.length_eq
      rw [hes]; simpa using this
    by_cases hbig : 1048576 < L
    · have hs : appD S nm bs = (4, S) := by
        unfold appD
        rw [hfd]
        simp [hname, sizeF, ← hL, hbig]
      have hI : (1048576 : Int) < (L : Int) := by omega
      simp (disch := first|omega|(simp only [np,ns];try omega)) [r_disk_Disk_Append, hsub, hI, hbig, hs]
      exact DkP.same K0 F0
    have hI : ¬ (1048576 : Int) < (L : Int) := by omega
    by_cases hfull : 64 ≤ S.fs.length
    · have hs : appD S nm bs = (7, S) := by
        unfold appD
        rw [hfd]
        simp [hname, sizeF, ← hL, hbig, hfull]
      have hF : (64 : Int) ≤ (es.length : Int) := by omega
      have hF' : 64 ≤ es.length := by omega
      simp (disch := first|omega|(simp only [np,ns];try omega)) [r_disk_Disk_Append, hsub, hI, hbig, hi0, l2_0, hj0, hF, hF', hs]
      exact DkP.same K0 F0
    have hF : ¬ (64 : Int) ≤ (es.length : Int) := by omega
    have hF' : ¬ 64 ≤ es.length := by omega
    have hs : appD S nm bs = (0, { S with fs := insF ⟨nm, [], if bs = [] then [] else [bs]⟩ S.fs }) := by
      unfold appD
      rw [hfd]
      simp [hname, sizeF, ← hL, hbig, hfull]
    obtain ⟨g1, hg1⟩ : ∃ g1, g1 = g0.push (.cells [.slice none 0 0, .slice none 0 0] true 1) := ⟨_, rfl⟩
    have F1 : Fr g0 g1 [] := by rw [hg1]; exact Fr_push (Fr.refl _ _)
    have n1 : g1.n = g0.n + 1 := by rw [hg1]; rfl
    have hi1 := (k0.fr0 F1).rec_
    have hj1 : g1.get j = .map es clk true := (F1.get _ k0.ltj (by simp)).trans hj0
    obtain ⟨hput, hhas⟩ := mput_new (v := .pointer (some ⟨g0.n, 0, none⟩)) (c := clk) hm
    have htick : mtick (.string (strB nm)) clk es = clk + 1 := by simp [mtick, hhas]
    obtain ⟨r, hr⟩ : ∃ r : Rf, r = ⟨⟨nm, [], []⟩, g0.n, .slice none 0 0, .slice none 0 0, [], clk⟩ := ⟨_, rfl⟩
    have hes2 : es ++ [(.string (strB nm), .pointer (some ⟨g0.n, 0, none⟩), clk)] = (rs ++ [r]).map entF := by rw [List.map_append, ← hes, hr]; rfl
    obtain ⟨es2, hes2'⟩ : ∃ es2, es2 = (rs ++ [r]).map entF := ⟨_, rfl⟩
    rw [hes2, ← hes2'] at hput
    obtain ⟨g2, hg2⟩ : ∃ g2, g2 = g1.set j (.map es2 (clk + 1) true) := ⟨_, rfl⟩
    have hfi : fillC [.slice none 0 0, .slice none 0 0] [] = some [.slice none 0 0, .slice none 0 0] := rfl
    have hone : ([.slice none 0 0, .slice none 0 0] : List Value).all Value.oneCell' = true := rfl
    simp (disch := first|omega|(simp only [np,ns];try omega)) [hsub, hI, hbig, hi0, l2_0, hj0, hF, hF', hfi, hone, ← hg1, hi1, hj1, hfit, hkf, hput, htick, ← hg2]
    have F2 : Fr g1 g2 [j] := by rw [hg2]; exact Fr.set _ _ (by simp)
    have hit : g2.get g0.n = .cells [.slice none 0 0, .slice none 0 0] true 1 := (F2.get _ (by omega) (by simp; have := k0.ltj; omega)).trans (by rw [hg1, VH.get_push_new])
    have n2 := F2.n
    have T : FilAt g2 r := by
      rw [hr]
      exact ⟨by show g0.n < _; omega, hit, OwnP.nil _ _, OwnSl.nil _ _, rfl, fun q v w h => by simp at h⟩
    have hfr : fpF r = [g0.n] := by rw [hr]; rfl
    have hrr : rdF r = [] := by rw [hr]; rfl
    have F12 : Fr g0 g2 [j] := (F1.sub (by simp)).trans F2
    have k2 := k0.add (clk := clk) (r := r) (by rw [hj0, hes]) hlt F12 (by rw [hg2, VH.get_set_same, hes2']) (by rw [hr]) T (by rw [hfr]; simp) (by rw [hfr]; simp) (by rw [hrr]; simp)
    have hrf : r.f = ⟨nm, [], []⟩ := by rw [hr]
    have hrit : r.it = g0.n := by rw [hr]
    refine tail _ _ rs [] r { S with fs := insF r.f S.fs } 0 k2 ?_ ?_ ?_ (by rw [hrf]; rfl) (by omega) (by rw [hrf]; simp) ?_ ?_ ?_ (by rw [hs]) (fun hb => by rw [hs, hrf]; simp [hb]) (fun hb => ?_)
    · exact insF_ord ok.ok.ord (by rw [hrf]; exact hfd)
    · refine ⟨((F0.sub (by simp)).trans F12).sub (by simp [fpS]), fun x hx => ?_, fun x hx => ?_⟩
      · simp only [fpS, List.mem_cons, List.flatMap_append, List.flatMap_cons, List.flatMap_nil, List.append_nil, List.mem_append, hfr] at hx ⊢
        rcases hx with hx | hx | hx | hx
        · simp [hx]
        · simp [hx]
        · exact .inl (.inr (.inr hx))
        · simp at hx; subst hx; exact .inr n0
      · simp only [rdS, List.flatMap_append, List.flatMap_cons, List.flatMap_nil, List.append_nil, List.mem_append, hrr] at hx ⊢
        first | exact .inl hx | exact .inl (hx.elim id (fun h => absurd h (by simp)))
    · refine (hv.fr F0 (fun _ _ => by simp)).fr F12 (fun x hx hxj => ?_)
      simp at hxj
      subst hxj
      exact hvx _ hx (by simp [fpS])
    · simp [upd_apply, s0_apply]
    · simp [upd_apply, hrit]
    · simp [upd_apply]
    · rw [hs, hrf]
      simp only [hb, if_false, List.nil_append]
      rw [setF_insF (x := ⟨nm, [], []⟩) (y := ⟨nm, [], [bs]⟩) rfl hfd]

/- disk, part M: Rename. -/

theorem mput_at {nm : List UInt8} {v : Value} {c : Nat} {r : Rf} : ∀ {a b : List Rf}, (∀ x ∈ a, x.f.nm ≠ nm) → r.f.nm = nm → mput (.string (strB nm)) v c ((a ++ r :: b).map entF) = a.map entF ++ (.string (strB nm), v, r.bn) :: b.map entF ∧ mhas (.string (strB nm)) ((a ++ r :: b).map entF) = true
  | [], b, _, hr => by simp [mput, mhas, entF, keq_str, hr]
  | x :: a, b, ha, hr => by
    have hx : ¬ nm = x.f.nm := fun e => ha x (List.mem_cons_self ..) e.symm
    obtain ⟨h1, h2⟩ := mput_at (v := v) (c := c) (a := a) (b := b) (fun y hy => ha y (List.mem_cons_of_mem _ hy)) hr
    simp only [List.cons_append, List.map_cons, mput, mhas]
    rw [if_neg (by simpa [entF, keq_str] using hx), if_neg (by simpa [entF, keq_str] using hx), h1]
    exact ⟨rfl, h2⟩
/-- a file by another name, in another place of the map; perhaps one less. -/
theorem Rep.turn {h g' : VH} {i j : Nat} {rs rs' ds cs : List Rf} {r r' : Rf} {S S' : Ds} {clk' : Nat} (k : Rep h i j rs S) (hp : rs.Perm (r :: ds)) (hsub : cs.Sublist ds) (hp' : rs'.Perm (r' :: cs)) (e1 : r'.it = r.it) (e2 : r'.sv = r.sv) (e3 : r'.mv = r.mv) (e4 : r'.wv = r.wv) (e5 : r'.f.s = r.f.s) (e6 : r'.f.ws = r.f.ws)
    (hf : Fr h g' [j]) (hj : g'.get j = .map (rs'.map entF) clk' true) (hlt : ∀ x ∈ rs', x.bn < clk') (hbnd : (rs'.map fun r => (entF r).2.2).Nodup) (hperm : (rs'.map (·.f)).Perm S'.fs) (hsy : S'.sy = S.sy) :
    Rep g' i j rs' S' ∧ DkP h i (fpS i j rs) (rdS rs) S' g' := by
  have hn := hf.n
  have hij := k.nij
  have hfr : fpF r' = fpF r := by simp only [fpF, e1, e2, e3]
  have hrr : rdF r' = rdF r := by simp only [rdF, e4]
  have hin : ∀ x ∈ cs, x ∈ rs := fun x hx => hp.mem_iff.2 (List.mem_cons_of_mem _ (hsub.mem hx))
  have hrin : r ∈ rs := hp.mem_iff.2 (List.mem_cons_self ..)
  have hfp : ∀ x ∈ fpS i j rs', x ∈ fpS i j rs := by
    intro x hx
    simp only [fpS, List.mem_cons, List.mem_flatMap] at hx ⊢
    rcases hx with hx | hx | ⟨y, hy, hx⟩
    · exact .inl hx
    · exact .inr (.inl hx)
    · rcases List.mem_cons.1 (hp'.mem_iff.1 hy) with rfl | hy
      · exact .inr (.inr ⟨r, hrin, hfr ▸ hx⟩)
      · exact .inr (.inr ⟨y, hin y hy, hx⟩)
  have hrd : ∀ x ∈ rdS rs', x ∈ rdS rs := by
    intro x hx
    obtain ⟨y, hy, hx⟩ := List.mem_flatMap.1 hx
    rcases List.mem_cons.1 (hp'.mem_iff.1 hy) with rfl | hy
    · exact rd_in hrin x (hrr ▸ hx)
    · exact rd_in (hin y hy) x hx
  have keep : ∀ x ∈ rs, FilAt g' x := fun x hx => (k.fil x hx).fr hf (fun y hy hyj => by simp at hyj; subst hyj; exact k.nj x hx hy) (fun y hy hyj => by simp at hyj; subst hyj; exact k.rd _ (rd_in hx _ hy) (by simp [fpS]))
  have K : Rep g' i j rs' S' := by
    refine ⟨by have := k.lti; omega, by have := k.ltj; omega, ?_, fun x hx hxf => k.rd x (hrd x hx) (hfp x hxf), ?_, ⟨clk', hj, hlt⟩, hbnd, fun x hx => ?_, hperm⟩
    · have h1 := k.nd
      have h2 : (fpS i j rs).Perm (fpS i j (r :: ds)) := ((hp.flatMap_right fpF).cons j).cons i
      have h3 : (fpS i j rs').Perm (fpS i j (r' :: cs)) := ((hp'.flatMap_right fpF).cons j).cons i
      have h4 : (fpS i j (r' :: cs)).Sublist (fpS i j (r :: ds)) := by
        have h5 : ((r' :: cs).flatMap fpF).Sublist ((r :: ds).flatMap fpF) := by
          rw [List.flatMap_cons, List.flatMap_cons, hfr]
          refine (List.Sublist.refl _).append ?_
          clear hin keep h2 h3 hp hp'
          induction hsub with
          | slnil => exact List.Sublist.slnil
          | cons x _ ih => rw [List.flatMap_cons]; exact ih.trans (List.sublist_append_right ..)
          | cons_cons x _ ih => rw [List.flatMap_cons, List.flatMap_cons]; exact (List.Sublist.refl _).append ih
        exact (h5.cons_cons j).cons_cons i
      exact h3.nodup_iff.2 ((h2.nodup_iff.1 h1).sublist h4)
    · rw [hf.get _ k.lti (by simpa using hij), hsy]; exact k.rec_
    · rcases List.mem_cons.1 (hp'.mem_iff.1 hx) with rfl | hx
      · obtain ⟨a1, a2, a3, a4, a5, a6⟩ := keep r hrin
        exact ⟨by rw [e1]; exact a1, by rw [e1, e2, e3]; exact a2, by rw [e2, e5]; exact a3, by rw [e3, e5, e6, e4]; exact a4, by rw [e4, e6]; exact a5, by rw [e4, e6]; exact a6⟩
      · exact keep x (hin x hx)
  exact ⟨K, _, _, ⟨j, _, rfl, rfl, K⟩, hf.sub (by simp [fpS]), fun x hx => .inl (hfp x hx), fun x hx => .inl (hrd x hx)⟩
theorem delF_perm {nm : List UInt8} {fs : List Fl} {f : Fl} (h : findF nm fs = some f) : fs.Perm (f :: delF nm fs) := by
  obtain ⟨A, B, h1, _, _, _, h5⟩ := findF_at h
  rw [h5, h1]
  exact List.perm_middle
set_option maxHeartbeats 2000000 in
theorem rename_ok {h : VH} {i : Nat} {S : Ds} {X R : List Nat} {n : Nat} (G : GOK h) (K : DkAt h i S X R) (ok : OkN n S) {nm to : List UInt8} (hto : to.length ≤ 140737488355328) :
    PCalls Tryz.prog f_disk_Disk_Rename [.pointer (some ⟨i, 0, none⟩), .string (strB nm), .string (strB to)] h (fun u h' => u = .int .i64 ((renD S nm to).1 : Int) ∧ DkP h i X R (renD S nm to).2 h') := by
  refine PCalls_of_pw st_disk_Disk_Rename (by simp [n_disk_Disk_Rename]) ?_
  rw [b_disk_Disk_Rename]
  unfold B_disk_Disk_Rename
  have K0 := K
  obtain ⟨j, rs, rfl, rfl, k⟩ := K
  obtain ⟨clk, hj, hlt⟩ := k.map_
  have hi := k.rec_
  have hfit : fitK .s (.string (strB nm)) = true := rfl
  have hfit2 : fitK .s (.string (strB to)) = true := rfl
  have hu := ok.ok.ord.uni
  cases hfd : findF nm S.fs with
  | none =>
    have hm := k.getN hu hfd
    have hs : renD S nm to = (5, S) := by simp [renD, hfd]
    simp (disch := first|omega|(simp only [np,ns];try omega)) []
    refine (find_none hi hj keys_rs hm).mono ?_
    rintro u g ⟨rfl, hg⟩
    rw [hg]
    simp (disch := first|omega|(simp only [np,ns];try omega)) []
    refine (told_new G).mono ?_
    rintro u g ⟨rfl, hg⟩
    rw [hg]
    simp (disch := first|omega|(simp only [np,ns];try omega)) [r_disk_Disk_Rename, hs]
    exact DkP.same K0 (Fr_push (Fr.refl _ _))
  | some f =>
    obtain ⟨a, r, b, hrs, hrf, hm⟩ := k.getS hu hfd
    have hfn := (findF_some hfd).2
    simp (disch := first|omega|(simp only [np,ns];try omega)) []
    refine (find_some hi hj keys_rs hm).mono ?_
    rintro u g ⟨rfl, hg⟩
    rw [hg]
    simp (disch := first|omega|(simp only [np,ns];try omega)) []
    refine (name_ok hto).mono ?_
    rintro u g ⟨rfl, hg⟩
    rw [hg]
    by_cases hname : nameS to = true
    case neg =>
      have hname' : nameS to = false := by simpa using hname
      have hs : renD S nm to = (40, S) := by simp [renD, hfd, hname']
      simp (disch := first|omega|(simp only [np,ns];try omega)) [r_disk_Disk_Rename, hname', hs]
      exact DkP.same K0 (Fr.refl _ _)
    subst hrs
    have hnm : r.f.nm = nm := by rw [hrf]; exact hfn
    have hnames := k.names hu
    rw [hnm] at hnames
    have hdel := mdel_at (b := b) hnames.1 hnm
    have hkf : keysFit .s ((a ++ r :: b).map entF) = true := keys_rs
    have hkf2 : keysFit .s ((a ++ b).map entF) = true := keys_rs
    have hperm : (a ++ r :: b).Perm (r :: (a ++ b)) := List.perm_middle
    have hin : ∀ x ∈ a ++ b, x ∈ a ++ r :: b := fun x hx => hperm.mem_iff.2 (List.mem_cons_of_mem _ hx)
    have hpd : ((a ++ b).map (·.f)).Perm (delF nm S.fs) := by
      have h1 := (hperm.map (·.f)).symm.trans (k.perm.trans (delF_perm hfd))
      rw [List.map_cons, hrf] at h1
      exact h1.cons_inv
    have hbn : ((a ++ b).map fun x => (entF x).2.2).Nodup := by
      have := ((hperm.map fun x => (entF x).2.2).nodup_iff).1 k.bnd
      rw [List.map_cons, List.nodup_cons] at this
      exact this.2
    obtain ⟨es, hes⟩ : ∃ es, es = (a ++ r :: b).map entF := ⟨_, rfl⟩
    obtain ⟨es1, hes1⟩ : ∃ es1, es1 = (a ++ b).map entF := ⟨_, rfl⟩
    rw [← hes] at hj hdel hkf
    rw [← hes1] at hdel hkf2
    obtain ⟨g1, hg1⟩ : ∃ g1, g1 = h.set j (.map es1 clk true) := ⟨_, rfl⟩
    have hij := k.nij
    have F1 : Fr h g1 [j] := by rw [hg1]; exact Fr.set _ _ (by simp)
    have hi1 : g1.get i = .cells [.map (some j), .int .i64 (S.sy : Int)] true 1 := (F1.get _ k.lti (by simpa using hij)).trans hi
    have hj1 : g1.get j = .map es1 clk true := by rw [hg1, VH.get_set_same]
    cases hf2 : findF to (delF nm S.fs) with
    | none =>
      have hnone : mget (.string (strB to)) es1 = none := by
        have h' : findF to ((a ++ b).map (·.f)) = none := by rw [findF_perm hpd (delF_ord ok.ok.ord).uni]; exact hf2
        rw [← find_rs, Option.map_eq_none_iff] at h'
        rw [hes1, mget_rs, h']; rfl
      obtain ⟨hput, hhas⟩ := mput_new (v := .pointer (some ⟨r.it, 0, none⟩)) (c := clk) hnone
      have htick : mtick (.string (strB to)) clk es1 = clk + 1 := by simp [mtick, hhas]
      obtain ⟨r', hr'⟩ : ∃ r' : Rf, r' = { r with f := { r.f with nm := to }, bn := clk } := ⟨_, rfl⟩
      have hes2 : es1 ++ [(.string (strB to), .pointer (some ⟨r.it, 0, none⟩), clk)] = (a ++ b ++ [r']).map entF := by rw [List.map_append, ← hes1, hr']; rfl
      obtain ⟨es2, hes2'⟩ : ∃ es2, es2 = (a ++ b ++ [r']).map entF := ⟨_, rfl⟩
      rw [hes2, ← hes2'] at hput
      obtain ⟨g2, hg2⟩ : ∃ g2, g2 = g1.set j (.map es2 (clk + 1) true) := ⟨_, rfl⟩
      have F2 : Fr h g2 [j] := F1.trans (by rw [hg2]; exact Fr.set _ _ (by simp))
      have hbr : r'.bn = clk := by rw [hr']
      have hrf' : r'.f = { f with nm := to } := by rw [hr', hrf]
      have fin : ∀ S', (((a ++ b ++ [r']).map (·.f)).Perm S'.fs) → S'.sy = S.sy → DkP h i (fpS i j (a ++ r :: b)) (rdS (a ++ r :: b)) S' g2 := fun S' hS hsy =>
        (k.turn (rs' := a ++ b ++ [r']) (r' := r') (clk' := clk + 1) hperm (List.Sublist.refl _) (List.perm_append_comm (l₁ := a ++ b) (l₂ := [r'])) (by rw [hr']) (by rw [hr']) (by rw [hr']) (by rw [hr']) (by rw [hr']) (by rw [hr']) F2 (by rw [hg2, VH.get_set_same, hes2'])
          (fun x hx => by
            rcases List.mem_append.1 hx with hx | hx
            · have := hlt x (hin x hx); omega
            · simp at hx; subst hx; omega)
          (by
            rw [List.map_append, List.nodup_append]
            refine ⟨hbn, by simp, fun p hp q hq e => ?_⟩
            obtain ⟨x, hx, rfl⟩ := List.mem_map.1 hp
            simp only [List.map_cons, List.map_nil, List.mem_singleton] at hq
            subst hq
            have := hlt x (hin x hx)
            have e' : x.bn = r'.bn := e
            omega) hS hsy).2
      by_cases hft : nm = to
      · have hs : renD S nm to = (0, S) := by unfold renD; rw [hfd]; simp [hname, hft]
        simp (disch := first|omega|(simp only [np,ns];try omega)) [r_disk_Disk_Rename, hname, hi, l2_0, hj, hfit, hkf, hdel, ← hg1, hi1, hj1, hfit2, hkf2, hput, htick, ← hg2, hs]
        refine fin S ?_ rfl
        rw [List.map_append, List.map_cons, List.map_nil, hrf', ← hft, ← hfn]
        exact (hpd.append_right _).trans (List.perm_append_comm.trans (delF_perm hfd).symm)
      · have hs : renD S nm to = (0, { S with fs := insF { f with nm := to } (delF to (delF nm S.fs)) }) := by simp [renD, hfd, hname, hft]
        simp (disch := first|omega|(simp only [np,ns];try omega)) [r_disk_Disk_Rename, hname, hi, l2_0, hj, hfit, hkf, hdel, ← hg1, hi1, hj1, hfit2, hkf2, hput, htick, ← hg2, hs]
        refine fin _ ?_ rfl
        rw [List.map_append, List.map_cons, List.map_nil, hrf', delF_none hf2]
        exact (hpd.append_right _).trans (List.perm_append_comm.trans (insF_perm _ _).symm)
    | some f2 =>
      have hft : ¬ nm = to := by
        intro e
        rw [findF_delF hu, if_pos e.symm] at hf2
        cases hf2
      have hs : renD S nm to = (0, { S with fs := insF { f with nm := to } (delF to (delF nm S.fs)) }) := by simp [renD, hfd, hname, hft]
      have h' : findF to ((a ++ b).map (·.f)) = some f2 := by rw [findF_perm hpd (delF_ord ok.ok.ord).uni]; exact hf2
      rw [← find_rs, Option.map_eq_some_iff] at h'
      obtain ⟨rb, hrb, hrbf⟩ := h'
      obtain ⟨a1, b1, hab⟩ := List.append_of_mem (List.mem_of_find?_eq_some hrb)
      have hto2 : rb.f.nm = to := by rw [hrbf]; exact (findF_some hf2).2
      have hun : ((a ++ b).map fun x => x.f.nm).Nodup := by
        have := (hpd.map (fun f : Fl => f.nm)).nodup_iff.2 (delF_ord ok.ok.ord).uni
        rwa [List.map_map] at this
      have ha1 : ∀ x ∈ a1, x.f.nm ≠ to := by
        intro x hx e
        rw [hab, List.map_append, List.map_cons, List.nodup_append] at hun
        exact hun.2.2 _ (List.mem_map_of_mem hx) _ (List.mem_cons_self ..) (e.trans hto2.symm)
      obtain ⟨hput, hhas⟩ := mput_at (v := .pointer (some ⟨r.it, 0, none⟩)) (c := clk) (b := b1) ha1 hto2
      rw [← hab, ← hes1] at hput hhas
      have htick : mtick (.string (strB to)) clk es1 = clk := by simp [mtick, hhas]
      obtain ⟨r', hr'⟩ : ∃ r' : Rf, r' = { r with f := { r.f with nm := to }, bn := rb.bn } := ⟨_, rfl⟩
      have hes2 : a1.map entF ++ (.string (strB to), .pointer (some ⟨r.it, 0, none⟩), rb.bn) :: b1.map entF = (a1 ++ r' :: b1).map entF := by rw [List.map_append, List.map_cons, hr']; rfl
      obtain ⟨es2, hes2'⟩ : ∃ es2, es2 = (a1 ++ r' :: b1).map entF := ⟨_, rfl⟩
      rw [hes2, ← hes2'] at hput
      obtain ⟨g2, hg2⟩ : ∃ g2, g2 = g1.set j (.map es2 clk true) := ⟨_, rfl⟩
      have F2 : Fr h g2 [j] := F1.trans (by rw [hg2]; exact Fr.set _ _ (by simp))
      have hbr : r'.bn = rb.bn := by rw [hr']
      have hrf' : r'.f = { f with nm := to } := by rw [hr', hrf]
      have hbe : ((a1 ++ r' :: b1).map fun x => (entF x).2.2) = (a ++ b).map fun x => (entF x).2.2 := by rw [hab]; simp [entF, hbr]
      have hp1 : ((a1 ++ b1).map (·.f)).Perm (delF to (delF nm S.fs)) := by
        have h1 := hpd
        rw [hab, List.map_append, List.map_cons] at h1
        have h2 := List.perm_middle.symm.trans (h1.trans (delF_perm hf2))
        rw [hrbf] at h2
        rw [List.map_append]
        exact h2.cons_inv
      simp (disch := first|omega|(simp only [np,ns];try omega)) [r_disk_Disk_Rename, hname, hi, l2_0, hj, hfit, hkf, hdel, ← hg1, hi1, hj1, hfit2, hkf2, hput, htick, ← hg2, hs]
      refine (k.turn (S' := { S with fs := insF { f with nm := to } (delF to (delF nm S.fs)) }) (rs' := a1 ++ r' :: b1) (r' := r') (cs := a1 ++ b1) (clk' := clk) hperm ?_ List.perm_middle (by rw [hr']) (by rw [hr']) (by rw [hr']) (by rw [hr']) (by rw [hr']) (by rw [hr']) F2 (by rw [hg2, VH.get_set_same, hes2'])
        (fun x hx => ?_) (by rw [hbe]; exact hbn) ?_ rfl).2
      · rw [hab]
        exact (List.Sublist.refl _).append (List.sublist_cons_self ..)
      · have hx2 : x.bn ∈ (a1 ++ r' :: b1).map fun x => (entF x).2.2 := List.mem_map_of_mem (f := fun x : Rf => (entF x).2.2) hx
        rw [hbe] at hx2
        obtain ⟨y, hy, hyb⟩ := List.mem_map.1 hx2
        have := hlt y (hin y hy)
        have e' : y.bn = x.bn := hyb
        omega
      · rw [List.map_append, List.map_cons, hrf']
        refine List.perm_middle.trans (List.Perm.trans ?_ (insF_perm _ _).symm)
        rw [← List.map_append]
        exact hp1.cons _
end Go.Proofs.YtgnmhonbcejnfaaGreatDoor.Dk
