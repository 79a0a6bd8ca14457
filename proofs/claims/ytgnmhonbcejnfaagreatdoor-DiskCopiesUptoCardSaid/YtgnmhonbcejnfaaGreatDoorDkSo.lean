/- disk, part So: the files' names, in order (turned from fair). -/
import Derived.Test.YtgnmhonbcejnfaaGreatDoorDkD
import Derived.Test.YtgnmhonbcejnfaaGreatDoorPmSt
import Derived.Test.YtgnmhonbcejnfaaGreatDoorPmLs
import Derived.Test.YtgnmhonbcejnfaaGreatDoorFsS
set_option linter.unusedVariables false
set_option linter.unusedSimpArgs false
set_option maxRecDepth 100000
namespace Go.Proofs.YtgnmhonbcejnfaaGreatDoor.Dk
open Go Go.RowKit Go.Proofs.YtgnmhonbcejnfaaGreatDoor.Pm Go.Proofs.YtgnmhonbcejnfaaGreatDoor.Fs
attribute [-simp] BitVec.toNat_or BitVec.toNat_xor BitVec.toNat_add BitVec.toNat_and BitVec.toNat_not BitVec.toNat_shiftLeft BitVec.toNat_ushiftRight

/-! ### the names, in order -/
abbrev f_keys : Nat := f_maps_Keys_map_string_disk_file_string_disk_file
abbrev f_keys1 : Nat := f_maps_Keys_map_string_disk_file_string_disk_file_1
theorem keys_ok {h : VH} {j : Nat} : PCalls Tryz.prog f_keys [.map (some j)] h (fun u h' => u = .func (.func f_keys1) #[] #[.pointer (some ⟨h.n, 0, none⟩)] ∧ h' = h.push (.cells [.map (some j)] true 1)) := by
  refine PCalls_of_pw st_maps_Keys_map_string_disk_file_string_disk_file (by simp [n_maps_Keys_map_string_disk_file_string_disk_file]) ?_
  rw [b_maps_Keys_map_string_disk_file_string_disk_file]
  simp (disch := first|omega|(simp only [np,ns];try omega)) [r_maps_Keys_map_string_disk_file_string_disk_file, B_maps_Keys_map_string_disk_file_string_disk_file]
theorem sort_run : runF GS 100 f_slices_Sort_string_string [.slice none 0 0] VH.empty = some (.tuple #[]) := by kernel_rfl
theorem sort_nil (h : VH) : PCalls Tryz.prog f_slices_Sort_string_string [.slice none 0 0] h (fun u h' => u = .tuple #[] ∧ h' = h) := run_alone GS_ok sort_run rfl rfl h
def nmV (r : Rf) : Value := .string (strB r.f.nm)
theorem keysSeq_ok {y bx j clk : Nat} {ow ow2 : Bool} {rs : List Rf} {es : List Ent} {h : VH} (J : List Rf → VH → Prop)
    (hes : es = rs.map entF) (hbnd : (rs.map fun r => (entF r).2.2).Nodup) (hlt : ∀ r ∈ rs, (entF r).2.2 < clk) (hj : j < h.n) (h0 : J [] h)
    (hJ : ∀ dn g g', J dn g → h.n ≤ g.n → Fr g g' [h.n] → J dn g')
    (hK : ∀ dn g, J dn g → g.get bx = .cells [.map (some j)] ow2 1 ∧ g.get j = .map es clk ow)
    (hY : ∀ dn x g, J dn g → h.n < g.n → dn.length < rs.length → PYield Tryz.prog y [nmV x] g (fun u g' => u = .bool true ∧ J (dn ++ [x]) g' ∧ g.n ≤ g'.n ∧ g'.get h.n = g.get h.n)) :
    PCalls Tryz.prog f_keys1 [.func (.yield y) #[] #[], .pointer (some ⟨bx, 0, none⟩)] h (fun _ g => ∃ dn, dn.Perm rs ∧ J dn g) := by
  refine PCalls_of_pw st_maps_Keys_map_string_disk_file_string_disk_file_1 (by simp [n_maps_Keys_map_string_disk_file_string_disk_file_1]) ?_
  rw [b_maps_Keys_map_string_disk_file_string_disk_file_1]
  obtain ⟨hb, hm⟩ := hK [] h h0
  have l1 : loadObj (.cells [.map (some j)] ow2 1) 0 none = some (.map (some j)) := rfl
  simp (disch := first|omega|(simp only [np,ns];try omega)) [B_maps_Keys_map_string_disk_file_string_disk_file_1, hb, l1, hm]
  refine pw_loop (fun n s g => ∃ dn td, n = td.length ∧ J dn g ∧ h.n < g.n ∧ (dn ++ td).Perm rs ∧ g.get h.n = .miter (some j) clk (dn.map fun r => (entF r).2.2) clk ∧ s 0 = .func (.yield y) #[] #[] ∧ s 5 = .pointer (some ⟨h.n, 0, none⟩)) rs.length ?_ ?_
  · exact ⟨[], rs, rfl, hJ _ _ _ h0 (Nat.le_refl _) (Fr.push _ _ _), by simp, List.Perm.refl _, VH.get_push_new _ _, by simp [upd_apply, s0_apply], by simp [upd_apply, s0_apply]⟩
  rintro n s g ⟨dn, td, rfl, hj1, hn1, hp, hit, e0, e5⟩
  simp (disch := first|omega|(simp only [np,ns];try omega)) [e5]
  refine range_next hes hp hbnd hlt hit (hK _ _ hj1).2 ?_ ?_
  · rintro rfl
    simp (disch := first|omega|(simp only [np,ns];try omega)) [r_maps_Keys_map_string_disk_file_string_disk_file_1]
    exact ⟨dn, by simpa using hp, hj1⟩
  · intro x a b sn htd hsn hlast
    obtain ⟨g1, hg1⟩ : ∃ g1, g1 = g.set h.n (.miter (some j) clk sn clk) := ⟨_, rfl⟩
    have F1 : Fr g g1 [h.n] := by rw [hg1]; exact Fr.set _ _ (by simp)
    have q1 : g1.get h.n = .miter (some j) clk sn clk := by rw [hg1, VH.get_set_same]
    have n1 : h.n < g1.n := by rw [hg1]; exact hn1
    have hj2 := hJ _ _ _ hj1 (Nat.le_of_lt hn1) F1
    have j1 := (hK _ _ hj2).2
    have hdl : dn.length < rs.length := by
      have := hp.length_eq
      rw [htd] at this
      simp at this
      omega
    simp (disch := first|omega|(simp only [np,ns];try omega)) [e0, e5, ← hg1, q1, j1, hlast, entF]
    refine (hY dn x g1 hj2 n1 hdl).mono ?_
    rintro u g2 ⟨rfl, hj3, hn3, hq3⟩
    simp (disch := first|omega|(simp only [np,ns];try omega)) [e0, e5]
    refine ⟨_, by have := (perm_step hp htd).2; exact this, dn ++ [x], a ++ b, rfl, hj3, by omega, (perm_step hp htd).1, by rw [hq3, q1, hsn]; rfl⟩

/-- what appends are handed: a text. -/
def nmsV (rs : List Rf) : List Value := rs.map nmV
theorem nmsV_strs (rs : List Rf) : nmsV rs = strsV (rs.map (·.f.nm)) := by simp [nmsV, strsV, nmV, Function.comp_def]
set_option maxHeartbeats 1000000 in
theorem appendSeq_ok {h : VH} {bx j clk : Nat} {ow ow2 : Bool} {rs : List Rf} {es : List Ent} (hes : es = rs.map entF) (hbnd : (rs.map fun r => (entF r).2.2).Nodup) (hlt : ∀ r ∈ rs, (entF r).2.2 < clk) (hjn : j < h.n) (hbn : bx < h.n)
    (hb : h.get bx = .cells [.map (some j)] ow2 1) (hm : h.get j = .map es clk ow) (hln : rs.length ≤ 1000) :
    PCalls Tryz.prog f_slices_AppendSeq_string_string [.slice none 0 0, .func (.func f_keys1) #[] #[.pointer (some ⟨bx, 0, none⟩)]] h (fun u h' => ∃ dn, dn.Perm rs ∧ OwnSl h' 1 u (nmsV dn) dn.length ∧ Fr h h' [] ∧ (∀ x ∈ idOf u, h.n ≤ x) ∧ (dn = [] → u = .slice none 0 0)) := by
  refine PCalls_of_pw st_slices_AppendSeq_string_string (by simp [n_slices_AppendSeq_string_string]) ?_
  rw [b_slices_AppendSeq_string_string]
  obtain ⟨g0, hg0⟩ : ∃ g0, g0 = h.push (.cells [.slice none 0 0] true 1) := ⟨_, rfl⟩
  have F0 : Fr h g0 [] := by rw [hg0]; exact Fr_push (Fr.refl _ _)
  have n0 : g0.n = h.n + 1 := by rw [hg0]; rfl
  have o0 : g0.get h.n = .cells [.slice none 0 0] true 1 := by rw [hg0, VH.get_push_new]
  simp (disch := first|omega|(simp only [np,ns];try omega)) [B_slices_AppendSeq_string_string, ← hg0]
  refine pw_rangeF_rule (by simp only [ev_t, upd_apply, if_true]; rfl) (by kernel_rfl) (fun L hY => ?_)
  obtain ⟨H, hH⟩ : ∃ H, H = g0.push (.loop L .ready none) := ⟨_, rfl⟩
  have fH : Fr g0 H [] := by rw [hH]; exact Fr_push (Fr.refl _ _)
  have Hn : H.n = g0.n + 1 := by rw [hH]; rfl
  have Hy : H.get g0.n = .loop L .ready none := by rw [hH, VH.get_push_new]
  have FhH := F0.trans fH
  rw [← hH]
  refine PCalls.mono (keysSeq_ok (y := g0.n) (bx := bx) (j := j) (clk := clk) (rs := rs) (ow := ow) (ow2 := ow2)
    (fun dn g => g.get g0.n = .loop L .ready none ∧ Fr H g [h.n, g0.n] ∧ ∃ a c, g.get h.n = .cells [.slice a dn.length c] true 1 ∧ OwnSl g 1 (.slice a dn.length c) (nmsV dn) dn.length ∧ (∀ x ∈ idOf (.slice a dn.length c), H.n < x) ∧ (dn = [] → a = none ∧ c = 0)) hes hbnd hlt (by omega) ?_ ?_ ?_ ?_) ?_
  · exact ⟨Hy, Fr.refl _ _, none, 0, by rw [fH.get _ (by omega) (by simp)]; exact o0, OwnSl.nil _ _, by simp [idOf], fun _ => ⟨rfl, rfl⟩⟩
  · rintro dn g g' ⟨a1, a2, a, c, a3, a4, a5, a6⟩ hn hf
    have hn2 := a2.n
    refine ⟨(hf.get _ (by omega) (by simp; omega)).trans a1, ?_, a, c, (hf.get _ (by omega) (by simp; omega)).trans a3, a4.fr hf (fun x hx hxi => by have := a5 x hx; simp at hxi; omega), a5, a6⟩
    exact a2.trans' hf (fun y hy => .inr (by simp at hy; omega))
  · rintro dn g ⟨a1, a2, _⟩
    exact ⟨(a2.get _ (by omega) (by simp; omega)).trans ((FhH.get _ hbn (by simp)).trans hb), (a2.get _ (by omega) (by simp; omega)).trans ((FhH.get _ hjn (by simp)).trans hm)⟩
  · rintro dn x g ⟨a1, a2, a, c, a3, a4, a5, a6⟩ hgn hdl
    refine hY _ _ g none _ a1 rfl ?_
    show pw _ _ _ _ (kRound Tryz.prog _ g0.n L _)
    obtain ⟨N, hN⟩ : ∃ N, N = dn.length := ⟨_, rfl⟩
    rw [← hN] at a3 a4 a5
    have hn2 := a2.n
    simp (disch := first|omega|(simp only [np,ns];try omega)) [putAll]
    rw [kRound_normal]
    refine ⟨none, a1, ?_⟩
    obtain ⟨G1, hG1⟩ : ∃ G1, G1 = g.set g0.n (.loop L .busy none) := ⟨_, rfl⟩
    rw [← hG1]
    have f1 : Fr g G1 [g0.n] := by rw [hG1]; exact Fr.set _ _ (by simp)
    have y1 : G1.get g0.n = .loop L .busy none := by rw [hG1, VH.get_set_same]
    have b1 : G1.get h.n = .cells [.slice a N c] true 1 := (f1.get _ (by omega) (by simp; omega)).trans a3
    have m1 : G1.n = g.n := by rw [hG1]; rfl
    obtain ⟨G2, hG2⟩ : ∃ G2, G2 = G1.push (.cells [nmV x] true 0) := ⟨_, rfl⟩
    have f2 : Fr G1 G2 [] := by rw [hG2]; exact Fr_push (Fr.refl _ _)
    have m2 : G2.n = g.n + 1 := by rw [hG2]; simp [m1]
    have o2 : G2.get g.n = .cells [nmV x] true 0 := by rw [← m1, hG2, VH.get_push_new]
    have ow2 := (a4.fr f1 (fun z hz hzi => by have := a5 z hz; simp at hzi; omega)).fr f2 (fun _ _ => by simp)
    obtain ⟨v', G3, hap, ow3, f3, hid⟩ := ow2.append (bytes := 16) (ys := [nmV x]) (k := 1) rfl (by omega)
    obtain ⟨p, c2, rfl⟩ := ow3.shapeN
    have hfi : fillC [.string ⟨#[]⟩] [(0, 1, nmV x)] = some [nmV x] := rfl
    have hone : ([nmV x]).all Value.oneCell' = true := rfl
    have hro : rowObj (.cells [nmV x] true 0) 0 1 = some [nmV x] := rfl
    have m3 := f3.n
    have b2 : G2.get h.n = .cells [.slice a N c] true 1 := (f2.get _ (by omega) (by simp)).trans b1
    have hidn : ∀ z ∈ idOf (.slice p (N + 1) c2), H.n < z := fun z hz => (hid z hz).elim (fun h1 => a5 z h1) (fun h1 => by omega)
    have b3 : G3.get h.n = .cells [.slice a N c] true 1 := (f3.get _ (by omega) (fun hx => by have := a5 _ hx; omega)).trans b2
    have y3 : G3.get g0.n = .loop L .busy none := (f3.get _ (by omega) (fun hx => by have := a5 _ hx; omega)).trans ((f2.get _ (by omega) (by simp)).trans y1)
    have e7 : ∀ q, (nmV x).oneCell' = q → q = true := fun q h => h.symm.trans rfl
    have l1 : loadObj (.cells [.slice a N c] true 1) 0 none = some (.slice a N c) := rfl
    have st1 : storeObj (.cells [.slice a N c] true 1) 0 1 (.slice p (N + 1) c2) = some (.cells [.slice p (N + 1) c2] true 1) := rfl
    simp (disch := first|omega|(simp only [np,ns];try omega)) [putAll, b1, l1, hfi, hone, ← hG2, hro, o2, m1, Option.bind_some, hap, b3, st1]
    obtain ⟨G4, hG4⟩ : ∃ G4, G4 = G3.set h.n (.cells [.slice p (N + 1) c2] true 1) := ⟨_, rfl⟩
    have f4 : Fr G3 G4 [h.n] := by rw [hG4]; exact Fr.set _ _ (by simp)
    have y4 : G4.get g0.n = .loop L .busy none := (f4.get _ (by omega) (by simp; omega)).trans y3
    have o4 : G4.get h.n = .cells [.slice p (N + 1) c2] true 1 := by rw [hG4, VH.get_set_same]
    rw [← hG4]
    obtain ⟨G5, hG5⟩ : ∃ G5, G5 = G4.set g0.n (.loop L .ready none) := ⟨_, rfl⟩
    have f5 : Fr G4 G5 [g0.n] := by rw [hG5]; exact Fr.set _ _ (by simp)
    have hn : h.n ∉ idOf (.slice p (N + 1) c2) := fun hx => by have := hidn _ hx; omega
    have hg0' : g0.n ∉ idOf (.slice p (N + 1) c2) := fun hx => by have := hidn _ hx; omega
    have Fga : ∀ z, z < g.n → z ≠ g0.n → z ≠ h.n → z ∉ idOf (.slice a N c) → G5.get z = g.get z := fun z h1 h2 h3 h4 => by
      rw [f5.get z (by have := f4.n; omega) (by simpa using h2), f4.get z (by omega) (by simpa using h3), f3.get z (by omega) h4, f2.get z (by omega) (by simp), f1.get z (by omega) (by simpa using h2)]
    have n5 : g.n ≤ G5.n := by have := f4.n; have := f5.n; omega
    have own5 : OwnSl G5 1 (.slice p (N + 1) c2) (nmsV dn ++ [nmV x]) (N + 1) := (ow3.fr f4 (fun z hz hzi => by simp at hzi; subst hzi; exact hn hz)).fr f5 (fun z hz hzi => by simp at hzi; subst hzi; exact hg0' hz)
    refine rndEnd_normal y4 ?_
    rw [← hG5]
    refine ⟨rfl, ⟨by rw [hG5, VH.get_set_same], ⟨by omega, fun z hz hzi => ?_⟩, p, c2, ?_, ?_, ?_⟩, n5, ?_⟩
    · simp at hzi
      rw [Fga z (by omega) hzi.2 hzi.1 (fun hx => by have := a5 z hx; omega), a2.get z hz (by simp [hzi])]
    · rw [f5.get _ (by have := f4.n; omega) (by simp; omega)]
      simp only [List.length_append, List.length_cons, List.length_nil, Nat.zero_add, ← hN]
      exact o4
    · simp only [List.length_append, List.length_cons, List.length_nil, Nat.zero_add, ← hN]
      show OwnSl G5 1 _ (nmsV (dn ++ [x])) _
      rw [show nmsV (dn ++ [x]) = nmsV dn ++ [nmV x] by simp [nmsV]]
      exact own5
    · simp only [List.length_append, List.length_cons, List.length_nil, Nat.zero_add, ← hN]
      exact hidn
    · exact Fga _ hgn (by omega) (by omega) (fun hx => by have := a5 _ hx; omega)
  · rintro u g ⟨dn, hp, a1, a2, a, c, a3, a4, a5, a6⟩
    have hn2 := a2.n
    refine ⟨.ready, none, a1, by simp, ?_⟩
    obtain ⟨G1, hG1⟩ : ∃ G1, G1 = g.set g0.n .dead := ⟨_, rfl⟩
    have f1 : Fr g G1 [g0.n] := by rw [hG1]; exact Fr.set _ _ (by simp)
    have b1 : G1.get h.n = .cells [.slice a dn.length c] true 1 := (f1.get _ (by omega) (by simp; omega)).trans a3
    have own1 := a4.fr f1 (fun z hz hzi => by have := a5 z hz; simp at hzi; omega)
    have l1 : loadObj (.cells [.slice a dn.length c] true 1) 0 none = some (.slice a dn.length c) := rfl
    rw [← hG1]
    show kBlock 0 _ _ _ _
    simp (disch := first|omega|(simp only [np,ns];try omega)) [r_slices_AppendSeq_string_string, b1, l1]
    refine ⟨dn, hp, own1, ⟨by have := f1.n; omega, fun z hz _ => ?_⟩, fun z hz => by have := a5 z hz; omega, fun e => ⟨(a6 e).1, e, (a6 e).2⟩⟩
    rw [f1.get z (by omega) (by simp; omega), a2.get z (by omega) (by simp; omega), FhH.get z hz (by simp)]

/-- what is handed on: names, in an owned row of their own. -/
def NamesAt (h h' : VH) (u : Value) (l : List (List UInt8)) : Prop := OwnSl h' 1 u (strsV l) l.length ∧ Fr h h' [] ∧ ∀ x ∈ idOf u, h.n ≤ x
theorem collect_ok {h : VH} {bx j clk : Nat} {ow ow2 : Bool} {rs : List Rf} {es : List Ent} (hes : es = rs.map entF) (hbnd : (rs.map fun r => (entF r).2.2).Nodup) (hlt : ∀ r ∈ rs, (entF r).2.2 < clk) (hjn : j < h.n) (hbn : bx < h.n)
    (hb : h.get bx = .cells [.map (some j)] ow2 1) (hm : h.get j = .map es clk ow) (hln : rs.length ≤ 1000) :
    PCalls Tryz.prog f_slices_Collect_string [.func (.func f_keys1) #[] #[.pointer (some ⟨bx, 0, none⟩)]] h (fun u h' => ∃ l, l.Perm (rs.map (·.f.nm)) ∧ NamesAt h h' u l ∧ (l = [] → u = .slice none 0 0)) := by
  refine PCalls_of_pw st_slices_Collect_string (by simp [n_slices_Collect_string]) ?_
  rw [b_slices_Collect_string]
  simp (disch := first|omega|(simp only [np,ns];try omega)) [B_slices_Collect_string]
  refine (appendSeq_ok hes hbnd hlt hjn hbn hb hm hln).mono ?_
  rintro u g ⟨dn, hp, ho, hf, hid, hnil⟩
  simp (disch := first|omega|(simp only [np,ns];try omega)) [r_slices_Collect_string]
  refine ⟨dn.map (·.f.nm), hp.map _, ⟨?_, hf, hid⟩, fun e => hnil (by simpa using e)⟩
  rw [← nmsV_strs, List.length_map]
  exact ho
theorem sortL_eq {l l' : List (List UInt8)} (hp : l.Perm l') (h : l'.Pairwise (· < ·)) : sortL l = l' := by
  have h1 : (sortL l).Pairwise (fun a b => decide (a ≤ b) = true) := List.pairwise_mergeSort (fun a b c h1 h2 => by
    simp only [decide_eq_true_eq] at *; exact List.le_trans h1 h2) (fun a b => by
    simp only [Bool.or_eq_true, decide_eq_true_eq]; exact List.le_total a b) _
  have h2 : (sortL l).Perm l' := (List.mergeSort_perm l _).trans hp
  refine h2.eq_of_pairwise (le := fun a b => a ≤ b) (fun a b _ _ x y => List.le_antisymm x y) (h1.imp (by simp)) (h.imp (fun hab => Std.le_of_lt hab))
theorem sorted_ok (hso : SortsS Tryz.prog f_slices_Sort_string_string) {h : VH} {bx j clk : Nat} {ow ow2 : Bool} {rs : List Rf} {es : List Ent} (hes : es = rs.map entF) (hbnd : (rs.map fun r => (entF r).2.2).Nodup) (hlt : ∀ r ∈ rs, (entF r).2.2 < clk) (hjn : j < h.n) (hbn : bx < h.n)
    (hb : h.get bx = .cells [.map (some j)] ow2 1) (hm : h.get j = .map es clk ow) (hln : rs.length ≤ 1000) {l' : List (List UInt8)} (hp' : (rs.map (·.f.nm)).Perm l') (hs : l'.Pairwise (· < ·)) :
    PCalls Tryz.prog f_slices_Sorted_string [.func (.func f_keys1) #[] #[.pointer (some ⟨bx, 0, none⟩)]] h (fun u h' => NamesAt h h' u l') := by
  refine PCalls_of_pw st_slices_Sorted_string (by simp [n_slices_Sorted_string]) ?_
  rw [b_slices_Sorted_string]
  simp (disch := first|omega|(simp only [np,ns];try omega)) [B_slices_Sorted_string]
  refine (collect_ok hes hbnd hlt hjn hbn hb hm hln).mono ?_
  rintro u g ⟨l, hp, ⟨ho, hf, hid⟩, hnil⟩
  have hll : l.length = rs.length := by have := hp.length_eq; simpa using this
  have hsl := sortL_eq (hp.trans hp') hs
  have hl' : l'.length = l.length := by have := (hp.trans hp').length_eq; exact this.symm
  by_cases hne : rs.length = 0
  · have hl0 : l = [] := List.eq_nil_of_length_eq_zero (by omega)
    have hu := hnil hl0
    subst hu
    simp (disch := first|omega|(simp only [np,ns];try omega)) []
    refine (sort_nil g).mono ?_
    rintro u g' ⟨rfl, hg'⟩
    rw [hg']
    simp (disch := first|omega|(simp only [np,ns];try omega)) [r_slices_Sorted_string]
    have hl0' : l' = [] := List.eq_nil_of_length_eq_zero (by omega)
    rw [hl0']
    exact ⟨OwnSl.nil _ _, hf, by simp [idOf]⟩
  rcases ho with ⟨_, h1, h2⟩ | ⟨i, o, c, ds, hi, hc, rfl, hg, hd, hl, hod⟩
  · omega
  · have hdl : ds.length = o + l.length := by
      have := congrArg List.length hd
      simp at this
      omega
    simp (disch := first|omega|(simp only [np,ns];try omega)) []
    refine (sortS_ok hso hi hg (by omega) (by rw [hd, List.take_of_length_le (by simp)]) (by omega) hc (by omega)).mono ?_
    rintro u g' ⟨rfl, rfl⟩
    simp (disch := first|omega|(simp only [np,ns];try omega)) [r_slices_Sorted_string]
    have hwl : (wr ds o (strsV (sortL l))).length = ds.length := by
      unfold wr
      simp [sortL]
      omega
    refine ⟨.inr ⟨i, o, c, wr ds o (strsV (sortL l)), hi, by omega, by rw [hl'], VH.get_set_same .., ?_, ?_, by rw [hwl]; exact hod⟩, ?_, ?_⟩
    · rw [hsl]
      unfold wr
      rw [List.drop_of_length_le (i := o + (strsV l').length) (by simp; omega), List.append_nil]
      rw [List.drop_append_of_le_length (by simp; omega), List.drop_of_length_le (by simp; omega), List.nil_append]
    · simp
    · exact Fr_set hf (hid i (by simp [idOf]))
    · intro x hx
      simp [idOf] at hx
      exact hid x (by simp [idOf, hx])

end Go.Proofs.YtgnmhonbcejnfaaGreatDoor.Dk
