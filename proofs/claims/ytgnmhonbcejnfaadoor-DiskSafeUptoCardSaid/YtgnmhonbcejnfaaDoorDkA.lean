/- disk, part A: known; a disk that is not there. -/
import Derived.Test.YtgnmhonbcejnfaaDoorFsA
import Derived.Test.YtgnmhonbcejnfaaDoorPmS
import Derived.Test.YtgnmhonbcejnfaaDoorPmMr
set_option linter.unusedVariables false
set_option linter.unusedSimpArgs false
set_option maxRecDepth 100000
namespace Go.Proofs.YtgnmhonbcejnfaaDoor.Dk
open Go Go.RowKit Go.Proofs.YtgnmhonbcejnfaaDoor.Pm Go.Proofs.YtgnmhonbcejnfaaDoor.Fs
attribute [-simp] BitVec.toNat_or BitVec.toNat_xor BitVec.toNat_add BitVec.toNat_and BitVec.toNat_not BitVec.toNat_shiftLeft BitVec.toNat_ushiftRight

theorem known_run : runF GA 3000 f_law06_known [] VH.empty = some (.bool true) := by kernel_rfl
theorem known_ok (h : VH) : PCalls Tryd.prog f_law06_known [] h (fun u h' => u = .bool true ∧ h' = h) := run_alone GA_ok known_run rfl rfl h
theorem nRead_ok {h : VH} {a : Value} : PCalls Tryd.prog f_disk_Disk_Read [.pointer none, a] h (fun u h' => u = .tuple #[.slice none 0 0, .int .i64 2] ∧ h' = h) := by
  refine PCalls_of_pw st_disk_Disk_Read (by simp [n_disk_Disk_Read]) ?_
  rw [b_disk_Disk_Read]
  unfold B_disk_Disk_Read
  simp (disch := first|omega|(simp only [np,ns];try omega)) [r_disk_Disk_Read]
theorem nLen_ok {h : VH} {a : Value} : PCalls Tryd.prog f_disk_Disk_Len [.pointer none, a] h (fun u h' => u = .tuple #[.int .i64 0, .int .i64 2] ∧ h' = h) := by
  refine PCalls_of_pw st_disk_Disk_Len (by simp [n_disk_Disk_Len]) ?_
  rw [b_disk_Disk_Len]
  unfold B_disk_Disk_Len
  simp (disch := first|omega|(simp only [np,ns];try omega)) [r_disk_Disk_Len]
theorem nPending_ok {h : VH} : PCalls Tryd.prog f_disk_Disk_Pending [.pointer none] h (fun u h' => u = .int .i64 0 ∧ h' = h) := by
  refine PCalls_of_pw st_disk_Disk_Pending (by simp [n_disk_Disk_Pending]) ?_
  rw [b_disk_Disk_Pending]
  unfold B_disk_Disk_Pending
  simp (disch := first|omega|(simp only [np,ns];try omega)) [r_disk_Disk_Pending]
theorem nSyncs_ok {h : VH} : PCalls Tryd.prog f_disk_Disk_Syncs [.pointer none] h (fun u h' => u = .int .i64 0 ∧ h' = h) := by
  refine PCalls_of_pw st_disk_Disk_Syncs (by simp [n_disk_Disk_Syncs]) ?_
  rw [b_disk_Disk_Syncs]
  unfold B_disk_Disk_Syncs
  simp (disch := first|omega|(simp only [np,ns];try omega)) [r_disk_Disk_Syncs]
theorem nCopy_ok {h : VH} : PCalls Tryd.prog f_disk_Disk_Copy [.pointer none] h (fun u h' => u = .pointer none ∧ h' = h) := by
  refine PCalls_of_pw st_disk_Disk_Copy (by simp [n_disk_Disk_Copy]) ?_
  rw [b_disk_Disk_Copy]
  unfold B_disk_Disk_Copy
  simp (disch := first|omega|(simp only [np,ns];try omega)) [r_disk_Disk_Copy]
theorem nAppend_ok {h : VH} {a b : Value} : PCalls Tryd.prog f_disk_Disk_Append [.pointer none, a, b] h (fun u h' => u = .int .i64 2 ∧ h' = h) := by
  refine PCalls_of_pw st_disk_Disk_Append (by simp [n_disk_Disk_Append]) ?_
  rw [b_disk_Disk_Append]
  unfold B_disk_Disk_Append
  simp (disch := first|omega|(simp only [np,ns];try omega)) [r_disk_Disk_Append]
theorem nSync_ok {h : VH} {a : Value} : PCalls Tryd.prog f_disk_Disk_Sync [.pointer none, a] h (fun u h' => u = .int .i64 2 ∧ h' = h) := by
  refine PCalls_of_pw st_disk_Disk_Sync (by simp [n_disk_Disk_Sync]) ?_
  rw [b_disk_Disk_Sync]
  unfold B_disk_Disk_Sync
  simp (disch := first|omega|(simp only [np,ns];try omega)) [r_disk_Disk_Sync]
theorem nCut_ok {h : VH} {a b : Value} : PCalls Tryd.prog f_disk_Disk_Cut [.pointer none, a, b] h (fun u h' => u = .int .i64 2 ∧ h' = h) := by
  refine PCalls_of_pw st_disk_Disk_Cut (by simp [n_disk_Disk_Cut]) ?_
  rw [b_disk_Disk_Cut]
  unfold B_disk_Disk_Cut
  simp (disch := first|omega|(simp only [np,ns];try omega)) [r_disk_Disk_Cut]
theorem nRename_ok {h : VH} {a b : Value} : PCalls Tryd.prog f_disk_Disk_Rename [.pointer none, a, b] h (fun u h' => u = .int .i64 2 ∧ h' = h) := by
  refine PCalls_of_pw st_disk_Disk_Rename (by simp [n_disk_Disk_Rename]) ?_
  rw [b_disk_Disk_Rename]
  unfold B_disk_Disk_Rename
  simp (disch := first|omega|(simp only [np,ns];try omega)) [r_disk_Disk_Rename]
theorem nRemove_ok {h : VH} {a : Value} : PCalls Tryd.prog f_disk_Disk_Remove [.pointer none, a] h (fun u h' => u = .int .i64 2 ∧ h' = h) := by
  refine PCalls_of_pw st_disk_Disk_Remove (by simp [n_disk_Disk_Remove]) ?_
  rw [b_disk_Disk_Remove]
  unfold B_disk_Disk_Remove
  simp (disch := first|omega|(simp only [np,ns];try omega)) [r_disk_Disk_Remove]
theorem nCrash_ok {h : VH} {a : Value} : PCalls Tryd.prog f_disk_Disk_Crash [.pointer none, a] h (fun u h' => u = .int .i64 2 ∧ h' = h) := by
  refine PCalls_of_pw st_disk_Disk_Crash (by simp [n_disk_Disk_Crash]) ?_
  rw [b_disk_Disk_Crash]
  unfold B_disk_Disk_Crash
  simp (disch := first|omega|(simp only [np,ns];try omega)) [r_disk_Disk_Crash]
theorem nSame_ok {h : VH} {a : Value} : PCalls Tryd.prog f_disk_Disk_Same [.pointer none, a] h (fun u h' => u = .bool false ∧ h' = h) := by
  refine PCalls_of_pw st_disk_Disk_Same (by simp [n_disk_Disk_Same]) ?_
  rw [b_disk_Disk_Same]
  unfold B_disk_Disk_Same
  simp (disch := first|omega|(simp only [np,ns];try omega)) [r_disk_Disk_Same]

theorem new_ok {h : VH} : PCalls Tryd.prog f_disk_New [] h (fun u h' => ∃ i, u = .pointer (some ⟨i, 0, none⟩) ∧ Fr h h' []) := by
  refine PCalls_of_pw st_disk_New (by simp [n_disk_New]) ?_
  rw [b_disk_New]
  unfold B_disk_New
  have hf : fillC [.map none, .int .i64 0] [(0, 1, .map (some h.n))] = some [.map (some h.n), .int .i64 0] := rfl
  simp (disch := first|omega|(simp only [np,ns];try omega)) [r_disk_New, hf]
  exact Fr_push (Fr_push (Fr.refl _ _))
theorem files_ok {h : VH} : PCalls Tryd.prog f_disk_Disk_Files [.pointer none] h (fun u h' => u = .func (.func f_disk_Disk_Files_1) #[] #[.pointer (some ⟨h.n, 0, none⟩)] ∧ h' = h.push (.cells [.pointer none] true 1)) := by
  refine PCalls_of_pw st_disk_Disk_Files (by simp [n_disk_Disk_Files]) ?_
  rw [b_disk_Disk_Files]
  unfold B_disk_Disk_Files
  simp (disch := first|omega|(simp only [np,ns];try omega)) [r_disk_Disk_Files]
theorem seq_ok {h : VH} {y : Value} {i : Nat} (hi : h.get i = .cells [.pointer none] true 1) : PCalls Tryd.prog f_disk_Disk_Files_1 [y, .pointer (some ⟨i, 0, none⟩)] h (fun u h' => h' = h) := by
  refine PCalls_of_pw st_disk_Disk_Files_1 (by simp [n_disk_Disk_Files_1]) ?_
  rw [b_disk_Disk_Files_1]
  unfold B_disk_Disk_Files_1
  have hl : loadObj (.cells [.pointer none] true 1) 0 none = some (.pointer none) := rfl
  simp (disch := first|omega|(simp only [np,ns];try omega)) [r_disk_Disk_Files_1, hi, hl]
theorem pw_rangeF_of {P : Program} {fr : Ref} {ps : List Nat} {a b : PC} {s : Slots} {h : VH} {Q : Exit → Slots → VH → Prop} {g : FuncId} {first cap : Array Value} (hf : ev s fr = .func (.func g) first cap) (hi : isFn P g = true)
    (hc : ∀ L : LoopKey, L.s = s → L.ps = ps → PCalls P g (first.toList ++ [.func (.yield h.n) #[] #[]] ++ cap.toList) (h.push (.loop L .ready none)) (rngEnd h.n L s Q)) : pw P (.rangeF fr ps a b) s h Q :=
  ⟨g, first, cap, hf, hi, fun L h1 h2 _ => hc L h1 h2⟩

set_option maxHeartbeats 8000000 in
theorem nil_ok' {h : VH} {a b n : Value} : PCalls Tryd.prog f_law06_DiskNil [a, b, n] h (fun u _ => u = .bool true) := by
  refine PCalls_of_pw st_law06_DiskNil (by simp [n_law06_DiskNil]) ?_
  rw [b_law06_DiskNil]
  unfold B_law06_DiskNil
  have hst0 : storeObj (.cells [.int .i64 0] true 1) 0 1 (.int .i64 0) = some (.cells [.int .i64 0] true 1) := rfl
  have hld0 : loadObj (.cells [.int .i64 0] true 1) 0 none = some (.int .i64 0) := rfl
  simp (disch := first|omega|(simp only [np,ns];try omega)) []
  refine nRead_ok.mono ?_
  rintro u h1 ⟨rfl, rfl⟩
  simp (disch := first|omega|(simp only [np,ns];try omega)) []
  refine nLen_ok.mono ?_
  rintro u h2 ⟨rfl, rfl⟩
  simp (disch := first|omega|(simp only [np,ns];try omega)) [hst0]
  refine files_ok.mono ?_
  rintro u h3 ⟨rfl, rfl⟩
  simp (disch := first|omega|(simp only [np,ns];try omega)) []
  obtain ⟨G, hG⟩ : ∃ G, G = ((h2.push (.cells [.int .i64 0] true 1)).set h2.n (.cells [.int .i64 0] true 1)).push (.cells [.pointer none] true 1) := ⟨_, rfl⟩
  rw [← hG]
  have hGn : G.n = h2.n + 2 := by rw [hG]; simp
  have hGp : G.get (h2.n + 1) = .cells [.pointer none] true 1 := by rw [hG]; exact VH.get_push_at (by simp)
  have hGc : G.get h2.n = .cells [.int .i64 0] true 1 := by rw [hG, VH.get_push_lt _ _ (by simp), VH.get_set_same]
  refine pw_rangeF_of (by simp only [ev_t, upd_apply, if_true]; rfl) (by kernel_rfl) (fun L hL1 hL2 => ?_)
  refine PCalls.mono (seq_ok (i := h2.n + 1) (by rw [VH.get_push_lt _ _ (by omega)]; exact hGp)) ?_
  rintro u h4 rfl
  refine ⟨.ready, none, VH.get_push_new _ _, by simp, ?_⟩
  obtain ⟨K, hK⟩ : ∃ K, K = (G.push (.loop L .ready none)).set G.n .dead := ⟨_, rfl⟩
  have hKc : K.get h2.n = .cells [.int .i64 0] true 1 := by rw [hK, VH.get_set_ne _ _ (by omega), VH.get_push_lt _ _ (by omega), hGc]
  show kBlock 0 _ _ _ _
  rw [← hK]
  simp (disch := first|omega|(simp only [np,ns];try omega)) [hKc, hld0]
  refine nPending_ok.mono ?_
  rintro u h5 ⟨rfl, rfl⟩
  simp (disch := first|omega|(simp only [np,ns];try omega)) []
  refine nSyncs_ok.mono ?_
  rintro u h5 ⟨rfl, rfl⟩
  simp (disch := first|omega|(simp only [np,ns];try omega)) []
  refine nCopy_ok.mono ?_
  rintro u h5 ⟨rfl, rfl⟩
  simp (disch := first|omega|(simp only [np,ns];try omega)) []
  refine nSame_ok.mono ?_
  rintro u h5 ⟨rfl, rfl⟩
  simp (disch := first|omega|(simp only [np,ns];try omega)) []
  refine new_ok.mono ?_
  rintro u h5 ⟨i, rfl, _⟩
  simp (disch := first|omega|(simp only [np,ns];try omega)) []
  refine nSame_ok.mono ?_
  rintro u h6 ⟨rfl, rfl⟩
  simp (disch := first|omega|(simp only [np,ns];try omega)) []
  refine nAppend_ok.mono ?_
  rintro u h7 ⟨rfl, rfl⟩
  simp (disch := first|omega|(simp only [np,ns];try omega)) []
  refine nSync_ok.mono ?_
  rintro u h7 ⟨rfl, rfl⟩
  simp (disch := first|omega|(simp only [np,ns];try omega)) []
  refine nCut_ok.mono ?_
  rintro u h7 ⟨rfl, rfl⟩
  simp (disch := first|omega|(simp only [np,ns];try omega)) []
  refine nRename_ok.mono ?_
  rintro u h7 ⟨rfl, rfl⟩
  simp (disch := first|omega|(simp only [np,ns];try omega)) []
  refine nRemove_ok.mono ?_
  rintro u h7 ⟨rfl, rfl⟩
  simp (disch := first|omega|(simp only [np,ns];try omega)) []
  refine nCrash_ok.mono ?_
  rintro u h7 ⟨rfl, rfl⟩
  simp (disch := first|omega|(simp only [np,ns];try omega)) []
  refine (known_ok _).mono ?_
  rintro u h9 ⟨rfl, rfl⟩
  simp (disch := first|omega|(simp only [np,ns];try omega)) [r_law06_DiskNil]
theorem nil_law {h : VH} {us : List Value} {k : Nat} (H : ShA h [.str, .sl 1 (.int .u8), .int .i64] us k) (hk : k ≤ 1048576) :
    PCalls Tryd.prog f_law06_DiskNil us h (fun u h' => u = .bool true ∧ h' = h) := by
  obtain ⟨v, r, k1, k2, rfl, h1, ⟨v2, r2, k3, k4, rfl, h2, ⟨v3, r3, k5, k6, rfl, h3, ⟨rfl, _⟩, _⟩, _⟩, h6⟩ := H
  exact ((nil_ok' (h := h.ro)).mono fun u _ e => by subst e; exact ⟨rfl, rfl⟩).drop
end Go.Proofs.YtgnmhonbcejnfaaDoor.Dk
