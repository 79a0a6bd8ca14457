/- wal, part N: what there is not. -/
import Derived.Test.YtpcjnpkpmaahiaaDoorWaD
import Derived.Test.YtpcjnpkpmaahiaaDoorWaK
import Derived.Test.YtpcjnpkpmaahiaaDoorFsD
set_option linter.unusedVariables false
set_option linter.unusedSimpArgs false
set_option maxRecDepth 100000
namespace Go.Proofs.YtpcjnpkpmaahiaaDoor.Wa
open Go Go.RowKit Go.Proofs.YtpcjnpkpmaahiaaDoor.Pm Go.Proofs.YtpcjnpkpmaahiaaDoor.Fs Go.Proofs.YtpcjnpkpmaahiaaDoor.Dk
attribute [-simp] BitVec.toNat_or BitVec.toNat_xor BitVec.toNat_add BitVec.toNat_and BitVec.toNat_not BitVec.toNat_shiftLeft BitVec.toNat_ushiftRight

theorem n_open {h : VH} {x : Value} : PCalls Tryd.prog f_wal_Open [.pointer none, x] h (fun u h' => u = .tuple #[.pointer none, .int .i64 2] ∧ h' = h) := by
  refine PCalls_of_pw st_wal_Open (by simp [n_wal_Open]) ?_
  rw [b_wal_Open]
  simp (disch := first|omega|(simp only [np,ns];try omega)) [r_wal_Open, B_wal_Open]
theorem n_base {h : VH} : PCalls Tryd.prog f_wal_Log_Base [.pointer none] h (fun u h' => u = .tuple #[.slice none 0 0, .bool false] ∧ h' = h) := by
  refine PCalls_of_pw st_wal_Log_Base (by simp [n_wal_Log_Base]) ?_
  rw [b_wal_Log_Base]
  simp (disch := first|omega|(simp only [np,ns];try omega)) [r_wal_Log_Base, B_wal_Log_Base]
theorem n_append {h : VH} {x : Value} : PCalls Tryd.prog f_wal_Log_Append [.pointer none, x] h (fun u h' => u = .int .i64 2 ∧ h' = h) := by
  refine PCalls_of_pw st_wal_Log_Append (by simp [n_wal_Log_Append]) ?_
  rw [b_wal_Log_Append]
  simp (disch := first|omega|(simp only [np,ns];try omega)) [r_wal_Log_Append, B_wal_Log_Append]
theorem n_sync {h : VH} : PCalls Tryd.prog f_wal_Log_Sync [.pointer none] h (fun u h' => u = .int .i64 2 ∧ h' = h) := by
  refine PCalls_of_pw st_wal_Log_Sync (by simp [n_wal_Log_Sync]) ?_
  rw [b_wal_Log_Sync]
  simp (disch := first|omega|(simp only [np,ns];try omega)) [r_wal_Log_Sync, B_wal_Log_Sync]
theorem n_seq {h : VH} : PCalls Tryd.prog f_wal_Log_Seq [.pointer none] h (fun u h' => u = .int .u64 0 ∧ h' = h) := by
  refine PCalls_of_pw st_wal_Log_Seq (by simp [n_wal_Log_Seq]) ?_
  rw [b_wal_Log_Seq]
  simp (disch := first|omega|(simp only [np,ns];try omega)) [r_wal_Log_Seq, B_wal_Log_Seq]
theorem n_cut {h : VH} : PCalls Tryd.prog f_wal_Log_Cut [.pointer none] h (fun u h' => u = .int .i64 0 ∧ h' = h) := by
  refine PCalls_of_pw st_wal_Log_Cut (by simp [n_wal_Log_Cut]) ?_
  rw [b_wal_Log_Cut]
  simp (disch := first|omega|(simp only [np,ns];try omega)) [r_wal_Log_Cut, B_wal_Log_Cut]
theorem n_all {h : VH} {y : Value} {i : Nat} (hi : h.get i = .cells [.pointer none] true 1) : PCalls Tryd.prog f_wal_Log_All_1 [y, .pointer (some ⟨i, 0, none⟩)] h (fun u h' => h' = h) := by
  refine PCalls_of_pw st_wal_Log_All_1 (by simp [n_wal_Log_All_1]) ?_
  rw [b_wal_Log_All_1]
  have hl : loadObj (.cells [.pointer none] true 1) 0 none = some (.pointer none) := rfl
  simp (disch := first|omega|(simp only [np,ns];try omega)) [r_wal_Log_All_1, B_wal_Log_All_1, hi, hl]
theorem n_ckp' {h : VH} {x : Value} (hx : ∃ a n c, x = .slice a n c) : PCalls Tryd.prog f_wal_Log_Checkpoint [.pointer none, x] h (fun u h' => u = .int .i64 2) := by
  refine PCalls_of_pd st_wal_Log_Checkpoint (by simp [n_wal_Log_Checkpoint]) ?_
  rw [b_wal_Log_Checkpoint]
  obtain ⟨a, n, c, rfl⟩ := hx
  have hone : [Value.int IntKind.i64 0].all Value.oneCell' = true := rfl
  have st1 : ∀ (a b : Int), storeObj (.cells [.int .i64 a] true 1) 0 1 (.int .i64 b) = some (.cells [.int .i64 b] true 1) := fun _ _ => rfl
  have ld1 : ∀ (a : Int), loadObj (.cells [.int .i64 a] true 1) 0 none = some (.int .i64 a) := fun _ => rfl
  have e0 : ∀ B, ((h.push (.cells [.pointer none] true 1)).push B).get h.n = .cells [.pointer none] true 1 := fun B => by rw [VH.get_push_lt _ _ (by simp), VH.get_push_new]
  have e1 : ∀ A B, ((h.push A).push B).get (h.n + 1) = B := fun A B => VH.get_push_new (h.push A) B
  have lp : loadObj (.cells [.pointer none] true 1) 0 none = some (.pointer none) := rfl
  simp (disch := first|omega|(simp only [np,ns];try omega)) [B_wal_Log_Checkpoint, pd_seq, pd_code, kDs_normal, kDs_ret, kDc_at, retD_ret, runD_nil, st1, e0, e1, lp]
  rw [kDr_at]
  rw [r_wal_Log_Checkpoint]
  simp (disch := first|omega|(simp only [np,ns];try omega)) [ld1]
theorem pw_rangeF_of {P : Program} {fr : Ref} {ps : List Nat} {a b : PC} {s : Slots} {h : VH} {Q : Exit → Slots → VH → Prop} {g : FuncId} {first cap : Array Value} (hf : ev s fr = .func (.func g) first cap) (hi : isFn P g = true)
    (hc : ∀ L : LoopKey, L.s = s → L.ps = ps → PCalls P g (first.toList ++ [.func (.yield h.n) #[] #[]] ++ cap.toList) (h.push (.loop L .ready none)) (rngEnd h.n L s Q)) : pw P (.rangeF fr ps a b) s h Q :=
  ⟨g, first, cap, hf, hi, fun L h1 h2 _ => hc L h1 h2⟩
theorem n_len' {h : VH} : PCalls Tryd.prog f_wal_Log_Len [.pointer none] h (fun u h' => u = .int .i64 0) := by
  refine PCalls_of_pw st_wal_Log_Len (by simp [n_wal_Log_Len]) ?_
  rw [b_wal_Log_Len]
  have st1 : ∀ (a b : Int), storeObj (.cells [.int .i64 a] true 1) 0 1 (.int .i64 b) = some (.cells [.int .i64 b] true 1) := fun _ _ => rfl
  have ld1 : ∀ (a : Int), loadObj (.cells [.int .i64 a] true 1) 0 none = some (.int .i64 a) := fun _ => rfl
  obtain ⟨g0, hg0⟩ : ∃ g0, g0 = (h.push (.cells [.int .i64 0] true 1)).set h.n (.cells [.int .i64 0] true 1) := ⟨_, rfl⟩
  have n0 : g0.n = h.n + 1 := by rw [hg0]; rfl
  have c0 : g0.get h.n = .cells [.int .i64 0] true 1 := by rw [hg0, VH.get_set_same]
  simp (disch := first|omega|(simp only [np,ns];try omega)) [B_wal_Log_Len, st1, ← hg0]
  refine (all_ok (v := .pointer none) rfl rfl).mono ?_
  rintro u g1 ⟨rfl, hg1⟩
  have n1 : g1.n = g0.n + 1 := by rw [hg1]; rfl
  have b1 : g1.get g0.n = .cells [.pointer none] true 1 := by rw [hg1, VH.get_push_new]
  have c1 : g1.get h.n = .cells [.int .i64 0] true 1 := by rw [hg1, VH.get_push_lt _ _ (by omega)]; exact c0
  simp (disch := first|omega|(simp only [np,ns];try omega)) []
  refine pw_rangeF_of (by simp only [ev_t, upd_apply, if_true]; rfl) (by kernel_rfl) (fun L hL1 hL2 => ?_)
  refine PCalls.mono (n_all (i := g0.n) (by rw [VH.get_push_lt _ _ (by omega)]; exact b1)) ?_
  rintro u g2 rfl
  refine ⟨.ready, none, VH.get_push_new _ _, by simp, ?_⟩
  obtain ⟨K, hK⟩ : ∃ K, K = (g1.push (.loop L .ready none)).set g1.n .dead := ⟨_, rfl⟩
  have Kc : K.get h.n = .cells [.int .i64 0] true 1 := by rw [hK, VH.get_set_ne _ _ (by omega), VH.get_push_lt _ _ (by omega)]; exact c1
  show kBlock 0 _ _ _ _
  rw [← hK]
  simp (disch := first|omega|(simp only [np,ns];try omega)) [r_wal_Log_Len, Kc, ld1]
theorem n_ckp {h : VH} {x : Value} (hx : ∃ a n c, x = .slice a n c) : PCalls Tryd.prog f_wal_Log_Checkpoint [.pointer none, x] h (fun u h' => u = .int .i64 2 ∧ h' = h) :=
  ((n_ckp' hx).mono fun u _ e => by subst e; exact ⟨rfl, rfl⟩).drop
theorem n_len {h : VH} : PCalls Tryd.prog f_wal_Log_Len [.pointer none] h (fun u h' => u = .int .i64 0 ∧ h' = h) :=
  (n_len'.mono fun u _ e => by subst e; exact ⟨rfl, rfl⟩).drop
set_option maxHeartbeats 8000000 in
theorem nil_ok' {h : VH} {x v : Value} (G : GOK h) (hv : ∃ a n c, v = .slice a n c) : PCalls Tryd.prog f_law07_WalNil [x, v] h (fun u _ => u = .bool true) := by
  refine PCalls_of_pw st_law07_WalNil (by simp [n_law07_WalNil]) ?_
  rw [b_law07_WalNil]
  obtain ⟨va, vn, vc, rfl⟩ := hv
  have st1 : ∀ (a b : Int), storeObj (.cells [.int .i64 a] true 1) 0 1 (.int .i64 b) = some (.cells [.int .i64 b] true 1) := fun _ _ => rfl
  have ld1 : ∀ (a : Int), loadObj (.cells [.int .i64 a] true 1) 0 none = some (.int .i64 a) := fun _ => rfl
  obtain ⟨g0, hg0⟩ : ∃ g0, g0 = (h.push (.cells [.int .i64 0] true 1)).set h.n (.cells [.int .i64 0] true 1) := ⟨_, rfl⟩
  have f0 : Fr h g0 [] := by rw [hg0]; exact Fr_set (Fr_push (Fr.refl _ _)) (Nat.le_refl _)
  have n0 : g0.n = h.n + 1 := by rw [hg0]; rfl
  have c0 : g0.get h.n = .cells [.int .i64 0] true 1 := by rw [hg0, VH.get_set_same]
  simp (disch := first|omega|(simp only [np,ns];try omega)) [B_law07_WalNil]
  refine n_open.mono ?_
  rintro u h1 ⟨rfl, hh1⟩
  rw [hh1]
  simp (disch := first|omega|(simp only [np,ns];try omega)) [st1, ← hg0]
  refine (all_ok (v := .pointer none) rfl rfl).mono ?_
  rintro u g1 ⟨rfl, hg1⟩
  have f1 : Fr g0 g1 [] := by rw [hg1]; exact Fr_push (Fr.refl _ _)
  have n1 : g1.n = g0.n + 1 := by rw [hg1]; rfl
  have b1 : g1.get g0.n = .cells [.pointer none] true 1 := by rw [hg1, VH.get_push_new]
  have c1 : g1.get h.n = .cells [.int .i64 0] true 1 := by rw [hg1, VH.get_push_lt _ _ (by omega)]; exact c0
  simp (disch := first|omega|(simp only [np,ns];try omega)) []
  refine pw_rangeF_of (by simp only [ev_t, upd_apply, if_true]; rfl) (by kernel_rfl) (fun L hL1 hL2 => ?_)
  refine PCalls.mono (n_all (i := g0.n) (by rw [VH.get_push_lt _ _ (by omega)]; exact b1)) ?_
  rintro u g2 rfl
  refine ⟨.ready, none, VH.get_push_new _ _, by simp, ?_⟩
  obtain ⟨K, hK⟩ : ∃ K, K = (g1.push (.loop L .ready none)).set g1.n .dead := ⟨_, rfl⟩
  have fK : Fr h K [] := by rw [hK]; exact Fr_set (Fr_push (f0.trans f1)) (by omega)
  have Kc : K.get h.n = .cells [.int .i64 0] true 1 := by rw [hK, VH.get_set_ne _ _ (by omega), VH.get_push_lt _ _ (by omega)]; exact c1
  have GK : GOK K := by
    have hn := G.n
    have hn2 := fK.n
    exact ⟨by omega, by rw [fK.get 0 (by omega) (by simp)]; exact G.e, by rw [fK.get 1 (by omega) (by simp)]; exact G.t⟩
  show kBlock 0 _ _ _ _
  rw [← hK]
  simp (disch := first|omega|(simp only [np,ns];try omega)) []
  refine n_base.mono ?_
  rintro u h2 ⟨rfl, hh2⟩
  rw [hh2]
  simp (disch := first|omega|(simp only [np,ns];try omega)) []
  refine n_append.mono ?_
  rintro u h2 ⟨rfl, hh2⟩
  rw [hh2]
  simp (disch := first|omega|(simp only [np,ns];try omega)) []
  refine n_sync.mono ?_
  rintro u h2 ⟨rfl, hh2⟩
  rw [hh2]
  simp (disch := first|omega|(simp only [np,ns];try omega)) []
  refine (n_ckp ⟨_, _, _, rfl⟩).mono ?_
  rintro u h2 ⟨rfl, hh2⟩
  rw [hh2]
  simp (disch := first|omega|(simp only [np,ns];try omega)) [Kc, ld1]
  refine n_len.mono ?_
  rintro u h2 ⟨rfl, hh2⟩
  rw [hh2]
  simp (disch := first|omega|(simp only [np,ns];try omega)) []
  refine n_seq.mono ?_
  rintro u h2 ⟨rfl, hh2⟩
  rw [hh2]
  simp (disch := first|omega|(simp only [np,ns];try omega)) []
  refine n_cut.mono ?_
  rintro u h2 ⟨rfl, hh2⟩
  rw [hh2]
  simp (disch := first|omega|(simp only [np,ns];try omega)) []
  refine (known_ok GK).mono ?_
  rintro u h2 ⟨rfl, hh2⟩
  simp (disch := first|omega|(simp only [np,ns];try omega)) [r_law07_WalNil]
theorem nil_law {h : VH} {us : List Value} {k : Nat} (G : GOK h) (H : ShA h [.str, .sl 1 (.int .u8)] us k) (hk : k ≤ 1048576) :
    PCalls Tryd.prog f_law07_WalNil us h (fun u h' => u = .bool true ∧ h' = h) := by
  obtain ⟨v, r, k1, k2, rfl, h1, ⟨v2, r2, k3, k4, rfl, h2, ⟨rfl, _⟩, _⟩, h6⟩ := H
  obtain ⟨bs, hb, _⟩ := Sh.bytes (h := h) h2
  obtain ⟨a, c, e⟩ := hb.shape
  exact ((nil_ok' (h := h.ro) G.ro ⟨a, _, c, e⟩).mono fun u _ e => by subst e; exact ⟨rfl, rfl⟩).drop
end Go.Proofs.YtpcjnpkpmaahiaaDoor.Wa
