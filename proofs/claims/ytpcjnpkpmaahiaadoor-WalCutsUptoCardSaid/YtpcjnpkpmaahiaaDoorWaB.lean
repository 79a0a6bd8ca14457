/- wal, part B: records in a heap; what a log yields; how many there are. -/
import Derived.Test.YtpcjnpkpmaahiaaDoorWaA
import Derived.Test.YtpcjnpkpmaahiaaDoorFsB
import Derived.Test.YtpcjnpkpmaahiaaDoorPmOx
set_option linter.unusedVariables false
set_option linter.unusedSimpArgs false
set_option maxRecDepth 100000
namespace Go.Proofs.YtpcjnpkpmaahiaaDoor.Wa
open Go Go.RowKit Go.Proofs.YtpcjnpkpmaahiaaDoor.Pm Go.Proofs.YtpcjnpkpmaahiaaDoor.Fs
attribute [-simp] BitVec.toNat_or BitVec.toNat_xor BitVec.toNat_add BitVec.toNat_and BitVec.toNat_not BitVec.toNat_shiftLeft BitVec.toNat_ushiftRight

abbrev Nm := (Nat × List UInt8) × Value
def rowN (x : Nm) : List Value := [.int .u64 (x.1.1 : Int), x.2]
structure NumsAt (h : VH) (lv : Value) (l : List Nm) : Prop where
  rows : RowsAt h 2 lv (l.map rowN)
  byt : ∀ x ∈ l, IsBytes h x.2 x.1.2
theorem NumsAt.fr {h h' : VH} {X : List Nat} (hf : Fr h h' X) {lv : Value} {l : List Nm} (k : NumsAt h lv l) (h1 : ∀ i ∈ idOf lv, i ∉ X) (h2 : ∀ x ∈ l, ∀ i ∈ idOf x.2, i ∉ X) : NumsAt h' lv l :=
  ⟨k.rows.fr hf h1, fun x hx => (k.byt x hx).fr hf (h2 x hx)⟩
theorem NumsAt.fr0 {h h' : VH} (hf : Fr h h' []) {lv : Value} {l : List Nm} (k : NumsAt h lv l) : NumsAt h' lv l := k.fr hf (fun _ _ => by simp) (fun _ _ _ _ => by simp)
theorem NumsAt.ro {h : VH} {lv : Value} {l : List Nm} (k : NumsAt h lv l) : NumsAt h.ro lv l := ⟨k.rows.ro, fun x hx => (k.byt x hx).ro⟩
theorem NumsAt.shape {h : VH} {lv : Value} {l : List Nm} (k : NumsAt h lv l) : ∃ a c, lv = .slice a l.length c := by
  obtain ⟨a, c, e⟩ := k.rows.shape
  exact ⟨a, c, by rw [e, List.length_map]⟩
/-- a log's record: its disk, its name, its checkpoint, its records, what was cut away. -/
def logL (dv : Value) (nm : ByteArray) (bv lv : Value) (c : Int) : List Value := [dv, .string nm, bv, lv, .int .i64 c]
section
variable {dv bv lv : Value} {nm : ByteArray} {c : Int} {ow : Bool} {z : Nat}
theorem lg_0 : loadObj (.cells (logL dv nm bv lv c) ow z) 0 none = some dv := rfl
theorem lg_1 : loadObj (.cells (logL dv nm bv lv c) ow z) 1 none = some (.string nm) := rfl
theorem lg_2 : loadObj (.cells (logL dv nm bv lv c) ow z) 2 none = some bv := rfl
theorem lg_3 : loadObj (.cells (logL dv nm bv lv c) ow z) 3 none = some lv := rfl
theorem lg_4 : loadObj (.cells (logL dv nm bv lv c) ow z) 4 none = some (.int .i64 c) := rfl
end
theorem isB_app {h : VH} {v : Value} {bs : List UInt8} (hb : IsBytes h v bs) (hl : bs.length ≤ 140737488355328) :
    ∃ w g, appendV h 1 1 (.slice none 0 0) (u8s bs) bs.length = some (w, g) ∧ Buf h g w bs := by
  obtain ⟨w, g, hap, hb⟩ := (Buf.nil h).append bs (by simpa using hl)
  exact ⟨w, g, hap, hb⟩
theorem all_ok {h : VH} {v : Value} (hv : cellsL v = [v]) (h1 : v.oneCell' = true) : PCalls Tryd.prog f_wal_Log_All [v] h (fun u h' => u = .func (.func f_wal_Log_All_1) #[] #[.pointer (some ⟨h.n, 0, none⟩)] ∧ h' = h.push (.cells [v] true 1)) := by
  refine PCalls_of_pw st_wal_Log_All (by simp [n_wal_Log_All]) ?_
  rw [b_wal_Log_All]
  simp (disch := first|omega|(simp only [np,ns];try omega)) [r_wal_Log_All, B_wal_Log_All, hv, h1]
set_option maxHeartbeats 2000000 in
/-- a log's records are yielded one by one, as long as that is wished. -/
theorem seq_ok {y bx i : Nat} {dv bv lv : Value} {nm : ByteArray} {ct : Int} {l : List Nm} (J : Nat → VH → Prop) (R : VH → Prop) {h : VH}
    (hJ : ∀ n g g', J n g → Fr g g' [] → J n g')
    (hK : ∀ n g, J n g → bx < g.n ∧ i < g.n ∧ g.get bx = .cells [.pointer (some ⟨i, 0, none⟩)] true 1 ∧ (∃ ow, g.get i = .cells (logL dv nm bv lv ct) ow 1) ∧ NumsAt g lv l)
    (h0 : J 0 h) (hk : l.length ≤ 1000000000) (hb : ∀ x ∈ l, x.1.2.length ≤ 1000000000)
    (hY : ∀ n (hn : n < l.length) g w, J n g → OwnSl g 1 w (u8s l[n].1.2) l[n].1.2.length → (∀ x ∈ idOf w, h.n ≤ x) → PYield Tryd.prog y [w] g (fun u g' => (u = .bool true ∧ J (n + 1) g' ∧ g.n ≤ g'.n) ∨ (u = .bool false ∧ R g'))) :
    PCalls Tryd.prog f_wal_Log_All_1 [.func (.yield y) #[] #[], .pointer (some ⟨bx, 0, none⟩)] h (fun u g => J l.length g ∨ R g) := by
  refine PCalls_of_pw st_wal_Log_All_1 (by simp [n_wal_Log_All_1]) ?_
  rw [b_wal_Log_All_1]
  obtain ⟨hbx, hi, hbo, ⟨ow, hs⟩, ho⟩ := hK 0 h h0
  have l1 : loadObj (.cells [.pointer (some ⟨i, 0, none⟩)] true 1) 0 none = some (.pointer (some ⟨i, 0, none⟩)) := rfl
  obtain ⟨L, hL⟩ : ∃ L, L = l.length := ⟨_, rfl⟩
  obtain ⟨pa, pc, hpv⟩ := ho.shape
  rw [← hL] at hpv
  simp (disch := first|omega|(simp only [np,ns];try omega)) [B_wal_Log_All_1, hbo, l1, hs, lg_3, hpv]
  rw [← hL]
  refine pw_loopN (fun n s g => J n g ∧ h.n ≤ g.n ∧ s 0 = .func (.yield y) #[] #[] ∧ s 10 = lv ∧ s 11 = .int .i64 (L : Int) ∧ s 12 = .int .i64 (n : Int)) L ?_ ?_
  · exact ⟨h0, Nat.le_refl _, by simp [upd_apply, s0_apply], by simp [upd_apply, s0_apply, hpv], by simp [upd_apply, s0_apply], by simp [upd_apply, s0_apply]⟩
  rintro n s g hn ⟨hj, hgn, e0, e10, e11, e12⟩
  rw [hpv] at e10
  by_cases hlt : n < L
  · have hltI : (n : Int) < (L : Int) := by omega
    have hnl : n < l.length := by omega
    obtain ⟨hbx, hi, hbo, ⟨ow, hs⟩, ho⟩ := hK n g hj
    have hro := ho.rows
    rw [hpv] at hro
    obtain ⟨q, o, hq, hqn, hez, hagg, _⟩ := hro.at_ (k := n) (by simp; omega)
    subst hq
    obtain ⟨x, hx⟩ : ∃ x, x = l[n] := ⟨_, rfl⟩
    have hre : (l.map rowN)[n]'(by simp; omega) = rowN x := by simp [hx]
    rw [hre] at hagg
    have hbx' := ho.byt x (by rw [hx]; exact List.getElem_mem hnl)
    have hbl := hb x (by rw [hx]; exact List.getElem_mem hnl)
    have eW : IntKind.i64.wrap ((n : Int) + 1) = ((n + 1 : Nat) : Int) := by rw [i64_small (by omega) (by omega)]; omega
    obtain ⟨g1, hg1⟩ : ∃ g1, g1 = (g.push (.cells [.int .u64 0, .slice none 0 0] true 1)).set g.n (.cells (rowN x) true 1) := ⟨_, rfl⟩
    have f1 : Fr g g1 [] := by rw [hg1]; exact Fr_set (Fr_push (Fr.refl _ _)) (Nat.le_refl _)
    have o1 : g1.get g.n = .cells (rowN x) true 1 := by rw [hg1, VH.get_set_same]
    obtain ⟨xa, xc, hxv⟩ := hbx'.shape
    have hst : storeObj (.cells [.int .u64 0, .slice none 0 0] true 1) 0 2 (.agg (rowN x).toArray) = some (.cells (rowN x) true 1) := by unfold rowN; rw [hxv]; rfl
    have hl1 : loadObj (.cells (rowN x) true 1) 1 none = some x.2 := rfl
    have hB1 := hbx'.fr f1 (fun _ _ => by simp)
    have hsrc := hB1.src
    obtain ⟨w, g2, hap, hbuf⟩ := isB_app hB1 (by omega)
    rw [hxv] at hl1 hsrc
    obtain ⟨M, hM⟩ : ∃ M, M = x.1.2.length := ⟨_, rfl⟩
    rw [← hM] at hl1 hsrc hap
    have hf2 : Fr g g2 [] := f1.trans hbuf.fr
    have n1 := f1.n
    simp (disch := first|omega|(simp only [np,ns];try omega)) [e0, e10, e11, e12, hltI, hlt, hez, hagg, hst, ← hg1, o1, hl1, hsrc, hap]
    refine PYield.mono (hY n hnl g2 w (hJ n g g2 hj hf2) (by rw [← hx]; exact hbuf.own) (fun y hy => by have := hbuf.ids y hy; omega)) ?_
    rintro u g3 (⟨rfl, hj3, hg3⟩ | ⟨rfl, hr⟩)
    · have n2 := hbuf.fr.n
      simp (disch := first|omega|(simp only [np,ns];try omega)) [e0, e10, e11, e12, eW, hpv]
      exact ⟨hlt, hj3, by omega⟩
    · simp (disch := first|omega|(simp only [np,ns];try omega)) [r_wal_Log_All_1]
      exact .inr hr
  · obtain rfl : n = L := by omega
    simp (disch := first|omega|(simp only [np,ns];try omega)) [r_wal_Log_All_1, e0, e10, e11, e12]
    exact .inl hj
set_option maxHeartbeats 2000000 in
theorem len_ok' {h : VH} {i : Nat} {dv bv lv : Value} {nm : ByteArray} {ct : Int} {l : List Nm} {ow : Bool} (hi : i < h.n) (hg : h.get i = .cells (logL dv nm bv lv ct) ow 1) (hl : NumsAt h lv l) (hk : l.length ≤ 1000000) (hb : ∀ x ∈ l, x.1.2.length ≤ 1000000000)
    (hlt : (∀ x ∈ idOf lv, x < h.n) ∧ ∀ x ∈ l, ∀ y ∈ idOf x.2, y < h.n) :
    PCalls Tryd.prog f_wal_Log_Len [.pointer (some ⟨i, 0, none⟩)] h (fun u _ => u = .int .i64 (l.length : Int)) := by
  refine PCalls_of_pw st_wal_Log_Len (by simp [n_wal_Log_Len]) ?_
  rw [b_wal_Log_Len]
  obtain ⟨L, hL⟩ : ∃ L, L = l.length := ⟨_, rfl⟩
  obtain ⟨g0, hg0⟩ : ∃ g0, g0 = (h.push (.cells [.int .i64 0] true 1)).set h.n (.cells [.int .i64 0] true 1) := ⟨_, rfl⟩
  have f0 : Fr h g0 [] := by rw [hg0]; exact Fr_set (Fr_push (Fr.refl _ _)) (Nat.le_refl _)
  have n0 : g0.n = h.n + 1 := by rw [hg0]; rfl
  have c0 : g0.get h.n = .cells [.int .i64 0] true 1 := by rw [hg0, VH.get_set_same]
  have st1 : ∀ (a b : Int), storeObj (.cells [.int .i64 a] true 1) 0 1 (.int .i64 b) = some (.cells [.int .i64 b] true 1) := fun _ _ => rfl
  have ld1 : ∀ (a : Int), loadObj (.cells [.int .i64 a] true 1) 0 none = some (.int .i64 a) := fun _ => rfl
  simp (disch := first|omega|(simp only [np,ns];try omega)) [B_wal_Log_Len, st1, ← hg0]
  refine (all_ok (v := .pointer (some ⟨i, 0, none⟩)) rfl rfl).mono ?_
  rintro u g1 ⟨rfl, hg1⟩
  have f1 : Fr g0 g1 [] := by rw [hg1]; exact Fr_push (Fr.refl _ _)
  have n1 : g1.n = g0.n + 1 := by rw [hg1]; rfl
  have b1 : g1.get g0.n = .cells [.pointer (some ⟨i, 0, none⟩)] true 1 := by rw [hg1, VH.get_push_new]
  simp (disch := first|omega|(simp only [np,ns];try omega)) []
  refine pw_rangeF_rule (by simp only [ev_t, upd_apply, if_true]; rfl) (by kernel_rfl) (fun L0 hY => ?_)
  obtain ⟨H, hH⟩ : ∃ H, H = g1.push (.loop L0 .ready none) := ⟨_, rfl⟩
  have fH : Fr g1 H [] := by rw [hH]; exact Fr_push (Fr.refl _ _)
  have Hn : H.n = g1.n + 1 := by rw [hH]; rfl
  have Hy : H.get g1.n = .loop L0 .ready none := by rw [hH, VH.get_push_new]
  rw [← hH]
  have FH : Fr h H [] := (f0.trans f1).trans fH
  have bH := (fH.get _ (by omega) (by simp)).trans b1
  have iH := (FH.get i hi (by simp)).trans hg
  have cH := ((f1.trans fH).get h.n (by omega) (by simp)).trans c0
  have lH := hl.fr0 FH
  refine PCalls.mono (seq_ok (y := g1.n) (bx := g0.n) (i := i) (l := l) (dv := dv) (bv := bv) (lv := lv) (nm := nm) (ct := ct)
    (fun n g => g.get g1.n = .loop L0 .ready none ∧ Fr H g [h.n, g1.n] ∧ g.get h.n = .cells [.int .i64 (n : Int)] true 1) (fun _ => False) ?_ ?_ ?_ (by omega) hb ?_) ?_
  · rintro n g' g'' ⟨b1, b2, b3⟩ hf
    have hn := b2.n
    exact ⟨(hf.get _ (by omega) (by simp)).trans b1, b2.trans (hf.sub (fun x hx => by simp at hx)), (hf.get _ (by omega) (by simp)).trans b3⟩
  · rintro n g' ⟨b1, b2, b3⟩
    have hn := b2.n
    refine ⟨by omega, by omega, ?_, ⟨ow, ?_⟩, ?_⟩
    · rw [b2.get _ (by omega) (by simp; omega)]; exact bH
    · rw [b2.get _ (by omega) (by simp; omega)]; exact iH
    · refine lH.fr b2 (fun x hx hxn => ?_) (fun x hx y hy hyn => ?_)
      · have := hlt.1 x hx; simp at hxn; omega
      · have := hlt.2 x hx y hy; simp at hyn; omega
  · exact ⟨Hy, Fr.refl _ _, cH⟩
  · rintro n hn' g' w ⟨b1, b2, b3⟩ how hnew
    refine hY _ _ g' none _ b1 rfl ?_
    show pw _ _ _ _ (kRound Tryd.prog _ g1.n L0 _)
    have hn2 := b2.n
    simp (disch := first|omega|(simp only [np,ns];try omega)) [putAll]
    rw [kRound_normal]
    refine ⟨none, b1, ?_⟩
    obtain ⟨G2, hG2⟩ : ∃ G2, G2 = g'.set g1.n (.loop L0 .busy none) := ⟨_, rfl⟩
    rw [← hG2]
    have fG2 : Fr g' G2 [g1.n] := by rw [hG2]; exact Fr.set _ _ (by simp)
    have G2n : G2.n = g'.n := by rw [hG2]; rfl
    have G2y : G2.get g1.n = .loop L0 .busy none := by rw [hG2, VH.get_set_same]
    have G2c : G2.get h.n = .cells [.int .i64 (n : Int)] true 1 := (fG2.get _ (by omega) (by simp; omega)).trans b3
    have eW : IntKind.i64.wrap ((n : Int) + 1) = ((n + 1 : Nat) : Int) := by rw [i64_small (by omega) (by omega)]; omega
    simp (disch := first|omega|(simp only [np,ns];try omega)) [G2c, ld1, eW, st1]
    refine rndEnd_normal (pe := none) ((VH.get_set_ne _ _ (by omega)).trans G2y) ?_
    refine ⟨rfl, ⟨VH.get_set_same _ _ _, ?_, by rw [VH.get_set_ne _ _ (by omega), VH.get_set_same]⟩, by show g'.n ≤ G2.n; omega⟩
    exact ((b2.trans (fG2.sub (fun x hx => by simp at hx; simp [hx]))).trans (Fr.set _ _ (by simp))).trans (Fr.set _ _ (by simp))
  · rintro u g' (⟨b1, b2, b3⟩ | hF)
    · refine ⟨.ready, none, b1, by simp, ?_⟩
      show kBlock 0 _ _ _ _
      have hn3 := b2.n
      obtain ⟨K, hK⟩ : ∃ K, K = g'.set g1.n .dead := ⟨_, rfl⟩
      have fK : Fr g' K [g1.n] := by rw [hK]; exact Fr.set _ _ (by simp)
      have Kc := (fK.get h.n (by omega) (by simp; omega)).trans b3
      rw [← hK]
      rw [← hL] at Kc ⊢
      simp (disch := first|omega|(simp only [np,ns];try omega)) [r_wal_Log_Len, Kc, ld1]
    · exact hF.elim
end Go.Proofs.YtpcjnpkpmaahiaaDoor.Wa
