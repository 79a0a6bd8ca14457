/- audit, part O: two texts with one digest (the program's Collide). -/
import Derived.Test.YtdnkpgbggpbgaaaAuN
set_option linter.unusedVariables false
set_option linter.unusedSimpArgs false
set_option maxRecDepth 100000
namespace Go.Proofs.Ytdnkpgbggpbgaaa.Au
open Go Go.RowKit Go.Proofs.Ytdnkpgbggpbgaaa.Pm Go.Proofs.Ytdnkpgbggpbgaaa.Fs Go.Proofs.Ytdnkpgbggpbgaaa.Wr Go.Proofs.Ytdnkpgbggpbgaaa.Sha
attribute [local simp] pw_skip pw_ops pw_quiet pw_seq pw_cond pw_block pw_exit pw_ret pw_scope pw_label kSeq_normal kSeq_ret kSeq_exit kBlock_normal kBlock_ret kBlock_exit kScope_normal kScope_ret kScope_exit kLoop_normal kLoop_ret kLoop_exit kCond_true kCond_false kCond_dec pwOps_nil pwOps_call pwOps_guard kStep_some kCall_at pwQ_nil pwQ_call pwQ_guard kQ_some putS_some putS_none upd_apply ev_t ev_k isB_bool isB_undef s0_apply pstep pwO_mov pwO_pick pwO_nilck pwO_bin pwO_binB pwO_eqNil pwO_un pwO_convI pwO_convS pwO_alloc pwO_build pwO_load pwO_store pwO_fieldAddr pwO_field pwO_idxS pwO_idxA pwO_idxV pwO_strAt pwO_lenStr pwO_lenS pwO_lenC pwO_slS pwO_slA pwO_slStr pwO_extract pwO_mkFunc pwO_mkIface pwO_append pwO_appendStr pwO_toBytes pwO_ofB pwO_box pwO_row pwO_minmax pwO_eqV pwO_sameB pwR_mov pwR_pick pwR_nilck pwR_bin pwR_binB pwR_eqNil pwR_un pwR_convI pwR_convS pwR_build pwR_load pwR_fieldAddr pwR_field pwR_idxS pwR_idxA pwR_idxV pwR_strAt pwR_lenStr pwR_lenS pwR_lenC pwR_slS pwR_slA pwR_slStr pwR_extract pwR_mkFunc pwR_mkIface pwR_ofB pwR_minmax pwR_eqV ret_r ret_n kRet_some resV0 resV1 resV2 resV3 resV4 VH.get_push_new VH.get_set_same VH.n_push VH.n_set cellsL_agg cellsL_int cellsL_bool cellsL_string cellsL_slice cellsL_pointer cellsL_map pw_draw pwD_nil pwD_cons kD_nil kD_cons evalOK_plain evalOK_guard kEv_some dstIs_some dstIs_none pw_goto pw_scopeL kSeq_goto kBlock_goto kLoop_goto kScopeL_normal kScopeL_ret kScopeL_exit kScopeL_goto pwOps_callv kCallv_fn kCallv_yld pwOps_nextM pwO_makeMap pwO_lookup pwR_lookup pwO_mapSet pwO_mapDel pwO_lenM pwR_lenM pwO_mapEntry pwO_entrySet pwO_rangeS pwO_nextS pwO_rangeM pwO_entryM pwR_entryM pwO_copyV pwO_makeSl pwO_asrt pwR_asrt kStep_if kStep_dif kQ_if kQ_dif kEv_if bound_none bound_some toNat_add' toNat_sub' toNat_mul' kLoopN_normal kLoopN_ret kLoopN_exit kLoopN_goto Option.map_some Option.map_none loadAt_obj storeAt_obj rowOf_obj eszIs_obj eszObj_cells loadObj_tab storeObj_tab_int VH.get_set_ne VH.get_push_lt VH.set_set tab_length List.getElem?_cons_zero List.getElem?_cons_succ List.length_cons List.length_nil oneC_int oneC_bool oneC_string oneC_slice oneC_pointer oneC_map srcCells_at srcCells_nil VH.get_push_at isNilV pw_drawT pwT_nil pwT_step pwT_alt kT_nil kT_cons pun pbinS pbin pbinI i64_small IntKind.bits resV resL resOne gI gM gT gF gN gNT gNF dI dM dT dF

theorem ver_told (bs hd : List UInt8) : ∃ e n : Int, verifyS bs hd = .tuple #[.int .i64 e, .int .i64 n] ∧ (e = 0 ↔ accS bs hd = true) := by
  unfold verifyS accS textW
  by_cases h1 : (walkS bs).err ≠ 0
  · rw [if_pos h1]
    exact ⟨_, _, rfl, by simp [h1]⟩
  rw [if_neg h1]
  have h1 : (walkS bs).err = 0 := by simpa using h1
  by_cases h2 : shaS (be8 (walkS bs).n ++ (walkS bs).l) ≠ hd
  · rw [if_pos h2]
    exact ⟨_, _, rfl, by simp [h2]⟩
  · rw [if_neg h2]
    have h2 : shaS (be8 (walkS bs).n ++ (walkS bs).l) = hd := by simpa using h2
    exact ⟨_, _, rfl, by simp [h1, h2]⟩

/-- what stays readable as bytes whatever is laid behind it. -/
def SrcB (h : VH) (v : Value) (bs : List UInt8) : Prop := ∃ a c, v = .slice a bs.length c ∧ ∀ g, Fr h g [] → srcCells g 1 v = some (u8s bs)
theorem SrcB.fr {h g : VH} {v : Value} {bs : List UInt8} (H : SrcB h v bs) (F : Fr h g []) : SrcB g v bs := by
  obtain ⟨a, c, e, h1⟩ := H
  exact ⟨a, c, e, fun g' F' => h1 g' (F.trans F')⟩
theorem SrcB.of {h : VH} {v : Value} {bs : List UInt8} (H : IsBytes h v bs) : SrcB h v bs := by
  obtain ⟨a, c, e⟩ := H.shape
  exact ⟨a, c, e, fun g F => (isB_fr F H).src⟩
theorem SrcB.tag {h : VH} {i p : Nat} {ds : List Value} {ow : Bool} {e : Nat} {bs : List UInt8} (hi : i < h.n) (hg : h.get i = .cells ds ow e) (hd : (ds.drop p).take bs.length = u8s bs) (hp : p + bs.length ≤ ds.length) :
    SrcB h (.slice (some ⟨i, p, some 0⟩) bs.length bs.length) bs := by
  refine ⟨_, _, rfl, fun g F => ?_⟩
  rw [srcCells_at, (F.get i hi (by simp)).trans hg, Nat.mul_one]
  simp only [rowObj]
  rw [if_pos hp, hd]

set_option maxHeartbeats 4000000 in
theorem joinedS_ok {h : VH} {i n c : Nat} {cs : List Value} {ow : Bool} {ls : List (List UInt8)} (hi : i < h.n) (hg : h.get i = .cells cs ow 1) (hn : n = ls.length) (hc : cs.length = n)
    (hb : ∀ k (hk : k < ls.length), ∃ v, cs[k]? = some v ∧ SrcB h v ls[k]) (hl : ls.flatten.length ≤ 140737488355328) (hnn : n ≤ 1000000) :
    PCalls Try.prog f_audit_joined [.slice (some ⟨i, 0, none⟩) n c] h (fun u h' => ∃ a n c, u = .slice a n c ∧ Buf h h' (.slice a n c) ls.flatten) := by
  refine PCalls_of_pw st_audit_joined (by simp [n_audit_joined]) ?_
  rw [b_audit_joined]
  simp (disch := first | omega | (simp only [VH.n_push, VH.n_set]; done) | (simp only [VH.n_push, VH.n_set]; omega)) [B_audit_joined]
  refine pw_loopN (fun k s g => ∃ (a : Option Addr) (m d : Nat), Buf h g (.slice a m d) (ls.take k).flatten ∧ s 3 = .slice a m d ∧ s 6 = .slice (some ⟨i, 0, none⟩) n c ∧ s 7 = .int .i64 (n : Int) ∧ s 8 = .int .i64 (k : Int)) n ?_ ?_
  · exact ⟨none, 0, 0, by simpa using Buf.nil h, by simp [upd_apply], by simp [upd_apply], by simp [upd_apply], by simp [upd_apply]⟩
  rintro k s g hk ⟨a, m, d, B, e3, e6, e7, e8⟩
  by_cases hlt : k < n
  · have hltI : (k : Int) < (n : Int) := by omega
    obtain ⟨v, hx, xa, xd, rfl, hsrc⟩ := hb k (by omega)
    obtain ⟨xm, hml⟩ : ∃ xm, xm = (ls[k]'(by omega)).length := ⟨_, rfl⟩
    rw [← hml] at hx hsrc
    have hgg : g.get i = .cells cs ow 1 := (B.fr.get i hi (by simp)).trans hg
    have hld : ∀ j, j = k → loadObj (.cells cs ow 1) j none = some (.slice xa xm xd) := by rintro j rfl; simpa [loadObj] using hx
    have hld1 := hld k rfl
    have hxs := hsrc g B.fr
    obtain ⟨w, G, hap, B2⟩ := B.append (ls[k]'(by omega)) (by
      have := flat_take_le ls (k + 1)
      rw [take_oneL (by omega), List.length_append] at this
      omega)
    rw [← take_oneL (by omega)] at B2
    rw [← hml] at hap
    obtain ⟨pa, pn, pc, rfl⟩ : ∃ a n c, w = .slice a n c := by
      obtain ⟨a, c, rfl⟩ := B2.shape
      exact ⟨_, _, _, rfl⟩
    have hkk : IntKind.i64.wrap ((k : Int) + 1) = ((k + 1 : Nat) : Int) := by rw [i64_small (by omega) (by omega)]; omega
    have hap' : (some (u8s (ls[k]'(by omega)))).bind (fun ys => appendV g 1 1 (.slice a m d) ys xm) = some (.slice pa pn pc, G) := hap
    simp (disch := first | omega | (simp only [VH.n_push, VH.n_set]; done) | (simp only [VH.n_push, VH.n_set]; omega)) [e3, e6, e7, e8, hlt, hltI, hgg, hld1, hkk, hc, -srcCells_at, hxs, hap]
    exact ⟨pa, _, pc, B2, ⟨rfl, rfl, rfl⟩⟩
  · obtain rfl : k = n := by omega
    rw [hn, List.take_length] at B
    simp (disch := first | omega | (simp only [VH.n_push, VH.n_set]; done) | (simp only [VH.n_push, VH.n_set]; omega)) [r_audit_joined, e3, e6, e7, e8]
    exact ⟨a, m, d, ⟨rfl, rfl, rfl⟩, B⟩
/-- at a row of two. -/
theorem joinedR_ok {h : VH} {r : Nat} {v1 v2 : Value} {l1 l2 : List UInt8} (hr : r < h.n) (hg : h.get r = .cells [v1, v2] true 1) (h1 : SrcB h v1 l1) (h2 : SrcB h v2 l2) (hl : l1.length + l2.length ≤ 140737488355328) :
    PCalls Try.prog f_audit_joined [.slice (some ⟨r, 0, none⟩) 2 2] h (fun u h' => ∃ a n c, u = .slice a n c ∧ Buf h h' (.slice a n c) (l1 ++ l2)) := by
  refine (joinedS_ok (ls := [l1, l2]) hr hg rfl rfl ?_ (by simpa using hl) (by simp)).mono ?_
  · intro k hk
    match k, hk with
    | 0, _ => exact ⟨v1, rfl, h1⟩
    | 1, _ => exact ⟨v2, rfl, h2⟩
  · rintro u h' ⟨a, n, c, rfl, B⟩
    exact ⟨a, n, c, rfl, by simpa using B⟩

theorem items_at {B : Nat} {g : VH} {v1 v2 v3 : Value} {ts : List It} (I : ItemsAt B g v1 v2 v3 ts) (hl : ∀ t ∈ ts, t.l.length = 32) {k : Nat} (hk : k < ts.length) :
    ∃ i2 o2 c2 ds2 i3 o3 c3 ds3 a n c, v2 = .slice (some ⟨i2, o2, none⟩) ts.length c2 ∧ v3 = .slice (some ⟨i3, o3, none⟩) ts.length c3 ∧
      i2 < g.n ∧ g.get i2 = .cells ds2 true 1 ∧ ds2[o2 + k]? = some (.slice a n c) ∧ IsBytes g (.slice a n c) ts[k].b ∧
      i3 < g.n ∧ g.get i3 = .cells ds3 true 32 ∧ o3 + k * 32 + 32 ≤ ds3.length ∧ (ds3.drop (o3 + k * 32)).take 32 = u8s ts[k].l := by
  obtain ⟨rows, e2, o2, h2⟩ := I.r2
  have o3 := I.r3
  have hrl : rows.length = ts.length := by rw [← e2]; simp
  rcases o2 with ⟨_, _, h0⟩ | ⟨i2, p2, c2, ds2, a1, a2, rfl, a3, a4, a5, a6⟩
  · omega
  rcases o3 with ⟨_, _, h0⟩ | ⟨i3, p3, c3, ds3, b1, b2, rfl, b3, b4, b5, b6⟩
  · omega
  have hkr : k < rows.length := by omega
  obtain ⟨q1, q2⟩ := h2 rows[k] (List.getElem_mem hkr)
  obtain ⟨x, y, hsh⟩ := q1.shape
  have ht : rows[k].1 = ts[k] := by subst e2; simp
  have hfl : ∀ x ∈ ts.map (fun t : It => u8s t.l), x.length = 32 := fun x hx => by
    obtain ⟨t, ht, rfl⟩ := List.mem_map.1 hx
    rw [u8s_length, hl t ht]
  have hch := flat_chunk hfl (k := k) (by simpa using hk)
  rw [← List.flatMap_def, ← b4, List.getElem_map, List.drop_drop] at hch
  have hfm := flat_len hfl
  rw [← List.flatMap_def, ← b4, List.length_map, List.length_drop] at hfm
  have hk32 : k * 32 + 32 ≤ ts.length * 32 := by omega
  refine ⟨i2, p2, c2, ds2, i3, p3, c3, ds3, x, rows[k].1.b.length, y, rfl, rfl, a1, a3, ?_, ?_, b1, b3, by omega, hch⟩
  · have : (ds2.drop p2)[k]? = some rows[k].2 := by rw [a4]; simp [hkr]
    rw [List.getElem?_drop] at this
    rw [this, ← hsh]
  · rw [← hsh, ← ht]; exact q1
theorem items_l {bs : List UInt8} : ∀ t ∈ itemsS bs, t.l.length = 32 := by
  intro t ht
  obtain ⟨k, hk, rfl⟩ := List.getElem_of_mem ht
  rw [linked_at (items_told bs).2.2 hk]
  exact linkS_len zero32_len _

def CollP (h : VH) (a b hd : List UInt8) (u : Value) (h' : VH) : Prop := Fr h h' [] ∧ ∃ p n c q m d, u = .tuple #[.slice p n c, .slice q m d, .bool (collS a b hd).2.2] ∧ IsBytes h' (.slice p n c) (collS a b hd).1 ∧ IsBytes h' (.slice q m d) (collS a b hd).2.1

set_option maxHeartbeats 8000000 in
theorem collide_ok {h : VH} {va vb : Value} {a b hd : List UInt8} (ha : IsBytes h va a) (hb : IsBytes h vb b) (hla : a.length ≤ 1000000000) (hlb : b.length ≤ 1000000000) (hdl : hd.length = 32) :
    PCalls Try.prog f_audit_Collide [va, vb, digV hd] h (CollP h a b hd) := by
  refine PCalls_of_pw st_audit_Collide (by simp [n_audit_Collide]) ?_
  rw [b_audit_Collide]
  obtain ⟨aa, ac, rfl⟩ := ha.shape
  obtain ⟨ba, bc, rfl⟩ := hb.shape
  obtain ⟨LA, hLA⟩ : ∃ L, L = a.length := ⟨_, rfl⟩
  obtain ⟨LB, hLB⟩ : ∃ L, L = b.length := ⟨_, rfl⟩
  rw [← hLA] at ha ⊢
  rw [← hLB] at hb ⊢
  have hcd : cellsL (digV hd) = u8s hd := rfl
  have hall : (u8s hd).all Value.oneCell' = true := by simp [u8s, Value.oneCell']
  have hf2 : fillC [.slice none 0 0, .slice none 0 0] [(0, 1, .slice aa LA ac), (1, 1, .slice ba LB bc)] = some [.slice aa LA ac, .slice ba LB bc] := rfl
  have hone : ([.slice aa LA ac, .slice ba LB bc] : List Value).all Value.oneCell' = true := rfl
  obtain ⟨g0, hg0⟩ : ∃ x, x = (h.push (.cells (u8s hd) true 1)).push (.cells [.slice aa LA ac, .slice ba LB bc] true 1) := ⟨_, rfl⟩
  have F0 : Fr h g0 [] := by rw [hg0]; exact Fr_push (Fr_push (Fr.refl _ _))
  have n0 : g0.n = h.n + 2 := by rw [hg0]; simp
  have c0 : g0.get h.n = .cells (u8s hd) true 1 := by rw [hg0, VH.get_push_lt _ _ (by simp), VH.get_push_new]
  have d0 : g0.get (h.n + 1) = .cells [.slice aa LA ac, .slice ba LB bc] true 1 := by rw [hg0]; exact VH.get_push_new (h.push _) _
  have hdd : loadObj (.cells (u8s hd) true 1) 0 (some 32) = some (digV hd) := dig_load hdl
  have hno : ∀ g, Fr h g [] → (accS a hd = false ∨ accS b hd = false) → CollP h a b hd (.tuple #[.slice none 0 0, .slice none 0 0, .bool false]) g := by
    intro g F hx
    have : collS a b hd = ([], [], false) := by unfold collS; rw [if_pos hx]
    exact ⟨F, none, 0, 0, none, 0, 0, by rw [this], by rw [this]; exact .inl ⟨rfl, rfl⟩, by rw [this]; exact .inl ⟨rfl, rfl⟩⟩
  simp (disch := first | omega | (simp only [VH.n_push, VH.n_set]; done) | (simp only [VH.n_push, VH.n_set]; omega)) [B_audit_Collide, hcd, hall, hf2, hone, ← hg0]
  refine pw_loopN (fun k s g => Fr g0 g [] ∧ (1 ≤ k → accS a hd = true) ∧ (2 ≤ k → accS b hd = true) ∧ s 0 = .slice aa LA ac ∧ s 1 = .slice ba LB bc ∧ s 5 = .pointer (some ⟨h.n, 0, none⟩) ∧ s 22 = .slice (some ⟨h.n + 1, 0, none⟩) 2 2 ∧ s 23 = .int .i64 2 ∧ s 24 = .int .i64 (k : Int)) 2 ?_ ?_
  · exact ⟨Fr.refl _ _, by omega, by omega, by simp [upd_apply, s0_apply], by simp [upd_apply, s0_apply], by simp [upd_apply], by simp [upd_apply], by simp [upd_apply], by simp [upd_apply]⟩
  rintro k s g hk ⟨F, ka, kb, e0, e1, e5, e22, e23, e24⟩
  have cg := (F.get h.n (by omega) (by simp)).trans c0
  have dg := (F.get (h.n + 1) (by omega) (by simp)).trans d0
  have nF := F.n
  obtain rfl | rfl | rfl : k = 0 ∨ k = 1 ∨ k = 2 := by omega
  · obtain ⟨e, m, hv, hea⟩ := ver_told a hd
    have hl0 : loadObj (.cells [.slice aa LA ac, .slice ba LB bc] true 1) 0 none = some (.slice aa LA ac) := rfl
    simp (disch := first | omega | (simp only [VH.n_push, VH.n_set]; done) | (simp only [VH.n_push, VH.n_set]; omega)) [e0, e1, e5, e22, e23, e24, cg, dg, hdd, hl0]
    refine (verify_ok (isB_fr (F0.trans F) ha) hla hdl).mono ?_
    rintro u g1 ⟨rfl, F1⟩
    rw [hv]
    by_cases he : e = 0
    · have heb : (e != 0) = false := by simpa using he
      simp (disch := first | omega | (simp only [VH.n_push, VH.n_set]; done) | (simp only [VH.n_push, VH.n_set]; omega)) [heb, e24]
      exact ⟨F.trans F1, hea.1 he, e0, e1, e5, e22, e23⟩
    · have heb : (e != 0) = true := by simpa using he
      simp (disch := first | omega | (simp only [VH.n_push, VH.n_set]; done) | (simp only [VH.n_push, VH.n_set]; omega)) [r_audit_Collide, heb]
      exact hno _ ((F0.trans F).trans F1) (.inl (by simpa using fun h => he (hea.2 h)))
  · obtain ⟨e, m, hv, hea⟩ := ver_told b hd
    have hl0 : loadObj (.cells [.slice aa LA ac, .slice ba LB bc] true 1) 1 none = some (.slice ba LB bc) := rfl
    simp (disch := first | omega | (simp only [VH.n_push, VH.n_set]; done) | (simp only [VH.n_push, VH.n_set]; omega)) [e0, e1, e5, e22, e23, e24, cg, dg, hdd, hl0]
    refine (verify_ok (isB_fr (F0.trans F) hb) hlb hdl).mono ?_
    rintro u g1 ⟨rfl, F1⟩
    rw [hv]
    by_cases he : e = 0
    · have heb : (e != 0) = false := by simpa using he
      simp (disch := first | omega | (simp only [VH.n_push, VH.n_set]; done) | (simp only [VH.n_push, VH.n_set]; omega)) [heb, e24]
      exact ⟨F.trans F1, ka (by omega), hea.1 he, e0, e1, e5, e22, e23⟩
    · have heb : (e != 0) = true := by simpa using he
      simp (disch := first | omega | (simp only [VH.n_push, VH.n_set]; done) | (simp only [VH.n_push, VH.n_set]; omega)) [r_audit_Collide, heb]
      exact hno _ ((F0.trans F).trans F1) (.inr (by simpa using fun h => he (hea.2 h)))
  have acca := ka (by omega)
  have accb := kb (by omega)
  simp (disch := first | omega | (simp only [VH.n_push, VH.n_set]; done) | (simp only [VH.n_push, VH.n_set]; omega)) [e0, e1, e23, e24]
  have Fg := F0.trans F
  refine (walk_ok (isB_fr Fg ha) hla).mono ?_
  rintro u g1 ⟨F1, ae, ne, ce, al, nl, cl, ab, nb, cb, i, j, rfl, K1, hs1, hi1, hj1, hn1, I1⟩
  simp (disch := first | omega | (simp only [VH.n_push, VH.n_set]; done) | (simp only [VH.n_push, VH.n_set]; omega)) [e1]
  refine (walk_ok (isB_fr (Fg.trans F1) hb) hlb).mono ?_
  rintro u g2 ⟨F2, ae2, ne2, ce2, al2, nl2, cl2, ab2, nb2, cb2, i2, j2, rfl, K2, hs2, hi2, hj2, hn2, I2⟩
  obtain ⟨wa, hwa⟩ : ∃ w, w = walkS a := ⟨_, rfl⟩
  obtain ⟨wb, hwb⟩ : ∃ w, w = walkS b := ⟨_, rfl⟩
  have hta : textW a = be8 wa.n ++ wa.l := by rw [hwa]; rfl
  have htb : textW b = be8 wb.n ++ wb.l := by rw [hwb]; rfl
  rw [← hwa] at K1 hn1 ⊢
  rw [← hwb] at K2 hn2 ⊢
  obtain ⟨na, lla, sba, era, ata⟩ := wa
  obtain ⟨nnb, llb, sbb, erb, atb⟩ := wb
  simp only at K1 hn1 K2 hn2 hta htb ⊢
  obtain ⟨G, hG⟩ : ∃ x, x = (((g2.push (.cells [.slice none 0 0, .slice none 0 0, .slice none 0 0, .pointer none, .int .i64 0, .int .i64 0] true 1)).push (.cells [.slice none 0 0, .slice none 0 0, .slice none 0 0, .pointer none, .int .i64 0, .int .i64 0] true 1)).set g2.n (.cells [.slice ae ne ce, .slice al nl cl, .slice ab nb cb, .pointer (some ⟨i, 0, none⟩), .int .i64 era, .int .i64 (ata : Int)] true 1)).set (g2.n + 1) (.cells [.slice ae2 ne2 ce2, .slice al2 nl2 cl2, .slice ab2 nb2 cb2, .pointer (some ⟨i2, 0, none⟩), .int .i64 erb, .int .i64 (atb : Int)] true 1) := ⟨_, rfl⟩
  have FG : Fr g2 G [] := by rw [hG]; exact Fr_set (Fr_set (Fr_push (Fr_push (Fr.refl _ _))) (by simp)) (by simp)
  have nG : G.n = g2.n + 2 := by rw [hG]; simp
  obtain ⟨X, hX⟩ : ∃ X, X = g2.n := ⟨_, rfl⟩
  have gX : G.get X = .cells [.slice ae ne ce, .slice al nl cl, .slice ab nb cb, .pointer (some ⟨i, 0, none⟩), .int .i64 era, .int .i64 (ata : Int)] true 1 := by
    rw [hG, hX, VH.get_set_ne _ _ (by omega), VH.get_set_same]
  have gY : G.get (X + 1) = .cells [.slice ae2 ne2 ce2, .slice al2 nl2 cl2, .slice ab2 nb2 cb2, .pointer (some ⟨i2, 0, none⟩), .int .i64 erb, .int .i64 (atb : Int)] true 1 := by
    rw [hG, hX, VH.get_set_same]
  have KA := (K1.fr F2).fr FG
  have KB := K2.fr FG
  have IA := (I1.fr F2 (by simp)).fr FG (by simp)
  have IB := I2.fr FG (by simp)
  have FhG := ((Fg.trans F1).trans F2).trans FG
  rw [← hX] at hG nG
  simp (disch := first | omega | (simp only [VH.n_push, VH.n_set]; done) | (simp only [VH.n_push, VH.n_set]; omega)) [st6_A, ← hX, ← hG, gX, gY, ld6_3, KA.rec_, KB.rec_, ch_ld0, ch_ldl KA.ll, ch_ldl KB.ll]
  refine (text_ok KA.ll).mono ?_
  rintro u g4 ⟨pa, pn, pc, rfl, B4⟩
  have gY4 := (B4.fr.get (X + 1) (by omega) (by simp)).trans gY
  have KB4 := KB.fr B4.fr
  simp (disch := first | omega | (simp only [VH.n_push, VH.n_set]; done) | (simp only [VH.n_push, VH.n_set]; omega)) [gY4, ld6_3, KB4.rec_, ch_ld0, ch_ldl KB.ll]
  refine (text_ok KB.ll).mono ?_
  rintro u g5 ⟨qa, qn, qc, rfl, B5⟩
  have bp := isB_fr B5.fr B4.is
  have bq := B5.is
  have o1 := ofB_eq bp
  have o2 := ofB_eq bq
  have F5 := B4.fr.trans B5.fr
  have gX5 := (F5.get X (by omega) (by simp)).trans gX
  by_cases ht : be8 na ++ lla = be8 nnb ++ llb
  case neg =>
    have hne : (be8 na ++ lla == be8 nnb ++ llb) = false := by simpa using ht
    have hc : collS a b hd = (be8 na ++ lla, be8 nnb ++ llb, true) := by
      unfold collS
      rw [if_neg (by rw [acca, accb]; simp), if_pos (by rw [hta, htb]; exact ht), hta, htb]
    simp (disch := first | omega | (simp only [VH.n_push, VH.n_set]; done) | (simp only [VH.n_push, VH.n_set]; omega)) [r_audit_Collide, o1, o2, strB_toList, hne]
    exact ⟨FhG.trans F5, pa, pn, pc, qa, qn, qc, by rw [hc], by rw [hc]; exact bp, by rw [hc]; exact bq⟩
  have hne : (be8 na ++ lla == be8 nnb ++ llb) = true := by simpa using ht
  obtain ⟨hnn, hll⟩ := be8_inj (by omega) (by omega) ht
  obtain ⟨xs, hxs⟩ : ∃ xs, xs = itemsS a := ⟨_, rfl⟩
  obtain ⟨ys, hys⟩ : ∃ ys, ys = itemsS b := ⟨_, rfl⟩
  have hxl := @items_l a
  have hyl := @items_l b
  have ta := items_told a
  have tb := items_told b
  rw [← hwa] at ta
  rw [← hwb] at tb
  rw [← hxs] at IA hxl ta
  rw [← hys] at IB hyl tb
  have hla1 : xs.length = na := ta.1.symm
  have hlb1 : ys.length = nnb := tb.1.symm
  obtain ⟨N, hN⟩ : ∃ N, N = xs.length := ⟨_, rfl⟩
  have hcol : collS a b hd = collD xs ys N := by
    unfold collS
    rw [if_neg (by rw [acca, accb]; simp), if_neg (by rw [hta, htb]; simpa using ht), ← hxs, ← hys, hN]
  obtain ⟨_, _, o2', _⟩ := IA.r2
  obtain ⟨_, cl', hsh⟩ := o2'.shapeN
  injection hsh with _ hnl _
  rw [← hN] at hnl
  obtain rfl : N = nl := hnl.symm
  have gY5 := (F5.get (X + 1) (by omega) (by simp)).trans gY
  have IA5 := IA.fr F5 (by simp)
  have IB5 := IB.fr F5 (by simp)
  have Fh5 := FhG.trans F5
  have n5 := F5.n
  simp (disch := first | omega | (simp only [VH.n_push, VH.n_set]; done) | (simp only [VH.n_push, VH.n_set]; omega)) [o1, o2, strB_toList, hne, gX5, ld6_1]
  refine pw_loopN (fun k s g => Fr g5 g [] ∧ collD xs ys N = collD xs ys (N - k) ∧ s 13 = .pointer (some ⟨X, 0, none⟩) ∧ s 14 = .pointer (some ⟨X + 1, 0, none⟩) ∧ s 17 = .int .i64 ((N : Int) - 1 - (k : Int))) N ?_ ?_
  · have hN1 : IntKind.i64.wrap ((N : Int) - 1) = (N : Int) - 1 := i64_small (by omega) (by omega)
    exact ⟨Fr.refl _ _, rfl, by simp [upd_apply, hX], by simp [upd_apply, hX], by simp [upd_apply, hN1]⟩
  rintro k s g6 hk ⟨F6, hcd6, e13, e14, e17⟩
  by_cases hlt : k < N
  case neg =>
    obtain rfl : k = N := by omega
    have e17' : s 17 = .int .i64 (-1) := by rw [e17]; congr 1; omega
    have hres : collS a b hd = ([], [], false) := by rw [hcol, hcd6, Nat.sub_self]; rfl
    simp (disch := first | omega | (simp only [VH.n_push, VH.n_set]; done) | (simp only [VH.n_push, VH.n_set]; omega)) [r_audit_Collide, e13, e14, e17']
    exact ⟨Fh5.trans F6, none, 0, 0, none, 0, 0, by rw [hres], by rw [hres]; exact .inl ⟨rfl, rfl⟩, by rw [hres]; exact .inl ⟨rfl, rfl⟩⟩
  obtain ⟨m, hm⟩ : ∃ m, N - k = m + 1 := ⟨N - k - 1, by omega⟩
  have e17' : s 17 = .int .i64 (m : Int) := by rw [e17]; congr 1; omega
  have hmN : m < N := by omega
  obtain ⟨xi2, xo2, xc2, xd2, xi3, xo3, xc3, xd3, xa, xn, xc, xe2, xe3, xl2, xg2, xat, xb, xl3, xg3, xle, xr⟩ := items_at (IA5.fr F6 (by simp)) hxl (k := m) (by omega)
  obtain ⟨yi2, yo2, yc2, yd2, yi3, yo3, yc3, yd3, ya, yn, yc, ye2, ye3, yl2, yg2, yat, yb, yl3, yg3, yle, yr⟩ := items_at (IB5.fr F6 (by simp)) hyl (k := m) (by omega)
  injection xe2 with xe2 _ _
  injection xe3 with xe3 xen _
  injection ye2 with ye2 yen _
  injection ye3 with ye3 yen3 _
  subst xe2 xe3 ye2 ye3
  have hxm : xs[m].l.length = 32 := hxl _ (List.getElem_mem _)
  have hym : ys[m].l.length = 32 := hyl _ (List.getElem_mem _)
  have gX6 := (F6.get X (by omega) (by simp)).trans gX5
  have gY6 := (F6.get (X + 1) (by omega) (by simp)).trans gY5
  have n6 := F6.n
  have xS1 : SrcB g6 (.slice (some ⟨xi3, xo3 + m * 32, some 0⟩) 32 32) xs[m].l := by
    have := SrcB.tag (bs := xs[m].l) xl3 xg3 (p := xo3 + m * 32) (by rw [hxm]; exact xr) (by rw [hxm]; exact xle)
    rw [hxm] at this; exact this
  have yS1 : SrcB g6 (.slice (some ⟨yi3, yo3 + m * 32, some 0⟩) 32 32) ys[m].l := by
    have := SrcB.tag (bs := ys[m].l) yl3 yg3 (p := yo3 + m * 32) (by rw [hym]; exact yr) (by rw [hym]; exact yle)
    rw [hym] at this; exact this
  have xS2 := SrcB.of xb
  have yS2 := SrcB.of yb
  have hmI : (m : Int) < (N : Int) := by omega
  have hm0 : (0 : Int) ≤ (m : Int) := by omega
  have hyN : ys.length = N := by omega
  have hmY : m < ys.length := by omega
  have hmYI : (m : Int) < (nl2 : Int) := by omega
  have hmY2 : m < nl2 := by omega
  have xld : loadObj (.cells xd2 true 1) (xo2 + m) none = some (.slice xa xn xc) := by simpa [loadObj] using xat
  have yld : loadObj (.cells yd2 true 1) (yo2 + m) none = some (.slice ya yn yc) := by simpa [loadObj] using yat
  have xez : eszObj (.cells xd3 true 32) 32 = true := rfl
  have hxle : xo3 + m * 32 + 32 ≤ xd3.length := xle
  have hyle : yo3 + m * 32 + 32 ≤ yd3.length := yle
  simp (disch := first | omega | (simp only [VH.n_push, VH.n_set]; done) | (simp only [VH.n_push, VH.n_set]; omega)) [e13, e14, e17', gX6, gY6, ld6_1, ld6_2, hm0, hmI, hmN, hmY, hmYI, hmY2, xg2, xg3, yg2, yg3, xld, yld, hxle, hyle, -pw_drawT]
  generalize hKK : kSeq Try.prog _ _ = KK
  have gxm : xs.getD m it0 = xs[m] := by simp [List.getD, show m < xs.length by omega]
  have gym : ys.getD m it0 = ys[m] := by simp [List.getD, show m < ys.length by omega]
  have hcs : collD xs ys (N - k) = if xs[m].l ++ xs[m].b ≠ ys[m].l ++ ys[m].b then (xs[m].l ++ xs[m].b, ys[m].l ++ ys[m].b, true) else collD xs ys m := by
    rw [hm]
    show (if (xs.getD m it0).l ++ (xs.getD m it0).b ≠ (ys.getD m it0).l ++ (ys.getD m it0).b then _ else _) = _
    rw [gxm, gym]
  obtain ⟨P, hP⟩ : ∃ P, P = xs[m].l ++ xs[m].b := ⟨_, rfl⟩
  obtain ⟨Q, hQ⟩ : ∃ Q, Q = ys[m].l ++ ys[m].b := ⟨_, rfl⟩
  rw [← hP, ← hQ] at hcs
  have tail : ∀ (s' : Slots) (g' : VH) (pa : Option Addr) (pn pc : Nat) (qa : Option Addr) (qn qc : Nat), Fr g6 g' [] → IsBytes g' (.slice pa pn pc) P → IsBytes g' (.slice qa qn qc) Q → s' 18 = .slice pa pn pc → s' 19 = .slice qa qn qc →
      s' 13 = .pointer (some ⟨X, 0, none⟩) → s' 14 = .pointer (some ⟨X + 1, 0, none⟩) → s' 17 = .int .i64 (m : Int) → KK .normal s' g' := by
    intro s' g' pa pn pc qa qn qc F' bp' bq' z18 z19 z13 z14 z17
    rw [← hKK]
    have o1 := ofB_eq bp'
    have o2 := ofB_eq bq'
    by_cases hpq : P = Q
    case neg =>
      have hne : (P == Q) = false := by simpa using hpq
      rw [if_pos hpq] at hcs
      simp (disch := first | omega | (simp only [VH.n_push, VH.n_set]; done) | (simp only [VH.n_push, VH.n_set]; omega)) [r_audit_Collide, z18, z19, o1, o2, strB_toList, hne]
      exact ⟨(Fh5.trans F6).trans F', pa, pn, pc, qa, qn, qc, by rw [hcol, hcd6, hcs], by rw [hcol, hcd6, hcs]; exact bp', by rw [hcol, hcd6, hcs]; exact bq'⟩
    have hne : (P == Q) = true := by simpa using hpq
    rw [if_neg (by simpa using hpq)] at hcs
    have hm1 : IntKind.i64.wrap ((m : Int) - 1) = (N : Int) - 1 - ((k + 1 : Nat) : Int) := by rw [i64_small (by omega) (by omega)]; omega
    simp (disch := first | omega | (simp only [VH.n_push, VH.n_set]; done) | (simp only [VH.n_push, VH.n_set]; omega)) [z18, z19, o1, o2, strB_toList, hne, z13, z14, z17, hm1]
    exact ⟨hlt, F6.trans F', by rw [hcd6, hcs, show N - (k + 1) = m by omega]⟩
  clear hKK
  have hfx : fillC [.slice none 0 0, .slice none 0 0] [(0, 1, .slice (some ⟨xi3, xo3 + m * 32, some 0⟩) 32 32), (1, 1, .slice xa xn xc)] = some [.slice (some ⟨xi3, xo3 + m * 32, some 0⟩) 32 32, .slice xa xn xc] := rfl
  have hfy : fillC [.slice none 0 0, .slice none 0 0] [(0, 1, .slice (some ⟨yi3, yo3 + m * 32, some 0⟩) 32 32), (1, 1, .slice ya yn yc)] = some [.slice (some ⟨yi3, yo3 + m * 32, some 0⟩) 32 32, .slice ya yn yc] := rfl
  have ho1 : ([.slice (some ⟨xi3, xo3 + m * 32, some 0⟩) 32 32, .slice xa xn xc] : List Value).all Value.oneCell' = true := rfl
  have ho2 : ([.slice (some ⟨yi3, yo3 + m * 32, some 0⟩) 32 32, .slice ya yn yc] : List Value).all Value.oneCell' = true := rfl
  simp (disch := first | omega | (simp only [VH.n_push, VH.n_set]; done) | (simp only [VH.n_push, VH.n_set]; omega)) [e13, e14, e17', gX6, gY6, ld6_1, ld6_2, hm0, hmI, hmN, hmY, hmYI, hmY2, xg2, xg3, yg2, yg3, xld, yld, hxle, hyle, hfx, hfy, ho1, ho2]
  have facts : ∀ g', Fr g6 g' [] → g'.get X = _ ∧ g'.get (X + 1) = _ ∧ g'.get xi2 = _ ∧ g'.get xi3 = _ ∧ g'.get yi2 = _ ∧ g'.get yi3 = _ := fun g' F' =>
    ⟨(F'.get X (by omega) (by simp)).trans gX6, (F'.get (X + 1) (by omega) (by simp)).trans gY6, (F'.get xi2 xl2 (by simp)).trans xg2, (F'.get xi3 xl3 (by simp)).trans xg3, (F'.get yi2 yl2 (by simp)).trans yg2, (F'.get yi3 yl3 (by simp)).trans yg3⟩
  have hPl : xs[m].l.length + xs[m].b.length ≤ 140737488355328 := by
    have h1 : xs[m].b.length ≤ 131072 := by
      have hq : xs[m] ∈ itemsS a := by rw [← hxs]; exact List.getElem_mem _
      exact items_b _ _ _ _ _ hq
    omega
  have hQl : ys[m].l.length + ys[m].b.length ≤ 140737488355328 := by
    have h1 : ys[m].b.length ≤ 131072 := by
      have hq : ys[m] ∈ itemsS b := by rw [← hys]; exact List.getElem_mem _
      exact items_b _ _ _ _ _ hq
    omega
  refine ⟨⟨?_, ?_⟩, ?_⟩
  · have Fa : Fr g6 (g6.push (.cells [.slice (some ⟨xi3, xo3 + m * 32, some 0⟩) 32 32, .slice xa xn xc] true 1)) [] := Fr_push (Fr.refl _ _)
    refine (joinedR_ok (by simp) (VH.get_push_new _ _) (xS1.fr Fa) (xS2.fr Fa) hPl).mono ?_
    rintro u g7 ⟨pa, pn, pc, rfl, B7⟩
    have F7 := Fa.trans B7.fr
    obtain ⟨q1, q2, q3, q4, q5, q6⟩ := facts g7 F7
    have n7 := F7.n
    simp (disch := first | omega | (simp only [VH.n_push, VH.n_set]; done) | (simp only [VH.n_push, VH.n_set]; omega)) [e13, e14, e17', q1, q2, q3, q4, q5, q6, ld6_1, ld6_2, xld, yld, hxle, hyle, hfy, ho2]
    have Fb : Fr g7 (g7.push (.cells [.slice (some ⟨yi3, yo3 + m * 32, some 0⟩) 32 32, .slice ya yn yc] true 1)) [] := Fr_push (Fr.refl _ _)
    have F7b := F7.trans Fb
    refine (joinedR_ok (by simp) (VH.get_push_new _ _) (yS1.fr F7b) (yS2.fr F7b) hQl).mono ?_
    rintro u g8 ⟨qa, qn, qc, rfl, B8⟩
    simp (disch := first | omega | (simp only [VH.n_push, VH.n_set]; done) | (simp only [VH.n_push, VH.n_set]; omega)) []
    exact tail _ _ pa pn pc qa qn qc (F7b.trans B8.fr) (by rw [hP]; exact isB_fr (Fb.trans B8.fr) B7.is) (by rw [hQ]; exact B8.is) (by simp [upd_apply]) (by simp [upd_apply]) (by simp [upd_apply, e13]) (by simp [upd_apply, e14]) (by simp [upd_apply, e17'])
  · have Fa : Fr g6 (g6.push (.cells [.slice (some ⟨xi3, xo3 + m * 32, some 0⟩) 32 32, .slice xa xn xc] true 1)) [] := Fr_push (Fr.refl _ _)
    have Fb := Fr_push (o := .cells [.slice (some ⟨yi3, yo3 + m * 32, some 0⟩) 32 32, .slice ya yn yc] true 1) Fa
    refine (joinedR_ok (by simp; omega) (by rw [VH.get_push_lt _ _ (by simp), VH.get_push_new]) (xS1.fr Fb) (xS2.fr Fb) hPl).mono ?_
    rintro u g7 ⟨pa, pn, pc, rfl, B7⟩
    have F7 := Fb.trans B7.fr
    obtain ⟨q1, q2, q3, q4, q5, q6⟩ := facts g7 F7
    have n7 := B7.fr.n
    simp only [VH.n_push] at n7
    simp (disch := first | omega | (simp only [VH.n_push, VH.n_set]; done) | (simp only [VH.n_push, VH.n_set]; omega)) [e13, e14, e17', q1, q2, q3, q4, q5, q6, ld6_1, ld6_2, xld, yld, hxle, hyle, hfy, ho2]
    refine (joinedR_ok (by omega) ((B7.fr.get (g6.n + 1) (by simp) (by simp)).trans (VH.get_push_new (g6.push _) _)) (yS1.fr F7) (yS2.fr F7) hQl).mono ?_
    rintro u g8 ⟨qa, qn, qc, rfl, B8⟩
    simp (disch := first | omega | (simp only [VH.n_push, VH.n_set]; done) | (simp only [VH.n_push, VH.n_set]; omega)) []
    exact tail _ _ pa pn pc qa qn qc (F7.trans B8.fr) (by rw [hP]; exact isB_fr B8.fr B7.is) (by rw [hQ]; exact B8.is) (by simp [upd_apply]) (by simp [upd_apply]) (by simp [upd_apply, e13]) (by simp [upd_apply, e14]) (by simp [upd_apply, e17'])
  · have Fa : Fr g6 (g6.push (.cells [.slice (some ⟨yi3, yo3 + m * 32, some 0⟩) 32 32, .slice ya yn yc] true 1)) [] := Fr_push (Fr.refl _ _)
    have Fb := Fr_push (o := .cells [.slice (some ⟨xi3, xo3 + m * 32, some 0⟩) 32 32, .slice xa xn xc] true 1) Fa
    refine (joinedR_ok (by simp) (VH.get_push_new (g6.push _) _) (xS1.fr Fb) (xS2.fr Fb) hPl).mono ?_
    rintro u g7 ⟨pa, pn, pc, rfl, B7⟩
    have F7 := Fb.trans B7.fr
    obtain ⟨q1, q2, q3, q4, q5, q6⟩ := facts g7 F7
    have n7 := B7.fr.n
    simp only [VH.n_push] at n7
    simp (disch := first | omega | (simp only [VH.n_push, VH.n_set]; done) | (simp only [VH.n_push, VH.n_set]; omega)) [e13, e14, e17', q1, q2, q3, q4, q5, q6, ld6_1, ld6_2, xld, yld, hxle, hyle, hfy, ho2]
    refine (joinedR_ok (by omega) ((B7.fr.get g6.n (by simp; omega) (by simp)).trans (by rw [VH.get_push_lt _ _ (by simp), VH.get_push_new])) (yS1.fr F7) (yS2.fr F7) hQl).mono ?_
    rintro u g8 ⟨qa, qn, qc, rfl, B8⟩
    simp (disch := first | omega | (simp only [VH.n_push, VH.n_set]; done) | (simp only [VH.n_push, VH.n_set]; omega)) []
    exact tail _ _ pa pn pc qa qn qc (F7.trans B8.fr) (by rw [hP]; exact isB_fr B8.fr B7.is) (by rw [hQ]; exact B8.is) (by simp [upd_apply]) (by simp [upd_apply]) (by simp [upd_apply, e13]) (by simp [upd_apply, e14]) (by simp [upd_apply, e17'])
end Go.Proofs.Ytdnkpgbggpbgaaa.Au
