/- audit, part Q: a log that is changed (AuditEdits). -/
import Derived.Test.YtdnkpgbggpbgaaaAuO
set_option linter.unusedVariables false
set_option linter.unusedSimpArgs false
set_option maxRecDepth 100000
namespace Go.Proofs.Ytdnkpgbggpbgaaa.Au
open Go Go.RowKit Go.Proofs.Ytdnkpgbggpbgaaa.Pm Go.Proofs.Ytdnkpgbggpbgaaa.Fs Go.Proofs.Ytdnkpgbggpbgaaa.Wr Go.Proofs.Ytdnkpgbggpbgaaa.Sha
attribute [local simp] pw_skip pw_ops pw_quiet pw_seq pw_cond pw_block pw_exit pw_ret pw_scope pw_label kSeq_normal kSeq_ret kSeq_exit kBlock_normal kBlock_ret kBlock_exit kScope_normal kScope_ret kScope_exit kLoop_normal kLoop_ret kLoop_exit kCond_true kCond_false kCond_dec pwOps_nil pwOps_call pwOps_guard kStep_some kCall_at pwQ_nil pwQ_call pwQ_guard kQ_some putS_some putS_none upd_apply ev_t ev_k isB_bool isB_undef s0_apply pstep pwO_mov pwO_pick pwO_nilck pwO_bin pwO_binB pwO_eqNil pwO_un pwO_convI pwO_convS pwO_alloc pwO_build pwO_load pwO_store pwO_fieldAddr pwO_field pwO_idxS pwO_idxA pwO_idxV pwO_strAt pwO_lenStr pwO_lenS pwO_lenC pwO_slS pwO_slA pwO_slStr pwO_extract pwO_mkFunc pwO_mkIface pwO_append pwO_appendStr pwO_toBytes pwO_ofB pwO_box pwO_row pwO_minmax pwO_eqV pwO_sameB pwR_mov pwR_pick pwR_nilck pwR_bin pwR_binB pwR_eqNil pwR_un pwR_convI pwR_convS pwR_build pwR_load pwR_fieldAddr pwR_field pwR_idxS pwR_idxA pwR_idxV pwR_strAt pwR_lenStr pwR_lenS pwR_lenC pwR_slS pwR_slA pwR_slStr pwR_extract pwR_mkFunc pwR_mkIface pwR_ofB pwR_minmax pwR_eqV ret_r ret_n kRet_some resV0 resV1 resV2 resV3 resV4 VH.get_push_new VH.get_set_same VH.n_push VH.n_set cellsL_agg cellsL_int cellsL_bool cellsL_string cellsL_slice cellsL_pointer cellsL_map pw_draw pwD_nil pwD_cons kD_nil kD_cons evalOK_plain evalOK_guard kEv_some dstIs_some dstIs_none pw_goto pw_scopeL kSeq_goto kBlock_goto kLoop_goto kScopeL_normal kScopeL_ret kScopeL_exit kScopeL_goto pwOps_callv kCallv_fn kCallv_yld pwOps_nextM pwO_makeMap pwO_lookup pwR_lookup pwO_mapSet pwO_mapDel pwO_lenM pwR_lenM pwO_mapEntry pwO_entrySet pwO_rangeS pwO_nextS pwO_rangeM pwO_entryM pwR_entryM pwO_copyV pwO_makeSl pwO_asrt pwR_asrt kStep_if kStep_dif kQ_if kQ_dif kEv_if bound_none bound_some toNat_add' toNat_sub' toNat_mul' kLoopN_normal kLoopN_ret kLoopN_exit kLoopN_goto Option.map_some Option.map_none loadAt_obj storeAt_obj rowOf_obj eszIs_obj eszObj_cells loadObj_tab storeObj_tab_int VH.get_set_ne VH.get_push_lt VH.set_set tab_length List.getElem?_cons_zero List.getElem?_cons_succ List.length_cons List.length_nil oneC_int oneC_bool oneC_string oneC_slice oneC_pointer oneC_map srcCells_at srcCells_nil VH.get_push_at isNilV pw_drawT pwT_nil pwT_step pwT_alt kT_nil kT_cons pun pbinS pbin pbinI i64_small IntKind.bits resV resL resOne gI gM gT gF gN gNT gNF dI dM dT dF

theorem xor_range (a b : Int) : ∃ z : UInt8, Go.bits .xor .u8 a b = (z.toNat : Int) := by
  have h : ∀ x : Int, 0 ≤ IntKind.u8.wrap x ∧ IntKind.u8.wrap x < 256 := by
    intro x
    simp only [IntKind.wrap, IntKind.bits, IntKind.signed]
    constructor
    · simp; omega
    · simp; omega
  obtain ⟨h1, h2⟩ := h _
  refine ⟨UInt8.ofNat (Go.bits .xor .u8 a b).toNat, ?_⟩
  exact (byteOf_toNat ⟨h1, h2⟩).symm
theorem u8s_put (l : List UInt8) (p : Nat) (b : UInt8) : (u8s l).set p (.int .u8 (b.toNat : Int)) = u8s (l.set p b) := by
  simp [u8s, List.map_set]

/-- texts gathered in an owned row. -/
structure EdI (g : VH) (w : Value) (vs : List (Value × List UInt8)) : Prop where
  own : OwnSl g 1 w (vs.map Prod.fst) vs.length
  els : ∀ p ∈ vs, IsBytes g p.1 p.2 ∧ (∀ x ∈ idOf p.1, x ∉ idOf w) ∧ p.2.length ≤ 2000000
theorem EdI.nil (g : VH) : EdI g (.slice none 0 0) [] := ⟨OwnSl.nil _ _, by simp⟩
theorem EdI.fr {g g' : VH} {w : Value} {vs : List (Value × List UInt8)} (E : EdI g w vs) (F : Fr g g' []) : EdI g' w vs :=
  ⟨E.own.fr F (by simp), fun p hp => ⟨isB_fr F (E.els p hp).1, (E.els p hp).2⟩⟩
theorem EdI.app {g : VH} {w : Value} {vs : List (Value × List UInt8)} (E : EdI g w vs) {us : List (Value × List UInt8)} (hn : vs.length + us.length ≤ 1000) (hu : ∀ p ∈ us, IsBytes g p.1 p.2 ∧ (∀ x ∈ idOf p.1, x ∉ idOf w) ∧ p.2.length ≤ 2000000) :
    ∃ w' g', appendV g 1 24 w (us.map Prod.fst) us.length = some (w', g') ∧ EdI g' w' (vs ++ us) ∧ Fr g g' (idOf w) ∧ (∀ x ∈ idOf w', x ∈ idOf w ∨ g.n ≤ x) ∧ ∃ a c, w' = .slice a (vs.length + us.length) c := by
  obtain ⟨w', g', h1, h2, h3, h4⟩ := E.own.append (bytes := 24) (ys := us.map Prod.fst) (k := us.length) (by simp) (by omega)
  refine ⟨w', g', h1, ⟨by simpa using h2, fun p hp => ?_⟩, h3, h4, h2.shapeN⟩
  have hp' : IsBytes g p.1 p.2 ∧ (∀ x ∈ idOf p.1, x ∉ idOf w) ∧ p.2.length ≤ 2000000 := by
    rcases List.mem_append.1 hp with hp | hp
    · exact E.els p hp
    · exact hu p hp
  refine ⟨hp'.1.fr h3 hp'.2.1, fun x hx hx' => ?_, hp'.2.2⟩
  rcases h4 x hx' with h | h
  · exact hp'.2.1 x hx h
  · have := isB_lt hp'.1 x hx
    omega
theorem EdI.at_ {g : VH} {a : Option Addr} {n c : Nat} {vs : List (Value × List UInt8)} (E : EdI g (.slice a n c) vs) {k : Nat} (hk : k < vs.length) :
    ∃ i o ds p m d, a = some ⟨i, o, none⟩ ∧ n = vs.length ∧ i < g.n ∧ g.get i = .cells ds true 1 ∧ loadObj (.cells ds true 1) (o + k) none = some (.slice p m d) ∧ vs[k].1 = .slice p m d ∧ IsBytes g (.slice p m d) vs[k].2 ∧ vs[k].2.length ≤ 2000000 := by
  rcases E.own with ⟨_, _, h0⟩ | ⟨i, o, c', ds, h1, h2, h3, h4, h5, h6, h7⟩
  · omega
  · injection h3 with e1 e2 e3
    obtain ⟨q1, q2, q3⟩ := E.els vs[k] (List.getElem_mem hk)
    obtain ⟨p, d, hs⟩ := q1.shape
    refine ⟨i, o, ds, p, _, d, e1, e2, h1, h4, ?_, hs, hs ▸ q1, q3⟩
    have : (ds.drop o)[k]? = some vs[k].1 := by rw [h5]; simp [hk]
    rw [List.getElem?_drop] at this
    simpa [loadObj, hs] using this

set_option maxHeartbeats 16000000 in
theorem edits_ok' {h : VH} {v0 : Value} {es : List En} {turn cut : Int} {vm : Value} {more : List UInt8} (hv : IsEns h v0 es) (hes : ∀ e ∈ es, e.t.length ≤ 1048576 ∧ e.w.length ≤ 1048576 ∧ e.b.length ≤ 1048576) (hlen : es.length ≤ 1048576)
    (ht : -9223372036854775808 ≤ turn ∧ turn < 9223372036854775808) (hc : -9223372036854775808 ≤ cut ∧ cut < 9223372036854775808) (hm : IsBytes h vm more) (hml : more.length ≤ 1048576) :
    PCalls Try.prog f_law09_AuditEdits [v0, .int .i64 turn, .int .i64 cut, vm] h (fun u _ => u = .bool true) := by
  refine PCalls_of_pw st_law09_AuditEdits (by simp [n_law09_AuditEdits]) ?_
  rw [b_law09_AuditEdits]
  obtain ⟨ma, mc, rfl⟩ := hm.shape
  obtain ⟨M, hM⟩ : ∃ M, M = more.length := ⟨_, rfl⟩
  rw [← hM] at hm ⊢
  simp (disch := first | omega | (simp only [VH.n_push, VH.n_set]; done) | (simp only [VH.n_push, VH.n_set]; omega)) [B_law09_AuditEdits]
  generalize hR : PC.seq (PC.ops (⟨some 16, none, _⟩ :: _)) _ = R
  refine (made_ok hv hes hlen).mono ?_
  rintro u g1 ⟨ir, v, al, cl, ai, ci, rfl, F1, R1, O1, I1, hir, hiv, hil, hii⟩
  have G := made_good es
  obtain ⟨S, hS⟩ : ∃ S, S = madeS es := ⟨_, rfl⟩
  rw [← hS] at R1 O1 I1 G ⊢
  obtain ⟨L, hL⟩ : ∃ L, L = S.log.length := ⟨_, rfl⟩
  rw [← hL] at O1 ⊢
  have nle : S.n ≤ L := by rw [G.n, hL]; exact G.le
  by_cases hbig : 100000 < L
  · have hbigI : (100000 : Int) < (L : Int) := by omega
    simp (disch := first | omega | (simp only [VH.n_push, VH.n_set]; done) | (simp only [VH.n_push, VH.n_set]; omega)) [hbig, hbigI]
    refine (known_ok _).mono ?_
    rintro u g2 ⟨rfl, rfl⟩
    simp (disch := first | omega | (simp only [VH.n_push, VH.n_set]; done) | (simp only [VH.n_push, VH.n_set]; omega)) [r_law09_AuditEdits]
  have hbigI : ¬ (100000 : Int) < (L : Int) := by omega
  simp (disch := first | omega | (simp only [VH.n_push, VH.n_set]; done) | (simp only [VH.n_push, VH.n_set]; omega)) [hbig, hbigI]
  refine (rhead_ok R1 (by omega)).mono ?_
  rintro u g2 ⟨rfl, F2⟩
  have hhl := headS_len S
  obtain ⟨H, hH⟩ : ∃ H, H = headS S := ⟨_, rfl⟩
  rw [← hH] at hhl
  rw [show shaS (be8 S.n ++ S.l) = H from hH.symm]
  obtain ⟨g3, hg3⟩ : ∃ x, x = (g2.push (.cells [.int .u8 0, .int .u8 0, .int .u8 0, .int .u8 0, .int .u8 0, .int .u8 0, .int .u8 0, .int .u8 0, .int .u8 0, .int .u8 0, .int .u8 0, .int .u8 0, .int .u8 0, .int .u8 0, .int .u8 0, .int .u8 0, .int .u8 0, .int .u8 0, .int .u8 0, .int .u8 0, .int .u8 0, .int .u8 0, .int .u8 0, .int .u8 0, .int .u8 0, .int .u8 0, .int .u8 0, .int .u8 0, .int .u8 0, .int .u8 0, .int .u8 0, .int .u8 0] true 1)).set g2.n (.cells (u8s H) true 1) := ⟨_, rfl⟩
  have F3 : Fr g2 g3 [] := by rw [hg3]; exact Fr_set (Fr_push (Fr.refl _ _)) (Nat.le_refl _)
  have c3 : g3.get g2.n = .cells (u8s H) true 1 := by rw [hg3, VH.get_set_same]
  have n3 : g3.n = g2.n + 1 := by rw [hg3]; simp
  obtain ⟨hp, hhp⟩ : ∃ hp, hp = g2.n := ⟨_, rfl⟩
  have hst := dig_store (cs := [.int .u8 0, .int .u8 0, .int .u8 0, .int .u8 0, .int .u8 0, .int .u8 0, .int .u8 0, .int .u8 0, .int .u8 0, .int .u8 0, .int .u8 0, .int .u8 0, .int .u8 0, .int .u8 0, .int .u8 0, .int .u8 0, .int .u8 0, .int .u8 0, .int .u8 0, .int .u8 0, .int .u8 0, .int .u8 0, .int .u8 0, .int .u8 0, .int .u8 0, .int .u8 0, .int .u8 0, .int .u8 0, .int .u8 0, .int .u8 0, .int .u8 0, .int .u8 0]) hhl rfl
  have hld := dig_load (ow := true) (e := 1) hhl
  have O3 := (O1.fr F2 (by simp)).fr F3 (by simp)
  have F03 := (F1.trans F2).trans F3
  have m3 := isB_fr F03 hm
  have l3 : IsBytes g3 (.slice al L cl) S.log := by
    have := OwnSl.bytes (bs := S.log) (by rw [← hL]; exact O3)
    exact this
  rw [← hhp] at hg3 c3 n3
  simp (disch := first | omega | (simp only [VH.n_push, VH.n_set]; done) | (simp only [VH.n_push, VH.n_set]; omega)) [hst, ← hhp, ← hg3]
  have tail : ∀ (s : Slots) (g4 : VH) (wa : Option Addr) (wn wc : Nat) (vs : List (Value × List UInt8)), Fr g3 g4 [] → EdI g4 (.slice wa wn wc) vs → wn = vs.length → vs.length ≤ 2 → s 3 = .slice ma M mc → s 9 = .slice al L cl → s 12 = .pointer (some ⟨hp, 0, none⟩) → s 13 = .slice wa wn wc →
      (∀ x ∈ idOf (.slice wa wn wc), g3.n ≤ x) → pw Try.prog R s g4 (F_law09_AuditEdits.ret fun u _ => u = .bool true) := by
    intro s g4 wa wn wc vs F4 E4 hwn hvs z3 z9 z12 z13 hwid
    rw [← hR]
    have l4 := isB_fr F4 l3
    have m4 := isB_fr F4 m3
    have B0 := Buf.nil g4
    obtain ⟨w5, g5, hap5, B5⟩ := B0.append S.log (by simp; omega)
    obtain ⟨pa, pc, rfl⟩ := B5.shape
    rw [List.nil_append] at B5
    simp only [List.nil_append] at hap5
    rw [← hL] at hap5
    obtain ⟨w6, g6, hap6, B6⟩ := B5.append more (by omega)
    obtain ⟨qa, qc, rfl⟩ := B6.shape
    rw [← hM] at hap6
    have m5 := (isB_fr B5.fr m4).src
    have b6 := B6.is
    obtain ⟨Z, hZ⟩ : ∃ Z, Z = (S.log ++ more).length := ⟨_, rfl⟩
    have hZl : Z ≤ 2000000 := by rw [hZ, List.length_append]; omega
    rw [← hL] at hap6
    rw [← hZ] at hap6 b6 B6
    obtain ⟨g7, hg7⟩ : ∃ x, x = g6.push (.cells [.slice qa Z qc] true 1) := ⟨_, rfl⟩
    have F67 : Fr g6 g7 [] := by rw [hg7]; exact Fr_push (Fr.refl _ _)
    have c7 : g7.get g6.n = .cells [.slice qa Z qc] true 1 := by rw [hg7, VH.get_push_new]
    have F46 := B6.fr
    have F47 := F46.trans F67
    have E7 := E4.fr F47
    obtain ⟨w8, g8, hap8, E8, F78, _, a8, c8, rfl⟩ := E7.app (us := [(.slice qa Z qc, S.log ++ more)]) (by simp; omega) (by
      intro p hp
      simp at hp
      subst hp
      refine ⟨isB_fr F67 b6, fun x hx hx' => ?_, by rw [← hZ]; exact hZl⟩
      have h1 := B6.ids x hx
      have h2 := E4.own.lt x hx'
      omega)
    have hfi : fillC [.slice none 0 0] [(0, 1, .slice qa Z qc)] = some [.slice qa Z qc] := rfl
    have hro : rowObj (.cells [.slice qa Z qc] true 1) 0 1 = some [.slice qa Z qc] := rfl
    have hone : ([.slice qa Z qc] : List Value).all Value.oneCell' = true := rfl
    simp only [List.map_cons, List.map_nil, List.length_singleton] at hap8
    have l4s := l4.src
    obtain ⟨N, hN⟩ : ∃ N, N = vs.length + 1 := ⟨_, rfl⟩
    have hwN : wn + 1 = N := by omega
    simp only [List.length_singleton] at E8
    rw [← hN] at E8 hap8
    obtain ⟨us, hus⟩ : ∃ us, us = vs ++ [((.slice qa Z qc : Value), S.log ++ more)] := ⟨_, rfl⟩
    have husl : us.length = N := by rw [hus]; simp [hN]
    rw [← hus] at E8
    simp (disch := first | omega | (simp only [VH.n_push, VH.n_set]; done) | (simp only [VH.n_push, VH.n_set]; omega)) [z3, z9, z12, z13, l4s, hap5, m5, hap6, hfi, hone, ← hg7, c7, hro, Option.bind_some, hap8]
    have F48 : Fr g3 g8 [] := (F4.trans F47).trans' F78 (fun y hy => .inr (hwid y hy))
    have c38 := (F48.get hp (by omega) (by simp)).trans c3
    have l8 := isB_fr F48 l3
    refine pw_loopN (fun k s g => Fr g8 g [] ∧ s 9 = .slice al L cl ∧ s 12 = .pointer (some ⟨hp, 0, none⟩) ∧ s 13 = .slice a8 N c8 ∧ s 17 = .int .i64 (k : Int)) N ?_ ?_
    · exact ⟨Fr.refl _ _, by simp [upd_apply, z9], by simp [upd_apply, z12], by simp [upd_apply], by simp [upd_apply]⟩
    rintro k s9 g9 hk ⟨F9, y9, y12, y13, y17⟩
    by_cases hlt : k < N
    case neg =>
      have hltI : ¬ (k : Int) < (N : Int) := by omega
      simp (disch := first | omega | (simp only [VH.n_push, VH.n_set]; done) | (simp only [VH.n_push, VH.n_set]; omega)) [y9, y12, y13, y17, hlt, hltI]
      refine (known_ok _).mono ?_
      rintro u g10 ⟨rfl, rfl⟩
      simp (disch := first | omega | (simp only [VH.n_push, VH.n_set]; done) | (simp only [VH.n_push, VH.n_set]; omega)) [r_law09_AuditEdits]
    have hltI : (k : Int) < (N : Int) := by omega
    have E9 := E8.fr F9
    obtain ⟨xi, xo, ds, xp, xm, xd, rfl, _, xl, xg, xld, xs, xb, xbl⟩ := E9.at_ (k := k) (by omega)
    obtain ⟨x, hx⟩ : ∃ x, x = us[k].2 := ⟨_, rfl⟩
    rw [← hx] at xb xbl
    have c9 := (F9.get hp (by have := F48.n; omega) (by simp)).trans c38
    obtain ⟨e, at_, hve, hea⟩ := ver_told x H
    have hkk : IntKind.i64.wrap ((k : Int) + 1) = ((k + 1 : Nat) : Int) := by rw [i64_small (by omega) (by omega)]; omega
    simp (disch := first | omega | (simp only [VH.n_push, VH.n_set]; done) | (simp only [VH.n_push, VH.n_set]; omega)) [y9, y12, y13, y17, hlt, hltI, xg, xld, c9, hld]
    refine (verify_ok xb (by omega) hhl).mono ?_
    rintro u g10 ⟨rfl, F10⟩
    rw [hve]
    have xg10 := (F10.get xi xl (by simp)).trans xg
    have c10 := (F10.get hp (by have := F48.n; have := F9.n; omega) (by simp)).trans c9
    simp (disch := first | omega | (simp only [VH.n_push, VH.n_set]; done) | (simp only [VH.n_push, VH.n_set]; omega)) [y9, y12, y13, y17, hlt, hltI, xg10, xld, c10, hld]
    have l9 := isB_fr F9 l8
    refine (collide_ok (isB_fr F10 l9) (isB_fr F10 xb) (by rw [← hL]; omega) (by omega) hhl).mono ?_
    rintro u g11 ⟨F11, p, pn, pc', q, qn, qc', rfl, bp, bq⟩
    have xg11 := (F11.get xi (by have := F10.n; omega) (by simp)).trans xg10
    have ox := ofB_eq (isB_fr (F10.trans F11) xb)
    have ol := ofB_eq (isB_fr (F10.trans F11) l9)
    have op := ofB_eq bp
    have oq := ofB_eq bq
    obtain ⟨law1, law2⟩ := edit_law G (x := x) (by omega) (by have := walk_n x; omega)
    rw [← hH] at law1 law2
    obtain ⟨cl1, cl2⟩ := collS_len S.log x H
    obtain ⟨C, hC⟩ : ∃ C, C = collS S.log x H := ⟨_, rfl⟩
    rw [← hC] at law1 law2 bp bq op oq cl1 cl2 ⊢
    obtain ⟨cp, cq, ct⟩ := C
    simp only at law1 law2 bp bq op oq cl1 cl2 ⊢
    have fin : Fr g8 g11 [] := (F9.trans F10).trans F11
    by_cases hyes : accS x H = true ∧ x ≠ S.log
    · obtain ⟨rfl, hne, hsh⟩ := law1 hyes
      have he : e = 0 := hea.2 hyes.1
      have heb : (e == 0) = true := by simpa using he
      have hxl : (x == S.log) = false := by simpa using hyes.2
      have hpq : (cp == cq) = false := by simpa using hne
      have hss : (shaS cp).length = 32 := shaS_len _
      have hf1 := fits32 hss
      have hcb := cellsB_u8s (shaS cp) (shaS cp) rfl
      rw [beq_self_eq_true] at hcb
      have hdx : digV (shaS cp) = .agg (u8s (shaS cp)).toArray := rfl
      simp (disch := first | omega | (simp only [VH.n_push, VH.n_set]; done) | (simp only [VH.n_push, VH.n_set]; omega)) [y9, y13, y17, heb, hlt, hltI, xg11, xld, ox, ol, op, oq, strB_toList, hxl, hpq]
      refine (rsum_ok bp (by omega)).mono ?_
      rintro u g12 ⟨rfl, rfl⟩
      simp (disch := first | omega | (simp only [VH.n_push, VH.n_set]; done) | (simp only [VH.n_push, VH.n_set]; omega)) []
      refine (rsum_ok bq (by omega)).mono ?_
      rintro u g13 ⟨rfl, rfl⟩
      rw [← hsh]
      simp (disch := first | omega | (simp only [VH.n_push, VH.n_set]; done) | (simp only [VH.n_push, VH.n_set]; omega)) [hdx, hf1, hcb, y17, hkk]
      first | exact ⟨hlt, fin, y9, y12, y13⟩ | exact ⟨hlt, fin, y9, y12⟩ | exact ⟨hlt, fin, y12⟩ | exact ⟨hlt, fin, y12, y13⟩ | exact ⟨fin, y12⟩ | exact ⟨fin, y9, y12⟩ | exact ⟨fin, y12, y13⟩ | exact ⟨fin, y9, y12, y13⟩
    · have h2 := law2 hyes
      injection h2 with h3 h4
      injection h4 with h4 h5
      subst h3 h4 h5
      have hp0 : pn = 0 := by obtain ⟨_, _, hs⟩ := bp.shape; injection hs
      have hq0 : qn = 0 := by obtain ⟨_, _, hs⟩ := bq.shape; injection hs
      subst hp0 hq0
      by_cases he : e = 0
      · have heb : (e == 0) = true := by simpa using he
        have hxl : (x == S.log) = true := by
          have := hea.1 he
          by_cases hxl : x = S.log
          · simpa using hxl
          · exact absurd ⟨this, hxl⟩ hyes
        simp (disch := first | omega | (simp only [VH.n_push, VH.n_set]; done) | (simp only [VH.n_push, VH.n_set]; omega)) [y9, y13, y17, heb, hlt, hltI, xg11, xld, ox, ol, strB_toList, hxl, hkk]
        first | exact ⟨hlt, fin, y9, y12, y13⟩ | exact ⟨hlt, fin, y9, y12⟩ | exact ⟨hlt, fin, y12⟩ | exact ⟨hlt, fin, y12, y13⟩ | exact ⟨fin, y12⟩ | exact ⟨fin, y9, y12⟩ | exact ⟨fin, y12, y13⟩ | exact ⟨fin, y9, y12, y13⟩
      · have heb : (e == 0) = false := by simpa using he
        simp (disch := first | omega | (simp only [VH.n_push, VH.n_set]; done) | (simp only [VH.n_push, VH.n_set]; omega)) [y9, y13, y17, heb, hkk]
        first | exact ⟨hlt, fin, y9, y12, y13⟩ | exact ⟨hlt, fin, y9, y12⟩ | exact ⟨hlt, fin, y12⟩ | exact ⟨hlt, fin, y12, y13⟩ | exact ⟨fin, y12⟩ | exact ⟨fin, y9, y12⟩ | exact ⟨fin, y12, y13⟩ | exact ⟨fin, y9, y12, y13⟩
  by_cases h0 : L = 0
  · have h0I : ¬ (0 : Int) < (L : Int) := by omega
    subst h0
    simp (disch := first | omega | (simp only [VH.n_push, VH.n_set]; done) | (simp only [VH.n_push, VH.n_set]; omega)) []
    exact tail _ _ none 0 0 [] (Fr.refl _ _) (EdI.nil _) rfl (by simp) (by simp [upd_apply, s0_apply]) (by simp [upd_apply]) (by simp [upd_apply]) (by simp [upd_apply]) (by simp [idOf])
  have h0I : (0 : Int) < (L : Int) := by omega
  have h0N : 0 < L := by omega
  have lsrc := l3.src
  have hap4 := appendV_new (h := g3) (esz := 1) (bytes := 1) (k := L) (ys := u8s S.log) h0 (by omega)
  obtain ⟨g4, hg4⟩ : ∃ x, x = g3.push (.cells (u8s S.log) true 1) := ⟨_, rfl⟩
  rw [← hg4] at hap4
  have F4 : Fr g3 g4 [] := by rw [hg4]; exact Fr_push (Fr.refl _ _)
  have c4 : g4.get g3.n = .cells (u8s S.log) true 1 := by rw [hg4, VH.get_push_new]
  have n4 : g4.n = g3.n + 1 := by rw [hg4]; simp
  obtain ⟨E, hE⟩ : ∃ E, E = 8 * L := ⟨_, rfl⟩
  have h8 : IntKind.i64.wrap (8 * (L : Int)) = (E : Int) := by rw [i64_small (by omega) (by omega)]; omega
  simp (disch := first | omega | (simp only [VH.n_push, VH.n_set]; done) | (simp only [VH.n_push, VH.n_set]; omega)) [h0, h0N, h0I, lsrc, hap4, h8]
  have hcnt := count_ok (h := g4) (a := turn) (m := (E : Int)) ht ⟨by omega, by omega⟩
  refine PCalls.mono hcnt ?_
  rintro u g5 ⟨kt, hkt, rfl, rfl⟩
  obtain ⟨b, hb⟩ : ∃ b, b = kt / 8 := ⟨_, rfl⟩
  obtain ⟨r, hr⟩ : ∃ r, r = kt % 8 := ⟨_, rfl⟩
  have hq : (kt : Int).tdiv 8 = (b : Int) := by rw [hb]; exact (Int.ofNat_tdiv kt 8).symm
  have hrm : (kt : Int).tmod 8 = (r : Int) := by rw [hr]; exact (Int.ofNat_tmod kt 8).symm
  have hbw : IntKind.i64.wrap (b : Int) = (b : Int) := i64_small (by omega) (by omega)
  have hrw : IntKind.u64.wrap (r : Int) = (r : Int) := by rw [wrapN_u64, Nat.mod_eq_of_lt (by omega)]
  have hbL : b < L := by omega
  have hbLI : (b : Int) < (L : Int) := by omega
  have hld4 := textAt g5 S.log hL hbL
  have hr0 : ¬ (r : Int) < 0 := by omega
  have hr0' : (0 : Int) ≤ (r : Int) := by omega
  simp (disch := first | omega | (simp only [VH.n_push, VH.n_set]; done) | (simp only [VH.n_push, VH.n_set]; omega)) [hq, hrm, hbw, hrw, hbL, hbLI, c4, hld4, hr0, hr0']
  generalize hz : Go.bits .xor .u8 _ _ = z
  obtain ⟨zb, rfl⟩ : ∃ b : UInt8, z = (b.toNat : Int) := by rw [← hz]; exact xor_range _ _
  have hsi := storeObj_int (cs := u8s S.log) (e := 1) (o := b) (k := .u8) (n := (zb.toNat : Int)) (by rw [u8s_length, ← hL]; exact hbL)
  rw [u8s_put] at hsi
  obtain ⟨g6, hg6⟩ : ∃ x, x = g5.set g3.n (.cells (u8s (S.log.set b zb)) true 1) := ⟨_, rfl⟩
  have F6 : Fr g3 g6 [] := by rw [hg6]; exact Fr_set F4 (Nat.le_refl _)
  have c6 : g6.get g3.n = .cells (u8s (S.log.set b zb)) true 1 := by rw [hg6, VH.get_set_same]
  have n6 : g6.n = g3.n + 1 := by rw [hg6, VH.n_set, n4]
  have l6 := isB_fr F6 l3
  simp (disch := first | omega | (simp only [VH.n_push, VH.n_set]; done) | (simp only [VH.n_push, VH.n_set]; omega)) [hsi, ← hg6]
  have hcnt2 := count_ok (h := g6) (a := cut) (m := (L : Int)) hc ⟨by omega, by omega⟩
  refine hcnt2.mono ?_
  rintro u g7 ⟨ct, hct, rfl, rfl⟩
  have hctL : ct < L := by omega
  have hct0 : ¬ (ct : Int) < 0 := by omega
  have hct0' : (0 : Int) ≤ (ct : Int) := by omega
  rcases l6.cases with ⟨_, hbad⟩ | ⟨li, lo, lc, hli, hlc, hlv, hlat⟩
  · exfalso; rw [hbad] at hL; simp at hL; omega
  injection hlv with e1 e2 e3
  subst e1 e3
  rw [← hL] at hlc
  have hes1 := hlat.esz
  have hcl : (ct : Int) ≤ (cl : Int) := by omega
  have hctc : ct ≤ cl := by omega
  have hsub := (hlat.sub 0 ct (by omega)).is (c := cl) (by omega) (by simp; omega)
  have hsl : ((S.log.drop 0).take ct).length = ct := by simp; omega
  rw [hsl, Nat.add_zero] at hsub
  have hfi : ∀ (p q : Option Addr) (x y c d : Nat), fillC [.slice none 0 0, .slice none 0 0] [(0, 1, .slice p x c), (1, 1, .slice q y d)] = some [.slice p x c, .slice q y d] := fun _ _ _ _ _ _ => rfl
  have hone : ∀ (p q : Option Addr) (x y c d : Nat), ([.slice p x c, .slice q y d] : List Value).all Value.oneCell' = true := fun _ _ _ _ _ _ => rfl
  obtain ⟨g8, hg8⟩ : ∃ x, x = g7.push (.cells [.slice (some ⟨g3.n, 0, none⟩) L L, .slice (some ⟨li, lo, none⟩) ct cl] true 1) := ⟨_, rfl⟩
  have F8 : Fr g7 g8 [] := by rw [hg8]; exact Fr_push (Fr.refl _ _)
  have c8 : g8.get g7.n = .cells [.slice (some ⟨g3.n, 0, none⟩) L L, .slice (some ⟨li, lo, none⟩) ct cl] true 1 := by rw [hg8, VH.get_push_new]
  have hro : rowObj (.cells [.slice (some ⟨g3.n, 0, none⟩) L L, .slice (some ⟨li, lo, none⟩) ct cl] true 1) 0 2 = some [.slice (some ⟨g3.n, 0, none⟩) L L, .slice (some ⟨li, lo, none⟩) ct cl] := rfl
  obtain ⟨w9, g9, hap9, E9, F9, id9, a9, c9, rfl⟩ := (EdI.nil g8).app (us := [(.slice (some ⟨g3.n, 0, none⟩) L L, S.log.set b zb), (.slice (some ⟨li, lo, none⟩) ct cl, (S.log.drop 0).take ct)]) (by simp) (by
    intro p hp
    simp only [List.mem_cons, List.not_mem_nil, or_false] at hp
    rcases hp with rfl | rfl
    · refine ⟨isB_fr F8 ?_, by simp [idOf], by simp; omega⟩
      have hlen : (S.log.set b zb).length = L := by simp [hL]
      have := BytesAt.is (h := g7) (i := g3.n) (o := 0) (c := L) (bs := S.log.set b zb) (by omega) (by omega) ⟨u8s (S.log.set b zb), true, c6, by simp, by rw [List.drop_zero, List.take_of_length_le (by simp)]⟩
      rw [hlen] at this
      exact this
    · exact ⟨isB_fr F8 hsub, by simp [idOf], by simp; omega⟩)
  simp only [List.map_cons, List.map_nil, List.length_cons, List.length_nil, List.nil_append, Nat.zero_add] at hap9 E9
  simp (disch := first | omega | (simp only [VH.n_push, VH.n_set]; done) | (simp only [VH.n_push, VH.n_set]; omega)) [hct0, hct0', hctc, hcl, hes1, hfi, hone, ← hg8, c8, hro, Option.bind_some, hap9]
  refine tail _ _ a9 _ c9 _ (F6.trans (F8.trans (F9.sub (by simp [idOf])))) E9 rfl (by simp) (by simp [upd_apply, s0_apply]) (by simp [upd_apply]) (by simp [upd_apply]) (by simp [upd_apply]) ?_
  intro x hx
  have := F8.n
  have := id9 x hx
  simp [idOf] at this
  omega
theorem edits_law {h : VH} {us : List Value} {k : Nat} (H : ShA h [.sl 4 enT, .int .i64, .int .i64, .sl 1 (.int .u8)] us k) (hk : k ≤ 1048576) :
    PCalls Try.prog f_law09_AuditEdits us h (fun u h' => u = .bool true ∧ h' = h) := by
  obtain ⟨v, r, k1, k2, rfl, h1, ⟨v2, r2, k3, k4, rfl, h2, ⟨v3, r3, k5, k6, rfl, h3, ⟨v4, r4, k7, k8, rfl, h4, ⟨rfl, _⟩, e4⟩, e3⟩, e2⟩, e1⟩ := H
  obtain ⟨es, a1, a2, a3⟩ := Sh.ens h1
  obtain ⟨t, ht, t1, t2, _⟩ := Sh.i64 (h := h) h2
  obtain ⟨c, hc, c1, c2, _⟩ := Sh.i64 (h := h) h3
  injection ht with ht _
  injection hc with hc _
  subst ht hc
  obtain ⟨bs, b1, b2⟩ := Sh.bytes h4
  exact ((edits_ok' a1.ro (fun e he => by have := a2 e he; omega) (by omega) ⟨t1, t2⟩ ⟨c1, c2⟩ b1.ro (by omega)).mono fun u _ e => by subst e; exact ⟨rfl, rfl⟩).drop
end Go.Proofs.Ytdnkpgbggpbgaaa.Au
