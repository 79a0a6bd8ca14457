/- fair, part C: ranges over the tenants: idle, rest; the next tenant. -/
import Derived.Test.YtoenamablkkocaaFaB
import Derived.Test.YtoenamablkkocaaPmSt
set_option linter.unusedVariables false
set_option linter.unusedSimpArgs false
set_option maxRecDepth 100000
namespace Go.Proofs.Ytoenamablkkocaa.Fa
open Go Go.RowKit Go.Proofs.Ytoenamablkkocaa.Pm Go.Proofs.Ytoenamablkkocaa.Fs


structure RepR (g : VH) (i j : Nat) (rs : List Rt) (S : Sc) : Prop where
  lti : i < g.n
  ltj : j < g.n
  rec_ : ∃ ow, g.get i = .cells (scL S j) ow 1
  map_ : ∃ clk ow, g.get j = .map (rs.map entT) clk ow ∧ ∀ r ∈ rs, (entT r).2.2 < clk
  bnd : (rs.map fun r => (entT r).2.2).Nodup
  ten : ∀ r ∈ rs, TenR g r
  perm : (rs.map (·.t)).Perm S.ts
theorem Rep.r {g : VH} {i j : Nat} {rs : List Rt} {S : Sc} (k : Rep g i j rs S) : RepR g i j rs S := by
  obtain ⟨clk, h1, h2⟩ := k.map_
  exact ⟨k.lti, k.ltj, ⟨_, k.rec_⟩, ⟨clk, _, h1, h2⟩, k.bnd, fun r hr => (k.ten r hr).r, k.perm⟩
theorem RepR.ro {g : VH} {i j : Nat} {rs : List Rt} {S : Sc} (k : RepR g i j rs S) : RepR g.ro i j rs S := by
  obtain ⟨clk, ow, h1, h2⟩ := k.map_
  obtain ⟨ow2, h3⟩ := k.rec_
  exact ⟨k.lti, k.ltj, ⟨_, ro_get h3⟩, ⟨clk, _, ro_map h1, h2⟩, k.bnd, fun r hr => (k.ten r hr).ro, k.perm⟩
theorem TenR.fr0 {g g' : VH} (hf : Fr g g' []) {r : Rt} (k : TenR g r) : TenR g' r := by
  have hn := hf.n
  obtain ⟨k1, k2, ⟨o1, h1⟩, ⟨o2, h2⟩, h3⟩ := k
  exact ⟨by omega, by omega, ⟨o1, by rw [hf.get _ k1 (by simp)]; exact h1⟩, ⟨o2, by rw [hf.get _ k2 (by simp)]; exact h2⟩, h3.fr hf (fun _ _ => by simp)⟩
theorem RepR.fr0 {g g' : VH} (hf : Fr g g' []) {i j : Nat} {rs : List Rt} {S : Sc} (k : RepR g i j rs S) : RepR g' i j rs S := by
  have hn := hf.n
  obtain ⟨clk, ow, h1, h2⟩ := k.map_
  obtain ⟨ow2, h3⟩ := k.rec_
  exact ⟨by have := k.lti; omega, by have := k.ltj; omega, ⟨ow2, by rw [hf.get _ k.lti (by simp)]; exact h3⟩, ⟨clk, ow, by rw [hf.get _ k.ltj (by simp)]; exact h1, h2⟩, k.bnd, fun r hr => (k.ten r hr).fr0 hf, k.perm⟩

theorem idle_perm {a b : List Tn} (h : a.Perm b) : idleS a = idleS b := by
  unfold idleS
  rw [Bool.eq_iff_iff, List.all_eq_true, List.all_eq_true]
  exact ⟨fun k x hx => k x (h.mem_iff.2 hx), fun k x hx => k x (h.mem_iff.1 hx)⟩
theorem idle_of {ts : List Tn} (h : ∀ t ∈ ts, t.l = []) : idleS ts = true := by
  unfold idleS
  rw [List.all_eq_true]
  intro t ht
  rw [h t ht]; rfl
theorem idle_not {ts : List Tn} {t : Tn} (h : t ∈ ts) (hl : t.l ≠ []) : idleS ts = false := by
  unfold idleS
  rw [List.all_eq_false]
  exact ⟨t, h, by simpa using hl⟩

/-- what a range over the tenants holds meanwhile. -/
structure Rng (h g : VH) (j clk : Nat) (rs dn td : List Rt) : Prop where
  fr : Fr h g []
  lt : h.n < g.n
  perm : (dn ++ td).Perm rs
  iter : g.get h.n = .miter (some j) clk (dn.map fun r => (entT r).2.2) clk
theorem Rng.ts {h g : VH} {j clk : Nat} {rs dn : List Rt} {ts : List Tn} (k : Rng h g j clk rs dn []) (hp : (rs.map (·.t)).Perm ts) : (dn.map (·.t)).Perm ts := by
  have := k.perm
  rw [List.append_nil] at this
  exact (this.map _).trans hp
theorem Rng.at_ {h g : VH} {j clk : Nat} {rs dn td : List Rt} (k : Rng h g j clk rs dn td) {x : Rt} {a b : List Rt} (e : td = a ++ x :: b) : x ∈ rs := k.perm.mem_iff.1 (by rw [e]; simp)
theorem Rng.next {h g g' : VH} {j clk : Nat} {rs dn td : List Rt} (k : Rng h g j clk rs dn td) {x : Rt} {a b : List Rt} (e : td = a ++ x :: b) {sn : List Nat} (hs : sn = (dn ++ [x]).map fun r => (entT r).2.2)
    (hg : g'.get h.n = .miter (some j) clk sn clk) (hf : Fr h g' []) (hn : h.n < g'.n) : Rng h g' j clk rs (dn ++ [x]) (a ++ b) :=
  ⟨hf, hn, (perm_step k.perm e).1, by rw [hg, hs]⟩

set_option maxHeartbeats 1000000 in
theorem idle_ok' {h : VH} {i j : Nat} {rs : List Rt} {S : Sc} (k : RepR h i j rs S) : PCalls Try.prog f_fair_Sched_idle [.pointer (some ⟨i, 0, none⟩)] h (fun u _ => u = .bool (idleS S.ts)) := by
  refine PCalls_of_pw st_fair_Sched_idle (by simp [n_fair_Sched_idle]) ?_
  rw [b_fair_Sched_idle]
  obtain ⟨clk, ow, hj, hlt⟩ := k.map_
  obtain ⟨ow2, hi⟩ := k.rec_
  have hlj := k.ltj
  obtain ⟨es, hes⟩ : ∃ es, es = rs.map entT := ⟨_, rfl⟩
  rw [← hes] at hj
  simp (disch := first|omega|(simp only [np,ns];try omega)) [B_fair_Sched_idle, hi, ls_0, hj]
  refine pw_loop (fun n s g => ∃ dn td, n = td.length ∧ Rng h g j clk rs dn td ∧ s 9 = .pointer (some ⟨h.n, 0, none⟩) ∧ ∀ r ∈ dn, r.t.l = []) rs.length ?_ ?_
  · exact ⟨[], rs, rfl, ⟨Fr.push _ _ _, by simp, List.Perm.refl _, VH.get_push_new _ _⟩, by simp [upd_apply], by simp⟩
  rintro n s g ⟨dn, td, rfl, R, e9, hdn⟩
  have hjg : g.get j = .map es clk ow := (R.fr.get j hlj (by simp)).trans hj
  have hqj : j ≠ h.n := by omega
  have hlq := R.lt
  simp (disch := first|omega|(simp only [np,ns];try omega)) [e9]
  refine range_next hes R.perm k.bnd hlt R.iter hjg ?_ ?_
  · rintro rfl
    have hp := R.ts k.perm
    have hid : idleS S.ts = true := by
      rw [← idle_perm hp]
      exact idle_of (fun t ht => by
        obtain ⟨r, hr, rfl⟩ := List.mem_map.1 ht
        exact hdn r hr)
    simp (disch := first|omega|(simp only [np,ns];try omega)) [r_fair_Sched_idle, hid]
  · intro x a b sn htd hsn hlast
    have hx := R.at_ htd
    have hxt : x.t ∈ S.ts := k.perm.mem_iff.1 (List.mem_map_of_mem hx)
    obtain ⟨g1, hg1⟩ : ∃ g1, g1 = g.set h.n (.miter (some j) clk sn clk) := ⟨_, rfl⟩
    have F1 : Fr h g1 [] := by rw [hg1]; exact Fr_set R.fr (Nat.le_refl _)
    have q1 : g1.get h.n = .miter (some j) clk sn clk := by rw [hg1, VH.get_set_same]
    have n1 : h.n < g1.n := by rw [hg1]; exact hlq
    have j1 : g1.get j = .map es clk ow := (F1.get j hlj (by simp)).trans hj
    have T := (k.ten x hx).fr0 F1
    obtain ⟨ow3, hit⟩ := T.rec_
    have hR := R.next htd hsn q1 F1 n1
    simp (disch := first|omega|(simp only [np,ns];try omega)) [e9, ← hg1, q1, j1, hlast, entT, hit, lt_2]
    refine (qlen_ok T).mono ?_
    rintro u g2 ⟨rfl, rfl⟩
    by_cases hl : x.t.l = []
    · have hl0 : (x.t.l.length : Int) = 0 := by rw [hl]; rfl
      simp (disch := first|omega|(simp only [np,ns];try omega)) [hl0, e9]
      refine ⟨_, by have := (perm_step R.perm htd).2; exact this, dn ++ [x], a ++ b, rfl, hR, ?_⟩
      intro r hr
      rcases List.mem_append.1 hr with hr | hr
      · exact hdn r hr
      · simp at hr; subst hr; exact hl
    · have hpos : (0 : Int) < (x.t.l.length : Int) := by
        have := List.length_pos_iff.2 hl; omega
      have hpos' : 0 < x.t.l.length := List.length_pos_iff.2 hl
      have hid := idle_not hxt hl
      simp (disch := first|omega|(simp only [np,ns];try omega)) [r_fair_Sched_idle, hpos, hpos', hid]
theorem idle_ok {h : VH} {i j : Nat} {rs : List Rt} {S : Sc} (k : RepR h i j rs S) : PCalls Try.prog f_fair_Sched_idle [.pointer (some ⟨i, 0, none⟩)] h (fun u h' => u = .bool (idleS S.ts) ∧ h' = h) :=
  ((idle_ok' k.ro).mono fun u _ e => by subst e; exact ⟨rfl, rfl⟩).drop

/-! ### the names, in order -/
abbrev f_keys : Nat := f_maps_Keys_map_string_fair_tenant_string_fair_tenant
abbrev f_keys1 : Nat := f_maps_Keys_map_string_fair_tenant_string_fair_tenant_1
theorem keys_ok {h : VH} {j : Nat} : PCalls Try.prog f_keys [.map (some j)] h (fun u h' => u = .func (.func f_keys1) #[] #[.pointer (some ⟨h.n, 0, none⟩)] ∧ h' = h.push (.cells [.map (some j)] true 1)) := by
  refine PCalls_of_pw st_maps_Keys_map_string_fair_tenant_string_fair_tenant (by simp [n_maps_Keys_map_string_fair_tenant_string_fair_tenant]) ?_
  rw [b_maps_Keys_map_string_fair_tenant_string_fair_tenant]
  simp (disch := first|omega|(simp only [np,ns];try omega)) [r_maps_Keys_map_string_fair_tenant_string_fair_tenant, B_maps_Keys_map_string_fair_tenant_string_fair_tenant]
def nmV (r : Rt) : Value := .string (strB r.t.nm)
theorem keysSeq_ok {y bx j clk : Nat} {ow ow2 : Bool} {rs : List Rt} {es : List Ent} {h : VH} (J : List Rt → VH → Prop)
    (hes : es = rs.map entT) (hbnd : (rs.map fun r => (entT r).2.2).Nodup) (hlt : ∀ r ∈ rs, (entT r).2.2 < clk) (hj : j < h.n) (h0 : J [] h)
    (hJ : ∀ dn g g', J dn g → h.n ≤ g.n → Fr g g' [h.n] → J dn g')
    (hK : ∀ dn g, J dn g → g.get bx = .cells [.map (some j)] ow2 1 ∧ g.get j = .map es clk ow)
    (hY : ∀ dn x g, J dn g → h.n < g.n → dn.length < rs.length → PYield Try.prog y [nmV x] g (fun u g' => u = .bool true ∧ J (dn ++ [x]) g' ∧ g.n ≤ g'.n ∧ g'.get h.n = g.get h.n)) :
    PCalls Try.prog f_keys1 [.func (.yield y) #[] #[], .pointer (some ⟨bx, 0, none⟩)] h (fun _ g => ∃ dn, dn.Perm rs ∧ J dn g) := by
  refine PCalls_of_pw st_maps_Keys_map_string_fair_tenant_string_fair_tenant_1 (by simp [n_maps_Keys_map_string_fair_tenant_string_fair_tenant_1]) ?_
  rw [b_maps_Keys_map_string_fair_tenant_string_fair_tenant_1]
  obtain ⟨hb, hm⟩ := hK [] h h0
  have l1 : loadObj (.cells [.map (some j)] ow2 1) 0 none = some (.map (some j)) := rfl
  simp (disch := first|omega|(simp only [np,ns];try omega)) [B_maps_Keys_map_string_fair_tenant_string_fair_tenant_1, hb, l1, hm]
  refine pw_loop (fun n s g => ∃ dn td, n = td.length ∧ J dn g ∧ h.n < g.n ∧ (dn ++ td).Perm rs ∧ g.get h.n = .miter (some j) clk (dn.map fun r => (entT r).2.2) clk ∧ s 0 = .func (.yield y) #[] #[] ∧ s 5 = .pointer (some ⟨h.n, 0, none⟩)) rs.length ?_ ?_
  · exact ⟨[], rs, rfl, hJ _ _ _ h0 (Nat.le_refl _) (Fr.push _ _ _), by simp, List.Perm.refl _, VH.get_push_new _ _, by simp [upd_apply, s0_apply], by simp [upd_apply, s0_apply]⟩
  rintro n s g ⟨dn, td, rfl, hj1, hn1, hp, hit, e0, e5⟩
  simp (disch := first|omega|(simp only [np,ns];try omega)) [e5]
  refine range_next hes hp hbnd hlt hit (hK _ _ hj1).2 ?_ ?_
  · rintro rfl
    simp (disch := first|omega|(simp only [np,ns];try omega)) [r_maps_Keys_map_string_fair_tenant_string_fair_tenant_1]
    exact ⟨dn, by simpa using hp, hj1⟩
  · intro x a b sn htd hsn hlast
    obtain ⟨g1, hg1⟩ : ∃ g1, g1 = g.set h.n (.miter (some j) clk sn clk) := ⟨_, rfl⟩
    have F1 : Fr g g1 [h.n] := by rw [hg1]; exact Fr.set _ _ (by simp)
    have q1 : g1.get h.n = .miter (some j) clk sn clk := by rw [hg1, VH.get_set_same]
    have n1 : h.n < g1.n := by rw [hg1]; exact hn1
    have hj2 := hJ _ _ _ hj1 (Nat.le_of_lt hn1) F1
    have j1 := (hK _ _ hj2).2
    have hdl : dn.length < rs.length := by
      have := hp.length_eq
      rw [htd] at this
      simp at this
      omega
    simp (disch := first|omega|(simp only [np,ns];try omega)) [e0, e5, ← hg1, q1, j1, hlast, entT]
    refine (hY dn x g1 hj2 n1 hdl).mono ?_
    rintro u g2 ⟨rfl, hj3, hn3, hq3⟩
    simp (disch := first|omega|(simp only [np,ns];try omega)) [e0, e5]
    refine ⟨_, by have := (perm_step hp htd).2; exact this, dn ++ [x], a ++ b, rfl, hj3, by omega, (perm_step hp htd).1, by rw [hq3, q1, hsn]; rfl⟩

/-- what appends are handed: a text. -/
def nmsV (rs : List Rt) : List Value := rs.map nmV
theorem nmsV_strs (rs : List Rt) : nmsV rs = strsV (rs.map (·.t.nm)) := by simp [nmsV, strsV, nmV, Function.comp_def]
set_option maxHeartbeats 1000000 in
theorem appendSeq_ok {h : VH} {bx j clk : Nat} {ow ow2 : Bool} {rs : List Rt} {es : List Ent} (hes : es = rs.map entT) (hbnd : (rs.map fun r => (entT r).2.2).Nodup) (hlt : ∀ r ∈ rs, (entT r).2.2 < clk) (hjn : j < h.n) (hbn : bx < h.n)
    (hb : h.get bx = .cells [.map (some j)] ow2 1) (hm : h.get j = .map es clk ow) (hln : rs.length ≤ 1000) :
    PCalls Try.prog f_slices_AppendSeq_string_string [.slice none 0 0, .func (.func f_keys1) #[] #[.pointer (some ⟨bx, 0, none⟩)]] h (fun u h' => ∃ dn, dn.Perm rs ∧ OwnSl h' 1 u (nmsV dn) dn.length ∧ Fr h h' [] ∧ ∀ x ∈ idOf u, h.n ≤ x) := by
  refine PCalls_of_pw st_slices_AppendSeq_string_string (by simp [n_slices_AppendSeq_string_string]) ?_
  rw [b_slices_AppendSeq_string_string]
  obtain ⟨g0, hg0⟩ : ∃ g0, g0 = h.push (.cells [.slice none 0 0] true 1) := ⟨_, rfl⟩
  have F0 : Fr h g0 [] := by rw [hg0]; exact Fr_push (Fr.refl _ _)
  have n0 : g0.n = h.n + 1 := by rw [hg0]; rfl
  have o0 : g0.get h.n = .cells [.slice none 0 0] true 1 := by rw [hg0, VH.get_push_new]
  simp (disch := first|omega|(simp only [np,ns];try omega)) [B_slices_AppendSeq_string_string, ← hg0]
  refine pw_rangeF_rule (by simp only [ev_t, upd_apply, if_true]; rfl) (by kernel_rfl) (fun L hY => ?_)
  obtain ⟨H, hH⟩ : ∃ H, H = g0.push (.loop L .ready none) := ⟨_, rfl⟩
  have fH : Fr g0 H [] := by rw [hH]; exact Fr_push (Fr.refl _ _)
  have Hn : H.n = g0.n + 1 := by rw [hH]; rfl
  have Hy : H.get g0.n = .loop L .ready none := by rw [hH, VH.get_push_new]
  have FhH := F0.trans fH
  rw [← hH]
  refine PCalls.mono (keysSeq_ok (y := g0.n) (bx := bx) (j := j) (clk := clk) (rs := rs) (ow := ow) (ow2 := ow2)
    (fun dn g => g.get g0.n = .loop L .ready none ∧ Fr H g [h.n, g0.n] ∧ ∃ a c, g.get h.n = .cells [.slice a dn.length c] true 1 ∧ OwnSl g 1 (.slice a dn.length c) (nmsV dn) dn.length ∧ ∀ x ∈ idOf (.slice a dn.length c), H.n < x) hes hbnd hlt (by omega) ?_ ?_ ?_ ?_) ?_
  · exact ⟨Hy, Fr.refl _ _, none, 0, by rw [fH.get _ (by omega) (by simp)]; exact o0, OwnSl.nil _ _, by simp [idOf]⟩
  · rintro dn g g' ⟨a1, a2, a, c, a3, a4, a5⟩ hn hf
    have hn2 := a2.n
    refine ⟨(hf.get _ (by omega) (by simp; omega)).trans a1, ?_, a, c, (hf.get _ (by omega) (by simp; omega)).trans a3, a4.fr hf (fun x hx hxi => by have := a5 x hx; simp at hxi; omega), a5⟩
    exact a2.trans' hf (fun y hy => .inr (by simp at hy; omega))
  · rintro dn g ⟨a1, a2, _⟩
    exact ⟨(a2.get _ (by omega) (by simp; omega)).trans ((FhH.get _ hbn (by simp)).trans hb), (a2.get _ (by omega) (by simp; omega)).trans ((FhH.get _ hjn (by simp)).trans hm)⟩
  · rintro dn x g ⟨a1, a2, a, c, a3, a4, a5⟩ hgn hdl
    refine hY _ _ g none _ a1 rfl ?_
    show pw _ _ _ _ (kRound Try.prog _ g0.n L _)
    obtain ⟨N, hN⟩ : ∃ N, N = dn.length := ⟨_, rfl⟩
    rw [← hN] at a3 a4 a5
    have hn2 := a2.n
    simp (disch := first|omega|(simp only [np,ns];try omega)) [putAll]
    rw [kRound_normal]
    refine ⟨none, a1, ?_⟩
    obtain ⟨G1, hG1⟩ : ∃ G1, G1 = g.set g0.n (.loop L .busy none) := ⟨_, rfl⟩
    rw [← hG1]
    have f1 : Fr g G1 [g0.n] := by rw [hG1]; exact Fr.set _ _ (by simp)
    have y1 : G1.get g0.n = .loop L .busy none := by rw [hG1, VH.get_set_same]
    have b1 : G1.get h.n = .cells [.slice a N c] true 1 := (f1.get _ (by omega) (by simp; omega)).trans a3
    have m1 : G1.n = g.n := by rw [hG1]; rfl
    obtain ⟨G2, hG2⟩ : ∃ G2, G2 = G1.push (.cells [nmV x] true 0) := ⟨_, rfl⟩
    have f2 : Fr G1 G2 [] := by rw [hG2]; exact Fr_push (Fr.refl _ _)
    have m2 : G2.n = g.n + 1 := by rw [hG2]; simp [m1]
    have o2 : G2.get g.n = .cells [nmV x] true 0 := by rw [← m1, hG2, VH.get_push_new]
    have ow2 := (a4.fr f1 (fun z hz hzi => by have := a5 z hz; simp at hzi; omega)).fr f2 (fun _ _ => by simp)
    obtain ⟨v', G3, hap, ow3, f3, hid⟩ := ow2.append (bytes := 16) (ys := [nmV x]) (k := 1) rfl (by omega)
    obtain ⟨p, c2, rfl⟩ := ow3.shapeN
    have hfi : fillC [.string ⟨#[]⟩] [(0, 1, nmV x)] = some [nmV x] := rfl
    have hone : ([nmV x]).all Value.oneCell' = true := rfl
    have hro : rowObj (.cells [nmV x] true 0) 0 1 = some [nmV x] := rfl
    have m3 := f3.n
    have b2 : G2.get h.n = .cells [.slice a N c] true 1 := (f2.get _ (by omega) (by simp)).trans b1
    have hidn : ∀ z ∈ idOf (.slice p (N + 1) c2), H.n < z := fun z hz => (hid z hz).elim (fun h1 => a5 z h1) (fun h1 => by omega)
    have b3 : G3.get h.n = .cells [.slice a N c] true 1 := (f3.get _ (by omega) (fun hx => by have := a5 _ hx; omega)).trans b2
    have y3 : G3.get g0.n = .loop L .busy none := (f3.get _ (by omega) (fun hx => by have := a5 _ hx; omega)).trans ((f2.get _ (by omega) (by simp)).trans y1)
    have e7 : ∀ q, (nmV x).oneCell' = q → q = true := fun q h => h.symm.trans rfl
    have l1 : loadObj (.cells [.slice a N c] true 1) 0 none = some (.slice a N c) := rfl
    have st1 : storeObj (.cells [.slice a N c] true 1) 0 1 (.slice p (N + 1) c2) = some (.cells [.slice p (N + 1) c2] true 1) := rfl
    simp (disch := first|omega|(simp only [np,ns];try omega)) [putAll, b1, l1, hfi, hone, ← hG2, hro, o2, m1, Option.bind_some, hap, b3, st1]
    obtain ⟨G4, hG4⟩ : ∃ G4, G4 = G3.set h.n (.cells [.slice p (N + 1) c2] true 1) := ⟨_, rfl⟩
    have f4 : Fr G3 G4 [h.n] := by rw [hG4]; exact Fr.set _ _ (by simp)
    have y4 : G4.get g0.n = .loop L .busy none := (f4.get _ (by omega) (by simp; omega)).trans y3
    have o4 : G4.get h.n = .cells [.slice p (N + 1) c2] true 1 := by rw [hG4, VH.get_set_same]
    rw [← hG4]
    obtain ⟨G5, hG5⟩ : ∃ G5, G5 = G4.set g0.n (.loop L .ready none) := ⟨_, rfl⟩
    have f5 : Fr G4 G5 [g0.n] := by rw [hG5]; exact Fr.set _ _ (by simp)
    have hn : h.n ∉ idOf (.slice p (N + 1) c2) := fun hx => by have := hidn _ hx; omega
    have hg0' : g0.n ∉ idOf (.slice p (N + 1) c2) := fun hx => by have := hidn _ hx; omega
    have Fga : ∀ z, z < g.n → z ≠ g0.n → z ≠ h.n → z ∉ idOf (.slice a N c) → G5.get z = g.get z := fun z h1 h2 h3 h4 => by
      rw [f5.get z (by have := f4.n; omega) (by simpa using h2), f4.get z (by omega) (by simpa using h3), f3.get z (by omega) h4, f2.get z (by omega) (by simp), f1.get z (by omega) (by simpa using h2)]
    have n5 : g.n ≤ G5.n := by have := f4.n; have := f5.n; omega
    have own5 : OwnSl G5 1 (.slice p (N + 1) c2) (nmsV dn ++ [nmV x]) (N + 1) := (ow3.fr f4 (fun z hz hzi => by simp at hzi; subst hzi; exact hn hz)).fr f5 (fun z hz hzi => by simp at hzi; subst hzi; exact hg0' hz)
    refine rndEnd_normal y4 ?_
    rw [← hG5]
    refine ⟨rfl, ⟨by rw [hG5, VH.get_set_same], ⟨by omega, fun z hz hzi => ?_⟩, p, c2, ?_, ?_, ?_⟩, n5, ?_⟩
    · simp at hzi
      rw [Fga z (by omega) hzi.2 hzi.1 (fun hx => by have := a5 z hx; omega), a2.get z hz (by simp [hzi])]
    · rw [f5.get _ (by have := f4.n; omega) (by simp; omega)]
      simp only [List.length_append, List.length_cons, List.length_nil, Nat.zero_add, ← hN]
      exact o4
    · simp only [List.length_append, List.length_cons, List.length_nil, Nat.zero_add, ← hN]
      show OwnSl G5 1 _ (nmsV (dn ++ [x])) _
      rw [show nmsV (dn ++ [x]) = nmsV dn ++ [nmV x] by simp [nmsV]]
      exact own5
    · simp only [List.length_append, List.length_cons, List.length_nil, Nat.zero_add, ← hN]
      exact hidn
    · exact Fga _ hgn (by omega) (by omega) (fun hx => by have := a5 _ hx; omega)
  · rintro u g ⟨dn, hp, a1, a2, a, c, a3, a4, a5⟩
    have hn2 := a2.n
    refine ⟨.ready, none, a1, by simp, ?_⟩
    obtain ⟨G1, hG1⟩ : ∃ G1, G1 = g.set g0.n .dead := ⟨_, rfl⟩
    have f1 : Fr g G1 [g0.n] := by rw [hG1]; exact Fr.set _ _ (by simp)
    have b1 : G1.get h.n = .cells [.slice a dn.length c] true 1 := (f1.get _ (by omega) (by simp; omega)).trans a3
    have own1 := a4.fr f1 (fun z hz hzi => by have := a5 z hz; simp at hzi; omega)
    have l1 : loadObj (.cells [.slice a dn.length c] true 1) 0 none = some (.slice a dn.length c) := rfl
    rw [← hG1]
    show kBlock 0 _ _ _ _
    simp (disch := first|omega|(simp only [np,ns];try omega)) [r_slices_AppendSeq_string_string, b1, l1]
    refine ⟨dn, hp, own1, ⟨by have := f1.n; omega, fun z hz _ => ?_⟩, fun z hz => by have := a5 z hz; omega⟩
    rw [f1.get z (by omega) (by simp; omega), a2.get z (by omega) (by simp; omega), FhH.get z hz (by simp)]

/-- what is handed on: names, in an owned row of their own. -/
def NamesAt (h h' : VH) (u : Value) (l : List (List UInt8)) : Prop := OwnSl h' 1 u (strsV l) l.length ∧ Fr h h' [] ∧ ∀ x ∈ idOf u, h.n ≤ x
theorem collect_ok {h : VH} {bx j clk : Nat} {ow ow2 : Bool} {rs : List Rt} {es : List Ent} (hes : es = rs.map entT) (hbnd : (rs.map fun r => (entT r).2.2).Nodup) (hlt : ∀ r ∈ rs, (entT r).2.2 < clk) (hjn : j < h.n) (hbn : bx < h.n)
    (hb : h.get bx = .cells [.map (some j)] ow2 1) (hm : h.get j = .map es clk ow) (hln : rs.length ≤ 1000) :
    PCalls Try.prog f_slices_Collect_string [.func (.func f_keys1) #[] #[.pointer (some ⟨bx, 0, none⟩)]] h (fun u h' => ∃ l, l.Perm (rs.map (·.t.nm)) ∧ NamesAt h h' u l) := by
  refine PCalls_of_pw st_slices_Collect_string (by simp [n_slices_Collect_string]) ?_
  rw [b_slices_Collect_string]
  simp (disch := first|omega|(simp only [np,ns];try omega)) [B_slices_Collect_string]
  refine (appendSeq_ok hes hbnd hlt hjn hbn hb hm hln).mono ?_
  rintro u g ⟨dn, hp, ho, hf, hid⟩
  simp (disch := first|omega|(simp only [np,ns];try omega)) [r_slices_Collect_string]
  refine ⟨dn.map (·.t.nm), hp.map _, ?_, hf, hid⟩
  rw [← nmsV_strs, List.length_map]
  exact ho
theorem sortL_eq {l l' : List (List UInt8)} (hp : l.Perm l') (h : l'.Pairwise (· < ·)) : sortL l = l' := by
  have h1 : (sortL l).Pairwise (fun a b => decide (a ≤ b) = true) := List.pairwise_mergeSort (fun a b c h1 h2 => by
    simp only [decide_eq_true_eq] at *; exact List.le_trans h1 h2) (fun a b => by
    simp only [Bool.or_eq_true, decide_eq_true_eq]; exact List.le_total a b) _
  have h2 : (sortL l).Perm l' := (List.mergeSort_perm l _).trans hp
  refine h2.eq_of_pairwise (le := fun a b => a ≤ b) (fun a b _ _ x y => List.le_antisymm x y) (h1.imp (by simp)) (h.imp (fun hab => Std.le_of_lt hab))
theorem sorted_ok (hso : SortsS Try.prog f_slices_Sort_string_string) {h : VH} {bx j clk : Nat} {ow ow2 : Bool} {rs : List Rt} {es : List Ent} (hes : es = rs.map entT) (hbnd : (rs.map fun r => (entT r).2.2).Nodup) (hlt : ∀ r ∈ rs, (entT r).2.2 < clk) (hjn : j < h.n) (hbn : bx < h.n)
    (hb : h.get bx = .cells [.map (some j)] ow2 1) (hm : h.get j = .map es clk ow) (hln : rs.length ≤ 1000) (hne : 0 < rs.length) {l' : List (List UInt8)} (hp' : (rs.map (·.t.nm)).Perm l') (hs : l'.Pairwise (· < ·)) :
    PCalls Try.prog f_slices_Sorted_string [.func (.func f_keys1) #[] #[.pointer (some ⟨bx, 0, none⟩)]] h (fun u h' => NamesAt h h' u l') := by
  refine PCalls_of_pw st_slices_Sorted_string (by simp [n_slices_Sorted_string]) ?_
  rw [b_slices_Sorted_string]
  simp (disch := first|omega|(simp only [np,ns];try omega)) [B_slices_Sorted_string]
  refine (collect_ok hes hbnd hlt hjn hbn hb hm hln).mono ?_
  rintro u g ⟨l, hp, ho, hf, hid⟩
  have hll : l.length = rs.length := by have := hp.length_eq; simpa using this
  have hsl := sortL_eq (hp.trans hp') hs
  have hl' : l'.length = l.length := by have := (hp.trans hp').length_eq; exact this.symm
  rcases ho with ⟨_, h1, h2⟩ | ⟨i, o, c, ds, hi, hc, rfl, hg, hd, hl, hod⟩
  · omega
  · have hdl : ds.length = o + l.length := by
      have := congrArg List.length hd
      simp at this
      omega
    simp (disch := first|omega|(simp only [np,ns];try omega)) []
    refine (sortS_ok hso hi hg (by omega) (by rw [hd, List.take_of_length_le (by simp)]) (by omega) hc (by omega)).mono ?_
    rintro u g' ⟨rfl, rfl⟩
    simp (disch := first|omega|(simp only [np,ns];try omega)) [r_slices_Sorted_string]
    have hwl : (wr ds o (strsV (sortL l))).length = ds.length := by
      unfold wr
      simp [sortL]
      omega
    refine ⟨.inr ⟨i, o, c, wr ds o (strsV (sortL l)), hi, by omega, by rw [hl'], VH.get_set_same .., ?_, ?_, by rw [hwl]; exact hod⟩, ?_, ?_⟩
    · rw [hsl]
      unfold wr
      rw [List.drop_of_length_le (i := o + (strsV l').length) (by simp; omega), List.append_nil]
      rw [List.drop_append_of_le_length (by simp; omega), List.drop_of_length_le (by simp; omega), List.nil_append]
    · simp
    · exact Fr_set hf (hid i (by simp [idOf]))
    · intro x hx
      simp [idOf] at hx
      exact hid x (by simp [idOf, hx])

/-! ### who is next -/
theorem TenR.at_ {g : VH} {i j : Nat} {rs : List Rt} {S : Sc} (k : RepR g i j rs S) (hu : Uni S.ts) {nm : List UInt8} {t : Tn} (h : findT nm S.ts = some t) :
    ∃ r, r ∈ rs ∧ r.t = t ∧ TenR g r ∧ mget (.string (strB nm)) (rs.map entT) = some (.pointer (some ⟨r.it, 0, none⟩)) := by
  have h' : findT nm (rs.map (·.t)) = some t := by rw [findT_perm k.perm hu]; exact h
  rw [← find_rs, Option.map_eq_some_iff] at h'
  obtain ⟨r, hr, rfl⟩ := h'
  have hm := List.mem_of_find?_eq_some hr
  exact ⟨r, hm, rfl, k.ten r hm, by rw [mget_rs, hr]; rfl⟩
theorem SeqAt.one {h : VH} {v : Value} {cs : List Value} {n k : Nat} {x : Value} (s : SeqAt h 1 v cs n) (hx : cs[k]? = some x) :
    ∃ i o c ds ow, v = .slice (some ⟨i, o, none⟩) n c ∧ k < n ∧ i < h.n ∧ h.get i = .cells ds ow 1 ∧ loadObj (.cells ds ow 1) (o + k) none = some x := by
  rcases s with ⟨_, rfl, _⟩ | ⟨i, o, c, ds, ow, h1, h2, h3, h4, h5, h6, h7⟩
  · simp at hx
  · have hk : k < cs.length := (List.getElem?_eq_some_iff.1 hx).1
    refine ⟨i, o, c, ds, ow, h3, by omega, h1, h4, ?_⟩
    rw [← h5, List.getElem?_drop] at hx
    exact hx

set_option maxHeartbeats 2000000 in
theorem next_ok' (hso : SortsS Try.prog f_slices_Sort_string_string) {h : VH} {i j : Nat} {rs : List Rt} {S : Sc} (k : RepR h i j rs S) (ho : Ord S.ts) (hln : rs.length ≤ 1000) (hne : 0 < rs.length) :
    PCalls Try.prog f_fair_Sched_next [.pointer (some ⟨i, 0, none⟩)] h (fun u _ => u = .tuple #[.string (strB (nextS S.ts).1), .bool (nextS S.ts).2.2]) := by
  refine PCalls_of_pw st_fair_Sched_next (by simp [n_fair_Sched_next]) ?_
  rw [b_fair_Sched_next]
  obtain ⟨clk, ow, hj, hlt⟩ := k.map_
  obtain ⟨ow2, hi⟩ := k.rec_
  have hlj := k.ltj
  have hli := k.lti
  have hlen : S.ts.length = rs.length := by have := k.perm.length_eq; simpa using this.symm
  obtain ⟨es, hes⟩ : ∃ es, es = rs.map entT := ⟨_, rfl⟩
  rw [← hes] at hj
  simp (disch := first|omega|(simp only [np,ns];try omega)) [B_fair_Sched_next, hi, ls_0, hj]
  refine keys_ok.mono ?_
  rintro u g1 ⟨rfl, hg1⟩
  have F1 : Fr h g1 [] := by rw [hg1]; exact Fr_push (Fr.refl _ _)
  have n1 : g1.n = h.n + 1 := by rw [hg1]; rfl
  have o1 : g1.get h.n = .cells [.map (some j)] true 1 := by rw [hg1, VH.get_push_new]
  simp (disch := first|omega|(simp only [np,ns];try omega)) []
  refine (sorted_ok hso hes k.bnd hlt (by omega) (by omega) o1 ((F1.get _ hlj (by simp)).trans hj) hln hne (l' := S.ts.map (·.nm)) ?_ ?_).mono ?_
  · have := k.perm.map (fun t => t.nm)
    rw [List.map_map] at this
    exact this
  · rw [List.pairwise_map]; exact ho
  rintro u g2 ⟨ow', F2, hid⟩
  have FA : Fr h g2 [] := F1.trans F2
  have sq := ow'.seq
  rw [List.length_map, hlen] at sq
  obtain ⟨a, c, rfl⟩ := sq.shape
  obtain ⟨N, hN⟩ : ∃ N, N = rs.length := ⟨_, rfl⟩
  rw [← hN] at sq hlen
  rw [← hN]
  simp (disch := first|omega|(simp only [np,ns];try omega)) []
  refine pw_loopN (fun n s g => Fr g2 g [] ∧ s 0 = .pointer (some ⟨i, 0, none⟩) ∧ s 16 = .slice a N c ∧ s 17 = .int .i64 (N : Int) ∧ s 18 = .int .i64 (n : Int) ∧
    s 4 = .string (strB ((S.ts.take n).foldl nextF ([], 0, false)).1) ∧ s 5 = .int .i64 ((S.ts.take n).foldl nextF ([], 0, false)).2.1 ∧ s 6 = .bool ((S.ts.take n).foldl nextF ([], 0, false)).2.2) N ?_ ?_
  · exact ⟨Fr.refl _ _, by simp [upd_apply, s0_apply], by simp [upd_apply], by simp [upd_apply], by simp [upd_apply], by simp [upd_apply, strB], by simp [upd_apply], by simp [upd_apply]⟩
  rintro n s g hn ⟨F, e0, e16, e17, e18, e4, e5, e6⟩
  by_cases hlt' : n < N
  case neg =>
    obtain rfl : n = N := by omega
    rw [List.take_of_length_le (by omega)] at e4 e5 e6
    simp (disch := first|omega|(simp only [np,ns];try omega)) [r_fair_Sched_next, e0, e16, e17, e18, e4, e6]
    exact ⟨rfl, rfl⟩
  have hltI : (n : Int) < (N : Int) := by omega
  obtain ⟨t, ht⟩ : ∃ t, S.ts[n]? = some t := ⟨_, List.getElem?_eq_getElem (by omega)⟩
  have htm : t ∈ S.ts := List.mem_of_getElem? ht
  have hfd := findT_mem ho.uni htm
  have FB : Fr h g [] := FA.trans F
  have kg := k.fr0 FB
  obtain ⟨r, hr, hrt, T, hget⟩ := TenR.at_ kg ho.uni hfd
  obtain ⟨i1, o1', c1, ds1, ow3, hv, hk1, hi1, hg3, hl3⟩ := (sq.fr F (fun _ _ => by simp)).one (k := n) (x := .string (strB t.nm)) (by simp [strsV, ht])
  injection hv with hv1 _ hv3
  subst hv1
  subst hv3
  have gi : g.get i = .cells (scL S j) ow2 1 := (FB.get i hli (by simp)).trans hi
  have gj : g.get j = .map es clk ow := (FB.get j hlj (by simp)).trans hj
  obtain ⟨ow4, hit⟩ := T.rec_
  have hkf : keysFit .s es = true := by rw [hes]; exact keysFit_rs rs
  have hfk : fitK .s (.string (strB t.nm)) = true := rfl
  rw [← hes] at hget
  have hmv : mval false (.pointer none) (some (.pointer (some ⟨r.it, 0, none⟩))) = .pointer (some ⟨r.it, 0, none⟩) := rfl
  have htake : S.ts.take (n + 1) = S.ts.take n ++ [t] := by
    rw [List.take_add_one, ht]; rfl
  have hesz : eszObj (.cells ds1 ow3 1) 1 = true := rfl
  have hkk : IntKind.i64.wrap ((n : Int) + 1) = ((n + 1 : Nat) : Int) := by rw [i64_small (by omega) (by omega)]; omega
  simp (disch := first|omega|(simp only [np,ns];try omega)) [e0, e16, e17, e18, hltI, hlt', hg3, hl3, hesz, gi, ls_0, gj, hkf, hfk, hget, hmv, hit, lt_2]
  refine (qpeek_ok T).mono ?_
  rintro u g' ⟨rfl, rfl⟩
  rw [hrt]
  obtain ⟨A, hA⟩ : ∃ A, A = (S.ts.take n).foldl nextF ([], 0, false) := ⟨_, rfl⟩
  have hfold : (S.ts.take (n + 1)).foldl nextF ([], 0, false) = nextF A t := by rw [htake, List.foldl_append, ← hA]; rfl
  rw [← hA] at e4 e5 e6
  cases hl : t.l with
  | nil =>
    have hpk : peekV ([] : List Wk) = .tuple #[.agg #[.int .i64 0, .int .i64 0, .int .i64 0], .bool false] := rfl
    have hnf : nextF A t = A := by simp [nextF, hl]
    rw [hnf] at hfold
    simp (disch := first|omega|(simp only [np,ns];try omega)) [hpk, s3_A, e0, e16, e17, e18, e4, e5, e6, hkk, hfold]
    exact ⟨by omega, Fr_set (Fr_push F) (by have := F.n; omega)⟩
  | cons w l =>
    have hpk : peekV (w :: l) = .tuple #[.agg #[.int .i64 w.j.id, .int .i64 w.j.cost, .int .i64 w.st], .bool true] := rfl
    have FC : ∀ x y, Fr g2 ((g'.push x).set g'.n y) [] := fun x y => Fr_set (Fr_push F) (by have := F.n; omega)
    obtain ⟨p, q, b⟩ := A
    simp only at e4 e5 e6
    cases b with
    | false =>
      have hnf : nextF (p, q, false) t = (t.nm, w.st, true) := by simp [nextF, hl]
      rw [hnf] at hfold
      simp (disch := first|omega|(simp only [np,ns];try omega)) [hpk, s3_A, l3_2, e0, e16, e17, e18, e4, e5, e6, hkk, hfold]
      exact ⟨by omega, FC _ _⟩
    | true =>
      by_cases hlt3 : w.st < q
      · have hnf : nextF (p, q, true) t = (t.nm, w.st, true) := by simp [nextF, hl, hlt3]
        rw [hnf] at hfold
        simp (disch := first|omega|(simp only [np,ns];try omega)) [hpk, s3_A, l3_2, e0, e16, e17, e18, e4, e5, e6, hkk, hfold, hlt3]
        exact ⟨by omega, FC _ _⟩
      · have hnf : nextF (p, q, true) t = (p, q, true) := by simp [nextF, hl, hlt3]
        rw [hnf] at hfold
        simp (disch := first|omega|(simp only [np,ns];try omega)) [hpk, s3_A, l3_2, e0, e16, e17, e18, e4, e5, e6, hkk, hfold, hlt3]
        exact ⟨by omega, FC _ _⟩
theorem next_ok (hso : SortsS Try.prog f_slices_Sort_string_string) {h : VH} {i j : Nat} {rs : List Rt} {S : Sc} (k : RepR h i j rs S) (ho : Ord S.ts) (hln : rs.length ≤ 1000) (hne : 0 < rs.length) :
    PCalls Try.prog f_fair_Sched_next [.pointer (some ⟨i, 0, none⟩)] h (fun u h' => u = .tuple #[.string (strB (nextS S.ts).1), .bool (nextS S.ts).2.2] ∧ h' = h) :=
  ((next_ok' hso k.ro ho hln hne).mono fun u _ e => by subst e; exact ⟨rfl, rfl⟩).drop
end Go.Proofs.Ytoenamablkkocaa.Fa
