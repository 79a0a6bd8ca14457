/- wal, part L: WalFrames. -/
import Derived.Test.YtpcjnpkpmaahiaaDoorWaH
import Derived.Test.YtpcjnpkpmaahiaaDoorWaK
import Derived.Test.YtpcjnpkpmaahiaaDoorFsD
set_option linter.unusedVariables false
set_option linter.unusedSimpArgs false
set_option maxRecDepth 100000
namespace Go.Proofs.YtpcjnpkpmaahiaaDoor.Wa
open Go Go.RowKit Go.Proofs.YtpcjnpkpmaahiaaDoor.Pm Go.Proofs.YtpcjnpkpmaahiaaDoor.Fs Go.Proofs.YtpcjnpkpmaahiaaDoor.Dk
attribute [-simp] BitVec.toNat_or BitVec.toNat_xor BitVec.toNat_add BitVec.toNat_and BitVec.toNat_not BitVec.toNat_shiftLeft BitVec.toNat_ushiftRight

theorem gok_fr {h g : VH} (G : GOK h) (F : Fr h g []) : GOK g := by
  have hn := G.n
  have hn2 := F.n
  exact ⟨by omega, by rw [F.get 0 (by omega) (by simp)]; exact G.e, by rw [F.get 1 (by omega) (by simp)]; exact G.t⟩
theorem good_frames {q : Nat} {l : List (List UInt8)} {r : List UInt8} (h1 : 1 ≤ q) (h2 : q + l.length ≤ 18446744073709551616) (hb : ∀ b ∈ l, b.length ≤ 65536) (hr : cutS r = badC) : goodS (framesS q l ++ r) = (numS q l, (framesS q l).length) := by
  unfold goodS
  refine goodR_frames l q _ none r (.inl rfl) h1 h2 hb hr ?_
  have : ∀ (l : List (List UInt8)) (q : Nat), l.length ≤ (framesS q l).length := by
    intro l
    induction l with
    | nil => intro q; simp
    | cons b l ih =>
      intro q
      have h3 := ih (q + 1)
      have h4 := frame_pos q b
      simp only [framesS, List.length_append, List.length_cons]
      omega
  have := this l q
  rw [List.length_append]
  omega
theorem isB_lt {h : VH} {v : Value} {bs : List UInt8} (hb : IsBytes h v bs) : ∀ i ∈ idOf v, i < h.n := by
  intro i hi
  rcases hb.cases with ⟨h1, _⟩ | ⟨i', o', c', h1, h2, h3, h4⟩
  · rw [h1] at hi; simp [idOf] at hi
  · rw [h3] at hi; simp [idOf] at hi; omega
def SpJ (g6 : VH) (l : List Nm) (F : Slots → Prop) (n : Nat) (s : Slots) (g : VH) : Prop := Fr g6 g (l.flatMap fun x => idOf x.2) ∧ (∀ x ∈ l.drop n, OwnSl g 1 x.2 (u8s x.1.2) x.1.2.length) ∧ F s ∧ s 20 = .int .i64 (n : Int)
set_option maxHeartbeats 16000000 in
theorem walframes_ok' {h : VH} {vb vc vm : Value} {b c more : List UInt8} {q : Nat} (G : GOK h) (hb : IsBytes h vb b) (hc : IsBytes h vc c) (hm : IsBytes h vm more) (hq : q < 18446744073709551616) (l1 : b.length ≤ 1048576) (l2 : c.length ≤ 1048576) (l3 : more.length ≤ 1048576) :
    PCalls Tryd.prog f_law07_WalFrames [.int .u64 (q : Int), vb, vc, vm] h (fun u _ => u = .bool true) := by
  refine PCalls_of_pw st_law07_WalFrames (by simp [n_law07_WalFrames]) ?_
  rw [b_law07_WalFrames]
  unfold B_law07_WalFrames
  generalize hTL : PC.seq (PC.seq (PC.ops (gM 92 9 :: _)) _) _ = TL
  obtain ⟨ba, bc, hvb⟩ := hb.shape
  obtain ⟨ca, cc, hvc⟩ := hc.shape
  obtain ⟨ma, mc, hvm⟩ := hm.shape
  simp (disch := first|omega|(simp only [np,ns];try omega)) []
  refine (lent_ok hb (by omega)).mono ?_
  rintro u1 g1 ⟨P1, F1, new1⟩
  simp (disch := first|omega|(simp only [np,ns];try omega)) []
  refine (ff_ok P1.own.bytes hq).mono ?_
  rintro u g2 ⟨w1, rfl, ⟨xa, xk, xc, hw1⟩, B2⟩
  have hb2 := hb.fr (F1.trans B2.fr) (fun _ _ => by simp)
  simp (disch := first|omega|(simp only [np,ns];try omega)) []
  refine (rff_ok hb2 hq).mono ?_
  rintro u g3 ⟨w2, rfl, hw2s, B3⟩
  have B2' := B2.step B3.fr
  have of1 := ofB_eq B2'.is
  have of2 := ofB_eq B3.is
  have hee : ((strB (frS q b).1).toList == (strB (frS q b).1).toList) = true := by simp
  obtain ⟨E1, hE1⟩ : ∃ E1, E1 = (frS q b).2 := ⟨_, rfl⟩
  rw [← hE1]
  have hEE : ((E1 : Int) != (E1 : Int)) = false := by simp
  have P3 := (P1.fr B2.fr (fun _ _ => by simp)).fr B3.fr (fun _ _ => by simp)
  have hb3 := hb2.fr B3.fr (fun _ _ => by simp)
  simp (disch := first|omega|(simp only [np,ns];try omega)) [of1, of2, hee, hEE]
  refine (kept_ok P3 hb3 (by omega)).mono ?_
  rintro u g3' ⟨rfl, hg3⟩
  rw [hg3]
  have F03 : Fr h g3 [] := (F1.trans B2.fr).trans B3.fr
  have hm3 := hm.fr F03 (fun _ _ => by simp)
  simp (disch := first|omega|(simp only [np,ns];try omega)) []
  refine (lent_ok hm3 (by omega)).mono ?_
  rintro u2 g4 ⟨P4, F4, new4⟩
  simp (disch := first|omega|(simp only [np,ns];try omega)) []
  refine (frames_ok P4.own.bytes (by omega)).mono ?_
  rintro u g5 ⟨ov, l, rfl, ⟨oa, ok, oc, hov⟩, hl5, O5⟩
  have hm5 := hm3.fr (F4.trans O5.fr) (fun _ _ => by simp)
  simp (disch := first|omega|(simp only [np,ns];try omega)) []
  refine (rframes_ok hm5 (by omega) (fun i hi => by
    have h1 : i < h.n := by
      rcases hm.cases with ⟨h1, _⟩ | ⟨i', o', c', h1, h2, h3, h4⟩
      · rw [h1] at hi; simp [idOf] at hi
      · rw [h3] at hi; simp [idOf] at hi; omega
    have := ((F03.trans F4).trans O5.fr).n
    omega)).mono ?_
  rintro u g6 ⟨ov2, m2, rfl, hov2, hl6, O6⟩
  have O56 := O5.fr0 O6.fr
  obtain ⟨LS, hLS⟩ : ∃ LS, LS = lastS (goodS more).1 := ⟨_, rfl⟩
  obtain ⟨NS, hNS⟩ : ∃ NS, NS = (goodS more).2 := ⟨_, rfl⟩
  rw [← hLS, ← hNS]
  have hgb := good_bounds (more.length + 1) none more
  have hgb : (goodS more).2 ≤ more.length ∧ (∀ x ∈ (goodS more).1, 1 ≤ x.1 ∧ x.1 < 18446744073709551616 ∧ x.2.length ≤ 65536) ∧ (goodS more).1.length ≤ (goodS more).2 := hgb
  have hll : l.length ≤ 1048576 := by
    have := congrArg List.length hl5
    rw [List.length_map] at this
    omega
  have hml : m2.length ≤ 1048576 := by
    have := congrArg List.length hl6
    rw [List.length_map] at this
    omega
  have hse : (List.map (·.1) (l.map fun x => (x.1.2, x.2))) = List.map (·.1) (m2.map fun x => (x.1.2, x.2)) := by
    have h1 : List.map (·.1) (l.map fun x => (x.1.2, x.2)) = ((l.map (·.1)).map (·.2)) := by simp
    have h2 : List.map (·.1) (m2.map fun x => (x.1.2, x.2)) = ((m2.map (·.1)).map (·.2)) := by simp
    rw [h1, h2, hl5, hl6]
  simp (disch := first|omega|(simp only [np,ns];try omega)) []
  refine (same_ok O56.sls O6.sls (by simp; omega) (by simp; omega)).mono ?_
  rintro u g6' ⟨rfl, hg6⟩
  rw [hg6, decide_eq_true hse]
  have hLL : ((LS : Int) != (LS : Int)) = false := by simp
  have hNN : ((NS : Int) != (NS : Int)) = false := by simp
  obtain ⟨Ll, hLl⟩ : ∃ Ll, Ll = l.length := ⟨_, rfl⟩
  obtain ⟨oa', oc', hov'⟩ := O56.own.shapeN
  have hokl : ok = Ll := by
    rw [hov] at hov'
    injection hov' with _ h2 _
    omega
  subst hokl
  simp (disch := first|omega|(simp only [np,ns];try omega)) [hLL, hNN]
  obtain ⟨SF, hSF⟩ : ∃ SF : Slots → Prop, SF = fun s => s 0 = .int .u64 (q : Int) ∧ s 1 = vb ∧ s 2 = vc ∧ s 3 = vm ∧ s 9 = u2 ∧ s 10 = w1 ∧ s 11 = .int .i64 (E1 : Int) ∧ s 14 = ov := ⟨_, rfl⟩
  have tail : ∀ (s' : Slots) (g : VH), Fr g6 g (l.flatMap fun x => idOf x.2) → SF s' → pw Tryd.prog TL s' g (F_law07_WalFrames.ret fun u _ => u = .bool true) := by
    intro s' g Fg hS
    rw [hSF] at hS
    obtain ⟨e0, e1, e2, e3, e9, e10, e11, e14⟩ := hS
    rw [← hTL]
    have hXn : ∀ x ∈ l.flatMap (fun x => idOf x.2), g4.n ≤ x := fun x hx => by
      obtain ⟨y, hy, hx⟩ := List.mem_flatMap.1 hx
      exact O5.rec_.new y hy x hx
    have F06 : Fr h g6 [] := ((F03.trans F4).trans O5.fr).trans O6.fr
    have n1 := F1.n
    have n2 := B2.fr.n
    have n3 := B3.fr.n
    have n4 := F4.n
    have F0g : Fr h g [] := F06.trans' Fg (fun y hy => .inr (by have := hXn y hy; omega))
    have inv : ∀ {v : Value}, (∀ i ∈ idOf v, i < g4.n) → ∀ i ∈ idOf v, i ∉ l.flatMap (fun x => idOf x.2) := fun hv i hi hx => by have := hv i hi; have := hXn i hx; omega
    have P4g := ((P4.fr O5.fr (fun _ _ => by simp)).fr O6.fr (fun _ _ => by simp)).fr Fg (inv P4.own.lt)
    have hmg := hm.fr F0g (fun _ _ => by simp)
    have hbg := hb.fr F0g (fun _ _ => by simp)
    have hcg := hc.fr F0g (fun _ _ => by simp)
    have w1own : OwnP g 1 w1 (u8s (frS q b).1) (frS q b).1.length :=
      (((((B2.own.fr B3.fr (fun _ _ => by simp)).fr F4 (fun _ _ => by simp)).fr O5.fr (fun _ _ => by simp)).fr O6.fr (fun _ _ => by simp)).fr Fg (inv (fun i hi => by have := B2.own.lt i hi; omega)))
    have Bg : BufP h g w1 (frS q b).1 := ⟨w1own, F0g, fun i hi => by have := B2.ids i hi; omega⟩
    simp (disch := first|omega|(simp only [np,ns];try omega)) [e9, e3]
    refine (kept_ok P4g hmg (by omega)).mono ?_
    rintro u gk ⟨rfl, hgk⟩
    rw [hgk]
    obtain ⟨q', hq'⟩ : ∃ q', q' = (q + 1) % 18446744073709551616 := ⟨_, rfl⟩
    have eq1 : IntKind.u64.wrap ((q : Int) + 1) = (q' : Int) := by
      have := wrapN_u64 (q + 1)
      rw [hq', ← this]
      congr 1
    simp (disch := first|omega|(simp only [np,ns];try omega)) [e0, e2, eq1]
    refine (ff_ok hcg (q := q') (by omega)).mono ?_
    rintro u g7 ⟨w3, rfl, ⟨za, zk, zc, hw3⟩, B7⟩
    obtain ⟨E2, hE2⟩ : ∃ E2, E2 = (frS q' c).2 := ⟨_, rfl⟩
    rw [← hE2]
    have G7 : GOK g7 := gok_fr G (F0g.trans B7.fr)
    by_cases z1 : E1 = 0
    case neg =>
      have z1I : ((E1 : Int) != 0) = true := by simpa using z1
      simp (disch := first|omega|(simp only [np,ns];try omega)) [e11, z1, z1I]
      refine (known_ok G7).mono ?_
      rintro u g8 ⟨rfl, hg8⟩
      simp (disch := first|omega|(simp only [np,ns];try omega)) [r_law07_WalFrames]
    have z1I : ((E1 : Int) != 0) = false := by simpa using z1
    by_cases z2 : E2 = 0
    case neg =>
      have z2I : ((E2 : Int) != 0) = true := by simpa using z2
      simp (disch := first|omega|(simp only [np,ns];try omega)) [e11, z1, z1I, z2, z2I]
      refine (known_ok G7).mono ?_
      rintro u g8 ⟨rfl, hg8⟩
      simp (disch := first|omega|(simp only [np,ns];try omega)) [r_law07_WalFrames]
    have z2I : ((E2 : Int) != 0) = false := by simpa using z2
    have hfr1 : 1 ≤ q ∧ b.length ≤ 65536 ∧ (frS q b).1 = frameS q b := by
      rw [z1] at hE1
      unfold frS at hE1 ⊢
      by_cases a1 : q = 0
      · rw [if_pos a1] at hE1; simp at hE1
      by_cases a2 : 65536 < b.length
      · rw [if_neg a1, if_pos a2] at hE1; simp at hE1
      exact ⟨by omega, by omega, by rw [if_neg a1, if_neg a2]⟩
    have hfr2 : 1 ≤ q' ∧ c.length ≤ 65536 ∧ (frS q' c).1 = frameS q' c := by
      rw [z2] at hE2
      unfold frS at hE2 ⊢
      by_cases a1 : q' = 0
      · rw [if_pos a1] at hE2; simp at hE2
      by_cases a2 : 65536 < c.length
      · rw [if_neg a1, if_pos a2] at hE2; simp at hE2
      exact ⟨by omega, by omega, by rw [if_neg a1, if_neg a2]⟩
    obtain ⟨q1, bl, fb⟩ := hfr1
    obtain ⟨q1', cl, fc⟩ := hfr2
    have hqq : q' = q + 1 := by omega
    rw [fb] at Bg
    rw [fc] at B7
    have hlb := frame_len q b
    have hlc := frame_len q' c
    have hv1 := varint_len10 hq
    have hv2 := varint_len10 (n := b.length) (by omega)
    have hv3 := varint_len10 (n := q') (by omega)
    have hv4 := varint_len10 (n := c.length) (by omega)
    have hsrc := B7.is.src
    obtain ⟨za', zc', hw3'⟩ := B7.shape
    rw [hw3'] at hw3
    injection hw3 with h1 h2 h3
    subst h1; subst h3
    obtain ⟨ZL, hZL⟩ : ∃ ZL, ZL = (frameS q' c).length := ⟨_, rfl⟩
    rw [← hZL] at h2 hw3'
    subst h2
    obtain ⟨w4, g8, hap, B8⟩ := (Bg.step B7.fr).append (frameS q' c) (by omega)
    rw [← hZL] at hap
    rw [hw3'] at hsrc
    obtain ⟨ya, yc, hw4⟩ := B8.shape
    have hgood : goodS (frameS q b ++ frameS q' c) = (numS q [b, c], (frameS q b ++ frameS q' c).length) := by
      have := good_frames (q := q) (l := [b, c]) (r := []) q1 (by simp; omega) (by simp; omega) cut_nil
      simp only [framesS, List.append_nil] at this
      rw [← hqq] at this
      exact this
    obtain ⟨TL2, hTL2⟩ : ∃ TL2, TL2 = (frameS q b ++ frameS q' c).length := ⟨_, rfl⟩
    rw [← hTL2] at hw4 hgood
    rw [hw1] at e10
    rw [hw1] at hap
    simp (disch := first|omega|(simp only [np,ns];try omega)) [e10, e11, z1, z1I, z2, z2I, hw3', hsrc, hap]
    refine (frames_ok B8.is (by rw [← hTL2]; rw [hTL2, List.length_append]; omega)).mono ?_
    rintro u g9 ⟨ov3, l3', rfl, hov3, hl9, O9⟩
    rw [hgood] at hl9 ⊢
    have hlast : lastS (numS q [b, c]) = q' := by rw [hqq]; rfl
    rw [hlast]
    have hfi : fillC [.slice none 0 0, .slice none 0 0] [(0, 1, vb), (1, 1, vc)] = some [vb, vc] := by rw [hvb, hvc]; rfl
    have hone : [vb, vc].all Value.oneCell' = true := by rw [hvb, hvc]; rfl
    obtain ⟨g10, hg10⟩ : ∃ g10, g10 = g9.push (.cells [vb, vc] true 1) := ⟨_, rfl⟩
    have F10 : Fr g9 g10 [] := by rw [hg10]; exact Fr_push (Fr.refl _ _)
    have x10 : g10.get g9.n = .cells [vb, vc] true 1 := by rw [hg10, VH.get_push_new]
    have n10 : g10.n = g9.n + 1 := by rw [hg10]; rfl
    have F0_10 : Fr h g10 [] := (B8.fr.trans O9.fr).trans F10
    have hb10 := hb.fr F0_10 (fun _ _ => by simp)
    have hc10 := hc.fr F0_10 (fun _ _ => by simp)
    have hS10 : SlsAt g10 (.slice (some ⟨g9.n, 0, none⟩) 2 2) [(b, vb), (c, vc)] := by
      refine ⟨⟨some ⟨g9.n, 0, none⟩, 2, rfl, fun _ => ⟨g9.n, 0, _, true, rfl, by omega, by simp, x10, fun k hk => ?_⟩⟩, fun x hx => ?_⟩
      · have : k = 0 ∨ k = 1 := by simp at hk; omega
        rcases this with rfl | rfl <;> simp
      · simp at hx
        rcases hx with rfl | rfl
        · exact hb10
        · exact hc10
    have hdec : (List.map (·.1) (l3'.map fun x => (x.1.2, x.2))) = List.map (·.1) [(b, vb), (c, vc)] := by
      have h1 : List.map (·.1) (l3'.map fun x => (x.1.2, x.2)) = ((l3'.map (·.1)).map (·.2)) := by simp
      rw [h1, hl9]
      rfl
    have O10 := O9.fr0 F10
    have h3len : l3'.length ≤ 2 := by
      have := congrArg List.length hl9
      simp [numS] at this
      omega
    simp (disch := first|omega|(simp only [np,ns];try omega)) [e1, e2, hfi, hone, ← hg10]
    refine (same_ok O10.sls hS10 (by simp; omega) (by simp)).mono ?_
    rintro u g11 ⟨rfl, hg11⟩
    rw [hg11, decide_eq_true hdec]
    simp (disch := first|omega|(simp only [np,ns];try omega)) [e0, eq1, hw4]
    refine (known_ok (gok_fr G F0_10)).mono ?_
    rintro u g12 ⟨rfl, hg12⟩
    simp (disch := first|omega|(simp only [np,ns];try omega)) [r_law07_WalFrames]
  refine pw_loopN (SpJ g6 l SF) ok ?_ ?_
  · refine ⟨Fr.refl _ _, fun x hx => O56.rec_.byt x (List.mem_of_mem_drop hx), ?_, by simp [upd_apply]⟩
    rw [hSF]
    simp [upd_apply, s0_apply]
  rintro n s g hn ⟨Fg, hown, hS, e20⟩
  have hS' := hS
  rw [hSF] at hS'
  obtain ⟨e0, e1, e2, e3, e9, e10, e11, e14⟩ := hS'
  rw [hov] at e14
  by_cases hlt : n < ok
  case neg =>
    have hltI : ¬ (n : Int) < (ok : Int) := by omega
    simp (disch := first|omega|(simp only [np,ns];try omega)) [e14, e20, hlt, hltI]
    refine tail _ g Fg ?_
    rw [hSF] at hS ⊢
    simpa [upd_apply] using hS
  have hltI : (n : Int) < (ok : Int) := by omega
  have hnl : n < l.length := by omega
  have hrow := own_rows (O56.own.fr Fg (fun i hi hx => by
    obtain ⟨y, hy, hx⟩ := List.mem_flatMap.1 hx
    exact O5.dis y hy i hx hi))
  rw [hov] at hrow
  obtain ⟨ri, ro, hra, _, hez, _, hld⟩ := hrow.at_ (k := n) (by simp; omega)
  subst hra
  obtain ⟨x, hx⟩ : ∃ x, x = l[n] := ⟨_, rfl⟩
  have hxl : x ∈ l := by rw [hx]; exact List.getElem_mem _
  have hld := hld x.2 (by simp [hx])
  rw [Nat.mul_one] at hld
  have hxd : x ∈ l.drop n := by rw [List.drop_eq_getElem_cons hnl, hx]; exact List.mem_cons_self ..
  have hxb : x.1.2.length ≤ 65536 := by
    have h1 : x.1 ∈ (goodS more).1 := by rw [← hl5]; exact List.mem_map_of_mem hxl
    exact (hgb.2.1 _ h1).2.2
  have eW : IntKind.i64.wrap ((n : Int) + 1) = ((n + 1 : Nat) : Int) := by rw [i64_small (by omega) (by omega)]; omega
  simp (disch := first|omega|(simp only [np,ns];try omega)) [e14, e20, hlt, hltI, hez, hld]
  refine (spoil_ok (hown x hxd).p (by omega)).mono ?_
  intro u g' Fs
  have hsep : ∀ y ∈ l.drop (n + 1), ∀ i ∈ idOf x.2, i ∉ idOf y.2 := fun y hy i hi => by
    have := O5.rec_.sep
    rw [← List.take_append_drop n l, List.drop_eq_getElem_cons hnl, List.pairwise_append, List.pairwise_cons] at this
    exact this.2.1.1 y hy i (by rw [← hx]; exact hi)
  simp (disch := first|omega|(simp only [np,ns];try omega)) [e20, eW]
  refine ⟨hlt, Fg.trans (Fs.sub (fun i hi => List.mem_flatMap.2 ⟨x, hxl, hi⟩)), fun y hy => ?_, ?_, by simp [upd_apply]⟩
  · refine (hown y ?_).fr Fs (fun i hi hix => hsep y hy i hix hi)
    rw [List.drop_eq_getElem_cons hnl]
    exact List.mem_cons_of_mem _ hy
  · rw [hSF] at hS ⊢
    simpa [upd_apply] using hS
theorem walframes_law {h : VH} {us : List Value} {k : Nat} (G : GOK h) (H : ShA h [.int .u64, .sl 1 (.int .u8), .sl 1 (.int .u8), .sl 1 (.int .u8)] us k) (hk : k ≤ 1048576) :
    PCalls Tryd.prog f_law07_WalFrames us h (fun u h' => u = .bool true ∧ h' = h) := by
  obtain ⟨v0, r0, k0, k0', rfl, h0, ⟨v1, r1, k1, k1', rfl, h1, ⟨v2, r2, k2, k2', rfl, h2, ⟨v3, r3, k3, k3', rfl, h3, ⟨rfl, _⟩, _⟩, _⟩, _⟩, _⟩ := H
  obtain ⟨q, hq, hq64, _⟩ := Sh.u64 (h := h) h0
  injection hq with hq _
  subst hq
  obtain ⟨b, hb, _⟩ := Sh.bytes (h := h) h1
  obtain ⟨c, hc, _⟩ := Sh.bytes (h := h) h2
  obtain ⟨m, hm, _⟩ := Sh.bytes (h := h) h3
  exact ((walframes_ok' (h := h.ro) G.ro hb.ro hc.ro hm.ro hq64 (by omega) (by omega) (by omega)).mono fun u _ e => by subst e; exact ⟨rfl, rfl⟩).drop
end Go.Proofs.YtpcjnpkpmaahiaaDoor.Wa
