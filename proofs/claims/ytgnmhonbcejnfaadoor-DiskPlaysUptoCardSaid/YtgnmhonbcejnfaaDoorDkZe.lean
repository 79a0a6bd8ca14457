/- disk, part Ze: DiskSafe. -/
import Derived.Test.YtgnmhonbcejnfaaDoorDkZb
set_option linter.unusedVariables false
set_option linter.unusedSimpArgs false
set_option maxRecDepth 100000
namespace Go.Proofs.YtgnmhonbcejnfaaDoor.Dk
open Go Go.RowKit Go.Proofs.YtgnmhonbcejnfaaDoor.Pm Go.Proofs.YtgnmhonbcejnfaaDoor.Fs
attribute [-simp] BitVec.toNat_or BitVec.toNat_xor BitVec.toNat_add BitVec.toNat_and BitVec.toNat_not BitVec.toNat_shiftLeft BitVec.toNat_ushiftRight


/-! ### everything kept, or nothing -/
def bigK : Int := 1073741824
def keepF (f : Fl) : List UInt8 × List Int := (f.nm, List.replicate f.ws.length bigK)
def lw (wb : Bool) (S : Ds) : List (List UInt8 × List Int) := if wb = true then S.fs.map keepF else []
theorem keepOf_not {nm : List UInt8} : ∀ {l : List (List UInt8 × List Int)} {a : List Int}, (∀ p ∈ l, p.1 ≠ nm) → l.foldl (fun a p => if p.1 = nm then p.2 else a) a = a
  | [], _, _ => rfl
  | p :: r, a, h => by
    rw [List.foldl_cons, if_neg (h p (List.mem_cons_self ..))]
    exact keepOf_not (fun q hq => h q (List.mem_cons_of_mem _ hq))
theorem keepOf_mem {nm : List UInt8} {zs : List Int} : ∀ {l : List (List UInt8 × List Int)} {a : List Int}, (l.map (·.1)).Nodup → (nm, zs) ∈ l → l.foldl (fun a p => if p.1 = nm then p.2 else a) a = zs
  | [], _, _, h => by cases h
  | p :: r, a, hn, h => by
    rw [List.map_cons, List.nodup_cons] at hn
    rw [List.foldl_cons]
    rcases List.mem_cons.1 h with rfl | h
    · rw [if_pos rfl]
      exact keepOf_not (fun q hq e => by
        have h1 := List.mem_map_of_mem (f := fun p : List UInt8 × List Int => p.1) hq
        rw [e] at h1
        exact hn.1 h1)
    · exact keepOf_mem hn.2 h
theorem keepOf_lw {wb : Bool} {S : Ds} (hu : Uni S.fs) {f : Fl} (hf : f ∈ S.fs) : keepOf f.nm (lw wb S) = if wb = true then List.replicate f.ws.length bigK else [] := by
  unfold lw keepOf
  split
  · refine keepOf_mem ?_ (List.mem_map.2 ⟨f, hf, rfl⟩)
    rw [List.map_map]; exact hu
  · rfl
theorem wrong_lw {fs : List Fl} (hu : Uni fs) : ∀ {r : List Fl} {met : List (List UInt8)}, (∀ f ∈ r, f ∈ fs) → (r.map (·.nm)).Nodup → (∀ f ∈ r, f.nm ∉ met) → wrongD fs met (r.map keepF) = 0
  | [], _, _, _, _ => rfl
  | f :: r, met, h1, h2, h3 => by
    rw [List.map_cons, List.nodup_cons] at h2
    simp only [List.map_cons, keepF, wrongD]
    rw [findF_mem hu (h1 f (List.mem_cons_self ..))]
    simp only
    rw [if_neg (h3 f (List.mem_cons_self ..)), if_neg]
    · exact wrong_lw hu (fun x hx => h1 x (List.mem_cons_of_mem _ hx)) h2.2 (fun x hx hm => by
        rcases List.mem_cons.1 hm with e | e
        · exact h2.1 (e ▸ List.mem_map_of_mem (f := fun f : Fl => f.nm) hx)
        · exact h3 x (List.mem_cons_of_mem _ hx) e)
    · rintro (h4 | h4)
      · simp at h4
      · simp [bigK] at h4
theorem wrong_lw0 {wb : Bool} {S : Ds} (hu : Uni S.fs) : wrongD S.fs [] (lw wb S) = 0 := by
  unfold lw
  split
  · exact wrong_lw hu (fun f hf => hf) hu (by simp)
  · rfl
theorem crashL_all : ∀ (ws : List (List UInt8)) (b : List UInt8), (∀ w ∈ ws, w.length ≤ 1073741824) → crashL b b.length ws (List.replicate ws.length bigK) = b ++ ws.flatten
  | [], b, _ => by simp [crashL]
  | w :: r, b, h => by
    rw [List.length_cons, List.replicate_succ, crashL_cons, if_neg (by decide), Nat.sub_self]
    have hw := h w (List.mem_cons_self ..)
    have e : b ++ List.replicate 0 (0 : UInt8) ++ w.take bigK.toNat = b ++ w := by
      rw [List.take_of_length_le (by show w.length ≤ 1073741824; exact hw)]
      simp
    rw [e]
    have := crashL_all r (b ++ w) (fun x hx => h x (List.mem_cons_of_mem _ hx))
    rw [List.length_append] at this
    rw [this]
    simp
/-- what is there behind the crash. -/
def wantF (wb : Bool) (f : Fl) : List UInt8 := if wb = true then f.all else f.s
theorem crash_lw {wb : Bool} {S : Ds} (ok : OkD S) {f : Fl} (hf : f ∈ S.fs) : crashF f (keepOf f.nm (lw wb S)) = ⟨f.nm, wantF wb f, []⟩ := by
  rw [keepOf_lw ok.ord.uni hf]
  unfold crashF wantF
  cases wb with
  | true =>
    have o := ok.fl f hf
    have := crashL_all f.ws f.s (fun w hw => by
      have h1 := o.sz
      have h2 : w.length ≤ f.ws.flatten.length := by
        clear h1 o hf
        generalize f.ws = ws at hw
        induction ws with
        | nil => cases hw
        | cons x r ih =>
          rw [List.flatten_cons, List.length_append]
          rcases List.mem_cons.1 hw with rfl | hw
          · omega
          · have := ih hw; omega
      have h3 : f.all.length = f.s.length + f.ws.flatten.length := by simp [Fl.all]
      omega)
    simp only [if_true]
    rw [this]
    rfl
  | false => simp [crashL_nil]
def safeD (wb : Bool) (S : Ds) : Ds := { S with fs := S.fs.map fun f => ⟨f.nm, wantF wb f, []⟩ }
theorem cra_lw {wb : Bool} {S : Ds} (ok : OkD S) : craD S (lw wb S) = (0, safeD wb S) := by
  unfold craD
  rw [if_pos (wrong_lw0 ok.ord.uni)]
  congr 1
  unfold safeD
  congr 1
  exact List.map_congr_left fun f hf => crash_lw ok hf
theorem cra_again {wb : Bool} {S : Ds} : craD (safeD wb S) [] = (0, safeD wb S) := by
  have h0 : wrongD (safeD wb S).fs [] [] = 0 := rfl
  unfold craD
  rw [if_pos h0]
  congr 1
  unfold safeD
  congr 1
  rw [List.map_map]
  rfl
theorem pend_safe {wb : Bool} {S : Ds} : pendD (safeD wb S) = 0 := by
  unfold pendD safeD
  rw [List.map_map]
  generalize S.fs = l
  induction l with
  | nil => rfl
  | cons f r ih => rw [List.map_cons, List.sum_cons, ih]; rfl
theorem read_safe {wb : Bool} {S : Ds} (hu : Uni S.fs) {f : Fl} (hf : f ∈ S.fs) : readD (safeD wb S) f.nm = (wantF wb f, 0) := by
  have hu2 : Uni (safeD wb S).fs := by
    unfold Uni safeD
    rw [List.map_map]; exact hu
  have hm : (⟨f.nm, wantF wb f, []⟩ : Fl) ∈ (safeD wb S).fs := List.mem_map.2 ⟨f, hf, rfl⟩
  have := findF_mem hu2 hm
  unfold readD
  rw [show findF f.nm (safeD wb S).fs = some ⟨f.nm, wantF wb f, []⟩ from this]
  simp [Fl.all]
/-! ### owned rows, as what is kept -/
theorem OwnSl.rows {α : Type} {C : α → List Value} {z : Nat} (hC : ∀ a, (C a).length = z) {h : VH} {v : Value} {l : List α} {n : Nat} (hn : n = l.length) (k : OwnSl h z v (l.flatMap C) n) : RowsAt h z v (l.map C) := by
  subst hn
  rcases k with ⟨rfl, h1, h2⟩ | ⟨i, o, c, ds, h1, h2, h3, h4, h5, h6, h7⟩
  · have : l = [] := List.eq_nil_of_length_eq_zero h2
    subst this
    exact ⟨none, 0, rfl, fun h => by simp at h⟩
  · refine ⟨some ⟨i, o, none⟩, c, by rw [List.length_map]; exact h3, fun _ => ⟨i, o, ds, true, rfl, h1, by rw [List.length_map]; exact h2, h4, fun k hk => ?_⟩⟩
    have hk' : k < l.length := by simpa using hk
    have hdl : ds.length = o + l.length * z := by
      have := congrArg List.length h5
      rw [List.length_drop, flat_len hC] at this
      omega
    have h8 : (k + 1) * z ≤ l.length * z := Nat.mul_le_mul_right z (by omega)
    rw [Nat.succ_mul] at h8
    refine ⟨by omega, ?_⟩
    rw [← List.drop_drop, h5, drop_flat hC, List.drop_eq_getElem_cons hk', List.flatMap_cons, List.take_left' (hC _), List.getElem_map]
def intC (x : Int) : List Value := [.int .i64 x]
theorem OwnSl.ints {h : VH} {v : Value} {zs : List Int} {n : Nat} (hn : n = zs.length) (hl : zs.length ≤ 1099511627000) (k : OwnSl h 1 v (zs.flatMap intC) n) : IntsAt h v zs := ⟨OwnSl.rows (C := intC) (fun _ => rfl) hn k, hl⟩
/-- what is kept, as far as it is gathered. -/
structure KB (hz g : VH) (kv : Value) (q : List ((List UInt8 × List Int) × Value)) : Prop where
  b : BufE hz g 2 kv (q.flatMap rowK) q.length
  i : ∀ p ∈ q, OwnSl g 1 p.2 (p.1.2.flatMap intC) p.1.2.length ∧ (∀ x ∈ idOf p.2, hz.n ≤ x ∧ x ∉ idOf kv) ∧ p.1.2.length ≤ 1048576
theorem KB.nil (hz : VH) : KB hz hz (.slice none 0 0) [] := ⟨BufE.nil _ _, by simp⟩
theorem KB.keeps {hz g : VH} {kv : Value} {q : List ((List UInt8 × List Int) × Value)} (k : KB hz g kv q) (hl : q.length ≤ 1048576) : KeepsAt (fun x => hz.n ≤ x) g kv q :=
  ⟨OwnSl.rows (C := rowK) (fun _ => rfl) rfl k.b.own, fun p hp => OwnSl.ints rfl (by have := (k.i p hp).2.2; omega) (k.i p hp).1, fun p hp x hx => ((k.i p hp).2.1 x hx).1, fun x hx => k.b.ids x hx, by omega⟩
theorem KB.step {hz g g' : VH} {kv : Value} {q : List ((List UInt8 × List Int) × Value)} (k : KB hz g kv q) (hf : Fr g g' []) : KB hz g' kv q :=
  ⟨k.b.step hf, fun p hp => ⟨(k.i p hp).1.fr hf (fun _ _ => by simp), (k.i p hp).2⟩⟩

/- disk, part Zf: DiskSafe, walked. -/

/-- the numbers of one file, gathered: m of them. -/
def NB (gA g : VH) (nm : List UInt8) (m : Nat) : Prop := Fr gA g [] ∧ gA.n < g.n ∧ ∃ nv, g.get gA.n = .cells [.string (strB nm), nv] true 1 ∧ OwnSl g 1 nv ((List.replicate m bigK).flatMap intC) m ∧ ∀ x ∈ idOf nv, gA.n < x
def KJ (hz g : VH) (S : Ds) (kv : Value) (n : Nat) : Prop := ∃ q, KB hz g kv q ∧ q.length = n ∧ q.map (·.1) = (S.fs.take n).map keepF
set_option maxHeartbeats 8000000 in
theorem safe_ok {h0 : VH} {v : Value} {l : List (OpR × Value × Value)} {c : Int} (G : GOK h0) (H : ScrAt h0.n h0 v l) (hl : l.length ≤ 1048576) (hc : -9223372036854775808 ≤ c ∧ c < 9223372036854775808) :
    PCalls Tryd.prog f_law06_DiskSafe [v, .int .i64 c] h0 (fun u _ => u = .bool true) := by
  refine PCalls_of_pw st_law06_DiskSafe (by simp [n_law06_DiskSafe]) ?_
  rw [b_law06_DiskSafe]
  unfold B_law06_DiskSafe
  generalize hT : PC.seq (PC.seq (PC.ops (gM 70 5 :: _)) _) _ = T1
  simp (disch := first|omega|(simp only [np,ns];try omega)) []
  refine (played_ok G H hl).mono ?_
  rintro u hz ⟨i, ri, S, rfl, ok, X, R, Y, k⟩
  have okd := ok.ok
  simp (disch := first|omega|(simp only [np,ns];try omega)) []
  refine (count_ok hc (by decide)).mono ?_
  rintro u hz' ⟨w, hw, rfl, hzz⟩
  rw [hzz]
  clear hzz
  obtain ⟨wb, hwb⟩ : ∃ wb, wb = decide (w = 1) := ⟨_, rfl⟩
  have hwI : ((w : Int) == 1) = wb := by
    rw [hwb]
    have hw2 : w = 0 ∨ w = 1 := by omega
    rcases hw2 with rfl | rfl <;> rfl
  have hXlt := k.d.lt
  have n0 := k.fr.n
  obtain ⟨rv, rs, hY, kr⟩ := k.r
  have hrl := kr.len
  have hle := okd.len
  obtain ⟨ra, rc, hrv⟩ := kr.own.shapeN
  obtain ⟨N, hN⟩ : ∃ N, N = rs.length := ⟨_, rfl⟩
  rw [← hN] at hrv
  -- behind the keeps
  have tail : ∀ (s : Slots) (g : VH) (q : List ((List UInt8 × List Int) × Value)) (kv : Value), Fr hz g [] → KeepsAt (fun x => hz.n ≤ x) g kv q → q.map (·.1) = lw wb S → s 5 = .pointer (some ⟨i, 0, none⟩) → s 6 = .pointer (some ⟨ri, 0, none⟩) → s 7 = .bool wb → s 8 = kv →
      pw Tryd.prog T1 s g (F_law06_DiskSafe.ret fun u _ => u = .bool true) := by
    intro s g q kv F Q hq e5 e6 e7 e8
    rw [← hT]
    obtain ⟨S1, hS1⟩ : ∃ S1, S1 = safeD wb S := ⟨_, rfl⟩
    have hcr : craD S (q.map (·.1)) = (0, S1) := by rw [hq, hS1]; exact cra_lw okd
    have dg := k.d.fr0 F
    have rg := k.r.fr0 F
    have fg := k.fr.trans F
    have Gg := G.fr0 fg
    simp (disch := first|omega|(simp only [np,ns];try omega)) [e5, e6, e7, e8]
    refine (dcrash_ok Gg dg ok (fun x hx hD => by have := hXlt x hx; omega) Q).mono ?_
    rintro u h1 ⟨rfl, D1⟩
    rw [hcr] at D1 ⊢
    have ok1 : OkN 120 S1 := by
      have := craD_ok ok (lw wb S)
      rw [cra_lw okd] at this
      rw [hS1]; exact this
    obtain ⟨X1, R1, d1, r1, f1, x1, xy1⟩ := Bo.dstep (Q := []) dg rg fg k.hX k.xy D1
    simp (disch := first|omega|(simp only [np,ns];try omega)) [e5]
    refine (pending_ok d1 ok1.ok).mono ?_
    rintro u h2 ⟨rfl, F2⟩
    have hp0 : pendD S1 = 0 := by rw [hS1]; exact pend_safe
    rw [hp0]
    have d2 := d1.fr0 F2
    have r2 := r1.fr0 F2
    have f2 := f1.trans F2
    simp (disch := first|omega|(simp only [np,ns];try omega)) [e5]
    refine (copy_ok d2 ok1.ok).mono ?_
    rintro u h3 ⟨ci, Xc, Rc, rfl, dc, F3, hXc, hRc⟩
    have d3 := d2.fr0 F3
    have r3 := r2.fr0 F3
    have f3 := f2.trans F3
    simp (disch := first|omega|(simp only [np,ns];try omega)) [e5]
    refine (dcrash_ok (D := fun _ => False) (q := []) (kv := .slice none 0 0) (G.fr0 f3) d3 ok1 (fun _ _ hD => hD) ⟨⟨none, 0, rfl, fun h => by simp at h⟩, by simp, by simp, by simp [idOf], by simp⟩).mono ?_
    rintro u h4 ⟨rfl, D4⟩
    have hcr2 : craD S1 [] = (0, S1) := by rw [hS1]; exact cra_again
    simp only [List.map_nil, hcr2] at D4 ⊢
    obtain ⟨X4, R4, d4', m4⟩ := D4
    have hd2lt := d2.lt
    have dc4 := dc.fr m4.fr (fun x hx hx2 => by have := hXc x hx; have := hd2lt x hx2; omega) (fun x hx hx2 => by
      obtain ⟨j2, rs2, hX2, hR2, k2⟩ := d3
      rw [hX2] at hx2
      have := hRc x hx
      rw [hR2] at this
      exact k2.rd x this hx2)
    obtain ⟨X4, R4, d4, r4, f4, x4, xy4⟩ := Bo.dstep (Q := []) d3 r3 f3 x1 xy1 ⟨X4, R4, d4', m4⟩
    simp (disch := first|omega|(simp only [np,ns];try omega)) [e5]
    refine (same_ok d4 dc4 ok1.ok ok1.ok).mono ?_
    rintro u h5 ⟨⟨bb, rfl, hbb⟩, F5⟩
    have hbt : bb = true := hbb.2 rfl
    subst hbt
    have d5 := d4.fr0 F5
    have r5 := r4.fr0 F5
    have f5 := f4.trans F5
    obtain ⟨rv2, rs2, hY2, kr2⟩ := r5
    have hrl2 := kr2.len
    obtain ⟨ra2, rc2, hrv2⟩ := kr2.own.shapeN
    obtain ⟨N2, hN2⟩ : ∃ N2, N2 = rs2.length := ⟨_, rfl⟩
    rw [← hN2] at hrv2
    simp (disch := first|omega|(simp only [np,ns];try omega)) []
    refine pw_loopN (fun n s g => Fr h5 g [] ∧ s 5 = .pointer (some ⟨i, 0, none⟩) ∧ s 6 = .pointer (some ⟨ri, 0, none⟩) ∧ s 7 = .bool wb ∧ s 13 = .int .i64 (n : Int)) N2 ?_ ?_
    · exact ⟨Fr.refl _ _, by simp [upd_apply, e5], by simp [upd_apply, e6], by simp [upd_apply, e7], by simp [upd_apply]⟩
    rintro n s g hn ⟨F6, g5, g6, g7, g13⟩
    have kg := kr2.fr0 F6
    have hrg := kg.rec_
    rw [hrv2] at hrg
    by_cases hlt : n < N2
    case neg =>
      obtain rfl : n = N2 := by omega
      simp (disch := first|omega|(simp only [np,ns];try omega)) [g6, g13, hrg, lr_0]
      refine (known_ok g).mono ?_
      rintro u g' ⟨rfl, rfl⟩
      simp (disch := first|omega|(simp only [np,ns];try omega)) [r_law06_DiskSafe]
    have hltI : (n : Int) < (N2 : Int) := by omega
    have hkk : IntKind.i64.wrap ((n : Int) + 1) = ((n + 1 : Nat) : Int) := by rw [i64_small (by omega) (by omega)]; omega
    have hspl := at_split (l := rs2) (n := n) (by omega)
    obtain ⟨r, hr⟩ : ∃ r, r = rs2[n]'(by omega) := ⟨_, rfl⟩
    rw [← hr] at hspl
    have kg2 := kg
    rw [hspl] at kg2
    obtain ⟨qi, qo, qc, ds, hqv, hqc, hqi, hgq, hezq, _, _, hl0, hl1, hl2', _⟩ := kg2.row
    have htl : (rs2.take n).length = n := by rw [List.length_take]; omega
    have hl2 : (rs2.take n ++ r :: rs2.drop (n + 1)).length = N2 := by rw [← hspl, hN2]
    rw [htl] at hl0 hl1 hl2'
    rw [hl2, hrv2] at hqv
    injection hqv with hqv _ hqvc
    subst hqv
    subst hqvc
    have T := kg2.fil r (by simp)
    have hrS : r.f ∈ S.fs := by rw [← kr2.fs, hr]; exact List.mem_map_of_mem (List.getElem_mem _)
    have hrd : readD S1 r.f.nm = (wantF wb r.f, 0) := by rw [hS1]; exact read_safe okd.ord.uni hrS
    obtain ⟨ba, bc, hbv⟩ := T.b.shape
    simp (disch := first|omega|(simp only [np,ns];try omega)) [g5, g6, g7, g13, hrg, lr_0, hlt, hltI, hgq, hezq, hl0]
    refine (read_ok ((G.fr0 f5).fr0 F6) (d5.fr0 F6) ok1.ok).mono ?_
    rintro u g2 ⟨v2, rfl, hb2⟩
    rw [hrd] at hb2 ⊢
    have hrg2 := (hb2.fr.get ri kg.lt (by simp)).trans hrg
    have hgq2 := (hb2.fr.get qi hqi (by simp)).trans hgq
    have T2 := T.b.fr hb2.fr (fun _ _ => by simp)
    have o1 := ofB_eq hb2.is
    obtain ⟨va, vc, hv2⟩ := hb2.shape
    obtain ⟨M, hM⟩ : ∃ M, M = r.f.all.length := ⟨_, rfl⟩
    obtain ⟨W, hW⟩ : ∃ W, W = (wantF wb r.f).length := ⟨_, rfl⟩
    rw [← hM] at hbv
    simp only [← hW] at hv2
    subst hv2
    rw [hbv] at hl1
    cases hwbc : wb with
    | true =>
      rw [hwbc] at g7 o1
      have o2 := ofB_eq T2.bytes
      rw [hbv] at o2
      have hwant : wantF true r.f = r.f.all := rfl
      rw [hwant] at o1
      simp (disch := first|omega|(simp only [np,ns];try omega)) [g5, g6, g7, g13, hrg2, lr_0, hlt, hltI, hgq2, hezq, hl0, hl1, o1, o2, hkk]
      exact F6.trans hb2.fr
    | false =>
      rw [hwbc] at g7 o1
      have hwant : wantF false r.f = r.f.s := rfl
      rw [hwant] at o1
      obtain ⟨A, hA⟩ : ∃ A, A = r.f.s.length := ⟨_, rfl⟩
      have hAM : A ≤ M := by rw [hA, hM]; simp [Fl.all]
      rw [← hA] at hl2'
      have hbd : (0 : Int) ≤ (A : Int) ∧ (A : Int) ≤ (bc : Int) := by
        have : M ≤ bc := by
          rw [← hM, hbv] at T2
          rcases T2 with ⟨h1, _, h3⟩ | ⟨_, _, _, _, _, h2, h3, _⟩
          · injection h1 with _ h4 h5; omega
          · injection h3 with _ _ h5; omega
        omega
      rw [← hM, hbv] at T2
      cases ba with
      | none =>
        have hM0 : M = 0 := by
          rcases T2 with ⟨h1, _, h3⟩ | ⟨_, _, _, _, _, _, h3, _⟩
          · exact h3
          · cases h3
        have hs0 : r.f.s = [] := List.eq_nil_of_length_eq_zero (by omega)
        have hA0 : A = 0 := by omega
        subst hA0
        rw [hs0] at o1
        have ob : ofB g2 (.slice none 0 0) = some (.string (strB []), g2) := rfl
        have hl2'' : loadObj (.cells ds true 4) (qo + n * 4 + 2) none = some (.int .i64 0) := hl2'
        simp (disch := first|omega|(simp only [np,ns];try omega)) [g5, g6, g7, g13, hrg2, lr_0, hlt, hltI, hgq2, hezq, hl0, hl1, hl2'', o1, ob, hkk]
        exact F6.trans hb2.fr
      | some bx =>
        have hbx : ∃ bq bo, bx = ⟨bq, bo, none⟩ := by
          rcases T2 with ⟨h1, _⟩ | ⟨x, y, _, _, _, _, h1, _⟩
          · cases h1
          · injection h1 with h1
            injection h1 with h1
            exact ⟨x, y, h1⟩
        obtain ⟨bq, bo, rfl⟩ := hbx
        obtain ⟨hrow, hezb, hMc⟩ := OwnP.part T2 (m := A) hAM
        have hbs : OwnP g2 1 (.slice (some ⟨bq, bo, none⟩) A bc) (u8s r.f.s) A := by
          rcases T2 with ⟨h1, _⟩ | ⟨x, y, z, ds2, y1, y2, y3, y4, y5, y6⟩
          · cases h1
          · injection y3 with y3 _ y3c
            injection y3 with y3
            injection y3 with y3 y3'
            subst y3
            subst y3'
            subst y3c
            refine .inr ⟨bq, bo, bc, ds2, y1, by omega, rfl, y4, ?_, by omega⟩
            have : (ds2.drop bo).take (A * 1) = ((ds2.drop bo).take (M * 1)).take A := by rw [List.take_take]; congr 1; omega
            rw [this, y5]
            simp [u8s, Fl.all, hA]
        rw [hA] at hbs
        have o2 := ofB_eq hbs.bytes
        rw [← hA] at o2
        simp (disch := first|omega|(simp only [np,ns];try omega)) [g5, g6, g7, g13, hrg2, lr_0, hlt, hltI, hgq2, hezq, hl0, hl1, hl2', hezb, hbd, o1, o2, hkk]
        exact F6.trans hb2.fr
  -- the keeps
  clear hT
  have hrec := kr.rec_
  rw [hrv] at hrec
  have hw2 : w = 0 ∨ w = 1 := by omega
  rcases hw2 with rfl | rfl
  · have hwbf : wb = false := hwb
    simp (disch := first|omega|(simp only [np,ns];try omega)) []
    refine pw_loopN (fun n s g => n = 0 ∧ g = hz ∧ s 5 = .pointer (some ⟨i, 0, none⟩) ∧ s 6 = .pointer (some ⟨ri, 0, none⟩) ∧ s 7 = .bool false ∧ s 8 = .slice none 0 0 ∧ s 9 = .int .i64 0) 0 ?_ ?_
    · exact ⟨rfl, rfl, by simp [upd_apply], by simp [upd_apply], by simp [upd_apply], by simp [upd_apply], by simp [upd_apply]⟩
    rintro n s g hn ⟨_, hg, e5, e6, e7, e8, e9⟩
    rw [hg]
    have hKeep : KeepsAt (fun x => hz.n ≤ x) hz (.slice none 0 0) [] := ⟨⟨none, 0, rfl, fun h => by simp at h⟩, by simp, by simp, by simp [idOf], by simp⟩
    by_cases hN0 : 0 < N
    · have hNI : (0 : Int) < (N : Int) := by omega
      simp (disch := first|omega|(simp only [np,ns];try omega)) [e6, e7, e9, hrec, lr_0, hNI, hN0]
      exact tail _ hz [] (.slice none 0 0) (Fr.refl _ _) hKeep (by rw [hwbf]; rfl) (by simp [upd_apply, e5]) (by simp [upd_apply, e6]) (by simp [upd_apply, e7, hwbf]) (by simp [upd_apply, e8])
    · have hNI : ¬ (0 : Int) < (N : Int) := by omega
      simp (disch := first|omega|(simp only [np,ns];try omega)) [e6, e7, e9, hrec, lr_0, hNI, hN0]
      exact tail _ hz [] (.slice none 0 0) (Fr.refl _ _) hKeep (by rw [hwbf]; rfl) (by simp [upd_apply, e5]) (by simp [upd_apply, e6]) (by simp [upd_apply, e7, hwbf]) (by simp [upd_apply, e8])
  have hwbt : wb = true := hwb
  simp (disch := first|omega|(simp only [np,ns];try omega)) []
  refine pw_loopN (fun n s g => KJ hz g S (s 8) n ∧ s 5 = .pointer (some ⟨i, 0, none⟩) ∧ s 6 = .pointer (some ⟨ri, 0, none⟩) ∧ s 7 = .bool true ∧ s 9 = .int .i64 (n : Int)) N ?_ ?_
  · exact ⟨⟨[], by simpa [upd_apply] using KB.nil hz, rfl, rfl⟩, by simp [upd_apply], by simp [upd_apply], by simp [upd_apply], by simp [upd_apply]⟩
  rintro n s gA hn ⟨⟨q, kb, hql, hqm⟩, e5, e6, e7, e9⟩
  obtain ⟨kv, hkv⟩ : ∃ kv, kv = s 8 := ⟨_, rfl⟩
  rw [← hkv] at kb
  have FA := kb.b.fr
  have nA := FA.n
  have kgA := kr.fr0 FA
  have hrgA := kgA.rec_
  rw [hrv] at hrgA
  by_cases hlt : n < N
  case neg =>
    obtain rfl : n = N := by omega
    simp (disch := first|omega|(simp only [np,ns];try omega)) [e6, e7, e9, hrgA, lr_0]
    refine tail _ gA q kv FA (kb.keeps (by omega)) ?_ (by simp [upd_apply, e5]) (by simp [upd_apply, e6]) (by simp [upd_apply, e7, hwbt]) (by simp [upd_apply, hkv])
    rw [hqm, List.take_of_length_le (by omega), hwbt]
    rfl
  have hltI : (n : Int) < (N : Int) := by omega
  have hkk : IntKind.i64.wrap ((n : Int) + 1) = ((n + 1 : Nat) : Int) := by rw [i64_small (by omega) (by omega)]; omega
  have hspl := at_split (l := rs) (n := n) (by omega)
  obtain ⟨r, hr⟩ : ∃ r, r = rs[n]'(by omega) := ⟨_, rfl⟩
  rw [← hr] at hspl
  have rowAt : ∀ {g : VH}, Fr hz g [] → ∃ qi qo qc ds, (Value.slice ra N rc) = .slice (some ⟨qi, qo, none⟩) N qc ∧ g.get ri = .cells [.slice (some ⟨qi, qo, none⟩) N qc, .int .i64 (S.sy : Int)] true 1 ∧ g.get qi = .cells ds true 4 ∧ eszObj (.cells ds true 4) 4 = true ∧ loadObj (.cells ds true 4) (qo + n * 4) none = some (.string (strB r.f.nm)) ∧ loadObj (.cells ds true 4) (qo + n * 4 + 3) none = some r.wv := by
    intro g F
    have kg := kr.fr0 F
    have hrg := kg.rec_
    rw [hrv] at hrg
    rw [hspl] at kg
    obtain ⟨qi, qo, qc, ds, hqv, hqc, hqi, hgq, hezq, _, _, hl0, _, _, hl3, _⟩ := kg.row
    have htl : (rs.take n).length = n := by rw [List.length_take]; omega
    have hl2 : (rs.take n ++ r :: rs.drop (n + 1)).length = N := by rw [← hspl, hN]
    rw [htl] at hl0 hl3
    rw [hl2, hrv] at hqv
    rw [hqv] at hrg
    exact ⟨qi, qo, qc, ds, hqv, hrg, hgq, hezq, hl0, hl3⟩
  have T := kr.fil r (by rw [hr]; exact List.getElem_mem _)
  have hrS : r.f ∈ S.fs := by rw [← kr.fs, hr]; exact List.mem_map_of_mem (List.getElem_mem _)
  have hrok := okd.fl _ hrS
  have hrwl := hrok.wl
  have hrsz := hrok.sz
  obtain ⟨_, _, wa, wd, _, hwv⟩ := T.shapes
  obtain ⟨W, hW⟩ : ∃ W, W = r.f.ws.length := ⟨_, rfl⟩
  rw [← hW] at hwv hrwl
  obtain ⟨qi, qo, qc, ds, hqv, hrg, hgq, hezq, hl0, hl3⟩ := rowAt FA
  injection hqv with hqv1 _ hqv3
  have hfi : fillC [.string ⟨#[]⟩, .slice none 0 0] [(0, 1, .string (strB r.f.nm))] = some [.string (strB r.f.nm), .slice none 0 0] := rfl
  obtain ⟨gB, hgB⟩ : ∃ gB, gB = (gA.push (.cells [.string ⟨#[]⟩, .slice none 0 0] true 1)).set gA.n (.cells [.string (strB r.f.nm), .slice none 0 0] true 1) := ⟨_, rfl⟩
  have FB : Fr gA gB [] := by rw [hgB]; exact Fr_set (Fr_push (Fr.refl _ _)) (Nat.le_refl _)
  have nB : gB.n = gA.n + 1 := by rw [hgB]; rfl
  have cB : gB.get gA.n = .cells [.string (strB r.f.nm), .slice none 0 0] true 1 := by rw [hgB, VH.get_set_same]
  simp (disch := first|omega|(simp only [np,ns];try omega)) [e6, e7, e9, hrg, lr_0, hlt, hltI, hgq, hezq, hl0, hfi, s2_A, ← hgB]
  refine pw_loopN (fun m s g => NB gA g r.f.nm m ∧ s 5 = .pointer (some ⟨i, 0, none⟩) ∧ s 6 = .pointer (some ⟨ri, 0, none⟩) ∧ s 7 = .bool true ∧ s 8 = kv ∧ s 9 = .int .i64 (n : Int) ∧ s 10 = .pointer (some ⟨gA.n, 0, none⟩) ∧ s 11 = .int .i64 (m : Int)) W ?_ ?_
  · exact ⟨⟨FB, by omega, .slice none 0 0, cB, OwnSl.nil _ _, by simp [idOf]⟩, by simp [upd_apply, e5], by simp [upd_apply, e6], by simp [upd_apply, e7], by simp [upd_apply, hkv], by simp [upd_apply, e9], by simp [upd_apply], by simp [upd_apply]⟩
  rintro m s2 g hm ⟨⟨F, hgn, nv, hbox, ho, hid⟩, f5, f6, f7, f8, f9, f10, f11⟩
  obtain ⟨qi', qo', qc', ds', hqv', hrg', hgq', hezq', hl0', hl3'⟩ := rowAt (FA.trans F)
  rw [hwv] at hl3'
  by_cases hmW : m < W
  · have hmI : (m : Int) < (W : Int) := by omega
    have hkm : IntKind.i64.wrap ((m : Int) + 1) = ((m + 1 : Nat) : Int) := by rw [i64_small (by omega) (by omega)]; omega
    obtain ⟨g1, hg1⟩ : ∃ g1, g1 = g.push (.cells [.int .i64 1073741824] true 1) := ⟨_, rfl⟩
    have F1 : Fr g g1 [] := by rw [hg1]; exact Fr_push (Fr.refl _ _)
    have n1 : g1.n = g.n + 1 := by rw [hg1]; rfl
    have q1 : g1.get g.n = .cells [.int .i64 1073741824] true 1 := by rw [hg1, VH.get_push_new]
    have hfi2 : fillC [.int .i64 0] [(0, 1, .int .i64 1073741824)] = some [.int .i64 1073741824] := rfl
    have hone2 : ([.int .i64 1073741824] : List Value).all Value.oneCell' = true := rfl
    have hro2 : rowObj (.cells [.int .i64 1073741824] true 1) 0 1 = some [.int .i64 1073741824] := rfl
    obtain ⟨nv2, g2, hap, ho2, F2, hid2⟩ := (ho.fr F1 (fun _ _ => by simp)).append (bytes := 8) (ys := [.int .i64 1073741824]) (k := 1) rfl (by omega)
    have hfl : (List.replicate m bigK).flatMap intC ++ [.int .i64 1073741824] = (List.replicate (m + 1) bigK).flatMap intC := by
      rw [List.replicate_succ', List.flatMap_append]
      rfl
    rw [hfl] at ho2
    obtain ⟨na, nc, hnv⟩ := ho.shapeN
    obtain ⟨na2, nc2, hnv2⟩ := ho2.shapeN
    have hnl : gA.n ∉ idOf nv := fun h => by have := hid _ h; omega
    have hb1 : g1.get gA.n = .cells [.string (strB r.f.nm), nv] true 1 := (F1.get _ hgn (by simp)).trans hbox
    have hb2 : g2.get gA.n = .cells [.string (strB r.f.nm), nv] true 1 := (F2.get _ (by omega) hnl).trans hb1
    obtain ⟨g3, hg3⟩ : ∃ g3, g3 = g2.set gA.n (.cells [.string (strB r.f.nm), nv2] true 1) := ⟨_, rfl⟩
    have F3 : Fr g2 g3 [gA.n] := by rw [hg3]; exact Fr.set _ _ (by simp)
    have hid2' : ∀ x ∈ idOf nv2, gA.n < x := fun x hx => (hid2 x hx).elim (hid x) (fun h => by omega)
    have hst := s2_1s (a := .string (strB r.f.nm)) (b := nv) (p := na2) (l := m + 1) (c := nc2) (e := 1)
    rw [← hnv2] at hst
    have n2 := F2.n
    have n3 := F3.n
    simp (disch := first|omega|(simp only [np,ns];try omega)) [f5, f6, f7, f8, f9, f10, f11, hrg', lr_0, hlt, hltI, hgq', hezq', hl3', hmW, hmI, hbox, l2_1, hfi2, hone2, ← hg1, q1, hro2, Option.bind_some, hap, hb2, hst, ← hg3, hkm]
    refine ⟨?_, by omega, nv2, by rw [hg3, VH.get_set_same], ho2.fr F3 (fun x hx hxn => by simp at hxn; subst hxn; have := hid2' _ hx; omega), hid2'⟩
    exact ((F.trans F1).trans' F2 (fun y hy => by have := hid y hy; exact .inr (by omega))).trans' F3 (fun y hy => by simp at hy; exact .inr (by omega))
  · obtain rfl : m = W := by omega
    obtain ⟨na, nc, hnv⟩ := ho.shapeN
    have kbg := kb.step F
    obtain ⟨ka, kc, hks⟩ := kb.b.shape
    obtain ⟨g1, hg1⟩ : ∃ g1, g1 = g.push (.cells [.string (strB r.f.nm), nv] true 2) := ⟨_, rfl⟩
    have F1 : Fr g g1 [] := by rw [hg1]; exact Fr_push (Fr.refl _ _)
    have n1 : g1.n = g.n + 1 := by rw [hg1]; rfl
    have q1 : g1.get g.n = .cells [.string (strB r.f.nm), nv] true 2 := by rw [hg1, VH.get_push_new]
    have hA2 : loadObj (.cells [.string (strB r.f.nm), nv] true 1) 0 (some 2) = some (.agg #[.string (strB r.f.nm), nv]) := rfl
    have hfi3 : fillC [.string ⟨#[]⟩, .slice none 0 0] [(0, 2, .agg #[.string (strB r.f.nm), nv])] = some [.string (strB r.f.nm), nv] := rfl
    have hone3 : ([.string (strB r.f.nm), nv] : List Value).all Value.oneCell' = true := by rw [hnv]; rfl
    have hro3 : rowObj (.cells [.string (strB r.f.nm), nv] true 2) 0 2 = some [.string (strB r.f.nm), nv] := rfl
    obtain ⟨kv2, g2, hap, B2, F2⟩ := ((kbg.step F1).b).append (bytes := 40) (ys := [.string (strB r.f.nm), nv]) (k := 1) rfl (by omega)
    have hkid := kb.b.ids
    have hklt := kb.b.own.lt
    obtain ⟨_, _, _, _, _, _⟩ := (⟨trivial, trivial, trivial, trivial, trivial, trivial⟩ : True ∧ True ∧ True ∧ True ∧ True ∧ True)
    have hk2 : ∀ x ∈ idOf kv2, x ∈ idOf kv ∨ g1.n ≤ x := by
      obtain ⟨w', g', hap', _, _, hid'⟩ := ((kbg.step F1).b).own.append (bytes := 40) (ys := [.string (strB r.f.nm), nv]) (k := 1) rfl (by omega)
      rw [hap] at hap'
      injection hap' with hap'
      injection hap' with h1 h2
      subst h1
      exact hid'
    have hnlt := ho.lt
    have f8' := f8
    have hap' := hap
    rw [hks] at f8' hap'
    obtain ⟨ka2, kc2, hks2⟩ := B2.shape
    have hap2 := hap'
    simp (disch := first|omega|(simp only [np,ns];try omega)) [f5, f6, f7, f8', f9, f10, f11, hrg', lr_0, hlt, hltI, hgq', hezq', hl3', hbox, hA2, hfi3, hone3, ← hg1, q1, hro3, Option.bind_some, hap2, hkk]
    have n2 := F2.n
    refine ⟨q ++ [((r.f.nm, List.replicate m bigK), nv)], ⟨by rw [List.flatMap_append, List.flatMap_singleton, List.length_append]; exact B2, fun p hp => ?_⟩, by rw [List.length_append, hql]; rfl, ?_⟩
    · rcases List.mem_append.1 hp with hp | hp
      · obtain ⟨y1, y2, y3⟩ := kb.i p hp
        have y4 := y1.lt
        refine ⟨((y1.fr F (fun _ _ => by simp)).fr F1 (fun _ _ => by simp)).fr F2 (fun x hx => (y2 x hx).2), fun x hx => ⟨(y2 x hx).1, fun hx2 => ?_⟩, y3⟩
        rcases hk2 x hx2 with h4 | h4
        · exact (y2 x hx).2 h4
        · have := y4 x hx; omega
      · simp at hp
        subst hp
        refine ⟨?_, fun x hx => ⟨by have := hid x hx; omega, fun hx2 => ?_⟩, by simp; omega⟩
        · have := (ho.fr F1 (fun _ _ => by simp)).fr F2 (fun x hx hx2 => by have := hid x hx; have := hklt x hx2; omega)
          simpa using this
        · rcases hk2 x hx2 with h4 | h4
          · have := hid x hx; have := hklt x h4; omega
          · have := hnlt x hx; omega
    · have hSn : S.fs[n]? = some r.f := by
        rw [← kr.fs, List.getElem?_map, List.getElem?_eq_getElem (show n < rs.length by omega), hr]
        rfl
      have hnS : n < S.fs.length := by omega
      rw [List.map_append, hqm, List.take_succ_eq_append_getElem hnS, List.map_append]
      congr 1
      have h5 : S.fs[n] = r.f := by
        have := List.getElem?_eq_getElem hnS
        rw [hSn] at this
        injection this with this
        exact this.symm
      rw [h5, hW]
      rfl
theorem safe_law {h : VH} {us : List Value} {k : Nat} (G : GOK h) (H : ShA h [.sl 6 opT, .int .i64] us k) (hk : k ≤ 1048576) :
    PCalls Tryd.prog f_law06_DiskSafe us h (fun u h' => u = .bool true ∧ h' = h) := by
  obtain ⟨v, r, k1, k2, rfl, h1, ⟨v4, r4, k7, k8, rfl, h4, ⟨rfl, _⟩, e4⟩, e1⟩ := H
  obtain ⟨c, hc, hc1, hc2, _⟩ := Sh.i64 (h := h) h4
  injection hc with hc _
  subst hc
  obtain ⟨l, hs, hl⟩ := scr_at (h := h) (by omega) h1
  exact ((safe_ok G.ro hs.ro hl ⟨hc1, hc2⟩).mono fun u _ e => by subst e; exact ⟨rfl, rfl⟩).drop
end Go.Proofs.YtgnmhonbcejnfaaDoor.Dk
