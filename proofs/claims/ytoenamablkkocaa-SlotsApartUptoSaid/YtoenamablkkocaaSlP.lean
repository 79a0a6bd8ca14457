/- slots, part P: SlotsApart. -/
import Derived.Test.YtoenamablkkocaaSlN
set_option linter.unusedVariables false
set_option linter.unusedSimpArgs false
set_option maxRecDepth 100000
namespace Go.Proofs.Ytoenamablkkocaa.Sl
open Go Go.RowKit Go.Proofs.Ytoenamablkkocaa.Pm Go.Proofs.Ytoenamablkkocaa.Fs Go.Proofs.Ytoenamablkkocaa.Fa
attribute [-simp] BitVec.toNat_or BitVec.toNat_xor BitVec.toNat_add BitVec.toNat_and BitVec.toNat_not BitVec.toNat_shiftLeft BitVec.toNat_ushiftRight

structure P2 (h g : VH) (i : Nat) (T : Tb) (Z : List Nat) (j : Nat) (U : Tb) (Y : List Nat) : Prop where
  l : TS h g i T Z
  r : TS h g j U Y
  dis : ∀ x ∈ Z, x ∉ Y
theorem P2.left {h g g' : VH} {i j : Nat} {T U T' : Tb} {Z Y Z' : List Nat} (k : P2 h g i T Z j U Y) (hat : TbAt g' i T' Z') (mv : Mv g g' Z Z') (ok : OkTb T') : P2 h g' i T' Z' j U Y :=
  ⟨k.l.step hat mv ok, ⟨k.r.at_.fr mv.fr (fun x hx hz => k.dis x hz hx), k.r.ok, (k.l.step hat mv ok).fr, k.r.new⟩, fun x hx hy => by
    rcases mv.ids x hx with h | h
    · exact k.dis x h hy
    · have := k.r.at_.lt x hy; omega⟩
theorem P2.swap {h g : VH} {i j : Nat} {T U : Tb} {Z Y : List Nat} (k : P2 h g i T Z j U Y) : P2 h g j U Y i T Z := ⟨k.r, k.l, fun x hx hy => k.dis x hy hx⟩
theorem P2.right {h g g' : VH} {i j : Nat} {T U U' : Tb} {Z Y Y' : List Nat} (k : P2 h g i T Z j U Y) (hat : TbAt g' j U' Y') (mv : Mv g g' Y Y') (ok : OkTb U') : P2 h g' i T Z j U' Y' := (k.swap.left hat mv ok).swap
theorem P2.fr0 {h g g' : VH} {i j : Nat} {T U : Tb} {Z Y : List Nat} (k : P2 h g i T Z j U Y) (F : Fr g g' []) : P2 h g' i T Z j U Y := ⟨k.l.fr0 F, k.r.fr0 F, k.dis⟩
def nmN (n : Nat) : List UInt8 := [if n = 0 then 97 else if n = 1 then 98 else 99]
def tN : Nat → Tb
  | 0 => tb0
  | n + 1 => (setT (tN n) (nmN n) 1).2
theorem tN_ok : ∀ n, OkTb (tN n)
  | 0 => tb0_ok
  | n + 1 => setT_ok (tN_ok n) _ _
theorem tN_idle : ∀ n, idleS (tN n).ts = true
  | 0 => rfl
  | n + 1 => idle_set (tN_idle n) _ _
theorem tN_sl : ∀ n, (tN n).sl = 0
  | 0 => rfl
  | n + 1 => by show (setT (tN n) _ _).2.sl = 0; rw [set_sl, tN_sl n]
def nms3 : List Value := [.string (strB [97]), .string (strB [98]), .string (strB [99])]
theorem nms3_at {k : Nat} (hk : k < 3) {ow : Bool} {z : Nat} : loadObj (.cells nms3 ow z) k none = some (.string (strB (nmN k))) := by
  have : k = 0 ∨ k = 1 ∨ k = 2 := by omega
  rcases this with rfl | rfl | rfl <;> rfl
def V1 (h : VH) (vo vs vq : Value) (i j p : Nat) (n : Nat) (s : Slots) (g : VH) : Prop := ∃ Z Y, P2 h g i (tN n) Z j (tN n) Y ∧ p < g.n ∧ p ∉ Z ∧ p ∉ Y ∧ g.get p = .cells nms3 true 1 ∧
  s 0 = vo ∧ s 1 = vs ∧ s 2 = vq ∧ s 7 = .pointer (some ⟨i, 0, none⟩) ∧ s 8 = .pointer (some ⟨j, 0, none⟩) ∧ s 9 = .slice (some ⟨p, 0, none⟩) 3 3 ∧ s 10 = .int .i64 (n : Int)
def V2 (h : VH) (own : List UInt8) (vs vq : Value) (i j : Nat) (m n : Nat) (s : Slots) (g : VH) : Prop := ∃ T Z U Y, P2 h g i T Z j U Y ∧ Own own T U ∧ T.sl ≤ m ∧
  s 0 = .string (strB own) ∧ s 1 = vs ∧ s 2 = vq ∧ s 7 = .pointer (some ⟨i, 0, none⟩) ∧ s 8 = .pointer (some ⟨j, 0, none⟩) ∧ s 11 = .int .i64 (n : Int)
theorem V2.mono {h : VH} {own : List UInt8} {vs vq : Value} {i j m m' n : Nat} {s : Slots} {g : VH} (k : V2 h own vs vq i j m n s g) (hm : m ≤ m') : V2 h own vs vq i j m' n s g := by
  obtain ⟨T, Z, U, Y, P, o, hs, e⟩ := k
  exact ⟨T, Z, U, Y, P, o, by omega, e⟩
theorem sv_cells (o : Sv) : cellsB (svL o) (svL o) = true := by simp [svL, cellsB, cellB]
set_option maxHeartbeats 8000000 in
theorem apart_ok' {h : VH} {own : List UInt8} {vs vq : Value} {ops oth : List OpS} (hs : RowsAt h 5 vs (ops.map opC)) (hq : RowsAt h 5 vq (oth.map opC)) (l1 : ops.length ≤ 1048576) (l2 : oth.length ≤ 1048576) :
    PCalls Try.prog f_law21_SlotsApart [.string (strB own), vs, vq] h (fun u _ => u = .bool true) := by
  refine PCalls_of_pw st_law21_SlotsApart (by simp [n_law21_SlotsApart]) ?_
  rw [b_law21_SlotsApart]
  unfold B_law21_SlotsApart
  generalize hTB : PC.seq (PC.ops (gM 108 7 :: _)) _ = TB
  generalize hTA : PC.seq (PC.seq (PC.ops (gI 79 _ :: _)) _) _ = TA
  obtain ⟨sa, sc, hvs⟩ := hs.shape
  obtain ⟨qa, qc, hvq⟩ := hq.shape
  obtain ⟨Ls, hLs⟩ : ∃ L, L = ops.length := ⟨_, rfl⟩
  obtain ⟨Lq, hLq⟩ : ∃ L, L = oth.length := ⟨_, rfl⟩
  rw [List.length_map, ← hLs] at hvs
  rw [List.length_map, ← hLq] at hvq
  have hee : ∀ x : List UInt8, ((strB x).toList == (strB x).toList) = true := fun x => by simp
  have l0 : ∀ o : Sv, loadObj (.cells (svL o) true 1) 0 none = some (.int .i64 (o.slot : Int)) := fun o => rfl
  simp (disch := first|omega|(simp only [np,ns];try omega)) []
  refine tnew_ok.mono ?_
  rintro u g0 ⟨i, Z0, rfl, K0, M0⟩
  have S0 : TS h g0 i tb0 Z0 := ⟨K0, tb0_ok, M0.fr, fun x hx => (M0.ids x hx).elim (by simp) id⟩
  simp (disch := first|omega|(simp only [np,ns];try omega)) []
  refine tnew_ok.mono ?_
  rintro u g1 ⟨j, Y0, rfl, K1, M1⟩
  have hY0 : ∀ x ∈ Y0, g0.n ≤ x := fun x hx => (M1.ids x hx).elim (by simp) id
  have hZ0 := K0.lt
  have S1 := S0.fr0 M1.fr
  have P1 : P2 h g1 i tb0 Z0 j tb0 Y0 := ⟨S1, ⟨K1, tb0_ok, S1.fr, fun x hx => Nat.le_trans M0.fr.n (hY0 x hx)⟩, fun x hx hy => by have := hZ0 x hx; have := hY0 x hy; omega⟩
  obtain ⟨p, hp⟩ : ∃ p, p = g1.n := ⟨_, rfl⟩
  obtain ⟨g2, hg2⟩ : ∃ g2, g2 = g1.push (.cells nms3 true 1) := ⟨_, rfl⟩
  have F2 : Fr g1 g2 [] := by rw [hg2]; exact Fr_push (Fr.refl _ _)
  have n2 : g2.n = p + 1 := by rw [hg2, hp]; rfl
  have o2 : g2.get p = .cells nms3 true 1 := by rw [hg2, hp, VH.get_push_new]
  have hfi : fillC [.string ⟨#[]⟩, .string ⟨#[]⟩, .string ⟨#[]⟩] [(0, 1, .string ⟨#[97]⟩), (1, 1, .string ⟨#[98]⟩), (2, 1, .string ⟨#[99]⟩)] = some nms3 := rfl
  have hone : nms3.all Value.oneCell' = true := rfl
  have hZ1 := P1.l.at_.lt
  have hY1 := P1.r.at_.lt
  simp (disch := first|omega|(simp only [np,ns];try omega)) [hfi, hone, ← hp, ← hg2]
  -- the end of a round
  have tailB : ∀ (n m : Nat) (s' : Slots) (g : VH) (Q : Exit → Slots → VH → Prop), m < 400 → V2 h own vs vq i j m n s' g → (∀ s'' g'', V2 h own vs vq i j (m + 1) n s'' g'' → Q .normal s'' g'') → pw Try.prog TB s' g Q := by
    rintro n m s' g Q hm ⟨T, Z, U, Y, P, ow, hsl, e0, e1, e2, e7, e8, e11⟩ hQ
    rw [← hTB]
    simp (disch := first|omega|(simp only [np,ns];try omega)) [e7]
    refine (tstep_ok P.l.at_ P.l.ok (by omega)).mono ?_
    rintro u g1 ⟨rfl, Z', K1, M1⟩
    have P1 := P.left K1 M1 (stepT_ok P.l.ok)
    obtain ⟨a, ha⟩ : ∃ a, a = (stepT T).1 := ⟨_, rfl⟩
    obtain ⟨b, hb⟩ : ∃ b, b = (stepT U).1 := ⟨_, rfl⟩
    obtain ⟨ha1, ha2⟩ := stepT_out T
    obtain ⟨hb1, hb2⟩ := stepT_out U
    rw [← ha] at ha1 ha2 ⊢
    rw [← hb] at hb1 hb2
    obtain ⟨ow', hso⟩ := ow.step
    rw [← ha, ← hb] at hso
    obtain ⟨p1, hp1⟩ : ∃ p, p = g1.n := ⟨_, rfl⟩
    obtain ⟨g2, hg2⟩ : ∃ g2, g2 = (g1.push (.cells zS true 1)).set p1 (.cells (svL a) true 1) := ⟨_, rfl⟩
    have F2 : Fr g1 g2 [] := by rw [hg2]; exact Fr_set (Fr_push (Fr.refl _ _)) (by omega)
    have n2 : g2.n = p1 + 1 := by rw [hg2, hp1]; rfl
    have o2 : g2.get p1 = .cells (svL a) true 1 := by rw [hg2, VH.get_set_same]
    have P2' := P1.fr0 F2
    have hY1 := P1.r.at_.lt
    simp (disch := first|omega|(simp only [np,ns];try omega)) [zS, ← hp1, zs_A, ← hg2, e8]
    refine (tstep_ok P2'.r.at_ P2'.r.ok (by have := ow.sl; omega)).mono ?_
    rintro u g3 ⟨rfl, Y', K3, M3⟩
    rw [← hb]
    have P3 := P2'.right K3 M3 (stepT_ok P2'.r.ok)
    have n3 := M3.fr.n
    have o3 := (M3.fr.get p1 (by omega) (fun hy => by have := hY1 p1 hy; omega)).trans o2
    obtain ⟨p3, hp3⟩ : ∃ p, p = g3.n := ⟨_, rfl⟩
    obtain ⟨g4, hg4⟩ : ∃ g4, g4 = (g3.push (.cells zS true 1)).set p3 (.cells (svL b) true 1) := ⟨_, rfl⟩
    have F4 : Fr g3 g4 [] := by rw [hg4]; exact Fr_set (Fr_push (Fr.refl _ _)) (by omega)
    have o4 : g4.get p3 = .cells (svL b) true 1 := by rw [hg4, VH.get_set_same]
    have o14 := (F4.get p1 (by omega) (by simp)).trans o3
    have P4 := P3.fr0 F4
    have htu := ow.turn
    have hsl2 := ow.sl
    have hsI : ((a.slot : Int) != (b.slot : Int)) = false := by rw [ha1, hb1, hsl2]; simp
    have hla : loadObj (.cells (svL a) true 1) 1 none = some (.string (strB (turnT T))) := by rw [← ha2]; rfl
    have hlb : loadObj (.cells (svL b) true 1) 1 none = some (.string (strB (turnT T))) := by rw [htu, ← hb2]; rfl
    have hfk : fitsK [.i .i64, .s, .i .i64, .i .i64, .b, .b] (svL a) = true := rfl
    have hcb := sv_cells a
    have hah := ow'.ahead
    have hwt := ow'.wait
    have fin : ∀ s'' g5, Fr g4 g5 [] → s'' 0 = .string (strB own) → s'' 1 = vs → s'' 2 = vq → s'' 7 = .pointer (some ⟨i, 0, none⟩) → s'' 8 = .pointer (some ⟨j, 0, none⟩) → s'' 11 = .int .i64 (n : Int) → Q .normal s'' g5 := fun s'' g5 F5 f0 f1 f2 f7 f8 f11 =>
      hQ s'' g5 ⟨_, _, _, _, P4.fr0 F5, ow', by rw [stepT_sl]; omega, f0, f1, f2, f7, f8, f11⟩
    have rest : ∀ (Q' : Value → VH → Prop), (∀ g5, Fr g4 g5 [] → Q' (.int .i64 (aheadT (stepT U).2 own)) g5) → PCalls Try.prog f_slots_Table_Ahead [.pointer (some ⟨i, 0, none⟩), .string (strB own)] g4 Q' := fun Q' hq' =>
      (tahead_ok P4.l.at_ P4.l.ok (by rw [stepT_sl]; omega) (nm := own)).mono (by rintro u g5 ⟨rfl, F5⟩; rw [hah]; exact hq' g5 F5)
    have rest2 : ∀ (Q' : Value → VH → Prop) g5, Fr g4 g5 [] → (∀ g6, Fr g4 g6 [] → Q' (.int .i64 (aheadT (stepT U).2 own)) g6) → PCalls Try.prog f_slots_Table_Ahead [.pointer (some ⟨j, 0, none⟩), .string (strB own)] g5 Q' := fun Q' g5 F5 hq' =>
      (tahead_ok (P4.fr0 F5).r.at_ P4.r.ok (by rw [stepT_sl]; omega) (nm := own)).mono (by rintro u g6 ⟨rfl, F6⟩; exact hq' g6 (F5.trans F6))
    have rest3 : ∀ (Q' : Value → VH → Prop) g5, Fr g4 g5 [] → Q' (.int .i64 (waitT (stepT U).2 own : Int)) g5 → PCalls Try.prog f_slots_Table_Waiting [.pointer (some ⟨i, 0, none⟩), .string (strB own)] g5 Q' := fun Q' g5 F5 hq' =>
      (twait_ok (P4.fr0 F5).l.at_ P4.l.ok (nm := own)).mono (by rintro u g6 ⟨rfl, hg6⟩; rw [hwt, hg6]; exact hq')
    have rest4 : ∀ (Q' : Value → VH → Prop) g5, Fr g4 g5 [] → Q' (.int .i64 (waitT (stepT U).2 own : Int)) g5 → PCalls Try.prog f_slots_Table_Waiting [.pointer (some ⟨j, 0, none⟩), .string (strB own)] g5 Q' := fun Q' g5 F5 hq' =>
      (twait_ok (P4.fr0 F5).r.at_ P4.r.ok (nm := own)).mono (by rintro u g6 ⟨rfl, hg6⟩; rw [hg6]; exact hq')
    obtain ⟨A, hA⟩ : ∃ A, A = aheadT (stepT U).2 own := ⟨_, rfl⟩
    obtain ⟨W, hW⟩ : ∃ W, W = waitT (stepT U).2 own := ⟨_, rfl⟩
    rw [← hA] at rest rest2
    rw [← hW] at rest3 rest4
    have hAA : (A != A) = false := by simp
    have hWW : ((W : Int) != (W : Int)) = false := by simp
    by_cases ht : turnT T = own
    · have hab := hso ht
      have hteq : ((strB (turnT T)).toList == (strB own).toList) = true := by rw [ht]; simp
      have hA1 : loadObj (.cells (svL a) true 1) 0 (some 6) = some (.agg (svL a).toArray) := rfl
      rw [← hab] at o4 hg4
      have hsI2 : ((a.slot : Int) != (a.slot : Int)) = false := by simp
      rw [← hab]
      simp (disch := first|omega|(simp only [np,ns];try omega)) [zS, ← hp3, zs_A, ← hg4, o4, o14, l0, hla, hee, hsI2, e0, hteq, hA1, hfk, hcb, e7, e8]
      refine rest _ fun g5 F5 => ?_
      simp (disch := first|omega|(simp only [np,ns];try omega)) [e0, e8]
      refine rest2 _ g5 F5 fun g6 F6 => ?_
      simp (disch := first|omega|(simp only [np,ns];try omega)) [hAA, e0, e7]
      refine rest3 _ g6 F6 ?_
      simp (disch := first|omega|(simp only [np,ns];try omega)) [e0, e8]
      refine rest4 _ g6 F6 ?_
      simp (disch := first|omega|(simp only [np,ns];try omega)) [hWW]
      refine fin _ _ F6 ?_ ?_ ?_ ?_ ?_ ?_ <;> simp [upd_apply, e0, e1, e2, e7, e8, e11]
    · have hteq : ((strB (turnT T)).toList == (strB own).toList) = false := by rw [strB_toList, strB_toList]; simpa using ht
      simp (disch := first|omega|(simp only [np,ns];try omega)) [zS, ← hp3, zs_A, ← hg4, o4, o14, l0, hla, hlb, hee, hsI, e0, hteq, e7, e8]
      refine rest _ fun g5 F5 => ?_
      simp (disch := first|omega|(simp only [np,ns];try omega)) [e0, e8]
      refine rest2 _ g5 F5 fun g6 F6 => ?_
      simp (disch := first|omega|(simp only [np,ns];try omega)) [hAA, e0, e7]
      refine rest3 _ g6 F6 ?_
      simp (disch := first|omega|(simp only [np,ns];try omega)) [e0, e8]
      refine rest4 _ g6 F6 ?_
      simp (disch := first|omega|(simp only [np,ns];try omega)) [hWW]
      refine fin _ _ F6 ?_ ?_ ?_ ?_ ?_ ?_ <;> simp [upd_apply, e0, e1, e2, e7, e8, e11]
  have tailA : ∀ (n m : Nat) (s' : Slots) (g : VH) (Q : Exit → Slots → VH → Prop) (o : OpS) (q : Nat) (T U : Tb) (Z Y : List Nat), m < 400 → P2 h g i T Z j U Y → Own own T U → T.sl ≤ m → s' 0 = .string (strB own) → s' 1 = vs → s' 2 = vq → s' 7 = .pointer (some ⟨i, 0, none⟩) → s' 8 = .pointer (some ⟨j, 0, none⟩) → s' 11 = .int .i64 (n : Int) →
      s' 12 = .pointer (some ⟨q, 0, none⟩) → q < g.n → q ∉ Z → q ∉ Y → g.get q = .cells (opC o) true 1 →
      (∀ s'' g'', V2 h own vs vq i j (m + 1) n s'' g'' → Q .normal s'' g'') → (∀ s'' g'', V2 h own vs vq i j (m + 1) n s'' g'' → Q (.exit 3) s'' g'') → pw Try.prog TA s' g Q := by
    intro n m s' g Q o q T U Z Y hm P ow hsl e0 e1 e2 e7 e8 e11 e12 hqn hqZ hqY hqo hN hE
    rw [← hTA]
    have o0 : loadObj (.cells (opC o) true 1) 0 none = some (.int .i64 o.k) := rfl
    have o1 : loadObj (.cells (opC o) true 1) 1 none = some (.string (strB o.nm)) := rfl
    have o3 : loadObj (.cells (opC o) true 1) 3 (some 2) = some (.agg #[.int .i64 o.j.id, .int .i64 o.j.cost]) := rfl
    by_cases hk1 : 1 ≤ o.k
    case neg =>
      simp (disch := first|omega|(simp only [np,ns];try omega)) [e12, hqo, o0, hk1]
      exact tailB n m _ g Q hm ⟨T, Z, U, Y, P, ow, hsl, by simp [upd_apply, e0], by simp [upd_apply, e1], by simp [upd_apply, e2], by simp [upd_apply, e7], by simp [upd_apply, e8], by simp [upd_apply, e11]⟩ hN
    by_cases hk3 : o.k ≤ 3
    case neg =>
      simp (disch := first|omega|(simp only [np,ns];try omega)) [e12, hqo, o0, hk1, hk3]
      exact tailB n m _ g Q hm ⟨T, Z, U, Y, P, ow, hsl, by simp [upd_apply, e0], by simp [upd_apply, e1], by simp [upd_apply, e2], by simp [upd_apply, e7], by simp [upd_apply, e8], by simp [upd_apply, e11]⟩ hN
    by_cases hnm : o.nm = own
    · have hteq : ((strB o.nm).toList == (strB own).toList) = true := by rw [hnm]; simp
      simp (disch := first|omega|(simp only [np,ns];try omega)) [e12, hqo, o0, o1, o3, hk1, hk3, e0, hteq, e7, e8]
      refine (tpush_ok P.l.at_ P.l.ok (nm := own) (q := o.j)).mono ?_
      rintro u g1 ⟨rfl, Z', K1, M1⟩
      have P1 := P.left K1 M1 (pushT_ok P.l.ok _ _)
      have q1 := (M1.fr.get q hqn hqZ).trans hqo
      obtain ⟨hp1, hp2⟩ := ow.push o.j
      simp (disch := first|omega|(simp only [np,ns];try omega)) [q1, o3]
      refine (tpush_ok P1.r.at_ P1.r.ok (nm := own) (q := o.j)).mono ?_
      rintro u g2 ⟨rfl, Y', K2, M2⟩
      have P2' := P1.right K2 M2 (pushT_ok P1.r.ok _ _)
      have hpe : ((pushT T own o.j).1 != (pushT U own o.j).1) = false := by rw [hp1]; simp
      simp (disch := first|omega|(simp only [np,ns];try omega)) [hpe]
      exact hE _ _ ⟨_, _, _, _, P2', hp2, by rw [pushT_sl]; omega, by simp [upd_apply, e0], by simp [upd_apply, e1], by simp [upd_apply, e2], by simp [upd_apply, e7], by simp [upd_apply, e8], by simp [upd_apply, e11]⟩
    · have hteq : ((strB o.nm).toList == (strB own).toList) = false := by rw [strB_toList, strB_toList]; simpa using hnm
      simp (disch := first|omega|(simp only [np,ns];try omega)) [e12, hqo, o0, o1, o3, hk1, hk3, e0, hteq, e7, e8]
      refine (tpush_ok P.l.at_ P.l.ok (nm := o.nm) (q := o.j)).mono ?_
      rintro u g1 ⟨rfl, Z', K1, M1⟩
      have P1 := P.left K1 M1 (pushT_ok P.l.ok _ _)
      simp (disch := first|omega|(simp only [np,ns];try omega)) []
      exact hE _ _ ⟨_, _, _, _, P1, ow.left hnm o.j, by rw [pushT_sl]; omega, by simp [upd_apply, e0], by simp [upd_apply, e1], by simp [upd_apply, e2], by simp [upd_apply, e7], by simp [upd_apply, e8], by simp [upd_apply, e11]⟩
  refine pw_loopN (V1 h (.string (strB own)) vs vq i j p) 3 ?_ ?_
  · exact ⟨Z0, Y0, P1.fr0 F2, by omega, fun hx => by have := hZ1 p hx; omega, fun hx => by have := hY1 p hx; omega, o2, by simp [upd_apply, s0_apply], by simp [upd_apply, s0_apply], by simp [upd_apply, s0_apply], by simp [upd_apply, s0_apply], by simp [upd_apply, s0_apply], by simp [upd_apply, s0_apply], by simp [upd_apply, s0_apply]⟩
  rintro n s g hn ⟨Z, Y, P, hpn, hpZ, hpY, hpo, e0, e1, e2, e7, e8, e9, e10⟩
  by_cases hlt : n < 3
  · have hltI : (n : Int) < 3 := by omega
    have hkk : IntKind.i64.wrap ((n : Int) + 1) = ((n + 1 : Nat) : Int) := by rw [i64_small (by omega) (by omega)]; omega
    have hld := nms3_at hlt (ow := true) (z := 1)
    have hez : eszObj (.cells nms3 true 1) 1 = true := rfl
    simp (disch := first|omega|(simp only [np,ns];try omega)) [e7, e8, e9, e10, hlt, hltI, hpo, hez, hld]
    refine (tset_ok P.l.at_ P.l.ok (tN_idle n) (nm := nmN n) (w := 1)).mono ?_
    rintro u g1 ⟨rfl, Z', K1, M1⟩
    have Q1 := P.left K1 M1 (tN_ok (n + 1))
    have n1 := M1.fr.n
    have po1 := (M1.fr.get p hpn hpZ).trans hpo
    simp (disch := first|omega|(simp only [np,ns];try omega)) [e8, e9, e10, hlt, hltI, po1, hez, hld]
    refine (tset_ok Q1.r.at_ Q1.r.ok (tN_idle n) (nm := nmN n) (w := 1)).mono ?_
    rintro u g2 ⟨rfl, Y', K2, M2⟩
    have Q2 := Q1.right K2 M2 (tN_ok (n + 1))
    have n2 := M2.fr.n
    have po2 := (M2.fr.get p (by omega) hpY).trans po1
    simp (disch := first|omega|(simp only [np,ns];try omega)) [e10, hkk]
    exact ⟨by omega, Z', Y', Q2, by omega, fun hx => (M1.ids p hx).elim hpZ (by omega), fun hx => (M2.ids p hx).elim hpY (by omega), po2, by simp [upd_apply, e0], by simp [upd_apply, e1], by simp [upd_apply, e2], by simp [upd_apply, e7], by simp [upd_apply, e8], by simp [upd_apply, e9], by simp [upd_apply]⟩
  obtain rfl : n = 3 := by omega
  simp (disch := first|omega|(simp only [np,ns];try omega)) [e10]
  refine pw_loopN (fun n => V2 h own vs vq i j n n) (min 200 Ls) ?_ ?_
  · exact ⟨_, Z, _, Y, P, ⟨rfl, rfl, rfl⟩, by rw [tN_sl]; omega, by simp [upd_apply, e0], by simp [upd_apply, e1], by simp [upd_apply, e2], by simp [upd_apply, e7], by simp [upd_apply, e8], by simp [upd_apply]⟩
  rintro n s g hnm ⟨T, Z, U, Y, P, ow, hsl, e0, e1, e2, e7, e8, e11⟩
  by_cases hlt3 : n < Ls ∧ n < 200
  case neg =>
    by_cases hls : n < Ls
    · have h200 : ¬ n < 200 := fun h => hlt3 ⟨hls, h⟩
      have hlsI : (n : Int) < (Ls : Int) := by omega
      have h2I : ¬ (n : Int) < 200 := by omega
      simp (disch := first|omega|(simp only [np,ns];try omega)) [e1, hvs, e11, hls, hlsI, h200, h2I]
      refine (known_ok _).mono ?_
      rintro u g' ⟨rfl, hg'⟩
      simp (disch := first|omega|(simp only [np,ns];try omega)) [r_law21_SlotsApart]
    · have hlsI : ¬ (n : Int) < (Ls : Int) := by omega
      simp (disch := first|omega|(simp only [np,ns];try omega)) [e1, hvs, e11, hls, hlsI]
      refine (known_ok _).mono ?_
      rintro u g' ⟨rfl, hg'⟩
      simp (disch := first|omega|(simp only [np,ns];try omega)) [r_law21_SlotsApart]
  obtain ⟨hls, h200⟩ := hlt3
  have hlsI : (n : Int) < (Ls : Int) := by omega
  have h2I : (n : Int) < 200 := by omega
  have hkk : IntKind.i64.wrap ((n : Int) + 1) = ((n + 1 : Nat) : Int) := by rw [i64_small (by omega) (by omega)]; omega
  have hrn := hs.fr0 P.l.fr
  rw [hvs] at hrn
  obtain ⟨b, o, hv, hb, hez, hagg, _⟩ := hrn.at_ (k := n) (by simp; omega)
  subst hv
  obtain ⟨x, hx⟩ : ∃ x, x = ops[n]'(by omega) := ⟨_, rfl⟩
  have hxe : (ops.map opC)[n]'(by simp; omega) = opC x := by simp [hx]
  rw [hxe] at hagg
  obtain ⟨off, hoff⟩ : ∃ off, off = o + n * 5 := ⟨_, rfl⟩
  rw [← hoff] at hagg
  obtain ⟨q, hq0⟩ : ∃ q, q = g.n := ⟨_, rfl⟩
  obtain ⟨g1, hg1⟩ : ∃ g1, g1 = (g.push (.cells [.int .i64 0, .string ⟨#[]⟩, .int .i64 0, .int .i64 0, .int .i64 0] true 1)).set q (.cells (opC x) true 1) := ⟨_, rfl⟩
  have F1 : Fr g g1 [] := by rw [hg1]; exact Fr_set (Fr_push (Fr.refl _ _)) (by omega)
  have n1 : g1.n = q + 1 := by rw [hg1, hq0]; rfl
  have q1 : g1.get q = .cells (opC x) true 1 := by rw [hg1, VH.get_set_same]
  have hst : storeObj (.cells [.int .i64 0, .string ⟨#[]⟩, .int .i64 0, .int .i64 0, .int .i64 0] true 1) 0 5 (.agg (opC x).toArray) = some (.cells (opC x) true 1) := rfl
  have P1 := P.fr0 F1
  have hqZ : q ∉ Z := fun h => by have := P.l.at_.lt q h; omega
  have hqY : q ∉ Y := fun h => by have := P.r.at_.lt q h; omega
  by_cases hlq : n < Lq
  case neg =>
    have hlqI : ¬ (n : Int) < (Lq : Int) := by omega
    simp (disch := first|omega|(simp only [np,ns];try omega)) [e1, hvs, e2, hvq, e11, hls, hlsI, h200, h2I, hez, ← hoff, hagg, ← hq0, hst, ← hg1, hlq, hlqI]
    refine tailA n n _ g1 _ x q T U Z Y (by omega) P1 ow hsl (by simp [upd_apply, e0]) (by simp [upd_apply, e1, hvs]) (by simp [upd_apply, e2, hvq]) (by simp [upd_apply, e7]) (by simp [upd_apply, e8]) (by simp [upd_apply, e11]) (by simp [upd_apply]) (by omega) hqZ hqY q1 ?_ ?_
    · rintro s'' g'' ⟨T4, Z4, U4, Y4, r1, r2, r3, r4, r5, r6, r7, r8, r9⟩
      simp (disch := first|omega|(simp only [np,ns];try omega)) [r9, hkk]
      exact ⟨by omega, T4, Z4, U4, Y4, r1, r2, r3, by simp [upd_apply, r4], by simp [upd_apply, r5, hvs], by simp [upd_apply, r6, hvq], by simp [upd_apply, r7], by simp [upd_apply, r8], by simp [upd_apply]⟩
    · rintro s'' g'' ⟨T4, Z4, U4, Y4, r1, r2, r3, r4, r5, r6, r7, r8, r9⟩
      simp (disch := first|omega|(simp only [np,ns];try omega)) [r9, hkk]
      exact ⟨by omega, T4, Z4, U4, Y4, r1, r2, r3, by simp [upd_apply, r4], by simp [upd_apply, r5, hvs], by simp [upd_apply, r6, hvq], by simp [upd_apply, r7], by simp [upd_apply, r8], by simp [upd_apply]⟩
  have hlqI : (n : Int) < (Lq : Int) := by omega
  have hro := hq.fr0 (P.l.fr.trans F1)
  rw [hvq] at hro
  obtain ⟨b', o', hv', hb', hez', hagg', _⟩ := hro.at_ (k := n) (by simp; omega)
  subst hv'
  obtain ⟨y, hy⟩ : ∃ y, y = oth[n]'(by omega) := ⟨_, rfl⟩
  have hye : (oth.map opC)[n]'(by simp; omega) = opC y := by simp [hy]
  rw [hye] at hagg'
  obtain ⟨off', hoff'⟩ : ∃ off, off = o' + n * 5 := ⟨_, rfl⟩
  rw [← hoff'] at hagg'
  have y1 : loadObj (g1.get b') (off' + 1) none = some (.string (strB y.nm)) := field_load (j := 1) hagg' (by omega)
  have y3 : loadObj (g1.get b') (off' + 3) (some 2) = some (.agg #[.int .i64 y.j.id, .int .i64 y.j.cost]) := field_loadN (j := 3) (m := 2) hagg' (by omega)
  by_cases hnm : y.nm = own
  · have hteq : ((strB y.nm).toList == (strB own).toList) = true := by rw [hnm]; simp
    simp (disch := first|omega|(simp only [np,ns];try omega)) [e0, e1, hvs, e2, hvq, e11, hls, hlsI, h200, h2I, hez, ← hoff, hagg, ← hq0, hst, ← hg1, hlq, hlqI, hez', ← hoff', y1, hteq]
    refine tailA n n _ g1 _ x q T U Z Y (by omega) P1 ow hsl (by simp [upd_apply, e0]) (by simp [upd_apply, e1, hvs]) (by simp [upd_apply, e2, hvq]) (by simp [upd_apply, e7]) (by simp [upd_apply, e8]) (by simp [upd_apply, e11]) (by simp [upd_apply]) (by omega) hqZ hqY q1 ?_ ?_
    · rintro s'' g'' ⟨T4, Z4, U4, Y4, r1, r2, r3, r4, r5, r6, r7, r8, r9⟩
      simp (disch := first|omega|(simp only [np,ns];try omega)) [r9, hkk]
      exact ⟨by omega, T4, Z4, U4, Y4, r1, r2, r3, by simp [upd_apply, r4], by simp [upd_apply, r5, hvs], by simp [upd_apply, r6, hvq], by simp [upd_apply, r7], by simp [upd_apply, r8], by simp [upd_apply]⟩
    · rintro s'' g'' ⟨T4, Z4, U4, Y4, r1, r2, r3, r4, r5, r6, r7, r8, r9⟩
      simp (disch := first|omega|(simp only [np,ns];try omega)) [r9, hkk]
      exact ⟨by omega, T4, Z4, U4, Y4, r1, r2, r3, by simp [upd_apply, r4], by simp [upd_apply, r5, hvs], by simp [upd_apply, r6, hvq], by simp [upd_apply, r7], by simp [upd_apply, r8], by simp [upd_apply]⟩
  · have hteq : ((strB y.nm).toList == (strB own).toList) = false := by rw [strB_toList, strB_toList]; simpa using hnm
    simp (disch := first|omega|(simp only [np,ns];try omega)) [e0, e1, hvs, e2, hvq, e8, e11, hls, hlsI, h200, h2I, hez, ← hoff, hagg, ← hq0, hst, ← hg1, hlq, hlqI, hez', ← hoff', y1, y3, hteq]
    refine (tpush_ok P1.r.at_ P1.r.ok (nm := y.nm) (q := y.j)).mono ?_
    rintro u g2 ⟨rfl, Y', K2, M2⟩
    have P2' := P1.right K2 M2 (pushT_ok P1.r.ok _ _)
    have q2 := (M2.fr.get q (by omega) hqY).trans q1
    have n2 := M2.fr.n
    simp (disch := first|omega|(simp only [np,ns];try omega)) []
    refine tailA n n _ g2 _ x q T _ Z Y' (by omega) P2' (ow.right hnm y.j) hsl (by simp [upd_apply, e0]) (by simp [upd_apply, e1, hvs]) (by simp [upd_apply, e2, hvq]) (by simp [upd_apply, e7]) (by simp [upd_apply, e8]) (by simp [upd_apply, e11]) (by simp [upd_apply]) (by omega) hqZ (fun h => (M2.ids q h).elim hqY (by omega)) q2 ?_ ?_
    · rintro s'' g'' ⟨T4, Z4, U4, Y4, r1, r2, r3, r4, r5, r6, r7, r8, r9⟩
      simp (disch := first|omega|(simp only [np,ns];try omega)) [r9, hkk]
      exact ⟨by omega, T4, Z4, U4, Y4, r1, r2, r3, by simp [upd_apply, r4], by simp [upd_apply, r5, hvs], by simp [upd_apply, r6, hvq], by simp [upd_apply, r7], by simp [upd_apply, r8], by simp [upd_apply]⟩
    · rintro s'' g'' ⟨T4, Z4, U4, Y4, r1, r2, r3, r4, r5, r6, r7, r8, r9⟩
      simp (disch := first|omega|(simp only [np,ns];try omega)) [r9, hkk]
      exact ⟨by omega, T4, Z4, U4, Y4, r1, r2, r3, by simp [upd_apply, r4], by simp [upd_apply, r5, hvs], by simp [upd_apply, r6, hvq], by simp [upd_apply, r7], by simp [upd_apply, r8], by simp [upd_apply]⟩
theorem apart_law {h : VH} {us : List Value} {k : Nat} (H : ShA h [.str, .sl 5 opT, .sl 5 opT] us k) (hk : k ≤ 1048576) :
    PCalls Try.prog f_law21_SlotsApart us h (fun u h' => u = .bool true ∧ h' = h) := by
  obtain ⟨v1, r1, k1, k2, rfl, h1, ⟨v2, r2, k3, k4, rfl, h2, ⟨v3, r3, k5, k6, rfl, h3, ⟨rfl, _⟩, h5⟩, h6⟩, h7⟩ := H
  obtain ⟨own, rfl, _⟩ := Sh.str (h := h) h1
  obtain ⟨ops, w1, w2⟩ := Sh.ops (h := h) h2
  obtain ⟨oth, b1, b2⟩ := Sh.ops (h := h) h3
  exact ((apart_ok' w1.ro b1.ro (by omega) (by omega)).mono fun u _ e => by subst e; exact ⟨rfl, rfl⟩).drop
end Go.Proofs.Ytoenamablkkocaa.Sl
