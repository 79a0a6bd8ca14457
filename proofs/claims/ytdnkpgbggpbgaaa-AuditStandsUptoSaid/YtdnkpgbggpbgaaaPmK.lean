/- The pure machine, part K: functions; a program's code put into the pure machine's by a reckoning that the kernel carries out. -/
import Derived.Test.YtdnkpgbggpbgaaaPmJ
set_option linter.unusedVariables false
set_option linter.unusedSimpArgs false
namespace Go.Proofs.Ytdnkpgbggpbgaaa.Pm
open Go.RowKit

/-! ### functions -/
inductive RV where
  | t (n : Nat)
  | cell (a : Nat) (n : Option Nat)
structure PF where
  n : Nat
  body : PC
  res : List RV

def resOne (s : Slots) (h : VH) : RV → Option Value
  | .t n => some (s n)
  | .cell a n =>
    match s a with
    | .pointer (some ⟨i, o, none⟩) => loadAt h i o n
    | _ => none
def resL (s : Slots) (h : VH) : List RV → Option (List Value)
  | [] => some []
  | r :: rs => (resOne s h r).bind fun v => (resL s h rs).map (v :: ·)
def resV (s : Slots) (h : VH) (rs : List RV) : Option Value :=
  (resL s h rs).map fun vs => match vs with
    | [v] => v
    | vs => .tuple vs.toArray

def PF.ret (F : PF) (R : Value → VH → Prop) : Exit → Slots → VH → Prop
  | .normal, s, h | .ret, s, h => match resV s h F.res with
    | some v => R v h
    | none => False
  | _, _, _ => False

def s0 (args : List Value) : Slots := fun j => args.getD j undef

/-- one result. -/
def RVok (P : Program) (N : Nat) : RV → ResultVar → Prop
  | .t n, .tmp k => n = k ∧ n < N
  | .cell a n, .cell b t => a = b ∧ a < N ∧ ∃ d i, P.underlying t = some d ∧ P.info? t = some i ∧ n = if isAggD d = true then some i.size else none
  | _, _ => False
def RVoks (P : Program) (N : Nat) : List RV → List ResultVar → Prop
  | [], [] => True
  | r :: rs, x :: xs => RVok P N r x ∧ RVoks P N rs xs
  | _, _ => False

structure StandsF (P : Program) (f : FuncId) (F : PF) : Prop where
  fn : isFn P f = true
  out : ∃ fn c, P.funcs[f]? = some fn ∧ fn.body = some c ∧ fn.ntmps = F.n ∧ Stands P F.n true F.body c ∧ RVoks P F.n F.res fn.results.toList

def resOp (tmps : Array Value) : ResultVar → Sem Value
  | .tmp t => pure (tmps.getD t undef)
  | .cell a t => do loadVar t (← asAddr (tmps.getD a undef))

theorem results_eq (fn : Func) (tmps : Array Value) : results fn tmps = (do
    let vs ← fn.results.mapM (resOp tmps)
    pure (if h : vs.size = 1 then vs[0] else .tuple vs) : Sem Value) := by
  unfold results
  congr 1

theorem run_resultOne {P : Program} {N : Nat} {B : Nat} {w0 : World} {m : Mp} {h : VH} {w : World} (S : Sim B w0 m h w) {s : Slots} {tmps : Array Value} (hs : SR N m s tmps) {r : RV} {x : ResultVar} (hr : RVok P N r x) {v : Value} (hv : resOne s h r = some v) :
    ∃ v', VR m v v' ∧ (resOp tmps x).run P w = .ok v' w := by
  cases r with
  | t n =>
    cases x with
    | cell _ _ => exact hr.elim
    | tmp k =>
      obtain ⟨rfl, hlt⟩ := hr
      simp only [resOne] at hv
      injection hv with hv
      subst hv
      have hn : n < tmps.size := by rw [hs.size]; exact hlt
      exact ⟨tmps[n], hs.rel n hn, by simp [resOp, Array.getD, hn]⟩
  | cell a n =>
    cases x with
    | tmp _ => exact hr.elim
    | cell b t =>
      obtain ⟨rfl, hlt, d, i, hd, hi, rfl⟩ := hr
      have hn : a < tmps.size := by rw [hs.size]; exact hlt
      have hra := hs.rel a hn
      have hgd : tmps.getD a undef = tmps[a] := by simp [Array.getD, hn]
      simp only [resOne] at hv
      split at hv
      · rename_i k off e
        rw [e] at hra
        obtain ⟨hk, e1⟩ := ptr_inv hra
        unfold loadAt at hv
        split at hv
        · rename_i cs own ez hg
          by_cases hag : isAggD d = true
          · rw [if_pos hag] at hv
            simp only at hv
            split at hv
            · rename_i hle
              injection hv with hv
              subst hv
              obtain ⟨ys, hl, hy, hvr⟩ := row_of S hk hg hle
              exact ⟨_, hvr.agg, by simp [resOp, hgd, e1, asAddr, loadVar, run_isAgg hd, hag, run_sizeOf hi, run_loadCells' hl hy]⟩
            · cases hv
          · rw [if_neg hag] at hv
            simp only at hv
            obtain ⟨v', hc, hvr⟩ := cell_of S hk hg hv
            exact ⟨v', hvr, by simp [resOp, hgd, e1, asAddr, loadVar, run_isAgg hd, hag, hc]⟩
        · cases hv
      · cases hv

theorem run_resultsL {P : Program} {N : Nat} {B : Nat} {w0 : World} {m : Mp} {h : VH} {w : World} (S : Sim B w0 m h w) {s : Slots} {tmps : Array Value} (hs : SR N m s tmps) : ∀ (rs : List RV) (xs : List ResultVar), RVoks P N rs xs → ∀ vs, resL s h rs = some vs →
    ∃ vs', VRL m vs vs' ∧ (xs.mapM (resOp tmps)).run P w = .ok vs' w
  | [], [], _, vs, hv => by
    simp only [resL] at hv
    injection hv with hv
    subst hv
    exact ⟨[], by simp [VRL], by simp⟩
  | r :: rs, x :: xs, hr, vs, hv => by
    simp only [resL, Option.bind_eq_some_iff, Option.map_eq_some_iff] at hv
    obtain ⟨v, hv1, us, hus, rfl⟩ := hv
    obtain ⟨v', hvr, hrun⟩ := run_resultOne S hs hr.1 hv1
    obtain ⟨us', husr, hrun2⟩ := run_resultsL S hs rs xs hr.2 us hus
    refine ⟨v' :: us', (VRL.one hvr).append husr, ?_⟩
    rw [List.mapM_cons, Sem.run_bind, hrun]
    simp only [Result.andThen_ok, Sem.run_bind, hrun2, Sem.run_pure]
  | [], _ :: _, hr, _, _ => hr.elim
  | _ :: _, [], hr, _, _ => hr.elim

theorem run_results {P : Program} {N : Nat} {B : Nat} {w0 : World} {m : Mp} {h : VH} {w : World} (S : Sim B w0 m h w) {s : Slots} {tmps : Array Value} (hs : SR N m s tmps) {rs : List RV} {fn : Func} (hr : RVoks P N rs fn.results.toList) {v : Value} (hv : resV s h rs = some v) :
    ∃ v', VR m v v' ∧ (results fn tmps).run P w = .ok v' w := by
  simp only [resV, Option.map_eq_some_iff] at hv
  obtain ⟨vs, hvs, rfl⟩ := hv
  obtain ⟨vs', hvr, hrun⟩ := run_resultsL S hs rs fn.results.toList hr vs hvs
  have hgo : (results fn tmps).run P w = .ok (if h : vs'.toArray.size = 1 then vs'.toArray[0] else .tuple vs'.toArray) w := by
    rw [results_eq, Array.mapM_eq_mapM_toList]
    simp only [Sem.run_bind, Sem.run_map, hrun, Result.andThen_ok, Sem.run_pure]
  refine ⟨_, ?_, hgo⟩
  match vs, vs', hvr with
  | [], [], hvr => simpa using (VR.tuple #[] #[] rfl (fun j h => by simp at h))
  | [v], [v'], hvr =>
    have := hvr.2 0 v v' rfl rfl
    simpa using this
  | v :: u :: r, v' :: u' :: r', hvr =>
    have : ¬ (v' :: u' :: r').toArray.size = 1 := by simp
    rw [dif_neg this]
    simp only
    refine .tuple _ _ (by simpa using hvr.1) (fun j hj hj' => ?_)
    have h1 : j < (v :: u :: r).length := by simpa using hj
    have h2 : j < (v' :: u' :: r').length := by simpa using hj'
    simpa using hvr.2 j _ _ (List.getElem?_eq_getElem h1) (List.getElem?_eq_getElem h2)
  | [], _ :: _, hvr => exact absurd hvr.1 (by simp)
  | _ :: _, [], hvr => exact absurd hvr.1 (by simp)
  | [_], _ :: _ :: _, hvr => exact absurd hvr.1 (by simp)
  | _ :: _ :: _, [_], hvr => exact absurd hvr.1 (by simp)

theorem Sim.take {B : Nat} {w0 : World} {m : Mp} {h : VH} {w : World} (S : Sim B w0 m h w) {D : Nat} (hD : D ∈ m.fx) {l : List Nat} (hl : ∀ x ∈ l, x ∈ m.fx ∧ x ≠ D) (o : Obj) : Sim B w0 (m.setFx l) h (w.putObj D o) := by
  obtain ⟨hB, hb, hown⟩ := S.fx D hD
  have S1 := S.setFx (l := l) (fun x hx => (hl x hx).1)
  have hg := grown_put w D o
  have hblk : ∀ k, k < w.heap.size → k ≠ D → (w.putObj D o).heap[k]? = w.heap[k]? := fun k hk hne => hg.block k hk (by simpa using hne)
  have hne : ∀ i, i < m.n → (h.get i).live = true → (m.at_ i).blk ≠ D := by
    intro i hi hlv e
    have ho := S.obj i hi
    by_cases how : (h.get i).own = true
    · exact hown i hi how e
    · generalize h.get i = ob at ho how hlv
      cases ob with
      | cells cs ow ez =>
        have how : ¬ ow = true := how
        have hlv : (ow || !cs.isEmpty) = true := hlv
        cases cs with
        | nil => simp at hlv; exact how hlv
        | cons v r =>
          obtain ⟨v', hc, _⟩ := ho.2.2.2.1 0 v rfl
          unfold World.cell? at hc
          rw [e, hb] at hc
          cases hc
      | map es c ow =>
        obtain ⟨mes, h1, _⟩ := ho
        rw [e, hb] at h1
        cases h1
      | dead => cases hlv
      | siter _ _ => exact how rfl
      | miter _ _ _ _ => exact how rfl
      | loop _ _ _ => exact how rfl
  refine ⟨S1.n, S1.below.grown hg S1.hB (fun k hk => by simp at hk; omega), Nat.le_trans S1.hB hg.size, fun i hi => ?_, S1.sep, S1.ge, fun x hx => ?_⟩
  · exact (S1.obj i hi).congr (fun hlv => hblk _ ((S.obj i hi).blk_lt hlv) (hne i hi hlv)) hg.size
  · obtain ⟨h1, h2, h3⟩ := S.fx x (hl x hx).1
    exact ⟨h1, (hblk x (S.fx_lt (hl x hx).1) (hl x hx).2).trans h2, h3⟩

theorem leaves_marks {P : Program} {fn : Func} {tmps : Array Value} {R : Ending → World → Prop} {B : Nat} {w0 : World} {h : VH} {fx' : List Nat} {ds0 : List Deferred} : ∀ (Ds : List Nat) (m : Mp) (w : World), Sim B w0 m h w → Ds.Nodup → (∀ D ∈ Ds, D ∈ m.fx ∧ D ∉ fx') → (∀ D ∈ fx', D ∈ m.fx) →
    (∀ w', Sim B w0 (m.setFx fx') h w' → LeavesInM (FW none) 0 P fn tmps R ds0 .returning w') → LeavesInM (FW none) 0 P fn tmps R (Ds.map (fun D => { target := .collected D, args := #[] }) ++ ds0) .returning w
  | [], m, w, S, _, _, hf, hr => hr w (S.setFx hf)
  | D :: Ds, m, w, S, hn, hd, hf, hr => by
    obtain ⟨hn1, hn2⟩ := List.nodup_cons.1 hn
    have hD := (hd D (List.mem_cons_self ..)).1
    have S1 := S.take hD (l := Ds ++ fx') (fun x hx => by
      rcases List.mem_append.1 hx with hx | hx
      · exact ⟨(hd x (List.mem_cons_of_mem _ hx)).1, fun e => hn1 (e ▸ hx)⟩
      · exact ⟨hf x hx, fun e => (hd D (List.mem_cons_self ..)).2 (e ▸ hx)⟩) (.deferred none)
    refine ⟨by simp, .inl ⟨D, w.putObj D (.deferred none), rfl, run_takeDeferred (S.fx D hD).2.1, ?_⟩⟩
    exact leaves_marks Ds (m.setFx (Ds ++ fx')) _ S1 hn2 (fun x hx => ⟨List.mem_append_left _ hx, (hd x (List.mem_cons_of_mem _ hx)).2⟩) (fun x hx => List.mem_append_right _ hx) hr

/-- **a function, out of its body.** -/
theorem PCalls_of_pw {P : Program} {f : FuncId} {F : PF} (hF : StandsF P f F) {args : List Value} {h : VH} {R : Value → VH → Prop} (hn : args.length ≤ F.n) (hp : pw P F.body (s0 args) h (F.ret R)) : PCalls P f args h R := by
  obtain ⟨fn, c, hf, hb, hnt, hst, hres⟩ := hF.out
  intro B w0 m w args' S ha
  have hal : args'.size = args.length := by have := ha.1; simp at this; omega
  have hs : SR F.n m (s0 args) (args' ++ Array.replicate (fn.ntmps - args'.size) undef) := by
    refine ⟨by simp; omega, fun j hj => ?_⟩
    rw [Array.getElem_append]
    unfold s0
    split
    · rename_i hjl
      have h1 : j < args.length := by omega
      rw [List.getD_eq_getElem?_getD, List.getElem?_eq_getElem h1]
      exact ha.2 j _ _ (List.getElem?_eq_getElem h1) (by simp [hjl])
    · rename_i hjl
      rw [List.getD_eq_getElem?_getD, List.getElem?_eq_none (by omega)]
      simpa using VR.undef m
  refine calls_FW (n := 0) (callsIn_of_wp_marks (F := FW none) hf hb trivial (wpIn_mono (code_ok hst none (fun _ => rfl) B w0 (s0 args) h _ m _ w ⟨m.fx, [], false⟩ (fun h => by cases h) hp S hs (DF.nil m (fun _ h => h))) ?_))
  rintro e a1 w1 ⟨m1, s1, h1, hq, hle, S1, hs1, hd0, Ds, hd1, hd2, hd3, _⟩
  have fin : (match resV s1 h1 F.res with
      | some v => R v h1
      | none => False) → LeavesInM (FW none) 0 P fn a1.tmps (fun e w' => ∃ m' v v' h', e = .returned v' ∧ R v h' ∧ m.le m' ∧ Sim B w0 m' h' w' ∧ VR m' v v') a1.defers .returning w1 := by
    intro hq
    split at hq
    · rename_i v hv
      rw [hd1]
      refine leaves_marks Ds m1 w1 S1 hd2 hd3 hd0 (fun w' S' => ?_)
      have hs2 : SR F.n (m1.setFx m.fx) s1 a1.tmps := ⟨hs1.size, fun j hj => (hs1.rel j hj).setFx _⟩
      obtain ⟨v', hvr, hrun⟩ := run_results S' hs2 hres hv
      exact ⟨v', hrun, m1.setFx m.fx, v, v', h1, rfl, hq, ⟨hle.1, hle.2, fun D hD => hD⟩, S', hvr⟩
    · exact hq.elim
  cases e with
  | normal => exact fin hq
  | ret => exact fin hq
  | exit id => exact hq.elim
  | goto l => exact hq.elim
  | panic ch => exact hq.elim
  | outgrown => exact hq.elim

end Go.Proofs.Ytdnkpgbggpbgaaa.Pm
