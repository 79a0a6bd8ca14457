/- The pure machine, part Df: functions that defer calls of closures. -/
import Derived.Test.YtdnkpgbggpbgaaaPmM
set_option linter.unusedVariables false
set_option linter.unusedSimpArgs false
namespace Go.Proofs.Ytdnkpgbggpbgaaa.Pm
open Go.RowKit

theorem ops_okA {r : Option Nat} {P : Program} {N : Nat} {ops : Array Oper} {Q : Exit → Act → World → Prop} {B : Nat} {w0 : World} {D : List Deferred} {rest : List Oper} : ∀ (os : List Oper) (gs : List GI), GCs P N ops os gs → ∀ (s : Slots) (h : VH) (K : Slots → VH → Prop) (m : Mp) (a : Act) (w : World),
    pwOps P gs s h K → Sim B w0 m h w → SR N m s a.tmps → a.defers = D →
    (∀ m' s' h' (a' : Act) w', K s' h' → m.le m' → Sim B w0 m' h' w' → SR N m' s' a'.tmps → a'.defers = D → wpListIn (FW r) 0 P ops Q rest a' w') → wpListIn (FW r) 0 P ops Q (os ++ rest) a w
  | [], [], _, s, h, K, m, a, w, hp, S, hs, hd, hQ => hQ m s h a w hp m.le_refl S hs hd
  | [], g :: gs, hc, _, _, _, _, _, _, _, _, _, _, _ => hc.elim
  | o :: os, [], hc, _, _, _, _, _, _, _, _, _, _, _ => hc.elim
  | o :: os, g :: gs, hc, s, h, K, m, a, w, hp, S, hs, hd, hQ => by
    obtain ⟨hg, hgs⟩ := hc
    rw [List.cons_append]
    unfold wpListIn
    rw [wanted_eq hg hs]
    have hdst := hg.dst
    have next : ∀ (m1 : Mp) (s1 : Slots) (h1 : VH) (a1 : Act) (w1 : World), m.le m1 → pwOps P gs s1 h1 K → Sim B w0 m1 h1 w1 → SR N m1 s1 a1.tmps → a1.defers = D → wpListIn (FW r) 0 P ops Q (os ++ rest) a1 w1 :=
      fun m1 s1 h1 a1 w1 hle hp1 S1 hs1 hd1 => ops_okA os gs hgs s1 h1 K m1 a1 w1 hp1 S1 hs1 hd1 (fun m' s' h' a' w' k1 k2 k3 k4 k5 => hQ m' s' h' a' w' k1 (Mp.le_trans hle k2) k3 k4 k5)
    split
    · rename_i hw
      refine (step_ok hg S hs hp hw).wp hg.nod ?_
      rintro v' w' ⟨m', v, h', hle, S', hvr, hK⟩
      refine next m' _ h' _ w' hle hK S' ?_ (by rw [put_defers]; exact hd)
      rw [← hdst]
      exact (hs.mono hle).putS hvr
    · rename_i hw
      simp only [pwOps, if_neg hw] at hp
      refine ⟨fun _ _ => trivial, next m _ h _ w m.le_refl hp S ?_ (by rw [put_defers]; exact hd)⟩
      rw [← hdst]
      exact hs.putS (VR.undef m)

/-! ### a function entered as a deferred call -/
structure StandsF0 (P : Program) (f : FuncId) (F : PF) : Prop where
  fn : isFn P f = true
  out : ∃ fn c, P.funcs[f]? = some fn ∧ fn.body = some c ∧ fn.ntmps = F.n ∧ Stands P F.n false F.body c ∧ RVoks P F.n F.res fn.results.toList
def PCallsD (P : Program) (f : FuncId) (args : List Value) (h : VH) (R : VH → Prop) : Prop :=
  ∀ (B : Nat) (w0 : World) (m : Mp) (w : World) (args' : Array Value), Sim B w0 m h w → VRL m args args'.toList →
    CallsDIn (FW none) 0 P f args' .returning w fun e u' w' => u' = .returning ∧ ∃ m' v' h', e = .returned v' ∧ R h' ∧ m.le m' ∧ Sim B w0 m' h' w'
theorem PCallsD.mono {P : Program} {f : FuncId} {args : List Value} {h : VH} {R R' : VH → Prop} (k : PCallsD P f args h R) (hr : ∀ h', R h' → R' h') : PCallsD P f args h R' :=
  fun B w0 m w args' S ha => (k B w0 m w args' S ha).mono fun e u w' ⟨h1, m', v', h', h2, h3, h4⟩ => ⟨h1, m', v', h', h2, hr _ h3, h4⟩
theorem args_SR {F : PF} {fn : Func} (hnt : fn.ntmps = F.n) {m : Mp} {args : List Value} {args' : Array Value} (hn : args.length ≤ F.n) (ha : VRL m args args'.toList) : SR F.n m (s0 args) (args' ++ Array.replicate (fn.ntmps - args'.size) undef) := by
  have hal : args'.size = args.length := by have := ha.1; simp at this; omega
  refine ⟨by simp; omega, fun j hj => ?_⟩
  rw [Array.getElem_append]
  unfold s0
  split
  · rename_i hjl
    have h1 : j < args.length := by omega
    rw [List.getD_eq_getElem?_getD, List.getElem?_eq_getElem h1]
    exact ha.2 j _ _ (List.getElem?_eq_getElem h1) (by simp [hjl])
  · rename_i hjl
    rw [List.getD_eq_getElem?_getD, List.getElem?_eq_none (by omega)]
    simpa using VR.undef m
theorem PCallsD_of_pw {P : Program} {f : FuncId} {F : PF} (hF : StandsF0 P f F) {args : List Value} {h : VH} {R : VH → Prop} (hn : args.length ≤ F.n) (hp : pw P F.body (s0 args) h (F.ret fun _ h' => R h')) : PCallsD P f args h R := by
  obtain ⟨fn, c, hf, hb, hnt, hst, hres⟩ := hF.out
  intro B w0 m w args' S ha
  refine (callsDIn_of_wp (F := FW none) (R := fun e w' => ∃ m' v' h', e = .returned v' ∧ R h' ∧ m.le m' ∧ Sim B w0 m' h' w') hf hb trivial (wpIn_mono (code_ok hst none (fun _ => rfl) B w0 (s0 args) h _ m _ w ⟨[], [], true⟩ (fun _ => rfl) hp S (args_SR hnt hn ha) (DF.nil m (fun _ h => by cases h))) ?_))
  rintro e a1 w1 ⟨m1, s1, h1, hq, hle, S1, hs1, hd0, Ds, hd1, hd2, hd3, hd4⟩
  rw [hd4 rfl] at hd1
  have fin : (match resV s1 h1 F.res with
      | some v => R h1
      | none => False) → a1.defers = [] ∧ ∃ v, (results fn a1.tmps).run P w1 = .ok v w1 ∧ ∃ m' v' h', Ending.returned v = .returned v' ∧ R h' ∧ m.le m' ∧ Sim B w0 m' h' w1 := by
    intro hq
    split at hq
    · rename_i v hv
      obtain ⟨v', hvr, hrun⟩ := run_results S1 hs1 hres hv
      exact ⟨hd1, v', hrun, m1, v', h1, rfl, hq, hle, S1⟩
    · exact hq.elim
  cases e with
  | normal => exact fin hq
  | ret => exact fin hq
  | exit id => exact hq.elim
  | goto l => exact hq.elim
  | panic ch => exact hq.elim
  | outgrown => exact hq.elim

/-! ### code that defers -/
inductive PD where
  | code (a : PC)
  | ops (gs : List GI) (x : Ref) (args : List Ref) (d : Option Nat)
  | seq (a b : PD)
abbrev DL := List (FuncId × List Value)
def pd (P : Program) : PD → Slots → VH → DL → (Exit → Slots → VH → DL → Prop) → Prop
  | .code a, s, h, ds, Q => pw P a s h fun e s' h' => Q e s' h' ds
  | .ops gs x args d, s, h, ds, Q => pwOps P gs s h fun s' h' => ∃ g first cap, ev s' x = .func (.func g) first cap ∧ isFn P g = true ∧ Q .normal (putS s' d undef) h' ((g, first.toList ++ args.map (ev s') ++ cap.toList) :: ds)
  | .seq a b, s, h, ds, Q => pd P a s h ds fun e s' h' ds' => match e with
    | .normal => pd P b s' h' ds' Q
    | e => Q e s' h' ds'
inductive StandsD (P : Program) (N : Nat) : PD → Code → Prop where
  | code {a : PC} {c : Code} (h : Stands P N false a c) : StandsD P N (.code a) c
  | ops (id : Nat) (os : Array Oper) (init : List Oper) (o : Oper) (gs : List GI) (xo : Operand) (as : Array Operand) (ts : Array TypeId) (x : Ref) (args : List Ref) (hos : os.toList = init ++ [o]) (hg : GCs P N os init gs)
      (hop : o.op = .defer { callee := .value xo, args := as, argTypes := ts }) (hgd : o.guard = none) (hd : ∀ d, o.dst = some d → d < N) (hx : compRef N xo = some x) (ha : compRefs N as.toList = some args) : StandsD P N (.ops gs x args o.dst) (.region id os false)
  | seq {a b : PD} {c d : Code} (h1 : StandsD P N a c) (h2 : StandsD P N b d) : StandsD P N (.seq a b) (.seq c d)
def DB (P : Program) (m : Mp) : DL → List Deferred → Prop
  | [], [] => True
  | (g, vs) :: r, d :: ds => (∃ cap, d.target = .fn (.func g) cap ∧ VRL m vs (d.args ++ cap).toList ∧ isFn P g = true) ∧ DB P m r ds
  | _, _ => False
theorem DB.mono {P : Program} {m m' : Mp} (hle : m.le m') : ∀ {l : DL} {ds : List Deferred}, DB P m l ds → DB P m' l ds
  | [], [], _ => trivial
  | (g, vs) :: r, d :: ds, ⟨⟨cap, h1, h2, h3⟩, h4⟩ => ⟨⟨cap, h1, VRL.mono hle h2, h3⟩, DB.mono hle h4⟩
  | [], _ :: _, h => h.elim
  | _ :: _, [], h => h.elim
theorem pd_ok {P : Program} {N : Nat} {p : PD} {c : Code} (hc : StandsD P N p c) : ∀ (B : Nat) (w0 : World) (s : Slots) (h : VH) (ds : DL) (Q : Exit → Slots → VH → DL → Prop) (m : Mp) (a : Act) (w : World), pd P p s h ds Q → Sim B w0 m h w → SR N m s a.tmps → DB P m ds a.defers →
    c.wpIn (FW none) 0 P (fun e a w => ∃ m' s h ds, Q e s h ds ∧ m.le m' ∧ Sim B w0 m' h w ∧ SR N m' s a.tmps ∧ DB P m' ds a.defers) a w := by
  induction hc with
  | code hst =>
    intro B w0 s h ds Q m a w hp S hs hd
    refine wpIn_mono (code_ok hst none (fun _ => rfl) B w0 s h _ m a w ⟨[], a.defers, true⟩ (fun _ => rfl) hp S hs (DF.nil m (fun _ h => by cases h))) ?_
    rintro e a1 w1 ⟨m1, s1, h1, hq, hle, S1, hs1, hd0, Ds, hd1, hd2, hd3, hd4⟩
    rw [hd4 rfl] at hd1
    exact ⟨m1, s1, h1, ds, hq, hle, S1, hs1, by rw [hd1]; exact hd.mono hle⟩
  | ops id os init o gs xo as ts x args hos hg hop hgd hdl hx ha =>
    intro B w0 s h ds Q m a w hp S hs hd
    refine wpIn_region_list ?_
    rw [hos]
    refine ops_okA init gs hg s h _ m a w hp S hs rfl ?_
    rintro m1 s1 h1 a1 w1 ⟨g, first, cap, hev, hfn, hq⟩ hle S1 hs1 hd1
    have hvx := compRef_ok hx hs1
    rw [hev] at hvx
    obtain ⟨first', cap', hav, hv1, hv2⟩ := func_inv hvx
    have hvs := compRefs_ok ha hs1
    unfold wpListIn
    have hw : Region.wanted o (yielded os a1.tmps) = true := by simp [Region.wanted, hgd]
    rw [if_pos hw]
    refine ⟨fun _ _ => trivial, ?_⟩
    have hrun : (o.semAt (FW none).round a1.eval).run P w1 = .ok (.defer { target := .fn (.func g) cap', args := first' ++ as.map a1.eval }) w1 := by
      show (execOp a1.eval o).run P w1 = _
      simp [execOp, hop, resolve, hav, Deferred.ofValue]
    rw [hrun, Oper.uponIn_defer]
    unfold wpListIn
    refine ⟨m1, _, h1, _, hq, hle, S1, ?_, ?_⟩
    · exact SR.putS (a := { a1 with defers := _ :: a1.defers }) hs1 (VR.undef m1)
    · rw [put_defers]
      refine ⟨⟨cap', rfl, ?_, hfn⟩, ?_⟩
      · simp only [Array.toList_append, Array.toList_map]
        exact (hv1.append hvs).append hv2
      · show DB P m1 ds a1.defers
        rw [hd1]
        exact hd.mono hle
  | seq h1 h2 ih1 ih2 =>
    intro B w0 s h ds Q m a w hp S hs hd
    refine wpIn_seq (wpIn_mono (ih1 B w0 s h ds _ m a w hp S hs hd) ?_)
    rintro e a1 w1 ⟨m1, s1, h1', ds1, hq, hle, S1, hs1, hd1⟩
    cases e with
    | normal =>
      refine wpIn_mono (ih2 B w0 s1 h1' ds1 Q m1 a1 w1 hq S1 hs1 hd1) ?_
      rintro e a2 w2 ⟨m2, s2, h2', ds2, hq2, hle2, S2, hs2, hd2⟩
      exact ⟨m2, s2, h2', ds2, hq2, Mp.le_trans hle hle2, S2, hs2, hd2⟩
    | exit id => exact ⟨m1, s1, h1', ds1, hq, hle, S1, hs1, hd1⟩
    | goto l => exact ⟨m1, s1, h1', ds1, hq, hle, S1, hs1, hd1⟩
    | ret => exact ⟨m1, s1, h1', ds1, hq, hle, S1, hs1, hd1⟩
    | panic ch => exact ⟨m1, s1, h1', ds1, hq, hle, S1, hs1, hd1⟩
    | outgrown => exact ⟨m1, s1, h1', ds1, hq, hle, S1, hs1, hd1⟩
/-- the deferred calls, the last one first. -/
def runD (P : Program) : DL → VH → (VH → Prop) → Prop
  | [], h, K => K h
  | (g, vs) :: ds, h, K => PCallsD P g vs h fun h' => runD P ds h' K
structure PFD where
  n : Nat
  body : PD
  res : List RV
structure StandsFD (P : Program) (f : FuncId) (F : PFD) : Prop where
  fn : isFn P f = true
  out : ∃ fn c, P.funcs[f]? = some fn ∧ fn.body = some c ∧ fn.ntmps = F.n ∧ StandsD P F.n F.body c ∧ RVoks P F.n F.res fn.results.toList
def PFD.ret (P : Program) (F : PFD) (R : Value → VH → Prop) : Exit → Slots → VH → DL → Prop
  | .normal, s, h, ds | .ret, s, h, ds => runD P ds h fun h' => match resV s h' F.res with
    | some v => R v h'
    | none => False
  | _, _, _, _ => False
theorem leavesD {P : Program} {fn : Func} {tmps : Array Value} {N B : Nat} {w0 : World} {m0 : Mp} {s : Slots} {rs : List RV} {R : Value → VH → Prop} (hres : RVoks P N rs fn.results.toList) : ∀ (ds : DL) (base : List Deferred) (m : Mp) (h : VH) (w : World), m0.le m → Sim B w0 m h w → SR N m s tmps → DB P m ds base →
    runD P ds h (fun h' => match resV s h' rs with
      | some v => R v h'
      | none => False) →
    LeavesInM (FW none) 0 P fn tmps (fun e w' => ∃ m' v v' h', e = .returned v' ∧ R v h' ∧ m0.le m' ∧ Sim B w0 m' h' w' ∧ VR m' v v') base .returning w
  | [], [], m, h, w, hle, S, hs, _, hr => by
    simp only [runD] at hr
    split at hr
    · rename_i v hv
      obtain ⟨v', hvr, hrun⟩ := run_results S hs hres hv
      exact ⟨v', hrun, m, v, v', h, rfl, hr, hle, S, hvr⟩
    · exact hr.elim
  | (g, vs) :: ds, d :: base, m, h, w, hle, S, hs, ⟨⟨cap, ht, hv, hfn⟩, hb⟩, hr => by
    refine ⟨by simp, .inr ⟨fun h => (by cases h), .func g, cap, g, d.args ++ cap, ht, ?_, fun _ _ => trivial, ?_⟩⟩
    · rw [ht]
      simp [invoke, callOK hfn]
    · refine (hr B w0 m w _ S hv).mono ?_
      rintro e u' w' ⟨rfl, m', v', h', rfl, hr', hle', S'⟩
      exact leavesD hres ds base m' h' w' (Mp.le_trans hle hle') S' (hs.mono hle') (hb.mono hle') hr'
  | [], _ :: _, _, _, _, _, _, _, hb, _ => hb.elim
  | _ :: _, [], _, _, _, _, _, _, hb, _ => hb.elim
/-- **a function that defers, out of its body.** -/
theorem PCalls_of_pd {P : Program} {f : FuncId} {F : PFD} (hF : StandsFD P f F) {args : List Value} {h : VH} {R : Value → VH → Prop} (hn : args.length ≤ F.n) (hp : pd P F.body (s0 args) h [] (F.ret P R)) : PCalls P f args h R := by
  obtain ⟨fn, c, hf, hb, hnt, hst, hres⟩ := hF.out
  intro B w0 m w args' S ha
  have hs : SR F.n m (s0 args) (args' ++ Array.replicate (fn.ntmps - args'.size) undef) := args_SR (F := ⟨F.n, .skip, []⟩) hnt hn ha
  refine calls_FW (n := 0) (callsIn_of_wp_marks (F := FW none) hf hb trivial (wpIn_mono (pd_ok hst B w0 (s0 args) h [] _ m _ w hp S hs trivial) ?_))
  rintro e a1 w1 ⟨m1, s1, h1, ds, hq, hle, S1, hs1, hd1⟩
  cases e with
  | normal => exact leavesD hres ds _ m1 h1 w1 hle S1 hs1 hd1 hq
  | ret => exact leavesD hres ds _ m1 h1 w1 hle S1 hs1 hd1 hq
  | exit id => exact hq.elim
  | goto l => exact hq.elim
  | panic ch => exact hq.elim
  | outgrown => exact hq.elim
/-! ### the reckoning -/
def compDefer (P : Program) (N : Nat) (os : Array Oper) : Option PD :=
  match os.toList.reverse with
  | [] => none
  | o :: r =>
    match o.op with
    | .defer ⟨.value xo, as, ts⟩ =>
      if o.guard.isNone && o.dst.all (fun d => decide (d < N)) then
        (compOps P N os r.reverse).bind fun gs => (compRef N xo).bind fun x => (compRefs N as.toList).map fun args => .ops gs x args o.dst
      else none
    | _ => none
def compD (P : Program) (N : Nat) : Code → Option PD
  | .seq a b => match compC P N false (.seq a b) with
    | some p => some (.code p)
    | none => (compD P N a).bind fun x => (compD P N b).map (.seq x)
  | .region id os false => match compC P N false (.region id os false) with
    | some p => some (.code p)
    | none => compDefer P N os
  | c => (compC P N false c).map .code
theorem compDefer_ok {P : Program} {N : Nat} {id : Nat} {os : Array Oper} {p : PD} (h : compDefer P N os = some p) : StandsD P N p (.region id os false) := by
  unfold compDefer at h
  split at h
  · cases h
  · rename_i o r hr
    split at h
    · rename_i xo as ts hop
      split at h
      · rename_i hc
        simp only [Option.bind_eq_some_iff, Option.map_eq_some_iff] at h
        obtain ⟨gs, hgs, x, hx, args, ha, rfl⟩ := h
        simp only [Bool.and_eq_true, Option.isNone_iff_eq_none] at hc
        refine .ops id os r.reverse o gs xo as ts x args ?_ (compOps_ok hgs) hop hc.1 (fun d hd => ?_) hx ha
        · have := congrArg List.reverse hr
          rw [List.reverse_reverse] at this
          rw [this]; simp
        · have := hc.2
          rw [hd] at this
          simpa using this
      · cases h
    · cases h
theorem compD_ok {P : Program} {N : Nat} : ∀ {c : Code} {p : PD}, compD P N c = some p → StandsD P N p c := by
  intro c
  induction c with
  | seq a b iha ihb =>
    intro p h
    simp only [compD] at h
    split at h
    · rename_i q hq
      injection h with h
      subst h
      exact .code (compC_ok hq)
    · simp only [Option.bind_eq_some_iff, Option.map_eq_some_iff] at h
      obtain ⟨x, hx, y, hy, rfl⟩ := h
      exact .seq (iha hx) (ihb hy)
  | region id os dr =>
    intro p h
    cases dr with
    | false =>
      simp only [compD] at h
      split at h
      · rename_i q hq
        injection h with h
        subst h
        exact .code (compC_ok hq)
      · exact compDefer_ok h
    | true =>
      simp only [compD, Option.map_eq_some_iff] at h
      obtain ⟨q, hq, rfl⟩ := h
      exact .code (compC_ok hq)
  | _ =>
    intro p h
    simp only [compD, Option.map_eq_some_iff] at h
    obtain ⟨q, hq, rfl⟩ := h
    exact .code (compC_ok hq)
def compFD (P : Program) (f : FuncId) : Option PFD :=
  if isFn P f = false then none else
  (P.funcs[f]?).bind fun fn => fn.body.bind fun c => (compD P fn.ntmps c).bind fun b => (fn.results.toList.mapM (compRV P fn.ntmps)).map fun rs => ⟨fn.ntmps, b, rs⟩
def compF0 (P : Program) (f : FuncId) : Option PF :=
  if isFn P f = false then none else
  (P.funcs[f]?).bind fun fn => fn.body.bind fun c => (compC P fn.ntmps false c).bind fun b => (fn.results.toList.mapM (compRV P fn.ntmps)).map fun rs => ⟨fn.ntmps, b, rs⟩
theorem compFD_ok {P : Program} {f : FuncId} {F : PFD} (h : compFD P f = some F) : StandsFD P f F := by
  unfold compFD at h
  split at h
  · cases h
  rename_i hisfn
  simp only [Option.bind_eq_some_iff, Option.map_eq_some_iff] at h
  obtain ⟨fn, hfn, c, hc, b, hb, rs, hrs, rfl⟩ := h
  exact ⟨by simpa using hisfn, ⟨fn, c, hfn, hc, rfl, compD_ok hb, compRV_ok hrs⟩⟩
theorem compF0_ok {P : Program} {f : FuncId} {F : PF} (h : compF0 P f = some F) : StandsF0 P f F := by
  unfold compF0 at h
  split at h
  · cases h
  rename_i hisfn
  simp only [Option.bind_eq_some_iff, Option.map_eq_some_iff] at h
  obtain ⟨fn, hfn, c, hc, b, hb, rs, hrs, rfl⟩ := h
  exact ⟨by simpa using hisfn, ⟨fn, c, hfn, hc, rfl, compC_ok hb, compRV_ok hrs⟩⟩
end Go.Proofs.Ytdnkpgbggpbgaaa.Pm
