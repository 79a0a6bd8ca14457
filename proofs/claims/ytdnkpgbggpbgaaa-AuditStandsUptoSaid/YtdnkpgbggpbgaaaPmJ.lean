/- The pure machine, part J: what is shown of a piece holds of the code that it stands for; functions. -/
import Derived.Test.YtdnkpgbggpbgaaaPmT
set_option linter.unusedVariables false
set_option linter.unusedSimpArgs false
namespace Go.Proofs.Ytdnkpgbggpbgaaa.Pm
open Go.RowKit Go.MapKept

theorem Sim.below_of' {B : Nat} {w0 : World} {m : Mp} {h : VH} {w w' : World} (S : Sim B w0 m h w) (hw' : Below w.heap.size w w') : Sim B w0 m h w' :=
  ⟨S.n, S.below.trans (hw'.mono S.hB), Nat.le_trans S.hB hw'.size, fun i hi => (S.obj i hi).congr (fun hl => hw'.block _ ((S.obj i hi).blk_lt hl)) hw'.size, S.sep, S.ge, fun D hD => ⟨(S.fx D hD).1, (hw'.block _ (S.fx_lt hD)).trans (S.fx D hD).2.1, (S.fx D hD).2.2⟩⟩

theorem GCs.nod {P : Program} {N : Nat} {ops : Array Oper} {os : List Oper} {gs : List GI} (h : GCs P N ops os gs) : ∀ (i : Nat) (o : Oper), os[i]? = some o → ∀ c, o.op ≠ .defer c := by
  intro i o ho
  have hl := (GCs.at_ h).1
  have hi : i < gs.length := by rw [← hl]; exact (List.getElem?_eq_some_iff.1 ho).1
  exact ((GCs.at_ h).2 i o _ ho (List.getElem?_eq_getElem hi)).nod

theorem putAll_SR {N : Nat} {m : Mp} : ∀ (ps : List Nat) (vs vs' : List Value) (s : Slots) (t : Array Value), SR N m s t → VRL m vs vs' → vs.length = ps.length → SR N m (putAll s ps vs) ((ps.zip vs').foldl (fun t (p, v) => t.setIfInBounds p v) t)
  | [], _, _, s, t, h, _, _ => by simpa [putAll] using h
  | p :: ps, [], _, _, _, _, _, hl => by simp at hl
  | p :: ps, v :: vs, [], _, _, _, hv, _ => by have := hv.1; simp at this
  | p :: ps, v :: vs, v' :: vs', s, t, h, hv, hl => by
    simp only [putAll, List.zip_cons_cons, List.foldl_cons]
    refine putAll_SR ps vs vs' _ _ ?_ ⟨by have := hv.1; simpa using this, fun j x y hx hy => hv.2 (j + 1) x y (by simpa using hx) (by simpa using hy)⟩ (by simpa using hl)
    exact SR.put (a := ⟨t, []⟩) (d := p) h (hv.2 0 v v' rfl rfl)

theorem loop_of {B : Nat} {w0 : World} {m : Mp} {h : VH} {w : World} (S : Sim B w0 m h w) {i : Nat} (hi : i < m.n) {L : LoopKey} {st : LoopState} {pe : Option Code} (hg : h.get i = .loop L st pe) :
    ∃ (tmps : Array Value) (D : Nat), w.heap[(m.at_ i).blk]? = some (.loop { state := st, pending := pe, fn := L.fn, tmps := tmps, params := L.ps.toArray, assign := L.asg, body := L.bdy, defers := D }) ∧ SR L.N m L.s tmps := by
  have := S.obj i hi
  rw [hg] at this
  obtain ⟨tmps, D, h1, h2, h3⟩ := this
  exact ⟨tmps, D, h1, h2, h3⟩
theorem set_loop {B : Nat} {w0 : World} {m : Mp} {h : VH} {w : World} (S : Sim B w0 m h w) {i : Nat} (hi : i < m.n) {L : LoopKey} {st st' : LoopState} {pe pe' : Option Code} (hg : h.get i = .loop L st pe) {tmps : Array Value} {D : Nat}
    (hb : w.heap[(m.at_ i).blk]? = some (.loop { state := st, pending := pe, fn := L.fn, tmps := tmps, params := L.ps.toArray, assign := L.asg, body := L.bdy, defers := D })) (hs : SR L.N m L.s tmps) :
    Sim B w0 m (h.set i (.loop L st' pe')) (w.putObj (m.at_ i).blk (.loop { state := st', pending := pe', fn := L.fn, tmps := tmps, params := L.ps.toArray, assign := L.asg, body := L.bdy, defers := D })) :=
  S.upd hi (by rw [hg]; rfl) _ (grown_put w _ _) ⟨tmps, D, (heap_set hb).1, hs.size, hs.rel⟩

/-- a round, out of what is shown of its code. -/
theorem round_ok {P : Program} {N : Nat} {pa pb : PC} {L : LoopKey} (hN : L.N = N)
    (iha : ∀ (r : Option Nat) (B : Nat) (w0 : World) (s : Slots) (h : VH) (Q : Exit → Slots → VH → Prop) (m : Mp) (a : Act) (w : World) (fx0 : FX), (fx0.no = true → false = false) → pw P pa s h Q → Sim B w0 m h w → SR N m s a.tmps → DF m fx0 a.defers → L.asg.wpIn (FW r) 0 P (Post B w0 N m fx0 Q) a w)
    (ihb : ∀ (r : Option Nat) (B : Nat) (w0 : World) (s : Slots) (h : VH) (Q : Exit → Slots → VH → Prop) (m : Mp) (a : Act) (w : World) (fx0 : FX), (fx0.no = true → false = false) → pw P pb s h Q → Sim B w0 m h w → SR N m s a.tmps → DF m fx0 a.defers → L.bdy.wpIn (FW r) 0 P (Post B w0 N m fx0 Q) a w)
    {i : Nat} {args : List Value} {h1 : VH} {pe : Option Code} {R : Value → VH → Prop} (hg : h1.get i = .loop L .ready pe) (hl : args.length = L.ps.length)
    (hp : pw P pa (putAll L.s L.ps args) h1 fun e s2 h2 => match e with
      | .normal => ∃ pe2, h2.get i = .loop L .ready pe2 ∧ pw P pb s2 (h2.set i (.loop L .busy pe2)) (rndEnd i L R)
      | _ => False) : PYield P i args h1 R := by
  intro B w0 m w args' S hi ha
  obtain ⟨tmps, D, hb, hs⟩ := loop_of S hi hg
  have hal : args'.size = L.ps.toArray.size := by have := ha.1; simp at this ⊢; omega
  refine ⟨L.fn, _, L.asg, L.bdy, run_yield hb hal, ?_⟩
  rw [hN] at hs
  have hs1 : SR N m (putAll L.s L.ps args) ((L.ps.toArray.zip args').foldl (fun tmps (t, a) => tmps.setIfInBounds t a) tmps) := by
    have := putAll_SR L.ps args args'.toList L.s tmps hs ha hl
    rw [← Array.foldl_toList]
    simpa using this
  refine roundIn_of_wpIn (F := FW none) trivial (wpIn_mono (iha (some (m.at_ i).blk) B w0 _ h1 _ m _ w ⟨[], [], false⟩ (fun _ => rfl) hp S hs1 (DF.nil _ (fun _ h => by cases h))) ?_)
  rintro e a1 w1 ⟨m1, s1, h2, hq, hle, S1, hs1', hd1⟩
  cases e with
  | normal =>
    obtain ⟨pe2, hg2, hq⟩ := hq
    have hi1 : i < m1.n := Nat.lt_of_lt_of_le hi hle.1
    obtain ⟨tmps2, D2, hb2, hs2⟩ := loop_of S1 hi1 hg2
    have hbe := hle.2 i hi
    rw [hbe] at hb2
    refine ⟨_, run_beginRound hb2 rfl, ?_⟩
    have S2 := set_loop (st' := .busy) (pe' := pe2) S1 hi1 hg2 (by rw [hbe]; exact hb2) hs2
    rw [hbe] at S2
    refine wpIn_mono (ihb (some (m.at_ i).blk) B w0 _ _ _ m1 a1 _ ⟨[], [], false⟩ (fun _ => rfl) hq S2 hs1' hd1) ?_
    rintro e a3 w3 ⟨m3, s3, h3, ⟨⟨pe3, hg3⟩, hq3⟩, hle3, S3, hs3, hd3⟩
    have hi3 : i < m3.n := Nat.lt_of_lt_of_le hi1 hle3.1
    obtain ⟨tmps3, D3, hb3, hs3'⟩ := loop_of S3 hi3 hg3
    have hbe3 : m3.at_ i = m.at_ i := (hle3.2 i hi1).trans hbe
    rw [hbe3] at hb3
    have fin : ∀ (jump : Option Code) (h4 : VH), R (.bool jump.isNone) (h3.set i (.loop L (if jump.isNone then .ready else .done) jump)) → ∃ v w', (Instr.endRound (m.at_ i).blk jump).run P w3 = .ok v w' ∧
        (fun e w' => ∃ m' v v' h', e = Ending.returned v' ∧ R v h' ∧ m.le m' ∧ Sim B w0 m' h' w' ∧ VR m' v v') (.returned v) w' := by
      intro jump h4 hR
      have S4 := set_loop (st' := if jump.isNone then .ready else .done) (pe' := jump) S3 hi3 hg3 (by rw [hbe3]; exact hb3) hs3'
      rw [hbe3] at S4
      exact ⟨_, _, run_endRound jump hb3, m3, _, _, _, rfl, hR, Mp.le_trans hle hle3, S4, .bool _⟩
    cases e with
    | normal => exact fin none h3 hq3
    | ret => exact fin (some .ret) h3 hq3
    | exit id => exact fin (some (.exit id)) h3 hq3
    | goto l => exact hq3.elim
    | panic ch => exact hq3.elim
    | outgrown => exact hq3.elim
  | exit id => exact hq.elim
  | ret => exact hq.elim
  | goto l => exact hq.elim
  | panic ch => exact hq.elim
  | outgrown => exact hq.elim

theorem code_ok {P : Program} {N : Nat} {top : Bool} {pc : PC} {c : Code} (hc : Stands P N top pc c) : ∀ (r : Option Nat) (htop : top = true → r = none) (B : Nat) (w0 : World) (s : Slots) (h : VH) (Q : Exit → Slots → VH → Prop) (m : Mp) (a : Act) (w : World) (fx0 : FX), (fx0.no = true → top = false) → pw P pc s h Q → Sim B w0 m h w → SR N m s a.tmps → DF m fx0 a.defers →
    c.wpIn (FW r) 0 P (Post B w0 N m fx0 Q) a w := by
  induction hc with
  | skip => intro r htop B w0 s h Q m a w fx0 hno hp S hs hd; exact wpIn_skip ⟨m, s, h, hp, m.le_refl, S, hs, hd⟩
  | label l => intro r htop B w0 s h Q m a w fx0 hno hp S hs hd; exact wpIn_label ⟨m, s, h, hp, m.le_refl, S, hs, hd⟩
  | exit id => intro r htop B w0 s h Q m a w fx0 hno hp S hs hd; exact wpIn_exit ⟨m, s, h, hp, m.le_refl, S, hs, hd⟩
  | ret => intro r htop B w0 s h Q m a w fx0 hno hp S hs hd; exact wpIn_ret ⟨m, s, h, hp, m.le_refl, S, hs, hd⟩
  | ops id os gs hg =>
    intro r htop B w0 s h Q m a w fx0 hno hp S hs hd
    exact wpIn_region_list (ops_ok os.toList gs hg s h _ m a w hp S hs rfl (fun m' s' h' a' w' hK hle S' hs' hd' => ⟨m', s', h', hK, hle, S', hs', by rw [hd']; exact hd.mono hle⟩))
  | quiet id os gs hg hm hB =>
    intro r htop B w0 s h Q m a w fx0 hno hp S hs hd
    refine wpIn_quiet (C := fun w1 => Below w.heap.size w w1) (fun i o ho => hg.nod i o (by simpa using ho)) hm hB (Below.refl _ _).drew ?_
    exact quiet_ok S os.toList gs hg s _ a _ hp hs rfl (fun s' a' hK hs' hd' w' hw' => ⟨m, s', h, hK, m.le_refl, S.below_of' hw', hs', by rw [hd']; exact hd⟩)
  | draw id os gs ps l hg hm hsel hdn hp hn hl =>
    intro r htop B w0 s h Q m a w fx0 hno hpw S hs hd
    exact draw_ok hg hm hsel hdn hp hl hpw S hs rfl (fun m' s' h' a' w' hK hle S' hs' hd' => ⟨m', s', h', hK, hle, S', hs', by rw [hd']; exact hd.mono hle⟩) hn
  | drawT id os gs ps l hg hm hsel hdn hp hn hl =>
    intro r htop B w0 s h Q m a w fx0 hno hpw S hs hd
    exact drawT_ok hg hm hsel hdn hp hl hpw S hs rfl (fun m' s' h' a' w' hK hle S' hs' hd' => ⟨m', s', h', hK, hle, S', hs', by rw [hd']; exact hd.mono hle⟩) hn
  | seq h1 h2 ih1 ih2 =>
    intro r htop B w0 s h Q m a w fx0 hno hp S hs hd
    refine wpIn_seq (wpIn_mono (ih1 r htop B w0 s h _ m a w fx0 hno hp S hs hd) ?_)
    rintro e a1 w1 ⟨m1, s1, h1', hq, hle, S1, hs1, hd1⟩
    cases e with
    | normal =>
      refine wpIn_mono (ih2 r htop B w0 s1 h1' Q m1 a1 w1 fx0 hno hq S1 hs1 hd1) ?_
      rintro e a2 w2 ⟨m2, s2, h2', hq2, hle2, S2, hs2, hd2⟩
      exact ⟨m2, s2, h2', hq2, Mp.le_trans hle hle2, S2, hs2, hd2⟩
    | exit id => exact ⟨m1, s1, h1', hq, hle, S1, hs1, hd1⟩
    | goto l => exact ⟨m1, s1, h1', hq, hle, S1, hs1, hd1⟩
    | ret => exact ⟨m1, s1, h1', hq, hle, S1, hs1, hd1⟩
    | panic ch => exact ⟨m1, s1, h1', hq, hle, S1, hs1, hd1⟩
    | outgrown => exact ⟨m1, s1, h1', hq, hle, S1, hs1, hd1⟩
  | @cond top x r pa pb c d hx h1 h2 ih1 ih2 =>
    intro r htop B w0 s h Q m a w fx0 hno hp S hs hd
    simp only [pw] at hp
    have hv := compRef_ok hx hs
    split at hp
    · rename_i t ht
      rw [ht] at hv
      refine wpIn_cond hv.bool_inv ?_
      cases t with
      | true => exact ih1 r htop B w0 s h Q m a w fx0 hno (hp.1 rfl) S hs hd
      | false => exact ih2 r htop B w0 s h Q m a w fx0 hno (hp.2 rfl) S hs hd
    · exact hp.elim
  | @block top id pa c h1 ih =>
    intro r htop B w0 s h Q m a w fx0 hno hp S hs hd
    refine wpIn_block (wpIn_mono (ih r htop B w0 s h _ m a w fx0 hno hp S hs hd) ?_)
    rintro e a1 w1 ⟨m1, s1, h1', hq, hle, S1, hs1, hd1⟩
    cases e with
    | exit i =>
      simp only [Exit.inBlock]
      simp only at hq
      split at hq
      · rename_i hi; rw [if_pos hi]; exact ⟨m1, s1, h1', hq, hle, S1, hs1, hd1⟩
      · rename_i hi; rw [if_neg hi]; exact ⟨m1, s1, h1', hq, hle, S1, hs1, hd1⟩
    | normal => exact ⟨m1, s1, h1', hq, hle, S1, hs1, hd1⟩
    | goto l => exact ⟨m1, s1, h1', hq, hle, S1, hs1, hd1⟩
    | ret => exact ⟨m1, s1, h1', hq, hle, S1, hs1, hd1⟩
    | panic ch => exact ⟨m1, s1, h1', hq, hle, S1, hs1, hd1⟩
    | outgrown => exact ⟨m1, s1, h1', hq, hle, S1, hs1, hd1⟩
  | @loop top pa c h1 ih =>
    intro r htop B w0 s h Q m a w fx0 hno hp S hs hd
    obtain ⟨J, n, hJ, hround⟩ := hp
    refine wpIn_loop_ghost (fun n a w => ∃ m' s h, J n s h ∧ m.le m' ∧ Sim B w0 m' h w ∧ SR N m' s a.tmps ∧ DF m' fx0 a.defers) n ⟨m, s, h, hJ, m.le_refl, S, hs, hd⟩ ?_
    rintro n a1 w1 ⟨m1, s1, h1', hJ1, hle, S1, hs1, hd1⟩
    refine wpIn_mono (ih r htop B w0 s1 h1' _ m1 a1 w1 fx0 hno (hround n s1 h1' hJ1) S1 hs1 hd1) ?_
    rintro e a2 w2 ⟨m2, s2, h2', hq, hle2, S2, hs2, hd2⟩
    have hle' := Mp.le_trans hle hle2
    cases e with
    | normal =>
      obtain ⟨k, hk, hJk⟩ := hq
      exact ⟨k, hk, m2, s2, h2', hJk, hle', S2, hs2, hd2⟩
    | exit i => exact ⟨m2, s2, h2', hq, hle', S2, hs2, hd2⟩
    | goto l => exact ⟨m2, s2, h2', hq, hle', S2, hs2, hd2⟩
    | ret => exact ⟨m2, s2, h2', hq, hle', S2, hs2, hd2⟩
    | panic ch => exact ⟨m2, s2, h2', hq, hle', S2, hs2, hd2⟩
    | outgrown => exact ⟨m2, s2, h2', hq, hle', S2, hs2, hd2⟩
  | goto l => intro r htop B w0 s h Q m a w fx0 hno hp S hs hd; exact wpIn_goto ⟨m, s, h, hp, m.le_refl, S, hs, hd⟩
  | scope h1 ih =>
    intro r htop B w0 s h Q m a w fx0 hno hp S hs hd
    refine wpIn_scopeG (wpIn_mono (ih r htop B w0 s h _ m a w fx0 hno hp S hs hd) ?_)
    rintro e a1 w1 ⟨m1, s1, h1', hq, hle, S1, hs1, hd1⟩
    cases e with
    | goto l => exact hq.elim
    | exit i => exact ⟨m1, s1, h1', hq, hle, S1, hs1, hd1⟩
    | normal => exact ⟨m1, s1, h1', hq, hle, S1, hs1, hd1⟩
    | ret => exact ⟨m1, s1, h1', hq, hle, S1, hs1, hd1⟩
    | panic ch => exact ⟨m1, s1, h1', hq, hle, S1, hs1, hd1⟩
    | outgrown => exact ⟨m1, s1, h1', hq, hle, S1, hs1, hd1⟩
  | scopeL h1 hl ht ih iht =>
    intro r htop B w0 s h Q m a w fx0 hno hp S hs hd
    refine wpIn_scopeG (wpIn_mono (ih r htop B w0 s h _ m a w fx0 hno hp S hs hd) ?_)
    rintro e a1 w1 ⟨m1, s1, h1', hq, hle, S1, hs1, hd1⟩
    cases e with
    | goto l' =>
      obtain ⟨rfl, hq⟩ := hq
      refine ⟨_, hl, wpIn_mono (iht r htop B w0 s1 h1' _ m1 a1 w1 fx0 hno hq S1 hs1 hd1) ?_⟩
      rintro e a2 w2 ⟨m2, s2, h2', hq2, hle2, S2, hs2, hd2⟩
      have hle' := Mp.le_trans hle hle2
      cases e with
      | goto l => exact hq2.elim
      | exit i => exact ⟨m2, s2, h2', hq2, hle', S2, hs2, hd2⟩
      | normal => exact ⟨m2, s2, h2', hq2, hle', S2, hs2, hd2⟩
      | ret => exact ⟨m2, s2, h2', hq2, hle', S2, hs2, hd2⟩
      | panic ch => exact ⟨m2, s2, h2', hq2, hle', S2, hs2, hd2⟩
      | outgrown => exact ⟨m2, s2, h2', hq2, hle', S2, hs2, hd2⟩
    | exit i => exact ⟨m1, s1, h1', hq, hle, S1, hs1, hd1⟩
    | normal => exact ⟨m1, s1, h1', hq, hle, S1, hs1, hd1⟩
    | ret => exact ⟨m1, s1, h1', hq, hle, S1, hs1, hd1⟩
    | panic ch => exact ⟨m1, s1, h1', hq, hle, S1, hs1, hd1⟩
    | outgrown => exact ⟨m1, s1, h1', hq, hle, S1, hs1, hd1⟩
  | @rangeF x fr ps pa pb c d hx hps h1 h2 iha ihb =>
    intro r htop B w0 s h Q m a w fx0 hno hp S hs hd
    obtain rfl := htop rfl
    obtain ⟨g, first, cap, hev, hfn, hp⟩ := hp
    have hvr := compRef_ok hx hs
    rw [hev] at hvr
    obtain ⟨a', b', hav, hv1, hv2⟩ := func_inv hvr
    refine wpIn_rangeFunc ?_
    intro fn _
    obtain ⟨L, hL⟩ : ∃ L : LoopKey, L = ⟨fn, N, s, ps.toList, c, d⟩ := ⟨_, rfl⟩
    -- the two blocks
    have S1 := S.addFx
    have hDsz : (w.alloc (.deferred (some []))).heap.size = w.heap.size + 1 := by simp
    obtain ⟨m1, hm1⟩ : ∃ m1, m1 = (m.addFx w.heap.size).push ⟨w.heap.size + 1, 0, 0, 0⟩ := ⟨_, rfl⟩
    obtain ⟨W1, hW1⟩ : ∃ W1, W1 = (w.alloc (.deferred (some []))).alloc (.loop { state := .ready, pending := none, fn, tmps := a.tmps, params := ps, assign := c, body := d, defers := w.heap.size }) := ⟨_, rfl⟩
    have hle1 : m.le m1 := by rw [hm1]; exact Mp.le_trans (m.addFx_le _) (Mp.push_le _ _)
    have S2 : Sim B w0 m1 (h.push (.loop L .ready none)) W1 := by
      rw [hm1, hW1]
      refine S1.push _ _ _ (by simp) ⟨a.tmps, w.heap.size, ?_, by rw [hL]; exact hs.size, fun j hj => by rw [hL]; exact (hs.rel j hj).mono (by rw [← hm1]; exact hle1)⟩
      have := heap_alloc_new' (w.alloc (.deferred (some []))) (.loop { state := .ready, pending := none, fn, tmps := a.tmps, params := ps, assign := c, body := d, defers := w.heap.size })
      rw [hDsz] at this
      rw [hL]
      simpa using this
    have hn1 : m.n < m1.n := by rw [hm1]; simp [Mp.addFx]
    have hblk : (m1.at_ m.n).blk = w.heap.size + 1 := by
      rw [hm1]
      have := Mp.at_push_new (m.addFx w.heap.size) ⟨w.heap.size + 1, 0, 0, 0⟩
      rw [show (m.addFx w.heap.size).n = m.n from rfl] at this
      rw [this]
    have hcall := hp L (by rw [hL]) (by rw [hL]) (fun i args h1 pe R hg hl hpw => round_ok (N := N) (by rw [hL])
      (fun r B w0 s h Q m a w fx0 hno hp S hs hd => by rw [hL]; exact iha r (fun e => by cases e) B w0 s h Q m a w fx0 hno hp S hs hd)
      (fun r B w0 s h Q m a w fx0 hno hp S hs hd => by rw [hL]; exact ihb r (fun e => by cases e) B w0 s h Q m a w fx0 hno hp S hs hd) hg (by rw [hL]; exact hl) (by rw [hL] at hpw ⊢; exact hpw))
      B w0 m1 W1 (a' ++ #[.func (.yield (w.heap.size + 1)) #[] #[]] ++ b') S2 (by
        simp only [Array.toList_append]
        have hy : VRL m1 [.func (.yield h.n) #[] #[]] [.func (.yield (w.heap.size + 1)) #[] #[]] := by
          refine VRL.one ?_
          have := VR.yld (m := m1) (i := m.n) hn1
          rw [hblk, S.n] at this
          exact this
        exact ((VRL.mono hle1 hv1).append hy).append (VRL.mono hle1 hv2))
    refine ⟨w.heap.size + 1, [{ target := .collected w.heap.size, args := #[] }], W1, { target := .fn (.func g) b', args := a' ++ #[.func (.yield (w.heap.size + 1)) #[] #[]] }, W1, g, a' ++ #[.func (.yield (w.heap.size + 1)) #[] #[]] ++ b', W1, by rw [hW1]; exact run_enterLoop_outer _ _ _ _ _, ?_, fun _ _ => trivial, ?_, fun h => (by cases h), ?_⟩
    · simp only [resolve, rangeCall, hav]
      simp [Act.eval, Deferred.ofValue]
    · simp [invoke, callOK hfn]
    · refine callsIn_FW (r := none) (hcall.mono ?_)
      rintro e w2 ⟨m2, v, v', h2, rfl, ⟨st, pe, hg2, hst, hq⟩, hle2, S3, hv⟩
      have hn2 : m.n < m2.n := Nat.lt_of_lt_of_le hn1 hle2.1
      have hbe : (m2.at_ m.n).blk = w.heap.size + 1 := by rw [hle2.2 m.n hn1]; exact hblk
      rw [← S.n] at hg2 hq
      obtain ⟨tmps3, D3, hb3, hs3⟩ := loop_of S3 hn2 hg2
      rw [hbe] at hb3
      have S4 := set_loop (st' := .exhausted) (pe' := pe) S3 hn2 hg2 (by rw [hbe]; exact hb3) hs3
      rw [hbe] at S4
      have S5 := S4.kill m.n
      have hset : (h2.set m.n (.loop L .exhausted pe)).set m.n .dead = h2.set m.n .dead := by
        unfold VH.set
        congr 1
        funext j
        simp only
        split <;> rfl
      rw [hset] at S5
      have hle3 : m.le m2 := Mp.le_trans hle1 hle2
      have hD : w.heap.size ∈ m2.fx := hle2.fx _ (by rw [hm1]; exact List.mem_cons_self ..)
      obtain ⟨hd0, Ds, hd1, hd2, hd3, hd4⟩ := hd
      have hnew : w.heap.size ∉ Ds := fun hx => by
        have := S.fx_lt (hd3 _ hx).1
        omega
      have hfx0 : w.heap.size ∉ fx0.l := fun hx => by
        have := S.fx_lt (hd0 _ hx)
        omega
      have run := run_endLoop (P := P) hb3 hst
      have post : ∀ e, Q e s (h2.set m.n .dead) → Post B w0 N m fx0 Q e { a with defers := [{ target := .collected w.heap.size, args := #[] }] ++ a.defers } _ := fun e hq => ⟨m2, s, _, hq, hle3, S5, hs.mono hle3, fun D hD => hle3.fx _ (hd0 D hD), w.heap.size :: Ds, by rw [hd1]; rfl, List.nodup_cons.2 ⟨hnew, hd2⟩, fun D hD' => by
        rcases List.mem_cons.1 hD' with rfl | hD'
        · exact ⟨hD, hfx0⟩
        · exact ⟨hle3.fx _ (hd3 D hD').1, (hd3 D hD').2⟩, fun h => by cases hno h⟩
      refine ⟨pe, _, run, ?_⟩
      cases pe with
      | none => exact post _ hq
      | some j =>
        cases j <;> first
          | exact wpIn_ret (post _ hq)
          | exact wpIn_exit (post _ hq)
          | exact hq.elim

end Go.Proofs.Ytdnkpgbggpbgaaa.Pm
