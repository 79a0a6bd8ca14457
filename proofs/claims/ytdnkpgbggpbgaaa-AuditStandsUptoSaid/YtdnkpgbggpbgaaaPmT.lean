/- The pure machine, part T: a region that draws its order, with operations that turn the heap. -/
import Derived.Test.YtdnkpgbggpbgaaaPmX
import Derived.OrdersIn
set_option linter.unusedVariables false
set_option linter.unusedSimpArgs false
namespace Go.Proofs.Ytdnkpgbggpbgaaa.Pm
open Go.RowKit

/-! ### what an instruction looks at -/
theorem ev_congr {s s' : Slots} {r : Ref} (h : ∀ t, refT r = some t → s t = s' t) : ev s r = ev s' r := by
  cases r with
  | t n => exact h n rfl
  | k v => rfl
theorem evo_congr {s s' : Slots} {r : Option Ref} (h : ∀ x ∈ optRefs r, ev s x = ev s' x) : r.map (ev s) = r.map (ev s') := by
  cases r with
  | none => rfl
  | some r => simp only [Option.map_some]; rw [h r (by simp [optRefs])]
theorem evl_congr {s s' : Slots} {l : List Ref} (h : ∀ x ∈ l, ev s x = ev s' x) : l.map (ev s) = l.map (ev s') := List.map_congr_left h
theorem evp_congr {s s' : Slots} {l : List (Nat × Nat × Ref)} (h : ∀ x ∈ l.map (·.2.2), ev s x = ev s' x) : l.map (fun (o, n, r) => (o, n, ev s r)) = l.map (fun (o, n, r) => (o, n, ev s' r)) :=
  List.map_congr_left fun p hp => by
    obtain ⟨o, n, r⟩ := p
    show (o, n, ev s r) = (o, n, ev s' r)
    rw [h r (List.mem_map.2 ⟨_, hp, rfl⟩)]
theorem pstep_congr {i : I} {s s' : Slots} {h : VH} (hr : ∀ r ∈ i.refs, ev s r = ev s' r) : pstep i s h = pstep i s' h := by
  cases i <;> simp only [I.refs] at hr <;> simp only [pstep]
  case build z ps => rw [evp_congr hr]
  case row a b z ps => rw [evp_congr hr]
  case mkFunc f xs ys =>
    rw [evl_congr (l := xs) (fun x hx => hr x (by simp [hx])), evl_congr (l := ys) (fun x hx => hr x (by simp [hx]))]
  case slS e x lo hi mx =>
    rw [hr x (by simp), evo_congr (r := lo) (fun y hy => hr y (by simp [hy])), evo_congr (r := hi) (fun y hy => hr y (by simp [hy])), evo_congr (r := mx) (fun y hy => hr y (by simp [hy]))]
  case slA l e x lo hi =>
    rw [hr x (by simp), evo_congr (r := lo) (fun y hy => hr y (by simp [hy])), evo_congr (r := hi) (fun y hy => hr y (by simp [hy]))]
  case slStr x lo hi =>
    rw [hr x (by simp), evo_congr (r := lo) (fun y hy => hr y (by simp [hy])), evo_congr (r := hi) (fun y hy => hr y (by simp [hy]))]
  all_goals first
    | rfl
    | (simp only [List.mem_cons, List.not_mem_nil, or_false, forall_eq_or_imp, forall_eq] at hr; simp only [hr]; done)
    | (simp only [List.mem_cons, List.not_mem_nil, or_false, forall_eq_or_imp, forall_eq] at hr; obtain ⟨h1, h2⟩ := hr; simp only [h1, h2]; done)
    | (simp only [List.mem_cons, List.not_mem_nil, or_false, forall_eq_or_imp, forall_eq] at hr; obtain ⟨h1, h2, h3⟩ := hr; simp only [h1, h2, h3]; done)
theorem pstep_pure {i : I} (hi : pureI i = true) {s : Slots} {h h1 : VH} {v : Value} (hp : pstep i s h = some (v, h1)) (h' : VH) : pstep i s h' = some (v, h') := by
  cases i <;> first
    | (cases hi; done)
    | (simp only [pstep] at hp ⊢
       revert hp
       repeat' split
       all_goals intro hp
       all_goals first
         | (cases hp; done)
         | (injection hp with hp; injection hp with hp1 hp2; rw [hp1]; done)
         | (rw [Option.map_eq_some_iff] at hp ⊢; obtain ⟨a, ha, hb⟩ := hp; injection hb with hb1 hb2; exact ⟨a, ha, by rw [hb1]⟩))
    | (simp only [pstep] at hp ⊢
       repeat' split at hp
       all_goals first
         | (cases hp; done)
         | (injection hp with hp; injection hp with hp1 hp2; subst hp1; simp_all; done)
         | (simp only [Option.map_eq_some_iff] at hp ⊢; obtain ⟨a, ha, hb⟩ := hp; injection hb with hb1 hb2; subst hb1; simp_all; done)
         | (simp_all; done))

/-! ### stale slots -/
def blank (D : List Nat) (s : Slots) : Slots := fun t => if t ∈ D then undef else s t
def Act.blank (D : List Nat) (a : Act) : Act := { a with tmps := (a.tmps.mapIdx fun t v => if t ∈ D then undef else v) }
structure SRD (N : Nat) (m : Mp) (D : List Nat) (s : Slots) (tmps : Array Value) : Prop where
  size : tmps.size = N
  rel : ∀ (j : Nat) (hj : j < tmps.size), j ∉ D → VR m (s j) tmps[j]
theorem SRD.blank {N : Nat} {m : Mp} {D : List Nat} {s : Slots} {a : Act} (h : SRD N m D s a.tmps) : SR N m (blank D s) (Act.blank D a).tmps := by
  refine ⟨by simp [Act.blank, h.size], fun j hj => ?_⟩
  have hj' : j < a.tmps.size := by simpa [Act.blank] using hj
  simp only [Pm.blank, Act.blank, Array.getElem_mapIdx]
  split
  · exact VR.undef m
  · rename_i hn; exact h.rel j hj' hn
theorem SRD.mono {N : Nat} {m m' : Mp} {D : List Nat} {s : Slots} {t : Array Value} (h : SRD N m D s t) (hle : m.le m') : SRD N m' D s t := ⟨h.size, fun j hj hn => (h.rel j hj hn).mono hle⟩
theorem SRD.sub {N : Nat} {m : Mp} {D D' : List Nat} {s : Slots} {t : Array Value} (h : SRD N m D s t) (hd : ∀ x ∈ D, x ∈ D') : SRD N m D' s t := ⟨h.size, fun j hj hn => h.rel j hj (fun hx => hn (hd j hx))⟩
/-- what is put is no longer stale. -/
theorem SRD.put {N : Nat} {m : Mp} {D : List Nat} {s : Slots} {a : Act} (h : SRD N m D s a.tmps) {d : Option Nat} {v v' : Value} (hv : VR m v v') : SRD N m D (putS s d v) (a.put d v').tmps := by
  cases d with
  | none => exact h
  | some d =>
    refine ⟨by simp [Act.put, h.size], fun j hj hn => ?_⟩
    have hj' : j < a.tmps.size := by simpa [Act.put] using hj
    by_cases hjd : j = d
    · subst hjd
      simpa [putS, upd, Act.put, Array.getElem_setIfInBounds, hj'] using hv
    · have := h.rel j hj' hn
      simpa [putS, upd, Act.put, Array.getElem_setIfInBounds, hj', hjd, Ne.symm hjd] using this
theorem Act.eval_blank {D : List Nat} {a : Act} {x : Operand} (h : ∀ t, x = .tmp t → t ∉ D) : (Act.blank D a).eval x = a.eval x := by
  cases x with
  | tmp t =>
    have := h t rfl
    simp only [Act.eval, Act.blank, Array.getElem?_mapIdx]
    cases a.tmps[t]? <;> simp [this]
  | _ => rfl
theorem execOp_blank {ops : Array Oper} {o : Oper} (hs : ∀ cs b, o.op ≠ .select cs b) {D : List Nat} (a : Act) (h : ∀ d ∈ D, d ∉ o.looksAt ops) : execOp (Act.blank D a).eval o = execOp a.eval o :=
  execOp_congr o hs fun x hx => Act.eval_blank fun t hxt hd => h t hd (by
    subst hxt
    exact List.mem_append_left _ (List.mem_filterMap.2 ⟨.tmp t, by simpa using hx, rfl⟩))
theorem wanted_blank {ops : Array Oper} {o : Oper} {D : List Nat} (a : Act) (h : ∀ d ∈ D, d ∉ o.looksAt ops) : Region.wanted o (yielded ops (Act.blank D a).tmps) = Region.wanted o (yielded ops a.tmps) := by
  unfold Region.wanted
  cases hg : o.guard with
  | none => rfl
  | some gw =>
    obtain ⟨g, want⟩ := gw
    have hy : yielded ops (Act.blank D a).tmps g = yielded ops a.tmps g := by
      unfold yielded
      cases ht : (ops[g]?).bind (·.dst) with
      | none => rfl
      | some t =>
        have hn : t ∉ D := fun hd => h t hd (by simp [Oper.looksAt, hg, ht])
        simp only [Act.blank, Array.getElem?_mapIdx]
        cases a.tmps[t]? <;> simp [hn]
    simp only [hy]
theorem pstep_blank {g : GI} {D : List Nat} (s : Slots) (h : VH) (hd : ∀ d ∈ D, d ∉ g.looks) : pstep g.i (blank D s) h = pstep g.i s h :=
  pstep_congr fun r hr => ev_congr fun t ht => by
    simp only [blank]
    rw [if_neg (fun hx => hd t hx (by
      unfold GI.looks
      exact List.mem_append_left _ (List.mem_filterMap.2 ⟨r, hr, ht⟩)))]
theorem wantedS_congr {g : GI} {s s' : Slots} (h : ∀ t b, g.guard = some (t, b) → s t = s' t) : wantedS s g.guard = wantedS s' g.guard := by
  cases hg : g.guard with
  | none => rfl
  | some p =>
    obtain ⟨t, b⟩ := p
    simp only [wantedS, h t b hg]
theorem looks_guard {g : GI} {t : Nat} {b : Bool} (h : g.guard = some (t, b)) : t ∈ g.looks := by simp [GI.looks, h]
theorem looks_ref {g : GI} {r : Ref} {t : Nat} (hr : r ∈ g.i.refs) (ht : refT r = some t) : t ∈ g.looks := List.mem_append_left _ (List.mem_filterMap.2 ⟨r, hr, ht⟩)
theorem pwOps_congr {P : Program} {g : GI} {s s' : Slots} {h : VH} {K K' : Slots → VH → Prop} (he : ∀ t ∈ g.looks, s t = s' t) (hK : ∀ v h', K (putS s g.dst v) h' → K' (putS s' g.dst v) h') (hp : pwOps P [g] s h K) : pwOps P [g] s' h K' := by
  have hw : wantedS s' g.guard = wantedS s g.guard := wantedS_congr fun t b hb => (he t (looks_guard hb)).symm
  have hev : ∀ r ∈ g.i.refs, ev s r = ev s' r := fun r hr => ev_congr fun t ht => he t (looks_ref hr ht)
  simp only [pwOps] at hp ⊢
  rw [hw]
  split at hp
  · rename_i hw1
    rw [if_pos hw1]
    have hst := pstep_congr (h := h) hev
    split at hp
    · rename_i f args hi
      rw [← evl_congr (l := args) (fun x hx => hev x (by rw [hi]; exact hx))]
      exact hp.mono hK
    · rename_i fr args hi
      rw [← hev fr (by rw [hi]; simp [I.refs]), ← evl_congr (l := args) (fun x hx => hev x (by rw [hi]; simp [I.refs, hx]))]
      split at hp
      · exact ⟨hp.1, hp.2.mono hK⟩
      · exact hp.mono hK
      · exact hp.elim
    · rename_i x hi
      rw [← hev x (by rw [hi]; simp [I.refs])]
      split at hp
      · exact fun q hq => hK _ _ (hp q hq)
      · exact hp.elim
    · rename_i i hn1 hn2 hn3
      rw [hst] at hp
      split at hp
      · rename_i v h' he
        exact hK _ _ hp
      · exact hp.elim
  · rename_i hw1
    rw [if_neg hw1]
    exact hK _ _ hp

/-! ### the whole region -/
theorem pstep_read {i : I} (hi : readI i = true) {s : Slots} {h h' : VH} {v : Value} (hp : pstep i s h = some (v, h')) : h' = h := by
  cases i <;> first
    | (cases hi; done)
    | (simp only [pstep] at hp
       repeat' split at hp
       all_goals first
         | (cases hp; done)
         | (injection hp with hp; injection hp with hp1 hp2; exact hp2.symm)
         | (simp only [Option.map_eq_some_iff, Option.bind_eq_some_iff] at hp; obtain ⟨a, ha, hb⟩ := hp; injection hb with hb1 hb2; exact hb2.symm)
         | (simp only [Option.map_eq_some_iff, Option.bind_eq_some_iff] at hp; obtain ⟨a, ha, b, hb, hc⟩ := hp; injection hc with hb1 hb2; exact hb2.symm))

theorem GCs.at_ {P : Program} {N : Nat} {ops : Array Oper} : ∀ {os : List Oper} {gs : List GI}, GCs P N ops os gs → os.length = gs.length ∧ ∀ (j : Nat) (o : Oper) (g : GI), os[j]? = some o → gs[j]? = some g → GC P N ops o g
  | [], [], _ => ⟨rfl, fun j o g h => by cases h⟩
  | o :: os, g :: gs, h => ⟨by have := (GCs.at_ h.2).1; simp [this], fun j o' g' ho hg => by
      cases j with
      | zero => simp at ho hg; subst ho; subst hg; exact h.1
      | succ j => exact (GCs.at_ h.2).2 j o' g' (by simpa using ho) (by simpa using hg)⟩
  | [], _ :: _, h => h.elim
  | _ :: _, [], h => h.elim

def dstsOf (gs : List GI) (U : List Nat) : List Nat := U.filterMap fun j => (gs[j]?).bind (·.dst)
theorem mem_dstsOf {gs : List GI} {U : List Nat} {d : Nat} : d ∈ dstsOf gs U ↔ ∃ u ∈ U, ∃ g, gs[u]? = some g ∧ g.dst = some d := by
  simp [dstsOf, List.mem_filterMap, Option.bind_eq_some_iff]

theorem sepB_spec {ops : Array Oper} {gs : List GI} {i j : Nat} (h : sepB ops gs i j = true) {oi oj : Oper} {gi gj : GI} (h1 : ops[i]? = some oi) (h2 : ops[j]? = some oj) (h3 : gs[i]? = some gi) (h4 : gs[j]? = some gj) :
    (∀ d, oj.dst = some d → oi.dst ≠ some d ∧ d ∉ oi.looksAt ops ∧ d ∉ gi.looks) ∧ (i ∈ edges ops j ∨ ∀ d, oi.dst = some d → d ∉ oj.looksAt ops ∧ d ∉ gj.looks) := by
  unfold sepB at h
  rw [h1, h2, h3, h4] at h
  simp only [Bool.and_eq_true, Bool.or_eq_true] at h
  obtain ⟨ha, hb⟩ := h
  refine ⟨fun d hd => ?_, ?_⟩
  · rw [hd] at ha
    simp only [Bool.and_eq_true, bne_iff_ne, Bool.not_eq_true', List.contains_eq_mem, decide_eq_false_iff_not] at ha
    exact ⟨ha.1.1, ha.1.2, ha.2⟩
  · rcases hb with hb | hb
    · exact .inl (by simpa using hb)
    · refine .inr fun d hd => ?_
      rw [hd] at hb
      simp only [Bool.and_eq_true, Bool.not_eq_true', List.contains_eq_mem, decide_eq_false_iff_not] at hb
      exact hb
theorem selfB_spec {ops : Array Oper} {gs : List GI} {j : Nat} (h : selfB ops gs j = true) {o : Oper} {g : GI} (h1 : ops[j]? = some o) (h2 : gs[j]? = some g) : ∀ d, o.dst = some d → d ∉ o.looksAt ops ∧ d ∉ g.looks := by
  unfold selfB at h
  rw [h1, h2] at h
  intro d hd
  simp only [hd, Bool.and_eq_true, Bool.not_eq_true', List.contains_eq_mem, decide_eq_false_iff_not] at h
  exact h

/-- an answer stands while what was looked at stands. -/
theorem evalOK_congr {u : GI} {s s' : Slots} {h : VH} (he : ∀ t ∈ u.looks, s t = s' t) (hd : ∀ d, u.dst = some d → s d = s' d) (hp : evalOK u s h) : evalOK u s' h := by
  have hw : wantedS s' u.guard = wantedS s u.guard := wantedS_congr fun t b hb => (he t (looks_guard hb)).symm
  have hst : pstep u.i s h = pstep u.i s' h := pstep_congr fun r hr => ev_congr fun t ht => he t (looks_ref hr ht)
  have hdi : ∀ v, dstIs s u.dst v → dstIs s' u.dst v := fun v hv => by
    cases hx : u.dst with
    | none => trivial
    | some d =>
      rw [hx] at hv
      show s' d = v
      rw [← hd d hx]
      exact hv
  unfold evalOK at hp ⊢
  rw [hw, ← hst]
  split at hp
  · rename_i hw1
    rw [if_pos hw1]
    split at hp
    · exact hdi _ hp
    · exact hp.elim
  · rename_i hw1
    rw [if_neg hw1]
    exact hdi _ hp
theorem putS_ne {s : Slots} {d : Option Nat} {v : Value} {t : Nat} (h : d ≠ some t) : putS s d v t = s t := by
  cases d with
  | none => rfl
  | some d =>
    have : t ≠ d := fun e => h (by rw [e])
    simp [putS, upd, this]
theorem evalOK_pure {u : GI} {s : Slots} {h h' : VH} (hu : pureI u.i = true) (hp : evalOK u s h) : evalOK u s h' := by
  unfold evalOK at hp ⊢
  split at hp
  · rename_i hw
    rw [if_pos hw]
    split at hp
    · rename_i v h1 he
      rw [pstep_pure hu he h']
      exact hp
    · exact hp.elim
  · rename_i hw
    rw [if_neg hw]
    exact hp
theorem lateOK_mem {s : Slots} {h : VH} : ∀ {l : List GI}, lateOK s h l → ∀ u ∈ l, evalOK u s h
  | [], _, u, hu => by cases hu
  | x :: r, hl, u, hu => by
    rcases List.mem_cons.1 hu with rfl | hu
    · exact hl.1
    · exact lateOK_mem hl.2 u hu

inductive Anc (ops : Array Oper) (e : Nat) : Nat → Prop
  | one {x : Nat} (h : x ∈ edges ops e) : Anc ops e x
  | step {x y : Nat} (h : x ∈ edges ops y) (k : Anc ops e y) : Anc ops e x
theorem clos_anc {ops : Array Oper} {e : Nat} : ∀ (f : Nat) (todo acc : List Nat), (∀ x ∈ todo, Anc ops e x) → (∀ x ∈ acc, Anc ops e x) → ∀ x ∈ clos ops f todo acc, Anc ops e x
  | 0, _, acc, _, ha, x, hx => ha x hx
  | _ + 1, [], acc, _, ha, x, hx => ha x hx
  | f + 1, y :: todo, acc, ht, ha, x, hx => by
    simp only [clos] at hx
    split at hx
    · exact clos_anc f todo acc (fun z hz => ht z (List.mem_cons_of_mem _ hz)) ha x hx
    · refine clos_anc f _ _ (fun z hz => ?_) (fun z hz => ?_) x hx
      · rcases List.mem_append.1 hz with hz | hz
        · exact .step hz (ht y (by simp))
        · exact ht z (List.mem_cons_of_mem _ hz)
      · rcases List.mem_cons.1 hz with rfl | hz
        · exact ht _ (by simp)
        · exact ha z hz
theorem ancs_anc {ops : Array Oper} {e x : Nat} (h : x ∈ ancs ops e) : Anc ops e x := clos_anc _ _ _ (fun x hx => .one hx) (fun x hx => by cases hx) x h
theorem Anc.listed {ops : Array Oper} {e x : Nat} (h : Anc ops e x) {L : Nat → Prop} (hc : ∀ j, L j → ∀ y ∈ edges ops j, L y) (he : ∀ y ∈ edges ops e, L y) : L x := by
  induction h with
  | one h => exact he _ h
  | step h k ih => exact hc _ ih _ h

/-- where the plan stands (X: what it has done, R: the reads of it), and where the run (U: the reads that it has yet to do). -/
structure InvC (P : Program) (ops : Array Oper) (gs : List GI) (K : Slots → VH → Prop) (s : Slots) (h : VH) (U X R : List Nat) (ps : PT) : Prop where
  ur : ∀ u ∈ U, u ∈ R
  rx : ∀ u ∈ R, u ∈ X
  xlt : ∀ x ∈ X, x < ops.size
  nod : U.Nodup
  sep : ∀ i ∈ R, ∀ j ∈ R, i ≠ j → sepB ops gs i j = true ∨ sepB ops gs j i = true
  self : ∀ i ∈ R, selfB ops gs i = true
  red : ∀ i ∈ R, atB gs readI i = true
  ev : ∀ u ∈ U, ∀ g, gs[u]? = some g → evalOK g s h
  plan : planT ops gs ps X R [] = true
  pw : ∃ l, dtOf gs ps = some l ∧ pwT P l s h K

theorem dtOf_step {gs : List GI} {p : PI} {ps : PT} {l : DT} (h : dtOf gs (.step p ps) = some l) : ∃ g r, gs[p.j]? = some g ∧ dtOf gs ps = some r ∧ l = .step ⟨g, p.late.filterMap (gs[·]?)⟩ r := by
  simp only [dtOf, Option.bind_eq_some_iff, diOf, Option.map_eq_some_iff] at h
  obtain ⟨d, ⟨g, hg, rfl⟩, r, hr, rfl⟩ := h
  exact ⟨g, r, hg, hr, rfl⟩
theorem dtOf_alt {gs : List GI} {a b : PT} {l : DT} (h : dtOf gs (.alt a b) = some l) : ∃ x y, dtOf gs a = some x ∧ dtOf gs b = some y ∧ l = .alt x y := by
  simp only [dtOf, Option.bind_eq_some_iff, Option.map_eq_some_iff] at h
  obtain ⟨x, hx, y, hy, rfl⟩ := h
  exact ⟨x, y, hx, hy, rfl⟩

variable {P : Program} {N : Nat} {ops : Array Oper} {gs : List GI}
theorem gs_at (hgc : GCs P N ops ops.toList gs) {j : Nat} (hj : j < ops.size) : ∃ o g, ops[j]? = some o ∧ gs[j]? = some g ∧ GC P N ops o g := by
  have hl := hgc.at_.1
  have hj' : j < gs.length := by rw [← hl]; simpa using hj
  have h1 : ops[j]? = some ops[j] := by simp [hj]
  have h2 : gs[j]? = some gs[j] := by simp [hj']
  exact ⟨_, _, h1, h2, hgc.at_.2 j _ _ (by simp [hj]) h2⟩

/-- what comes first in the plan, or may. -/
theorem heads_of {X R : List Nat} {i : Nat} (hi : i < ops.size) (hr : rdyB ops X i = true) (hX : i ∉ X) : ∀ (ps : PT) (C : List Nat), i ∉ C → ps.isEff = true → planT ops gs ps X R C = true → i ∈ ps.heads
  | .nil, _, _, he, _ => by cases he
  | .step p r, C, hC, he, hp => by
    have he : p.eff = true := he
    simp only [planT, Bool.and_eq_true, decide_eq_true_eq, Bool.not_eq_true', if_pos he, List.contains_eq_mem, decide_eq_false_iff_not, List.all_eq_true, List.mem_range, Bool.or_eq_true, beq_iff_eq] at hp
    obtain ⟨⟨_, ⟨_, honly⟩, _⟩, _⟩ := hp
    rcases honly i hi with ((h1 | h1) | h1) | h1
    · exact absurd h1 hX
    · simp [PT.heads, h1]
    · exact absurd h1 hC
    · rw [hr] at h1; cases h1
  | .alt a b, C, hC, he, hp => by
    simp only [planT, Bool.and_eq_true, beq_iff_eq] at hp
    obtain ⟨⟨⟨⟨h1, h2⟩, _⟩, h4⟩, h5⟩ := hp
    by_cases hb : i ∈ b.heads
    · exact List.mem_append_right _ hb
    · exact List.mem_append_left _ (heads_of hi hr hX a (b.heads ++ C) (fun hm => (List.mem_append.1 hm).elim hb hC) h1 h4)
theorem choose_head {K : Slots → VH → Prop} {s : Slots} {h : VH} {X R : List Nat} {i : Nat} : ∀ (ps : PT) (C : List Nat), i ∈ ps.heads → ps.isEff = true → planT ops gs ps X R C = true → ∀ l, dtOf gs ps = some l → pwT P l s h K →
    ∃ (p : PI) (r : PT) (g : GI) (rr : DT), p.j = i ∧ i < ops.size ∧ i ∉ X ∧ (∀ x ∈ R, sepE ops gs x i = true) ∧ (∀ x ∈ R, (atB gs pureI x = true ∨ x ∈ p.late) ∨ x ∈ ancs ops i) ∧ planT ops gs r (i :: X) R [] = true ∧ gs[i]? = some g ∧ dtOf gs r = some rr ∧
      pwOps P [g] s h (fun s' h' => lateOK s' h' (p.late.filterMap (gs[·]?)) ∧ pwT P rr s' h' K) ∧ r.len + 1 = ps.len
  | .nil, _, _, he, _, _, _, _ => by cases he
  | .step p r, C, hi, he, hp, l, hl, hpw => by
    have he : p.eff = true := he
    simp only [PT.heads, List.mem_singleton] at hi
    subst hi
    simp only [planT, Bool.and_eq_true, decide_eq_true_eq, Bool.not_eq_true', if_pos he, List.contains_eq_mem, decide_eq_false_iff_not, List.all_eq_true, List.mem_range, Bool.or_eq_true, beq_iff_eq] at hp
    obtain ⟨⟨⟨hjlt, hjX⟩, ⟨hsep, _⟩, hlate⟩, hrest⟩ := hp
    obtain ⟨g, rr, hg, hr, rfl⟩ := dtOf_step hl
    exact ⟨p, r, g, rr, rfl, hjlt, hjX, hsep, hlate, hrest, hg, hr, hpw, rfl⟩
  | .alt a b, C, hi, he, hp, l, hl, hpw => by
    simp only [planT, Bool.and_eq_true, beq_iff_eq] at hp
    obtain ⟨⟨⟨⟨h1, h2⟩, h3⟩, h4⟩, h5⟩ := hp
    obtain ⟨x, y, hx, hy, rfl⟩ := dtOf_alt hl
    rcases List.mem_append.1 hi with hi | hi
    · exact choose_head a _ hi h1 h4 x hx hpw.1
    · obtain ⟨p, r, g, rr, k1, k2, k3, k4, k5, k6, k7, k8, k9, k10⟩ := choose_head b _ hi h2 h5 y hy hpw.2
      exact ⟨p, r, g, rr, k1, k2, k3, k4, k5, k6, k7, k8, k9, by rw [k10, ← h3]; rfl⟩
theorem isEff_len : ∀ (ps : PT), ps.isEff = true → ps.len ≠ 0
  | .nil, h => by cases h
  | .step _ _, _ => by simp [PT.len]
  | .alt a b, h => isEff_len a (by simp only [PT.isEff, Bool.and_eq_true] at h; exact h.1)
theorem undone {X R : List Nat} : ∀ (ps : PT) (C : List Nat), planT ops gs ps X R C = true → ps.len ≠ 0 → ∃ j, j < ops.size ∧ j ∉ X
  | .nil, _, _, h => absurd rfl h
  | .step p r, C, hp, _ => by
    simp only [planT, Bool.and_eq_true, decide_eq_true_eq, Bool.not_eq_true', List.contains_eq_mem, decide_eq_false_iff_not] at hp
    exact ⟨p.j, hp.1.1.1, hp.1.1.2⟩
  | .alt a b, C, hp, h => by
    simp only [planT, Bool.and_eq_true] at hp
    exact undone a _ hp.1.2 h

/-- the plan runs its reads as soon as it may. -/
theorem advance (hgc : GCs P N ops ops.toList gs) {K : Slots → VH → Prop} {m : Mp} {tm : Array Value} {listed : Nat → Prop} {h : VH} : ∀ (ps : PT) (s : Slots) (U X R : List Nat), InvC P ops gs K s h U X R ps → SRD N m (dstsOf gs U) s tm →
    (∀ j, j < ops.size → (listed j ↔ j ∈ X ∧ j ∉ U)) →
    ∃ s' U' X' R' ps', InvC P ops gs K s' h U' X' R' ps' ∧ SRD N m (dstsOf gs U') s' tm ∧ (∀ j, j < ops.size → (listed j ↔ j ∈ X' ∧ j ∉ U')) ∧ U'.length + ps'.len = U.length + ps.len ∧ (ps' = .nil ∨ ps'.isEff = true)
  | .nil, s, U, X, R, I, hs, hl => ⟨s, U, X, R, .nil, I, hs, hl, rfl, .inl rfl⟩
  | .alt a b, s, U, X, R, I, hs, hl => ⟨s, U, X, R, .alt a b, I, hs, hl, rfl, .inr (by
      have := I.plan
      simp only [planT, Bool.and_eq_true] at this
      simp only [PT.isEff, Bool.and_eq_true]
      exact this.1.1.1)⟩
  | .step p ps, s, U, X, R, I, hs, hl => by
    by_cases he : p.eff = true
    · exact ⟨s, U, X, R, .step p ps, I, hs, hl, rfl, .inr he⟩
    · have hplan := I.plan
      simp only [planT, Bool.and_eq_true, decide_eq_true_eq, Bool.not_eq_true', if_neg he, List.contains_eq_mem, decide_eq_false_iff_not, List.all_eq_true] at hplan
      obtain ⟨⟨⟨hjlt, hjX⟩, ⟨hsep, hself⟩, hread⟩, hrest⟩ := hplan
      obtain ⟨l, hm, hpw⟩ := I.pw
      obtain ⟨g, r, hg, hr, rfl⟩ := dtOf_step hm
      obtain ⟨o, g', ho, hg', hG⟩ := gs_at hgc hjlt
      rw [hg] at hg'; injection hg' with hg'; subst hg'
      have hri : readI g.i = true := by simpa [atB, hg] using hread
      have hsf := selfB_spec hself ho hg
      rw [← hG.dst] at hsf
      -- what the plan's step gives
      obtain ⟨v, hev, hK⟩ : ∃ v, evalOK g (putS s g.dst v) h ∧ pwT P r (putS s g.dst v) h K := by
        have self : ∀ v, ∀ t ∈ g.looks, putS s g.dst v t = s t := fun v t ht => putS_ne fun e => (hsf t e).2 ht
        have wself : ∀ v, wantedS (putS s g.dst v) g.guard = wantedS s g.guard := fun v => wantedS_congr fun t b hb => self v t (looks_guard hb)
        have pself : ∀ v, pstep g.i (putS s g.dst v) h = pstep g.i s h := fun v => pstep_congr fun r hr => ev_congr fun t ht => self v t (looks_ref hr ht)
        have dself : ∀ v, dstIs (putS s g.dst v) g.dst v := fun v => by
          cases g.dst with
          | none => trivial
          | some d => simp [dstIs, putS, upd]
        simp only [pwT, pwOps] at hpw
        split at hpw
        · rename_i hw
          split at hpw
          · rename_i f args hi; rw [hi] at hri; cases hri
          · rename_i fr args hi; rw [hi] at hri; cases hri
          · rename_i x hi; rw [hi] at hri; cases hri
          · split at hpw
            · rename_i v h' hst
              obtain rfl := pstep_read hri hst
              refine ⟨v, ?_, hpw.2⟩
              unfold evalOK
              rw [wself, if_pos hw, pself, hst]
              exact dself v
            · exact hpw.elim
        · rename_i hw
          refine ⟨undef, ?_, hpw.2⟩
          unfold evalOK
          rw [wself, if_neg hw]
          exact dself undef
      have hsp : ∀ x ∈ R, ∀ gx, gs[x]? = some gx → (∀ d, g.dst = some d → gx.dst ≠ some d ∧ d ∉ gx.looks) := by
        intro x hx gx hgx d hd
        obtain ⟨ox, gx', hox, hgx', hGx⟩ := gs_at hgc (I.xlt x (I.rx x hx))
        rw [hgx] at hgx'; injection hgx' with hgx'; subst hgx'
        have := (sepB_spec (hsep x hx) hox ho hgx hg).1 d (by rw [← hG.dst]; exact hd)
        exact ⟨by rw [hGx.dst]; exact this.1, this.2.2⟩
      have hpU : p.j ∉ U := fun hu => hjX (I.rx _ (I.ur _ hu))
      have I' : InvC P ops gs K (putS s g.dst v) h (p.j :: U) (p.j :: X) (p.j :: R) ps := by
        refine ⟨?_, ?_, ?_, ?_, ?_, ?_, ?_, ?_, by simpa [if_neg he] using hrest, r, hr, hK⟩
        · intro u hu
          rcases List.mem_cons.1 hu with rfl | hu
          · simp
          · exact List.mem_cons_of_mem _ (I.ur u hu)
        · intro u hu
          rcases List.mem_cons.1 hu with rfl | hu
          · simp
          · exact List.mem_cons_of_mem _ (I.rx u hu)
        · intro u hu
          rcases List.mem_cons.1 hu with rfl | hu
          · exact hjlt
          · exact I.xlt u hu
        · exact List.nodup_cons.2 ⟨hpU, I.nod⟩
        · intro i hi j hj hne
          rcases List.mem_cons.1 hi with rfl | hi <;> rcases List.mem_cons.1 hj with rfl | hj
          · exact absurd rfl hne
          · exact .inr (hsep j hj)
          · exact .inl (hsep i hi)
          · exact I.sep i hi j hj hne
        · intro i hi
          rcases List.mem_cons.1 hi with rfl | hi
          · exact hself
          · exact I.self i hi
        · intro i hi
          rcases List.mem_cons.1 hi with rfl | hi
          · exact hread
          · exact I.red i hi
        · intro u hu gu hgu
          rcases List.mem_cons.1 hu with rfl | hu
          · rw [hg] at hgu; injection hgu with hgu; subst hgu; exact hev
          · have hx := I.ur u hu
            refine evalOK_congr (s := s) (fun t ht => (putS_ne fun e => (hsp u hx gu hgu t e).2 ht).symm) (fun d hd => (putS_ne fun e => (hsp u hx gu hgu d e).1 hd).symm) (I.ev u hu gu hgu)
      have hs' : SRD N m (dstsOf gs (p.j :: U)) (putS s g.dst v) tm := by
        refine ⟨hs.size, fun j hj hn => ?_⟩
        have h1 : g.dst ≠ some j := fun e => hn (mem_dstsOf.2 ⟨p.j, by simp, g, hg, e⟩)
        rw [putS_ne h1]
        exact hs.rel j hj (fun hd => hn (by
          obtain ⟨u, hu, gu, h2, h3⟩ := mem_dstsOf.1 hd
          exact mem_dstsOf.2 ⟨u, List.mem_cons_of_mem _ hu, gu, h2, h3⟩))
      have hl' : ∀ j, j < ops.size → (listed j ↔ j ∈ p.j :: X ∧ j ∉ p.j :: U) := by
        intro j hj
        rw [hl j hj]
        simp only [List.mem_cons, not_or]
        constructor
        · rintro ⟨h1, h2⟩
          exact ⟨.inr h1, fun e => hjX (by rw [← e]; exact h1), h2⟩
        · rintro ⟨h1 | h1, h2, h3⟩
          · exact absurd h1 h2
          · exact ⟨h1, h3⟩
      obtain ⟨s2, U2, X2, R2, ps2, I2, hs2, hl2, hn2, hh2⟩ := advance hgc ps _ _ _ _ I' hs' hl'
      exact ⟨s2, U2, X2, R2, ps2, I2, hs2, hl2, by rw [hn2]; simp [PT.len]; omega, hh2⟩

theorem edges_mem {o : Oper} {j : Nat} (ho : ops[j]? = some o) {L : Nat → Prop} : (∀ e ∈ o.after, Region.binds .any e = true → L e.on) ↔ ∀ y ∈ edges ops j, L y := by
  unfold edges
  rw [ho]
  simp only [List.mem_map, List.mem_filter, Array.mem_toList_iff]
  constructor
  · rintro h y ⟨e, ⟨he, hb⟩, rfl⟩
    exact h e he hb
  · intro h e he hb
    exact h _ ⟨e, ⟨he, hb⟩, rfl⟩

theorem getD_set {l : Array Bool} {i j : Nat} (hi : i < l.size) : ((l.setIfInBounds i true).getD j false = true) ↔ (l.getD j false = true ∨ j = i) := by
  by_cases hij : i = j
  · subst hij; simp [hi]
  · rw [getD_set_ne false hij]
    exact ⟨.inl, fun h => h.resolve_right (fun e => hij e.symm)⟩
theorem getD_tf {l : Array Bool} {j : Nat} (hj : j < l.size) : l.getD j true = l.getD j false := by simp [hj]

theorem draw_any {r : Option Nat} {DD : List Deferred} (hgc : GCs P N ops ops.toList gs) (hsel : Region.noSelect ops = true) (hdn : downB ops = true) {K : Slots → VH → Prop} {B : Nat} {w0 : World} {m0 : Mp} {Q : Exit → Act → World → Prop}
    (hQ : ∀ m' s' h' (a' : Act) w', K s' h' → m0.le m' → Sim B w0 m' h' w' → SR N m' s' a'.tmps → a'.defers = DD → Q .normal a' w') :
    ∀ (fuel : Nat) (listed : Array Bool) (a : Act) (w : World) (m : Mp) (h : VH) (s : Slots) (U X R : List Nat) (ps : PT), m0.le m → Sim B w0 m h w → SRD N m (dstsOf gs U) s a.tmps → a.defers = DD → listed.size = ops.size →
      (∀ j, j < ops.size → (listed.getD j false = true ↔ j ∈ X ∧ j ∉ U)) → (∀ j, listed.getD j false = true → ∀ e ∈ edges ops j, listed.getD e false = true) →
      InvC P ops gs K s h U X R ps → (ps = .nil ∨ ps.isEff = true) → U.length + ps.len = fuel → wpAnyIn (FW r) 0 P .any ops Q fuel listed a w
  | 0, listed, a, w, m, h, s, U, X, R, ps, hle, S, hs, hd, hsz, hl, hcl, I, hn, hf => by
    obtain rfl : U = [] := List.length_eq_zero_iff.1 (by omega)
    obtain rfl : ps = .nil := hn.resolve_right fun he => isEff_len ps he (by omega)
    obtain ⟨l, hm, hpw⟩ := I.pw
    injection hm with hm
    subst hm
    have hall := I.plan
    simp only [planT, List.all_eq_true, List.mem_range, List.contains_eq_mem, decide_eq_true_eq] at hall
    refine ⟨?_, hQ m s h a w hpw hle S ⟨hs.size, fun j hj => hs.rel j hj (by simp [dstsOf])⟩ hd⟩
    rw [List.eq_nil_iff_forall_not_mem]
    intro j hj
    obtain ⟨h0, o, ho, _⟩ := mem_ready.1 hj
    have hjl : j < ops.size := (Array.getElem?_eq_some_iff.1 ho).1
    have := (hl j hjl).2 ⟨hall j hjl, by simp⟩
    rw [getD_tf (by omega)] at h0
    rw [h0] at this
    cases this
  | fuel + 1, listed, a, w, m, h, s, U, X, R, ps, hle, S, hs, hd, hsz, hl, hcl, I, hn, hf => by
    have hnosel := Region.noSelect_spec hsel
    refine ⟨fun hr => ?_, fun i hi => ?_⟩
    · -- something is ready
      exfalso
      obtain ⟨j, hj, hjl⟩ : ∃ j, j < ops.size ∧ listed.getD j false = false := by
        cases U with
        | cons u U =>
          have hx := I.xlt _ (I.rx _ (I.ur u (by simp)))
          refine ⟨u, hx, ?_⟩
          cases hq : listed.getD u false with
          | false => rfl
          | true => exact absurd (by simp) ((hl u hx).1 hq).2
        | nil =>
          obtain ⟨j, hj, hjX⟩ := undone ps [] I.plan (by simp at hf; omega)
          refine ⟨j, hj, ?_⟩
          cases hq : listed.getD j false with
          | false => rfl
          | true => exact absurd ((hl j hj).1 hq).1 hjX
      -- the least one
      have least : ∀ n, ∀ j, j < n → j < ops.size → listed.getD j false = false → ∃ i, i ∈ Region.ready .any ops listed := by
        intro n
        induction n with
        | zero => intro j hj; omega
        | succ n ih =>
          intro j hj hjs hjl
          by_cases hr2 : ∀ y ∈ edges ops j, listed.getD y false = true
          · obtain ⟨o, g, ho, _, _⟩ := gs_at hgc hjs
            exact ⟨j, mem_ready.2 ⟨by rw [getD_tf (by omega)]; exact hjl, o, ho, (edges_mem ho (L := fun y => listed.getD y false = true)).2 hr2⟩⟩
          · simp only [Classical.not_forall, Bool.not_eq_true] at hr2
            obtain ⟨y, hy, hyl⟩ := hr2
            have hlt : y < j := by
              have := hdn
              simp only [downB, List.all_eq_true, List.mem_range, decide_eq_true_eq] at this
              exact this j hjs y hy
            exact ih y (by omega) (by omega) hyl
      obtain ⟨i, hi⟩ := least (j + 1) j (by omega) hj hjl
      rw [hr] at hi
      cases hi
    · obtain ⟨h0, o, ho, hedge⟩ := mem_ready.1 hi
      have hil : i < ops.size := (Array.getElem?_eq_some_iff.1 ho).1
      rw [getD_tf (by omega)] at h0
      have hedge' := (edges_mem ho (L := fun y => listed.getD y false = true)).1 hedge
      obtain ⟨o', g, ho', hg, hG⟩ := gs_at hgc hil
      rw [ho] at ho'; injection ho' with ho'; subst ho'
      have hunl : ∀ u ∈ U, listed.getD u false = false := fun u hu => by
        cases hq : listed.getD u false with
        | false => rfl
        | true => exact absurd hu ((hl u (I.xlt _ (I.rx _ (I.ur u hu)))).1 hq).2
      have hnoedge : ∀ u ∈ U, u ∉ edges ops i := fun u hu he => by
        have := hedge' u he
        rw [hunl u hu] at this
        cases this
      have hcl' : ∀ j, (listed.setIfInBounds i true).getD j false = true → ∀ e ∈ edges ops j, (listed.setIfInBounds i true).getD e false = true := by
        intro j hj e he
        rw [getD_set (by omega)] at hj ⊢
        rcases hj with hj | rfl
        · exact .inl (hcl j hj e he)
        · exact .inl (hedge' e he)
      have hopsel : ∀ cs b, o.op ≠ .select cs b := fun cs b => hnosel i o cs b ho
      unfold wpOpIn
      simp only [ho]
      by_cases hiU : i ∈ U
      · -- a read that the plan has done
        have hself := selfB_spec (I.self i (I.ur i hiU)) ho hg
        have hfree : ∀ d ∈ dstsOf gs U, d ∉ o.looksAt ops ∧ d ∉ g.looks := by
          intro d hd
          obtain ⟨u, hu, gu, hgu, hdu⟩ := mem_dstsOf.1 hd
          by_cases hui : u = i
          · subst hui
            rw [hg] at hgu; injection hgu with hgu; subst hgu
            exact hself d (by rw [← hG.dst]; exact hdu)
          · have hux := I.rx u (I.ur u hu)
            obtain ⟨ou, gu', hou, hgu', hGu⟩ := gs_at hgc (I.xlt u hux)
            rw [hgu] at hgu'; injection hgu' with hgu'; subst hgu'
            have hdo : ou.dst = some d := by rw [← hGu.dst]; exact hdu
            rcases I.sep u (I.ur u hu) i (I.ur i hiU) hui with hsp | hsp
            · exact ((sepB_spec hsp hou ho hgu hg).2.resolve_left (hnoedge u hu)) d hdo
            · exact ((sepB_spec hsp ho hou hg hgu).1 d hdo).2
        have huniq : ∀ u ∈ U, u ≠ i → ∀ gu, gs[u]? = some gu → ∀ d, gu.dst = some d → g.dst ≠ some d := by
          intro u hu hui gu hgu d hdu e
          have hux := I.rx u (I.ur u hu)
          obtain ⟨ou, gu', hou, hgu', hGu⟩ := gs_at hgc (I.xlt u hux)
          rw [hgu] at hgu'; injection hgu' with hgu'; subst hgu'
          have hdo : ou.dst = some d := by rw [← hGu.dst]; exact hdu
          have hdi : o.dst = some d := by rw [← hG.dst]; exact e
          rcases I.sep u (I.ur u hu) i (I.ur i hiU) hui with hsp | hsp
          · exact ((sepB_spec hsp hou ho hgu hg).1 d hdi).1 hdo
          · exact ((sepB_spec hsp ho hou hg hgu).1 d hdo).1 hdi
        have hev := I.ev i hiU g hg
        -- behind it
        have next : ∀ v v', VR m v v' → dstIs s g.dst v → wpAnyIn (FW r) 0 P .any ops Q fuel (listed.setIfInBounds i true) (a.put o.dst v') w := by
          intro v v' hv hdi
          refine draw_any hgc hsel hdn hQ fuel _ _ w m h s (U.erase i) X R ps hle S ?_ (by rw [put_defers]; exact hd) (by simp [hsz]) ?_ hcl' ?_ hn ?_
          · refine ⟨by cases o.dst <;> simp [Act.put, hs.size], fun j hj hnj => ?_⟩
            have hja : j < a.tmps.size := by
              revert hj
              cases o.dst <;> simp [Act.put]
            by_cases hdj : o.dst = some j
            · have h1 : s j = v := by
                have : g.dst = some j := by rw [hG.dst]; exact hdj
                rw [this] at hdi
                exact hdi
              rw [h1]
              have : (a.put o.dst v').tmps[j]? = some v' := by rw [hdj]; simp [Act.put, hja]
              rw [(Array.getElem?_eq_some_iff.1 this).2]
              exact hv
            · have hnU : j ∉ dstsOf gs U := fun hd2 => by
                obtain ⟨u, hu, gu, hgu, hdu⟩ := mem_dstsOf.1 hd2
                by_cases hui : u = i
                · subst hui
                  rw [hg] at hgu; injection hgu with hgu; subst hgu
                  exact hdj (by rw [← hG.dst]; exact hdu)
                · exact hnj (mem_dstsOf.2 ⟨u, (List.mem_erase_of_ne hui).2 hu, gu, hgu, hdu⟩)
              have hr := hs.rel j hja hnU
              have : (a.put o.dst v').tmps[j]? = some a.tmps[j] := by
                cases hod : o.dst with
                | none => simp [Act.put, hja]
                | some d =>
                  have hne : d ≠ j := fun e => hdj (by rw [hod, e])
                  show (a.tmps.setIfInBounds d v')[j]? = _
                  rw [Array.getElem?_setIfInBounds_ne hne, Array.getElem?_eq_getElem hja]
              rw [(Array.getElem?_eq_some_iff.1 this).2]
              exact hr
          · intro j hj
            rw [getD_set (by omega), hl j hj]
            constructor
            · rintro (⟨h1, h2⟩ | rfl)
              · exact ⟨h1, fun e => h2 (List.mem_of_mem_erase e)⟩
              · exact ⟨I.rx j (I.ur j hiU), fun e => by
                  have := I.nod.mem_erase_iff.1 e
                  exact this.1 rfl⟩
            · rintro ⟨h1, h2⟩
              by_cases hji : j = i
              · exact .inr hji
              · exact .inl ⟨h1, fun e => h2 ((List.mem_erase_of_ne hji).2 e)⟩
          · exact ⟨fun u hu => I.ur u (List.mem_of_mem_erase hu), I.rx, I.xlt, I.nod.erase i, I.sep, I.self, I.red, fun u hu => I.ev u (List.mem_of_mem_erase hu), I.plan, I.pw⟩
          · have := List.length_erase_of_mem hiU
            have h3 : 0 < U.length := List.length_pos_of_mem hiU
            omega
        have hwb := wanted_blank (o := o) (D := dstsOf gs U) a (fun d hd => (hfree d hd).1)
        have hwS : wantedS (blank (dstsOf gs U) s) g.guard = wantedS s g.guard := wantedS_congr fun t b hb => by
          simp only [blank]
          rw [if_neg (fun hx => (hfree t hx).2 (looks_guard hb))]
        rw [← hwb, wanted_eq hG hs.blank, hwS]
        unfold evalOK at hev
        split at hev
        · rename_i hw
          rw [if_pos hw]
          have hri : readI g.i = true := by
            have := I.red i (I.ur i hiU)
            simpa [atB, hg] using this
          have hm' : ReadOK P N o g.i := by
            have hm := hG.meaning
            split at hm
            · rename_i f args hi; rw [hi] at hri; cases hri
            · rename_i fr args hi; rw [hi] at hri; cases hri
            · rename_i x hi; rw [hi] at hri; cases hri
            · rw [if_pos hri] at hm; exact hm
          split at hev
          · rename_i v h1 hst
            rw [← pstep_blank s h (fun d hd => (hfree d hd).2)] at hst
            obtain ⟨rfl, v', hv, hrun⟩ := hm' B w0 m h w _ _ v h1 S hs.blank hst
            have hr := hrun w (Same.refl w)
            rw [execOp_blank hopsel a (fun d hd => (hfree d hd).1)] at hr
            refine wpIn_of hG.nod ?_
            rw [hr]
            exact next v v' hv hev
          · exact hev.elim
        · rename_i hw
          rw [if_neg hw]
          exact ⟨fun _ _ => trivial, next undef undef (VR.undef m) hev⟩
      · -- an operation that the plan has yet to do
        have hiX : i ∉ X := fun hx => by
          have := (hl i hil).2 ⟨hx, hiU⟩
          rw [h0] at this
          cases this
        have hrdy : rdyB ops X i = true := by
          simp only [rdyB, Bool.and_eq_true, decide_eq_true_eq, List.all_eq_true, List.contains_eq_mem]
          refine ⟨hil, fun y hy => ?_⟩
          have hyl : y < ops.size := by
            have := hdn
            simp only [downB, List.all_eq_true, List.mem_range, decide_eq_true_eq] at this
            have := this i hil y hy
            omega
          exact ((hl y hyl).1 (hedge' y hy)).1
        rcases hn with rfl | hn
        · have hall := I.plan
          simp only [planT, List.all_eq_true, List.mem_range, List.contains_eq_mem, decide_eq_true_eq] at hall
          exact absurd (hall i hil) hiX
        · obtain ⟨l, hm, hpw⟩ := I.pw
          obtain ⟨p, ps1, g', rr, rfl, hjlt, hjX, hsep, hlate, hrest, hg', hr, hpw, hlen1⟩ := choose_head ps [] (heads_of hil hrdy hiX ps [] (by simp) hn I.plan) hn I.plan l hm hpw
          have hsepU : ∀ u ∈ U, sepB ops gs u p.j = true := fun u hu => by
            have := hsep u (I.ur u hu)
            simp only [sepE, Bool.or_eq_true, List.contains_eq_mem, decide_eq_true_eq] at this
            exact this.resolve_left (hnoedge u hu)
          rw [hg] at hg'; injection hg' with hg'; subst hg'
          have hfree : ∀ d ∈ dstsOf gs U, d ∉ o.looksAt ops ∧ d ∉ g.looks := by
            intro d hd
            obtain ⟨u, hu, gu, hgu, hdu⟩ := mem_dstsOf.1 hd
            have hux := I.rx u (I.ur u hu)
            obtain ⟨ou, gu', hou, hgu', hGu⟩ := gs_at hgc (I.xlt u hux)
            rw [hgu] at hgu'; injection hgu' with hgu'; subst hgu'
            exact ((sepB_spec (hsepU u hu) hou ho hgu hg).2.resolve_left (hnoedge u hu)) d (by rw [← hGu.dst]; exact hdu)
          have hsp : ∀ u ∈ U, ∀ gu, gs[u]? = some gu → ∀ d, g.dst = some d → gu.dst ≠ some d ∧ d ∉ gu.looks := by
            intro u hu gu hgu d hdd
            have hux := I.rx u (I.ur u hu)
            obtain ⟨ou, gu', hou, hgu', hGu⟩ := gs_at hgc (I.xlt u hux)
            rw [hgu] at hgu'; injection hgu' with hgu'; subst hgu'
            have := (sepB_spec (hsepU u hu) hou ho hgu hg).1 d (by rw [← hG.dst]; exact hdd)
            exact ⟨by rw [hGu.dst]; exact this.1, this.2.2⟩
          -- behind it
          have next : ∀ m1 v v' h1 w1, m.le m1 → Sim B w0 m1 h1 w1 → VR m1 v v' → (lateOK (putS s g.dst v) h1 (p.late.filterMap (gs[·]?)) ∧ pwT P rr (putS s g.dst v) h1 K) → wpAnyIn (FW r) 0 P .any ops Q fuel (listed.setIfInBounds p.j true) (a.put o.dst v') w1 := by
            intro m1 v v' h1 w1 hle1 S1 hv ⟨hlt, hpw1⟩
            have hs1 : SRD N m1 (dstsOf gs U) (putS s g.dst v) (a.put o.dst v').tmps := by
              rw [← hG.dst]
              exact (hs.mono hle1).put hv
            have hl1 : ∀ j, j < ops.size → ((listed.setIfInBounds p.j true).getD j false = true ↔ j ∈ p.j :: X ∧ j ∉ U) := by
              intro j hj
              rw [getD_set (by omega), hl j hj, List.mem_cons]
              constructor
              · rintro (⟨h1, h2⟩ | rfl)
                · exact ⟨.inr h1, h2⟩
                · exact ⟨.inl rfl, hiU⟩
              · rintro ⟨h1 | h1, h2⟩
                · exact .inr h1
                · exact .inl ⟨h1, h2⟩
            have I1 : InvC P ops gs K (putS s g.dst v) h1 U (p.j :: X) R ps1 := by
              refine ⟨I.ur, fun u hu => List.mem_cons_of_mem _ (I.rx u hu), ?_, I.nod, ?_, ?_, I.red, ?_, hrest, rr, hr, hpw1⟩
              · intro u hu
                rcases List.mem_cons.1 hu with rfl | hu
                · exact hjlt
                · exact I.xlt u hu
              · exact I.sep
              · exact I.self
              · intro u hu gu hgu
                have hst : evalOK gu (putS s g.dst v) h := evalOK_congr (s := s) (fun t ht => (putS_ne fun e => (hsp u hu gu hgu t e).2 ht).symm) (fun d hd => (putS_ne fun e => (hsp u hu gu hgu d e).1 hd).symm) (I.ev u hu gu hgu)
                rcases hlate u (I.ur u hu) with (hpu | hla) | han
                · exact evalOK_pure (by simpa [atB, hgu] using hpu) hst
                · exact lateOK_mem hlt gu (List.mem_filterMap.2 ⟨u, hla, hgu⟩)
                · exfalso
                  have h8 : listed.getD u false = true := (ancs_anc han).listed (L := fun y => listed.getD y false = true) hcl hedge'
                  have h9 := hunl u hu
                  rw [h9] at h8
                  cases h8
            obtain ⟨s2, U2, X2, R2, ps2, I2, hs2, hl2, hn2, hh2⟩ := advance hgc ps1 _ _ _ _ I1 hs1 hl1
            exact draw_any hgc hsel hdn hQ fuel _ _ w1 m1 h1 s2 U2 X2 R2 ps2 (Mp.le_trans hle hle1) S1 hs2 (by rw [put_defers]; exact hd) (by simp [hsz]) hl2 hcl' I2 hh2 (by rw [hn2]; omega)
          have hwb := wanted_blank (o := o) (D := dstsOf gs U) a (fun d hd => (hfree d hd).1)
          have hwS : wantedS (blank (dstsOf gs U) s) g.guard = wantedS s g.guard := wantedS_congr fun t b hb => by
            simp only [blank]
            rw [if_neg (fun hx => (hfree t hx).2 (looks_guard hb))]
          rw [← hwb, wanted_eq hG hs.blank, hwS]
          by_cases hw : wantedS s g.guard = true
          · rw [if_pos hw]
            have hpw' : pwOps P [g] (blank (dstsOf gs U) s) h (fun s1 h1 => ∃ v, lateOK (putS s g.dst v) h1 (p.late.filterMap (gs[·]?)) ∧ pwT P rr (putS s g.dst v) h1 K ∧ s1 = putS (blank (dstsOf gs U) s) g.dst v) := by
              refine pwOps_congr (s := s) (fun t ht => ?_) (fun v h' hk => ⟨v, hk.1, hk.2, rfl⟩) hpw
              simp only [blank]
              rw [if_neg (fun hx => (hfree t hx).2 ht)]
            have hrun := step_ok hG S hs.blank hpw' (by rw [hwS]; exact hw)
            rw [show StepRun P o (Act.blank (dstsOf gs U) a).eval w = StepRun P o a.eval w by
              funext Z
              unfold StepRun
              rw [execOp_blank hopsel a (fun d hd => (hfree d hd).1)]] at hrun
            refine hrun.wp hG.nod ?_
            rintro v' w' ⟨m', v, h', hle', S', hv, u, hk1, hk2, hk3⟩
            have e : putS s g.dst u = putS s g.dst v := by
              cases hgd : g.dst with
              | none => rfl
              | some d =>
                rw [hgd] at hk3
                have := congrFun hk3 d
                simp only [putS, upd, if_true] at this
                rw [this]
            rw [e] at hk1 hk2
            exact next m' v v' h' w' hle' S' hv ⟨hk1, hk2⟩
          · rw [if_neg hw]
            simp only [pwOps, if_neg hw] at hpw
            exact ⟨fun _ _ => trivial, next m undef undef h w m.le_refl S (VR.undef m) hpw⟩

theorem drawT_ok {r : Option Nat} {DD : List Deferred} (hgc : GCs P N ops ops.toList gs) (hm : P.follows .mixedOrders = true) (hsel : Region.noSelect ops = true) (hdn : downB ops = true) {ps : PT} {l : DT} (hp : planT ops gs ps [] [] [] = true) (hl : dtOf gs ps = some l)
    {K : Slots → VH → Prop} {B : Nat} {w0 : World} {m : Mp} {h : VH} {s : Slots} {a : Act} {w : World} {Q : Exit → Act → World → Prop} {id : Nat} (hpw : pwT P l s h K) (S : Sim B w0 m h w) (hs : SR N m s a.tmps) (hd : a.defers = DD)
    (hQ : ∀ m' s' h' (a' : Act) w', K s' h' → m.le m' → Sim B w0 m' h' w' → SR N m' s' a'.tmps → a'.defers = DD → Q .normal a' w') (hlen : ps.len = ops.size) : (Code.region id ops true).wpIn (FW r) 0 P Q a w := by
  refine wpIn_region_any hm ?_
  have hl0 : ∀ j, j < ops.size → ((Array.replicate ops.size false).getD j false = true ↔ j ∈ ([] : List Nat) ∧ j ∉ ([] : List Nat)) := by
    intro j hj
    simp [hj]
  have I0 : InvC P ops gs K s h [] [] [] ps := ⟨by simp, by simp, by simp, List.nodup_nil, by simp, by simp, by simp, by simp, hp, l, hl, hpw⟩
  obtain ⟨s2, U2, X2, R2, ps2, I2, hs2, hl2, hn2, hh2⟩ := advance (m := m) (tm := a.tmps) (listed := fun j => (Array.replicate ops.size false).getD j false = true) hgc ps s [] [] [] I0 ⟨hs.size, fun j hj _ => hs.rel j hj⟩ hl0
  refine draw_any hgc hsel hdn hQ ops.size _ a _ m h s2 U2 X2 R2 ps2 m.le_refl S.drew hs2 hd (by simp) hl2 ?_ I2 hh2 (by rw [hn2]; simpa using hlen)
  intro j hj
  exfalso
  simp only [Array.getD_eq_getD_getElem?, Array.getElem?_replicate] at hj
  split at hj <;> simp at hj
theorem draw_ok {r : Option Nat} {DD : List Deferred} (hgc : GCs P N ops ops.toList gs) (hm : P.follows .mixedOrders = true) (hsel : Region.noSelect ops = true) (hdn : downB ops = true) {ps : List PI} {l : List DI} (hp : planOK ops gs ps [] [] = true) (hl : ps.mapM (diOf gs) = some l)
    {K : Slots → VH → Prop} {B : Nat} {w0 : World} {m : Mp} {h : VH} {s : Slots} {a : Act} {w : World} {Q : Exit → Act → World → Prop} {id : Nat} (hpw : pwD P l s h K) (S : Sim B w0 m h w) (hs : SR N m s a.tmps) (hd : a.defers = DD)
    (hQ : ∀ m' s' h' (a' : Act) w', K s' h' → m.le m' → Sim B w0 m' h' w' → SR N m' s' a'.tmps → a'.defers = DD → Q .normal a' w') (hlen : ps.length = ops.size) : (Code.region id ops true).wpIn (FW r) 0 P Q a w :=
  drawT_ok hgc hm hsel hdn (by rw [← listPT_ok]; exact hp) (listPT_dt ps l hl) (by rw [← pwD_listDT]; exact hpw) S hs hd hQ (by rw [listPT_len]; exact hlen)
end Go.Proofs.Ytdnkpgbggpbgaaa.Pm
