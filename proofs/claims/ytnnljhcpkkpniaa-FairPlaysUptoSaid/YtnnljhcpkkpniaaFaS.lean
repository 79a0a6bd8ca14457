/- fair, part S: the plain law of FairServes: in order, one behind the other. -/
import Derived.Test.YtnnljhcpkkpniaaFaP
import Derived.Test.YtnnljhcpkkpniaaFaM
set_option linter.unusedVariables false
set_option linter.unusedSimpArgs false
namespace Go.Proofs.Ytnnljhcpkkpniaa.Fa
open Go Go.RowKit Go.Proofs.Ytnnljhcpkkpniaa.Pm

/-- what is wanted of a tenant. -/
def wantOf (nm : List UInt8) (W : List OpS) : List OpS := W.filter fun o => decide (o.nm = nm)
def sumW (W : List OpS) : Int := (W.map fun o => o.j.cost).sum
structure Srv (S : Sc) (W : List OpS) (left served last : Int) : Prop where
  jobs : ∀ t ∈ S.ts, t.l.map (·.j) = (wantOf t.nm W).map (·.j)
  has : ∀ o ∈ W, ∃ t ∈ S.ts, t.nm = o.nm
  lft : left = sumW W - S.had
  srv : served = S.had
  lst : last = if S.had = 0 then 0 else (headW S.sv S.ts).j.id
theorem wantOf_append (nm : List UInt8) (a b : List OpS) : wantOf nm (a ++ b) = wantOf nm a ++ wantOf nm b := by simp [wantOf]
theorem sumW_append (a b : List OpS) : sumW (a ++ b) = sumW a + sumW b := by simp [sumW, List.sum_append]
/-- the first one of a tenant. -/
theorem wantOf_head {nm : List UInt8} : ∀ {W : List OpS} {o : OpS} {r : List OpS}, wantOf nm W = o :: r → ∃ a b, W = a ++ o :: b ∧ (∀ x ∈ a, x.nm ≠ nm) ∧ o.nm = nm ∧ wantOf nm b = r
  | [], o, r, h => by cases h
  | x :: W, o, r, h => by
    unfold wantOf at h
    rw [List.filter_cons] at h
    split at h
    · rename_i hx
      injection h with h1 h2
      subst h1
      exact ⟨[], W, rfl, by simp, by simpa using hx, h2⟩
    · rename_i hx
      obtain ⟨a, b, h1, h2, h3, h4⟩ := wantOf_head (W := W) h
      refine ⟨x :: a, b, by rw [h1]; rfl, fun y hy => ?_, h3, h4⟩
      rcases List.mem_cons.1 hy with rfl | hy
      · simpa using hx
      · exact h2 y hy
theorem Srv.idle {b : Int} {S : Sc} {W : List OpS} {l s la : Int} (k : Srv S W l s la) (ok : OkS b S) : idleS S.ts = true ↔ W = [] := by
  constructor
  · intro h
    cases W with
    | nil => rfl
    | cons o W =>
      obtain ⟨t, ht, hn⟩ := k.has o (List.mem_cons_self ..)
      have h1 := k.jobs t ht
      rw [idle_true h t ht] at h1
      have : wantOf t.nm (o :: W) = o :: wantOf t.nm W := by simp [wantOf, hn]
      rw [this] at h1
      simp at h1
  · intro h
    subst h
    refine idle_of (fun t ht => ?_)
    have h1 := k.jobs t ht
    simpa [wantOf] using h1
theorem Srv.had0 {b : Int} {S : Sc} {W : List OpS} {l s la : Int} (k : Srv S W l s la) (ok : OkS b S) (h : idleS S.ts = true) : S.had = 0 := by
  have h0 := ok.had0
  by_cases hh : S.had = 0
  · exact hh
  · obtain ⟨t, w, r, ht, _, hl, _⟩ := ok.bsy (by omega)
    rw [idle_true h t ht] at hl
    cases hl
theorem sumW_pos : ∀ {W : List OpS}, (∀ o ∈ W, 1 ≤ o.j.cost) → 0 ≤ sumW W
  | [], _ => by simp [sumW]
  | o :: W, h => by
    have h1 := h o (List.mem_cons_self ..)
    have h2 := sumW_pos (W := W) (fun x hx => h x (List.mem_cons_of_mem _ hx))
    simp only [sumW, List.map_cons, List.sum_cons] at h2 ⊢
    omega
theorem Srv.costs {b : Int} {S : Sc} {W : List OpS} {l s la : Int} (k : Srv S W l s la) (ok : OkS b S) : ∀ o ∈ W, 1 ≤ o.j.cost ∧ o.j.cost ≤ 1000 := by
  intro o ho
  obtain ⟨t, ht, hn⟩ := k.has o ho
  have h1 := k.jobs t ht
  have h2 : o.j ∈ (wantOf t.nm W).map (·.j) := List.mem_map_of_mem (List.mem_filter.2 ⟨ho, by simp [hn]⟩)
  rw [← h1] at h2
  obtain ⟨w, hw, e⟩ := List.mem_map.1 h2
  have := (ok.ten t ht).wk w hw
  rw [← e]
  exact ⟨this.1, this.2.1⟩
/-- what a slot does to what is wanted. -/
theorem Srv.step {b : Int} {S : Sc} {W : List OpS} {l s la : Int} (k : Srv S W l s la) (ok : OkS b S) (hid : idleS S.ts = false) :
    0 < l ∧ (la ≠ 0 → la = (stepS S).1.j.id) ∧ (stepS S).1.ok = true ∧ ((stepS S).1.dn = decide (s + 1 = (stepS S).1.j.cost)) ∧
    ((stepS S).1.dn = false → Srv (stepS S).2 W (l - 1) (s + 1) (stepS S).1.j.id) ∧
    ((stepS S).1.dn = true → ∃ A o B, W = A ++ o :: B ∧ (∀ x ∈ A, x.nm ≠ (stepS S).1.nm) ∧ o.nm = (stepS S).1.nm ∧ o.j = (stepS S).1.j ∧ Srv (stepS S).2 (A ++ B) (l - 1) 0 0) := by
  obtain ⟨t, w, r, hfd, hl, hts, okb, hhc, hhw, hbh, hn1, hn2⟩ := begun_spec ok hid
  obtain ⟨B, hB⟩ : ∃ B, B = begunS S := ⟨_, rfl⟩
  rw [← hB] at hfd hts okb hhc hhw hbh hn1 hn2
  have hs : stepS S = servedS B := by simp [stepS, hid, hB]
  obtain ⟨htm, htn⟩ := findT_some hfd
  have hj := k.jobs t htm
  rw [hl, List.map_cons] at hj
  obtain ⟨o, r', hwo⟩ : ∃ o r', wantOf t.nm W = o :: r' := by
    cases h : wantOf t.nm W with
    | nil => rw [h] at hj; cases hj
    | cons o r' => exact ⟨o, r', rfl⟩
  rw [hwo, List.map_cons] at hj
  injection hj with hj1 hj2
  obtain ⟨A, C, hW, hA, hon, hC⟩ := wantOf_head hwo
  have hcosts := k.costs ok
  have okw := (ok.ten t htm).wk w (by rw [hl]; simp)
  have hh0 := ok.had0
  have hsum : sumW W = sumW (A ++ C) + o.j.cost := by
    rw [hW, sumW_append, sumW_append]
    simp only [sumW, List.map_cons, List.sum_cons]
    omega
  have hpos : 0 ≤ sumW (A ++ C) := sumW_pos (fun x hx => (hcosts x (by rw [hW]; simp at hx ⊢; rcases hx with hx | hx <;> simp [hx])).1)
  have hlt := k.lft
  have hsv := k.srv
  rw [hj1] at hhc okw
  have hlast : la ≠ 0 → la = w.j.id := by
    intro h0
    have h1 := k.lst
    by_cases hz : S.had = 0
    · rw [if_pos hz] at h1; exact absurd h1 h0
    · rw [if_neg hz] at h1
      have := hn2 hz
      rw [h1, ← hhw, this]
  rw [hs]
  have hhw' : headW B.sv B.ts = w := by rw [hts]; exact hhw
  by_cases hlt1 : B.had + 1 < w.j.cost
  · have hsv1 : servedS B = (⟨B.sv, w.j, false, true⟩, { B with had := B.had + 1 }) := by simp [servedS, hhw', hlt1]
    rw [hsv1]
    refine ⟨by rw [hj1] at hlt1; omega, hlast, rfl, ?_, fun _ => ⟨?_, ?_, by show l - 1 = _ - (B.had + 1); omega, by show s + 1 = B.had + 1; omega, ?_⟩, fun h => by simp at h⟩
    · show false = decide (s + 1 = w.j.cost)
      rw [decide_eq_false (by omega)]
    · show ∀ t ∈ B.ts, _
      rw [hts]; exact k.jobs
    · show ∀ o ∈ W, ∃ t ∈ B.ts, _
      rw [hts]; exact k.has
    · show w.j.id = if B.had + 1 = 0 then 0 else (headW B.sv B.ts).j.id
      rw [if_neg (by omega), hhw']
  · have hpop : popT B.sv B.ts = putT { t with l := t.l.tail } S.ts := by
      rw [popT_of (by rw [hts]; exact hfd), hts]
    obtain ⟨P, hP⟩ : ∃ P, P = popT B.sv B.ts := ⟨_, rfl⟩
    have hcost : B.had + 1 = w.j.cost := by rw [hj1] at hlt1 ⊢; omega
    have jobsP : ∀ x ∈ P, x.l.map (·.j) = (wantOf x.nm (A ++ C)).map (·.j) := by
      intro x hx
      rw [hP, hpop] at hx
      have hxu : findT x.nm (putT { t with l := t.l.tail } S.ts) = some x := findT_mem (putT_ord ok.ord).uni hx
      rw [findT_putT] at hxu
      split at hxu
      · rename_i he
        rw [Option.map_eq_some_iff] at hxu
        obtain ⟨_, _, rfl⟩ := hxu
        show t.l.tail.map (·.j) = (wantOf t.nm (A ++ C)).map (·.j)
        rw [hl, List.tail_cons, hj2, wantOf_append]
        have : wantOf t.nm A = [] := by
          unfold wantOf
          rw [List.filter_eq_nil_iff]
          intro y hy
          simpa using hA y hy
        rw [this, List.nil_append, hC]
      · rename_i he
        have h1 := k.jobs x (findT_some hxu).1
        rw [h1, hW, wantOf_append, wantOf_append]
        have h2 : wantOf x.nm (o :: C) = wantOf x.nm C := by
          unfold wantOf
          rw [List.filter_cons, if_neg]
          simp only [decide_eq_true_eq]
          intro h3
          exact he (by show x.nm = t.nm; rw [← h3, hon])
        rw [h2]
    have hasP : ∀ y ∈ A ++ C, ∃ x ∈ P, x.nm = y.nm := by
      intro y hy
      obtain ⟨x, hx, hn⟩ := k.has y (by rw [hW]; simp at hy ⊢; rcases hy with hy | hy <;> simp [hy])
      have h1 : x.nm ∈ P.map (·.nm) := by rw [hP, hpop, putT_names]; exact List.mem_map_of_mem hx
      obtain ⟨z, hz, e⟩ := List.mem_map.1 h1
      exact ⟨z, hz, by rw [e, hn]⟩
    have hd : (true : Bool) = decide (s + 1 = w.j.cost) := by rw [decide_eq_true (by omega)]
    have hl1 : l - 1 = sumW (A ++ C) - 0 := by rw [hj1] at hcost; omega
    have hpos2 : 0 < l := by rw [hj1] at hcost; omega
    by_cases hid2 : idleS P = true
    · have hsv1 : servedS B = (⟨B.sv, w.j, true, true⟩, { B with ts := restS P, ck := 0, had := 0 }) := by
        rw [hP] at hid2 ⊢
        simp [servedS, hhw', hlt1, hid2]
      rw [hsv1]
      refine ⟨hpos2, hlast, rfl, hd, fun h => by simp at h, fun _ => ⟨A, o, C, hW, ?_, ?_, hj1.symm, ?_, ?_, hl1, rfl, rfl⟩⟩
      · show ∀ x ∈ A, x.nm ≠ B.sv
        rw [← htn]; exact hA
      · show o.nm = B.sv
        rw [hon, htn]
      · intro x hx
        obtain ⟨y, hy, rfl⟩ := List.mem_map.1 hx
        exact jobsP y hy
      · intro y hy
        obtain ⟨x, hx, hn⟩ := hasP y hy
        exact ⟨_, List.mem_map_of_mem hx, hn⟩
    · have hid2 : idleS P = false := by simpa using hid2
      have hsv1 : servedS B = (⟨B.sv, w.j, true, true⟩, { B with ts := P, had := 0 }) := by
        rw [hP] at hid2 ⊢
        simp [servedS, hhw', hlt1, hid2]
      rw [hsv1]
      refine ⟨hpos2, hlast, rfl, hd, fun h => by simp at h, fun _ => ⟨A, o, C, hW, ?_, ?_, hj1.symm, jobsP, hasP, hl1, rfl, rfl⟩⟩
      · show ∀ x ∈ A, x.nm ≠ B.sv
        rw [← htn]; exact hA
      · show o.nm = B.sv
        rw [hon, htn]
theorem Srv.push {b : Int} {S : Sc} {W : List OpS} {l s la : Int} (k : Srv S W l s la) (ok : OkS b S) (o : OpS) :
    ((pushS S o.nm o.j).1 = 0 → Srv (pushS S o.nm o.j).2 (W ++ [o]) (l + o.j.cost) s la ∧ 1 ≤ o.j.cost ∧ o.j.cost ≤ 1000) ∧ ((pushS S o.nm o.j).1 ≠ 0 → Srv (pushS S o.nm o.j).2 W l s la) := by
  unfold pushS
  split
  · exact ⟨fun h => by simp at h, fun _ => k⟩
  · rename_i t hfd
    obtain ⟨htm, htn⟩ := findT_some hfd
    split
    · exact ⟨fun h => by simp at h, fun _ => k⟩
    · rename_i hc
      split
      · exact ⟨fun h => by simp at h, fun _ => k⟩
      · rename_i hlen
        refine ⟨fun _ => ⟨?_, by omega, by omega⟩, fun h => by simp at h⟩
        obtain ⟨T, hT⟩ : ∃ T : Tn, T = { t with l := t.l ++ [⟨o.j, startS S t⟩], en := startS S t + o.j.cost * ((720720 / t.w : Nat) : Int) } := ⟨_, rfl⟩
        rw [← hT]
        have hTn : T.nm = o.nm := by rw [hT]; exact htn
        refine ⟨fun x hx => ?_, fun y hy => ?_, ?_, k.srv, ?_⟩
        · have hxu : findT x.nm (putT T S.ts) = some x := findT_mem (putT_ord ok.ord).uni hx
          rw [findT_putT] at hxu
          rw [wantOf_append]
          split at hxu
          · rename_i he
            rw [Option.map_eq_some_iff] at hxu
            obtain ⟨_, _, rfl⟩ := hxu
            have h1 := k.jobs t htm
            have h2 : wantOf T.nm [o] = [o] := by simp [wantOf, hTn]
            rw [h2, List.map_append, hTn, ← htn, ← h1, hT]
            simp
          · rename_i he
            have h2 : wantOf x.nm [o] = [] := by
              unfold wantOf
              rw [List.filter_eq_nil_iff]
              intro y hy
              simp at hy
              subst hy
              simp only [decide_eq_true_eq]
              intro h3
              exact he (by rw [← h3, hTn])
            rw [h2, List.append_nil]
            exact k.jobs x (findT_some hxu).1
        · have h1 : y.nm ∈ S.ts.map (·.nm) := by
            rcases List.mem_append.1 hy with hy | hy
            · obtain ⟨x, hx, hn⟩ := k.has y hy
              rw [← hn]; exact List.mem_map_of_mem hx
            · simp at hy
              subst hy
              rw [← htn]; exact List.mem_map_of_mem htm
          rw [← putT_names T] at h1
          obtain ⟨z, hz, e⟩ := List.mem_map.1 h1
          exact ⟨z, hz, e⟩
        · show l + o.j.cost = sumW (W ++ [o]) - S.had
          rw [sumW_append, k.lft]
          simp [sumW]
          omega
        · show la = if S.had = 0 then 0 else (headW S.sv (putT T S.ts)).j.id
          rw [k.lst]
          by_cases hz : S.had = 0
          · rw [if_pos hz, if_pos hz]
          · rw [if_neg hz, if_neg hz]
            have hh0 := ok.had0
            obtain ⟨t', w', r', ht', hn', hl', _⟩ := ok.bsy (by omega)
            have hf' : findT S.sv S.ts = some t' := by rw [← hn']; exact findT_mem ok.ord.uni ht'
            rw [headW_of hf' hl']
            by_cases he : S.sv = T.nm
            · have hf2 : findT S.sv (putT T S.ts) = some T := by rw [findT_putT, if_pos he, hf']; rfl
              have h3 : t' = t := by
                rw [he, hTn, hfd] at hf'
                injection hf' with hf'
                exact hf'.symm
              subst h3
              rw [headW_of hf2 (w := w') (r := r' ++ [⟨o.j, startS S t'⟩]) (by rw [hT]; show t'.l ++ _ = _; rw [hl']; rfl)]
            · have hf2 : findT S.sv (putT T S.ts) = some t' := by rw [findT_putT, if_neg he]; exact hf'
              rw [headW_of hf2 hl']
theorem Srv.set {b : Int} {S : Sc} {W : List OpS} {l s la : Int} (k : Srv S W l s la) (ok : OkS b S) (nm : List UInt8) (w : Int) : Srv (setS S nm w).2 W l s la := by
  unfold setS
  split
  · exact k
  · split
    · rename_i t hfd
      obtain ⟨htm, htn⟩ := findT_some hfd
      split
      · rename_i hl
        refine ⟨fun x hx => ?_, fun y hy => ?_, k.lft, k.srv, ?_⟩
        · rcases mem_putT hx with rfl | hx
          · exact k.jobs t htm
          · exact k.jobs x hx
        · obtain ⟨x, hx, hn⟩ := k.has y hy
          have h1 : x.nm ∈ (putT { t with w := w.toNat, en := S.ck } S.ts).map (·.nm) := by rw [putT_names]; exact List.mem_map_of_mem hx
          obtain ⟨z, hz, e⟩ := List.mem_map.1 h1
          exact ⟨z, hz, by rw [e, hn]⟩
        · show la = if S.had = 0 then 0 else (headW S.sv (putT _ S.ts)).j.id
          rw [k.lst]
          by_cases hz : S.had = 0
          · rw [if_pos hz, if_pos hz]
          · rw [if_neg hz, if_neg hz]
            have hh0 := ok.had0
            obtain ⟨t', w', r', ht', hn', hl', _⟩ := ok.bsy (by omega)
            have hf' : findT S.sv S.ts = some t' := by rw [← hn']; exact findT_mem ok.ord.uni ht'
            have hne : S.sv ≠ t.nm := by
              intro e
              rw [e, findT_mem ok.ord.uni htm] at hf'
              injection hf' with hf'
              rw [← hf', hl] at hl'; cases hl'
            have hf2 : findT S.sv (putT { t with w := w.toNat, en := S.ck } S.ts) = some t' := by rw [findT_putT, if_neg hne]; exact hf'
            rw [headW_of hf' hl', headW_of hf2 hl']
      · exact k
    · rename_i hfd
      split
      · exact k
      · have hmem : ∀ x, x ∈ insT ⟨nm, w.toNat, S.ck, []⟩ S.ts ↔ x = ⟨nm, w.toNat, S.ck, []⟩ ∨ x ∈ S.ts := fun x => by rw [(insT_perm _ _).mem_iff, List.mem_cons]
        refine ⟨fun x hx => ?_, fun y hy => ?_, k.lft, k.srv, ?_⟩
        · rcases (hmem x).1 hx with rfl | hx
          · show ([] : List Wk).map (·.j) = _
            have : wantOf nm W = [] := by
              unfold wantOf
              rw [List.filter_eq_nil_iff]
              intro y hy
              simp only [decide_eq_true_eq]
              intro e
              obtain ⟨t, ht, hn⟩ := k.has y hy
              exact findT_none hfd t ht (by rw [hn, e])
            rw [this]; rfl
          · exact k.jobs x hx
        · obtain ⟨x, hx, hn⟩ := k.has y hy
          exact ⟨x, (hmem x).2 (.inr hx), hn⟩
        · show la = if S.had = 0 then 0 else (headW S.sv (insT _ S.ts)).j.id
          rw [k.lst]
          by_cases hz : S.had = 0
          · rw [if_pos hz, if_pos hz]
          · rw [if_neg hz, if_neg hz]
            have hh0 := ok.had0
            obtain ⟨t', w', r', ht', hn', hl', _⟩ := ok.bsy (by omega)
            have hf' : findT S.sv S.ts = some t' := by rw [← hn']; exact findT_mem ok.ord.uni ht'
            have hf2 : findT S.sv (insT ⟨nm, w.toNat, S.ck, []⟩ S.ts) = some t' := by
              rw [← hn']
              exact findT_mem (insT_ord ok.ord (fun t ht => findT_none hfd t ht)).uni ((hmem t').2 (.inr ht'))
            rw [headW_of hf' hl', headW_of hf2 hl']
end Go.Proofs.Ytnnljhcpkkpniaa.Fa
