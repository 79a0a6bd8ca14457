/- fair, part P: the plain law: what stands always. -/
import Derived.Test.YtoenamablkkocaaFaA
set_option linter.unusedVariables false
set_option linter.unusedSimpArgs false
namespace Go.Proofs.Ytoenamablkkocaa.Fa
open Go Go.RowKit Go.Proofs.Ytoenamablkkocaa.Pm

theorem OkT.mono {b b' : Int} (h : b ≤ b') {t : Tn} (k : OkT b t) : OkT b' t :=
  ⟨k.w1, k.w16, k.en0, Int.le_trans k.enb h, k.len, fun w hw => let ⟨h1, h2, h3, h4⟩ := k.wk w hw; ⟨h1, h2, h3, Int.le_trans h4 h⟩⟩
theorem OkS.mono {b b' : Int} (h : b ≤ b') {S : Sc} (k : OkS b S) : OkS b' S :=
  ⟨k.ord, fun t ht => (k.ten t ht).mono h, k.len, k.ck0, Int.le_trans k.ckb h, k.had0, k.bsy⟩
theorem idle_false {ts : List Tn} (h : idleS ts = false) : ∃ t w r, t ∈ ts ∧ t.l = w :: r := by
  unfold idleS at h
  rw [List.all_eq_false] at h
  obtain ⟨t, ht, hl⟩ := h
  cases hl' : t.l with
  | nil => rw [hl'] at hl; exact absurd rfl hl
  | cons w r => exact ⟨t, w, r, ht, hl'⟩
theorem idle_true {ts : List Tn} (h : idleS ts = true) : ∀ t ∈ ts, t.l = [] := by
  unfold idleS at h
  rw [List.all_eq_true] at h
  intro t ht
  have := h t ht
  simpa using this
/-- the first of those whose first job starts least. -/
def NextIs (ts : List Tn) (t : Tn) (w : Wk) : Prop := ∃ a b r, ts = a ++ t :: b ∧ t.l = w :: r ∧ (∀ x ∈ a, ∀ y q, x.l = y :: q → w.st < y.st) ∧ ∀ x ∈ b, ∀ y q, x.l = y :: q → w.st ≤ y.st
theorem next_inv : ∀ (r p : List Tn), (((∀ t ∈ p, t.l = []) ∧ nextS p = ([], 0, false)) ∨ ∃ t w, NextIs p t w ∧ nextS p = (t.nm, w.st, true)) →
    (((∀ t ∈ p ++ r, t.l = []) ∧ nextS (p ++ r) = ([], 0, false)) ∨ ∃ t w, NextIs (p ++ r) t w ∧ nextS (p ++ r) = (t.nm, w.st, true))
  | [], p, h => by simpa using h
  | x :: r, p, h => by
    have hst : nextS (p ++ [x]) = nextF (nextS p) x := by simp [nextS, List.foldl_append]
    have key : (((∀ t ∈ p ++ [x], t.l = []) ∧ nextS (p ++ [x]) = ([], 0, false)) ∨ ∃ t w, NextIs (p ++ [x]) t w ∧ nextS (p ++ [x]) = (t.nm, w.st, true)) := by
      rw [hst]
      cases hl : x.l with
      | nil =>
        have hx : nextF (nextS p) x = nextS p := by simp [nextF, hl]
        rw [hx]
        rcases h with ⟨h1, h2⟩ | ⟨t, w, ⟨a, b, q, h1, h2, h3, h4⟩, h5⟩
        · refine .inl ⟨fun t ht => ?_, h2⟩
          rcases List.mem_append.1 ht with ht | ht
          · exact h1 t ht
          · simp at ht; subst ht; exact hl
        · refine .inr ⟨t, w, ⟨a, b ++ [x], q, by rw [h1]; simp, h2, h3, fun y hy => ?_⟩, h5⟩
          rcases List.mem_append.1 hy with hy | hy
          · exact h4 y hy
          · simp at hy; subst hy
            intro u v huv; rw [hl] at huv; cases huv
      | cons w q =>
        rcases h with ⟨h1, h2⟩ | ⟨t, u, ⟨a, b, q', h1, h2, h3, h4⟩, h5⟩
        · refine .inr ⟨x, w, ⟨p, [], q, rfl, hl, fun y hy u v huv => ?_, by simp⟩, ?_⟩
          · rw [h1 y hy] at huv; cases huv
          · rw [h2]; simp [nextF, hl]
        · rw [h5]
          by_cases hlt : w.st < u.st
          · refine .inr ⟨x, w, ⟨p, [], q, rfl, hl, fun y hy u' v huv => ?_, by simp⟩, by simp [nextF, hl, hlt]⟩
            rw [h1] at hy
            simp only [List.mem_append, List.mem_cons] at hy
            rcases hy with hy | rfl | hy
            · have := h3 y hy u' v huv; omega
            · rw [h2] at huv; injection huv with huv _; subst huv; exact hlt
            · have := h4 y hy u' v huv; omega
          · refine .inr ⟨t, u, ⟨a, b ++ [x], q', by rw [h1]; simp, h2, h3, fun y hy => ?_⟩, by simp [nextF, hl, hlt]⟩
            rcases List.mem_append.1 hy with hy | hy
            · exact h4 y hy
            · simp at hy; subst hy
              intro u' v huv; rw [hl] at huv; injection huv with huv _; subst huv; omega
    have := next_inv r (p ++ [x]) key
    simpa using this
theorem next_spec {ts : List Tn} (h : idleS ts = false) : ∃ t w, NextIs ts t w ∧ nextS ts = (t.nm, w.st, true) := by
  have := next_inv ts [] (.inl ⟨by simp, rfl⟩)
  rw [List.nil_append] at this
  rcases this with ⟨h1, _⟩ | h
  · obtain ⟨t, w, r, ht, hl⟩ := idle_false h
    rw [h1 t ht] at hl
    cases hl
  · exact h
theorem headW_of {nm : List UInt8} {ts : List Tn} {t : Tn} {w : Wk} {r : List Wk} (h : findT nm ts = some t) (hl : t.l = w :: r) : headW nm ts = w := by simp [headW, h, hl]
theorem begun_spec {b : Int} {S : Sc} (ok : OkS b S) (hid : idleS S.ts = false) : ∃ t w r, findT (begunS S).sv S.ts = some t ∧ t.l = w :: r ∧ (begunS S).ts = S.ts ∧ OkS b (begunS S) ∧ (begunS S).had < w.j.cost ∧ headW (begunS S).sv S.ts = w ∧
    (begunS S).had = S.had ∧ (S.had = 0 → NextIs S.ts t w ∧ (begunS S).ck = w.st) ∧ (S.had ≠ 0 → begunS S = S) := by
  have h0 := ok.had0
  by_cases hh : S.had = 0
  · obtain ⟨t, w, N, hn⟩ := next_spec hid
    have N' := N
    obtain ⟨a, c, r, hts, hl, _, _⟩ := N
    have htm : t ∈ S.ts := by rw [hts]; simp
    have hfd := findT_mem ok.ord.uni htm
    have okw := (ok.ten t htm).wk w (by rw [hl]; simp)
    have hb : begunS S = { S with sv := t.nm, ck := w.st } := by
      simp only [begunS, hh, if_true, hn, headW_of hfd hl]
    rw [hb]
    refine ⟨t, w, r, hfd, hl, rfl, ⟨ok.ord, ok.ten, ok.len, okw.2.2.1, okw.2.2.2, ok.had0, fun h => ?_⟩, ?_, headW_of hfd hl, rfl, fun _ => ⟨N', rfl⟩, fun h => absurd hh h⟩
    · simp only at h; omega
    · show S.had < _; omega
  · obtain ⟨t, w, r, ht, hn, hl, hc⟩ := ok.bsy (by omega)
    have hb : begunS S = S := by simp only [begunS, if_neg hh]
    rw [hb]
    have hfd : findT S.sv S.ts = some t := by rw [← hn]; exact findT_mem ok.ord.uni ht
    exact ⟨t, w, r, hfd, hl, rfl, ok, hc, headW_of hfd hl, rfl, fun h => absurd h hh, fun _ => rfl⟩
theorem setS_ok {b : Int} {S : Sc} (ok : OkS b S) (nm : List UInt8) (w : Int) : OkS b (setS S nm w).2 := by
  unfold setS
  split
  · exact ok
  · rename_i hw
    split
    · rename_i t hfd
      obtain ⟨htm, htn⟩ := findT_some hfd
      have okt := ok.ten t htm
      split
      · rename_i hl
        refine ⟨putT_ord ok.ord, fun x hx => ?_, by rw [putT_length]; exact ok.len, ok.ck0, ok.ckb, ok.had0, fun h => ?_⟩
        · rcases mem_putT hx with rfl | hx
          · refine ⟨by show 1 ≤ w.toNat; omega, by show w.toNat ≤ 16; omega, ok.ck0, ok.ckb, okt.len, okt.wk⟩
          · exact ok.ten x hx
        · obtain ⟨t', w', r, ht', hn', hl', hc⟩ := ok.bsy h
          have hne : t'.nm ≠ t.nm := by
            intro e
            have h1 := findT_mem ok.ord.uni ht'
            have h2 := findT_mem ok.ord.uni htm
            rw [e, h2] at h1
            injection h1 with h1
            rw [h1] at hl
            rw [hl] at hl'; cases hl'
          refine ⟨t', w', r, ?_, hn', hl', hc⟩
          have h1 := findT_mem ok.ord.uni ht'
          have : findT t'.nm (putT { t with w := w.toNat, en := S.ck } S.ts) = some t' := by
            rw [findT_putT, if_neg (by exact hne)]; exact h1
          exact (findT_some this).1
      · exact ok
    · rename_i hfd
      split
      · exact ok
      · rename_i hlen
        refine ⟨insT_ord ok.ord (fun t ht => findT_none hfd t ht), fun x hx => ?_, by rw [(insT_perm _ _).length_eq]; simp; omega, ok.ck0, ok.ckb, ok.had0, fun h => ?_⟩
        · rcases List.mem_cons.1 ((insT_perm _ _).mem_iff.1 hx) with rfl | hx
          · exact ⟨by show 1 ≤ w.toNat; omega, by show w.toNat ≤ 16; omega, ok.ck0, ok.ckb, by simp, by simp⟩
          · exact ok.ten x hx
        · obtain ⟨t', w', r, ht', h2⟩ := ok.bsy h
          exact ⟨t', w', r, (insT_perm _ _).mem_iff.2 (List.mem_cons_of_mem _ ht'), h2⟩
theorem start_le {b : Int} {S : Sc} (ok : OkS b S) {t : Tn} (okt : OkT b t) : 0 ≤ startS S t ∧ startS S t ≤ b ∧ S.ck ≤ startS S t ∧ t.en ≤ startS S t := by
  have := okt.en0; have := okt.enb; have := ok.ck0; have := ok.ckb
  unfold startS
  split <;> omega
theorem mul_le {q : Int} {w : Nat} (h1 : 1 ≤ q) (h2 : q ≤ 1000) : 0 ≤ q * ((720720 / w : Nat) : Int) ∧ q * ((720720 / w : Nat) : Int) ≤ 720720000 := by
  have hdl : 720720 / w ≤ 720720 := Nat.div_le_self _ _
  generalize 720720 / w = d at hdl
  have := Int.mul_le_mul (a := q) (b := (d : Int)) (c := 1000) (d := 720720) (by omega) (by omega) (by omega) (by omega)
  exact ⟨Int.mul_nonneg (by omega) (by omega), by omega⟩
theorem pushS_ok {b : Int} {S : Sc} (ok : OkS b S) (nm : List UInt8) (q : Jb) : OkS (b + 720720000) (pushS S nm q).2 := by
  have hb : b ≤ b + 720720000 := by omega
  unfold pushS
  split
  · exact ok.mono hb
  · rename_i t hfd
    obtain ⟨htm, htn⟩ := findT_some hfd
    have okt := ok.ten t htm
    split
    · exact ok.mono hb
    · rename_i hc
      split
      · exact ok.mono hb
      · rename_i hl
        obtain ⟨s1, s2, s3, s4⟩ := start_le ok okt
        obtain ⟨m1, m2⟩ := mul_le (q := q.cost) (w := t.w) (by omega) (by omega)
        refine ⟨putT_ord ok.ord, fun x hx => ?_, by rw [putT_length]; exact ok.len, ok.ck0, by have := ok.ckb; show S.ck ≤ _; omega, ok.had0, fun h => ?_⟩
        · rcases mem_putT hx with rfl | hx
          · refine ⟨okt.w1, okt.w16, by show 0 ≤ startS S t + _; omega, by show startS S t + _ ≤ _; omega, by simp; omega, fun w hw => ?_⟩
            rcases List.mem_append.1 hw with hw | hw
            · exact ((ok.ten t htm).mono hb).wk w hw
            · simp at hw
              subst hw
              exact ⟨by show 1 ≤ q.cost; omega, by show q.cost ≤ 1000; omega, s1, by show startS S t ≤ _; omega⟩
          · exact (ok.ten x hx).mono hb
        · obtain ⟨t', w', r, ht', hn', hl', hc'⟩ := ok.bsy h
          by_cases hne : t'.nm = t.nm
          · have h1 := findT_mem ok.ord.uni ht'
            have h2 := findT_mem ok.ord.uni htm
            rw [hne, h2] at h1
            injection h1 with h1
            subst h1
            refine ⟨{ t with l := t.l ++ [⟨q, startS S t⟩], en := startS S t + q.cost * ((720720 / t.w : Nat) : Int) }, w', r ++ [⟨q, startS S t⟩], ?_, hn', by show t.l ++ _ = _; rw [hl']; rfl, hc'⟩
            have : findT t.nm (putT { t with l := t.l ++ [⟨q, startS S t⟩], en := startS S t + q.cost * ((720720 / t.w : Nat) : Int) } S.ts) = some { t with l := t.l ++ [⟨q, startS S t⟩], en := startS S t + q.cost * ((720720 / t.w : Nat) : Int) } := by
              rw [findT_putT, if_pos rfl, h2]; rfl
            exact (findT_some this).1
          · refine ⟨t', w', r, ?_, hn', hl', hc'⟩
            have h1 := findT_mem ok.ord.uni ht'
            have : findT t'.nm (putT { t with l := t.l ++ [⟨q, startS S t⟩], en := startS S t + q.cost * ((720720 / t.w : Nat) : Int) } S.ts) = some t' := by
              rw [findT_putT, if_neg (by exact hne)]; exact h1
            exact (findT_some this).1
theorem popT_of {nm : List UInt8} {ts : List Tn} {t : Tn} (h : findT nm ts = some t) : popT nm ts = putT { t with l := t.l.tail } ts := by simp [popT, h]
theorem OkT.pop {b : Int} {t : Tn} (k : OkT b t) : OkT b { t with l := t.l.tail } :=
  ⟨k.w1, k.w16, k.en0, k.enb, by have := k.len; simp; omega, fun w hw => k.wk w (List.mem_of_mem_tail hw)⟩
theorem restS_ord {ts : List Tn} (h : Ord ts) : Ord (restS ts) := by
  unfold restS Ord
  rw [List.pairwise_map]
  exact h
theorem servedS_ok {b : Int} {S : Sc} (ok : OkS b S) {t : Tn} {w : Wk} {r : List Wk} (hfd : findT S.sv S.ts = some t) (hl : t.l = w :: r) : OkS b (servedS S).2 := by
  have h0 := ok.had0
  obtain ⟨htm, htn⟩ := findT_some hfd
  have okt := ok.ten t htm
  unfold servedS
  rw [headW_of hfd hl]
  split
  · rename_i hlt
    exact ⟨ok.ord, ok.ten, ok.len, ok.ck0, ok.ckb, by show 0 ≤ S.had + 1; omega, fun _ => ⟨t, w, r, htm, htn, hl, hlt⟩⟩
  · rw [popT_of hfd]
    have ten : ∀ x ∈ putT { t with l := t.l.tail } S.ts, OkT b x := fun x hx => by
      rcases mem_putT hx with rfl | hx
      · exact okt.pop
      · exact ok.ten x hx
    split
    · refine ⟨restS_ord (putT_ord ok.ord), fun x hx => ?_, by unfold restS; rw [List.length_map, putT_length]; exact ok.len, Int.le_refl _, by have := ok.ck0; have := ok.ckb; show (0 : Int) ≤ b; omega, Int.le_refl _, fun h => by simp at h⟩
      obtain ⟨y, hy, rfl⟩ := List.mem_map.1 hx
      have k := ten y hy
      exact ⟨k.w1, k.w16, Int.le_refl _, by have := k.en0; have := k.enb; show (0 : Int) ≤ b; omega, k.len, k.wk⟩
    · exact ⟨putT_ord ok.ord, ten, by rw [putT_length]; exact ok.len, ok.ck0, ok.ckb, Int.le_refl _, fun h => by simp at h⟩
theorem stepS_ok {b : Int} {S : Sc} (ok : OkS b S) : OkS b (stepS S).2 := by
  unfold stepS
  split
  · exact ok
  · rename_i hid
    obtain ⟨t, w, r, h1, h2, h3, h4, h5, _⟩ := begun_spec ok (by simpa using hid)
    rw [← h3] at h1
    exact servedS_ok h4 h1 h2
theorem dropS_ok {b : Int} {S : Sc} (ok : OkS b S) : OkS b (dropS S).2 := by
  have hb0 : 0 ≤ b := by have := ok.ck0; have := ok.ckb; omega
  refine ⟨?_, fun x hx => ?_, by simp [dropS]; exact ok.len, Int.le_refl _, hb0, Int.le_refl _, fun h => by simp [dropS] at h⟩
  · unfold dropS Ord
    rw [List.pairwise_map]
    exact ok.ord
  · obtain ⟨y, hy, rfl⟩ := List.mem_map.1 hx
    have k := ok.ten y hy
    exact ⟨k.w1, k.w16, Int.le_refl _, hb0, by simp, by simp⟩
theorem sc0_ok : OkS 0 ⟨[], 0, [], 0⟩ := ⟨List.Pairwise.nil, by simp, by simp, by simp, by simp, by simp, by simp⟩
end Go.Proofs.Ytoenamablkkocaa.Fa
