/- fair, part W: FairTurns: the bound, and what the walk wants. -/
import Derived.Test.YtnnljhcpkkpniaaFaV
import Derived.Test.YtnnljhcpkkpniaaFaX
import Derived.Test.YtnnljhcpkkpniaaFaT
set_option linter.unusedVariables false
set_option linter.unusedSimpArgs false
set_option maxRecDepth 100000
namespace Go.Proofs.Ytnnljhcpkkpniaa.Fa
open Go Go.RowKit Go.Proofs.Ytnnljhcpkkpniaa.Pm Go.Proofs.Ytnnljhcpkkpniaa.Fs

/-- names and weights: they stay. -/
def nw (ts : List Tn) : List (List UInt8 × Nat) := ts.map fun t => (t.nm, t.w)
theorem nw_put {x t : Tn} : ∀ {ts : List Tn}, findT x.nm ts = some t → t.w = x.w → nw (putT x ts) = nw ts
  | [], h, _ => by cases h
  | y :: r, h, hw => by
    simp only [findT] at h
    simp only [putT]
    split at h
    · rename_i hy
      injection h with h
      subst h
      rw [if_pos hy]
      simp [nw, hy, hw]
    · rename_i hy
      rw [if_neg hy]
      have := nw_put h hw
      simp only [nw, List.map_cons] at this ⊢
      rw [this]
theorem push_nw {S : Sc} {nm : List UInt8} {q : Jb} : nw (pushS S nm q).2.ts = nw S.ts := by
  rcases pushS_def (S := S) (nm := nm) (q := q) with ⟨t, hfd, _, _, _, he⟩ | ⟨_, he⟩
  · rw [he]
    obtain ⟨_, htn⟩ := findT_some hfd
    exact nw_put (t := t) (by show findT t.nm S.ts = some t; rw [htn]; exact hfd) rfl
  · rw [he]
theorem step_nw {b : Int} {S : Sc} (ok : OkS b S) : nw (stepS S).2.ts = nw S.ts := by
  by_cases hid : idleS S.ts = true
  · have : stepS S = (⟨[], job0, false, false⟩, S) := by simp [stepS, hid]
    rw [this]
  have hid : idleS S.ts = false := by simpa using hid
  obtain ⟨t, w, r, hfd, hl, hts, okb, hhc, hhw, hbh, _⟩ := begun_spec ok hid
  obtain ⟨B, hB⟩ : ∃ B, B = begunS S := ⟨_, rfl⟩
  rw [← hB] at hfd hts hhw
  have hs : stepS S = servedS B := by simp [stepS, hid, hB]
  have hp : nw (popT B.sv B.ts) = nw S.ts := by
    rw [popT_of (by rw [hts]; exact hfd), hts]
    obtain ⟨_, htn⟩ := findT_some hfd
    exact nw_put (t := t) (by show findT t.nm S.ts = some t; rw [htn]; exact hfd) rfl
  rw [hs]
  unfold servedS
  split
  · show nw B.ts = _; rw [hts]
  · split
    · show nw (restS (popT B.sv B.ts)) = _
      rw [← hp]
      simp [nw, restS]
    · exact hp
theorem nw_sum (ts : List Tn) : sumWt ts = ((nw ts).map fun p => (p.2 : Int)).sum := by simp [sumWt, nw, Function.comp_def]
theorem nw_len (ts : List Tn) : ts.length = (nw ts).length := by simp [nw]
/-- the job that is pushed waits. -/
theorem Wai.start {b : Int} {S : Sc} {c : Int} (k : TmS S c) (ok : OkS b S) {f : List UInt8} {M : Jb} (h0 : (pushS S f M).1 = 0) (hc : M.cost ≤ c) : ∃ s t, findT f S.ts = some t ∧ Wai (pushS S f M).2 c S.ck s f M (fun _ => 0) 0 ∧ s - S.ck ≤ (aheadS S f + c) * kw t := by
  have htm := k.push ok (nm := f) (q := M) (fun _ => hc)
  rcases pushS_def (S := S) (nm := f) (q := M) with ⟨t, hfd, h1, h2, h3, he⟩ | ⟨hne, _⟩
  · obtain ⟨hmem, htn⟩ := findT_some hfd
    obtain ⟨m1, m2⟩ := k.mark ok hfd
    rw [he] at htm ⊢
    refine ⟨startS S t, t, hfd, ⟨htm, Int.le_refl _, ?_, fun y hy => ?_, fun y hy => ?_, ?_⟩, by omega⟩
    · have : findT t.nm (putT (pushT S t M) S.ts) = some (pushT S t M) := by
        rw [findT_putT, if_pos (by rfl), findT_mem ok.ord.uni hmem]; rfl
      exact ⟨pushT S t M, (findT_some this).1, htn, t.l, [], rfl⟩
    · have h4 : 0 ≤ hadOf { S with ts := putT (pushT S t M) S.ts } y.nm := by
        unfold hadOf
        split
        · exact ok.had0
        · exact Int.le_refl _
      have h5 := mul_mono (show (0 : Int) - hadOf { S with ts := putT (pushT S t M) S.ts } y.nm ≤ 0 by omega) (kw_nn y)
      rw [Int.zero_mul] at h5
      have h6 := (max_ge (a := S.ck) (b := nxt y.l y.en)).1
      show ((0 : Int) - hadOf { S with ts := putT (pushT S t M) S.ts } y.nm) * kw y ≤ (if S.ck < nxt y.l y.en then nxt y.l y.en else S.ck) - S.ck
      omega
    · have h5 := mul_mono k.c0 (kw_nn y)
      rw [Int.zero_mul] at h5
      show (0 : Int) * kw y ≤ _
      rw [Int.zero_mul]
      omega
    · generalize ((putT (pushT S t M) S.ts).map (·.nm)) = ns
      show (ns.map fun _ => (0 : Int)).sum = 0
      induction ns with
      | nil => rfl
      | cons a r ih => simp only [List.map_cons, List.sum_cons, ih]; rfl
  · exact absurd h0 hne
theorem sum_le {b d c : Int} {x : List UInt8 → Int} (hd : 0 ≤ d) : ∀ {ts : List Tn}, (∀ t ∈ ts, OkT b t) → (∀ t ∈ ts, x t.nm * kw t ≤ d + c * kw t) → 720720 * ((ts.map (·.nm)).map x).sum ≤ d * sumWt ts + 720720 * (c * (ts.length : Int))
  | [], _, _ => by simp [sumWt]
  | t :: ts, ok, h => by
    have h1 := sum_le hd (ts := ts) (fun y hy => ok y (List.mem_cons_of_mem _ hy)) (fun y hy => h y (List.mem_cons_of_mem _ hy))
    have h2 := h t (List.mem_cons_self ..)
    have h3 := kw_w (ok t (List.mem_cons_self ..))
    have h4 := mul_mono h2 (show (0 : Int) ≤ (t.w : Int) by omega)
    rw [Int.add_mul, Int.mul_assoc, Int.mul_assoc, h3] at h4
    have e1 : ((List.map (·.nm) (t :: ts)).map x).sum = x t.nm + ((ts.map (·.nm)).map x).sum := by simp
    have e2 : sumWt (t :: ts) = (t.w : Int) + sumWt ts := by simp [sumWt]
    have e3 : (((t :: ts).length : Nat) : Int) = (ts.length : Int) + 1 := by simp
    rw [e1, e2, e3, Int.mul_add, Int.mul_add, Int.mul_add, Int.mul_one, Int.mul_add]
    omega
/-- so many slots, and no more. -/
theorem Wai.bound {b : Int} {S : Sc} {c v s : Int} {f : List UInt8} {M : Jb} {x : List UInt8 → Int} {k : Int} (W : Wai S c v s f M x k) (ok : OkS b S) {w0 : Nat} {K0 Q : Int} (hK : K0 * (w0 : Int) = 720720) (hQ : s - v ≤ Q * K0) :
    k * (w0 : Int) ≤ Q * sumWt S.ts + c * (S.ts.length : Int) * (w0 : Int) := by
  have hd : 0 ≤ s - v := by have := W.le; have := W.v0; omega
  have h1 := sum_le hd ok.ten W.bd
  rw [W.sum] at h1
  have hW := (sumWt_bd ok.ten).1
  have h2 := mul_mono h1 (show (0 : Int) ≤ (w0 : Int) by omega)
  have h3 := mul_mono hQ (show (0 : Int) ≤ (w0 : Int) by omega)
  rw [Int.mul_assoc, hK] at h3
  have h4 := mul_mono h3 hW
  have e1 : 720720 * k * (w0 : Int) = 720720 * (k * (w0 : Int)) := Int.mul_assoc _ _ _
  have e2 : ((s - v) * sumWt S.ts + 720720 * (c * (S.ts.length : Int))) * (w0 : Int) = (s - v) * (w0 : Int) * sumWt S.ts + 720720 * (c * (S.ts.length : Int) * (w0 : Int)) := by
    rw [Int.add_mul, Int.mul_assoc 720720]
    congr 1
    rw [Int.mul_assoc, Int.mul_comm (sumWt S.ts), ← Int.mul_assoc]
  have e3 : Q * 720720 * sumWt S.ts = 720720 * (Q * sumWt S.ts) := by rw [Int.mul_comm Q, Int.mul_assoc]
  rw [e1, e2] at h2
  rw [e3] at h4
  omega
/-- a tenant is set, in a scheduler that serves none. -/
theorem TmS.set {S : Sc} {c : Int} (k : TmS S c) (hh : S.had = 0) (nm : List UInt8) (w : Int) : TmS (setS S nm w).2 c ∧ (setS S nm w).2.had = 0 := by
  have fresh : ∀ n (w' : Nat), Tm S.ck c ⟨n, w', S.ck, []⟩ := fun n w' => by
    have h2 := mul_mono k.c0 (kw_nn ⟨n, w', S.ck, []⟩)
    rw [Int.zero_mul] at h2
    exact ⟨by simp, trivial, fun w r h => (by cases h), by show S.ck ≤ S.ck + c * kw _; omega⟩
  unfold setS
  split
  · exact ⟨k, hh⟩
  · split
    · rename_i t hfd
      split
      · rename_i hl
        refine ⟨⟨k.c0, fun x hx => ?_, fun h => ?_⟩, hh⟩
        · rcases mem_putT hx with rfl | hx
          · have := fresh t.nm w.toNat
            rw [← hl] at this
            exact this
          · exact k.ten x hx
        · have h : 0 < S.had := h
          omega
      · exact ⟨k, hh⟩
    · split
      · exact ⟨k, hh⟩
      · refine ⟨⟨k.c0, fun x hx => ?_, fun h => ?_⟩, hh⟩
        · rcases List.mem_cons.1 ((insT_perm _ _).mem_iff.1 hx) with rfl | hx
          · exact fresh _ _
          · exact k.ten x hx
        · have h : 0 < S.had := h
          omega
def nmK (k : Nat) : List UInt8 := [UInt8.ofNat (97 + k)]
/-- whose weights are told. -/
def Wts (wts : List Int) (m : Nat) (p : List (List UInt8 × Nat)) : Prop := ∀ q ∈ p, ∃ k, k < m ∧ ∃ hk : k < wts.length, q.1 = nmK k ∧ (q.2 : Int) = wts[k]
theorem Wts.set {wts : List Int} {m : Nat} {S : Sc} (h : Wts wts m (nw S.ts)) (hm : m < wts.length) (h0 : (setS S (nmK m) wts[m]).1 = 0) : Wts wts (m + 1) (nw (setS S (nmK m) wts[m]).2.ts) := by
  have hold : ∀ q ∈ nw S.ts, ∃ k, k < m + 1 ∧ ∃ hk : k < wts.length, q.1 = nmK k ∧ (q.2 : Int) = wts[k] := fun q hq => by
    obtain ⟨k, h1, h2, h3⟩ := h q hq
    exact ⟨k, by omega, h2, h3⟩
  unfold setS at h0 ⊢
  split at h0
  · simp at h0
  · rename_i hw
    rw [if_neg hw]
    have hnew : ((wts[m].toNat : Nat) : Int) = wts[m] := by omega
    split at h0
    · rename_i t hfd
      obtain ⟨_, htn⟩ := findT_some hfd
      split at h0
      · rename_i hl
        simp only [if_pos hl]
        intro q hq
        obtain ⟨x, hx, rfl⟩ := List.mem_map.1 hq
        rcases mem_putT hx with rfl | hx
        · exact ⟨m, by omega, hm, htn, hnew⟩
        · exact hold _ (List.mem_map_of_mem hx)
      · simp at h0
    · rename_i hfd
      split at h0
      · simp at h0
      · rename_i hl
        simp only [if_neg hl]
        intro q hq
        obtain ⟨x, hx, rfl⟩ := List.mem_map.1 hq
        rcases List.mem_cons.1 ((insT_perm _ _).mem_iff.1 hx) with rfl | hx
        · exact ⟨m, by omega, hm, rfl, hnew⟩
        · exact hold _ (List.mem_map_of_mem hx)
/-- objects that are not the scheduler's. -/
def Env (g : VH) (X : List Nat) (E : List (Nat × List Value)) : Prop := ∀ e ∈ E, e.1 < g.n ∧ e.1 ∉ X ∧ g.get e.1 = .cells e.2 true 1
theorem Env.fr0 {g g' : VH} {X : List Nat} {E : List (Nat × List Value)} (k : Env g X E) (hf : Fr g g' []) : Env g' X E := fun e he => by
  obtain ⟨h1, h2, h3⟩ := k e he
  exact ⟨by have := hf.n; omega, h2, (hf.get _ h1 (by simp)).trans h3⟩
/-- the scheduler alone, behind h. -/
abbrev SA (h g : VH) (i : Nat) (S : Sc) (X : List Nat) : Prop := SJ h g i S X [] (.slice none 0 0)
theorem SA.turn {h g g' : VH} {i : Nat} {S S' : Sc} {X : List Nat} {E : List (Nat × List Value)} (k : SA h g i S X) (e : Env g X E) (hp : SchP g i X S' g') : ∃ X', SA h g' i S' X' ∧ Env g' X' E := by
  obtain ⟨X', h1, h2, h3⟩ := SJ.turn k hp
  refine ⟨X', h1, fun q hq => ?_⟩
  obtain ⟨e1, e2, e3⟩ := e q hq
  refine ⟨by have := h2.n; omega, fun hx => ?_, (h2.get _ e1 e2).trans e3⟩
  rcases h3 _ hx with h4 | h4
  · exact e2 h4
  · omega
end Go.Proofs.Ytnnljhcpkkpniaa.Fa
