/- fair, part V: the plain law of FairTurns: when a job is done at the latest. -/
import Derived.Test.YtnnljhcpkkpniaaFaM
set_option linter.unusedVariables false
set_option linter.unusedSimpArgs false
namespace Go.Proofs.Ytnnljhcpkkpniaa.Fa
open Go Go.RowKit Go.Proofs.Ytnnljhcpkkpniaa.Pm

def kw (t : Tn) : Int := ((720720 / t.w : Nat) : Int)
theorem kw_nn (t : Tn) : 0 ≤ kw t := Int.natCast_nonneg _
theorem kw_w {b : Int} {t : Tn} (k : OkT b t) : kw t * (t.w : Int) = 720720 := by
  have h1 := k.w1
  have h2 := k.w16
  unfold kw
  generalize t.w = w at h1 h2
  have h : w = 1 ∨ w = 2 ∨ w = 3 ∨ w = 4 ∨ w = 5 ∨ w = 6 ∨ w = 7 ∨ w = 8 ∨ w = 9 ∨ w = 10 ∨ w = 11 ∨ w = 12 ∨ w = 13 ∨ w = 14 ∨ w = 15 ∨ w = 16 := by omega
  rcases h with h | h | h | h | h | h | h | h | h | h | h | h | h | h | h | h <;> subst h <;> decide
def nxt (l : List Wk) (en : Int) : Int := match l with
  | [] => en
  | w :: _ => w.st
def Chn (K : Int) : List Wk → Int → Prop
  | [], _ => True
  | w :: r, en => nxt r en = w.st + w.j.cost * K ∧ Chn K r en
/-- of a tenant: its jobs stand one behind the other; none starts ahead of the clock; the first one not far behind it. -/
structure Tm (ck c : Int) (t : Tn) : Prop where
  cst : ∀ w ∈ t.l, 1 ≤ w.j.cost ∧ w.j.cost ≤ c
  chn : Chn (kw t) t.l t.en
  low : ∀ w r, t.l = w :: r → ck ≤ w.st
  top : nxt t.l t.en ≤ ck + c * kw t
structure TmS (S : Sc) (c : Int) : Prop where
  c0 : 0 ≤ c
  ten : ∀ t ∈ S.ts, Tm S.ck c t
  bsy : 0 < S.had → (headW S.sv S.ts).st = S.ck
theorem mul_mono {a b K : Int} (h : a ≤ b) (hK : 0 ≤ K) : a * K ≤ b * K := Int.mul_le_mul_of_nonneg_right h hK
theorem TmS.mono {S : Sc} {c c' : Int} (k : TmS S c) (h : c ≤ c') : TmS S c' :=
  ⟨by have := k.c0; omega, fun t ht => ⟨fun w hw => ⟨((k.ten t ht).cst w hw).1, Int.le_trans ((k.ten t ht).cst w hw).2 h⟩, (k.ten t ht).chn, (k.ten t ht).low, by
    have h1 := (k.ten t ht).top
    have h2 := mul_mono h (kw_nn t)
    omega⟩, k.bsy⟩
/-- along the chain: the sum of what stands there. -/
theorem chn_end {K : Int} : ∀ {l : List Wk} {en : Int}, Chn K l en → en = nxt l en + sumC l * K
  | [], en, _ => by simp [nxt, sumC]
  | w :: r, en, h => by
    obtain ⟨h1, h2⟩ := h
    have h3 := chn_end h2
    rw [h1] at h3
    show en = w.st + sumC (w :: r) * K
    have h4 : sumC (w :: r) = w.j.cost + sumC r := by simp [sumC]
    rw [h4, Int.add_mul]
    omega
theorem chn_le {K : Int} (hK : 0 ≤ K) : ∀ {l : List Wk} {en : Int}, Chn K l en → (∀ w ∈ l, 1 ≤ w.j.cost) → ∀ w ∈ l, nxt l en ≤ w.st
  | [], _, _, _, w, hw => by cases hw
  | v :: r, en, h, hc, w, hw => by
    show v.st ≤ w.st
    rcases List.mem_cons.1 hw with rfl | hw
    · exact Int.le_refl _
    · have h1 := chn_le hK h.2 (fun x hx => hc x (List.mem_cons_of_mem _ hx)) w hw
      have h2 := h.1
      have h3 := mul_mono (show (0 : Int) ≤ v.j.cost by have := hc v (List.mem_cons_self ..); omega) hK
      rw [Int.zero_mul] at h3
      omega
theorem chn_push {K : Int} {j : Jb} {s : Int} : ∀ {l : List Wk} {en : Int}, Chn K l en → (l ≠ [] → s = en) → Chn K (l ++ [⟨j, s⟩]) (s + j.cost * K)
  | [], en, _, _ => ⟨rfl, trivial⟩
  | [w], en, h, hs => by
    have h1 := h.1
    have h2 := hs (by simp)
    exact ⟨by show s = _; rw [h2]; exact h1, rfl, trivial⟩
  | w :: v :: r, en, h, hs => ⟨h.1, chn_push (l := v :: r) h.2 (fun _ => hs (by simp))⟩
theorem sumC_nn : ∀ {l : List Wk}, (∀ w ∈ l, 1 ≤ w.j.cost) → 0 ≤ sumC l
  | [], _ => by simp [sumC]
  | w :: l, h => by
    have h1 := h w (List.mem_cons_self ..)
    have h2 := sumC_nn (l := l) (fun x hx => h x (List.mem_cons_of_mem _ hx))
    simp only [sumC, List.map_cons, List.sum_cons] at h2 ⊢
    omega
theorem Tm.start {S : Sc} {c : Int} {t : Tn} (k : Tm S.ck c t) (hl : t.l ≠ []) : startS S t = t.en := by
  have h1 := chn_end k.chn
  have h2 := mul_mono (sumC_nn (fun w hw => (k.cst w hw).1)) (kw_nn t)
  rw [Int.zero_mul] at h2
  have h3 : S.ck ≤ nxt t.l t.en := by
    cases hl' : t.l with
    | nil => exact absurd hl' hl
    | cons w r => exact k.low w r hl'
  unfold startS
  split <;> omega
theorem Tm.start0 {S : Sc} {c : Int} {t : Tn} (k : Tm S.ck c t) (hl : t.l = []) (c0 : 0 ≤ c) : S.ck ≤ startS S t ∧ t.en ≤ startS S t ∧ startS S t ≤ S.ck + c * kw t := by
  have h1 := k.top
  rw [hl] at h1
  have h1 : t.en ≤ S.ck + c * kw t := h1
  have h2 := mul_mono c0 (kw_nn t)
  rw [Int.zero_mul] at h2
  unfold startS
  split <;> omega
/-- the tenant with a job more. -/
def pushT (S : Sc) (t : Tn) (q : Jb) : Tn := { t with l := t.l ++ [⟨q, startS S t⟩], en := startS S t + q.cost * ((720720 / t.w : Nat) : Int) }
theorem pushS_def {S : Sc} {nm : List UInt8} {q : Jb} : (∃ t, findT nm S.ts = some t ∧ 1 ≤ q.cost ∧ q.cost ≤ 1000 ∧ t.l.length < 16 ∧ pushS S nm q = (0, { S with ts := putT (pushT S t q) S.ts })) ∨ ((pushS S nm q).1 ≠ 0 ∧ (pushS S nm q).2 = S) := by
  unfold pushS
  split
  · exact .inr ⟨by simp, rfl⟩
  · rename_i t hfd
    split
    · exact .inr ⟨by simp, rfl⟩
    · rename_i hc
      split
      · exact .inr ⟨by simp, rfl⟩
      · rename_i hl
        exact .inl ⟨t, hfd, by omega, by omega, by omega, rfl⟩
theorem Tm.push {S : Sc} {c : Int} {t : Tn} (k : Tm S.ck c t) (c0 : 0 ≤ c) {q : Jb} (h1 : 1 ≤ q.cost) (h2 : q.cost ≤ c) : Tm S.ck c (pushT S t q) := by
  have hch : Chn (kw t) (t.l ++ [⟨q, startS S t⟩]) (startS S t + q.cost * kw t) := chn_push k.chn (fun hl => k.start hl)
  refine ⟨fun w hw => ?_, hch, fun w r hl => ?_, ?_⟩
  · rcases List.mem_append.1 hw with hw | hw
    · exact k.cst w hw
    · simp at hw; subst hw; exact ⟨h1, h2⟩
  · cases hl' : t.l with
    | nil =>
      have hl : t.l ++ [⟨q, startS S t⟩] = w :: r := hl
      rw [hl'] at hl
      injection hl with hl _
      rw [← hl]
      exact (k.start0 hl' c0).1
    | cons v r' =>
      have hl : t.l ++ [⟨q, startS S t⟩] = w :: r := hl
      rw [hl'] at hl
      injection hl with hl _
      rw [← hl]
      exact k.low v r' hl'
  · show nxt (t.l ++ [⟨q, startS S t⟩]) _ ≤ S.ck + c * kw t
    cases hl' : t.l with
    | nil => exact (k.start0 hl' c0).2.2
    | cons v r' =>
      have := k.top
      rw [hl'] at this
      exact this
theorem mem_put {x t : Tn} {ts : List Tn} (hu : Uni (putT x ts)) (h : t ∈ putT x ts) : t = x ∨ (t ∈ ts ∧ t.nm ≠ x.nm) := by
  have h1 := findT_mem hu h
  rw [findT_putT] at h1
  split at h1
  · rw [Option.map_eq_some_iff] at h1
    obtain ⟨_, _, rfl⟩ := h1
    exact .inl rfl
  · rename_i hne
    exact .inr ⟨(findT_some h1).1, hne⟩
theorem headW_push {b : Int} {S : Sc} (ok : OkS b S) {nm : List UInt8} {t : Tn} {q : Jb} (hfd : findT nm S.ts = some t) (hh : 0 < S.had) : headW S.sv (putT (pushT S t q) S.ts) = headW S.sv S.ts := by
  obtain ⟨htm, htn⟩ := findT_some hfd
  obtain ⟨t', w', r', ht', hn', hl', _⟩ := ok.bsy hh
  have hf' : findT S.sv S.ts = some t' := by rw [← hn']; exact findT_mem ok.ord.uni ht'
  rw [headW_of hf' hl']
  by_cases he : S.sv = (pushT S t q).nm
  · have hf2 : findT S.sv (putT (pushT S t q) S.ts) = some (pushT S t q) := by rw [findT_putT, if_pos he, hf']; rfl
    have h3 : t' = t := by
      have he : S.sv = t.nm := he
      rw [he, htn, hfd] at hf'
      injection hf' with hf'
      exact hf'.symm
    subst h3
    exact headW_of hf2 (r := r' ++ [⟨q, startS S t'⟩]) (by show t'.l ++ _ = _; rw [hl']; rfl)
  · have hf2 : findT S.sv (putT (pushT S t q) S.ts) = some t' := by rw [findT_putT, if_neg he]; exact hf'
    exact headW_of hf2 hl'
theorem TmS.push {b : Int} {S : Sc} {c : Int} (k : TmS S c) (ok : OkS b S) {nm : List UInt8} {q : Jb} (hq : (pushS S nm q).1 = 0 → q.cost ≤ c) : TmS (pushS S nm q).2 c := by
  rcases pushS_def (S := S) (nm := nm) (q := q) with ⟨t, hfd, h1, h2, h3, he⟩ | ⟨_, he⟩
  · have hqc := hq (by rw [he])
    rw [he]
    obtain ⟨htm, htn⟩ := findT_some hfd
    refine ⟨k.c0, fun x hx => ?_, fun hh => ?_⟩
    · rcases mem_put (putT_ord ok.ord).uni hx with rfl | ⟨hx, _⟩
      · exact (k.ten t htm).push k.c0 h1 hqc
      · exact k.ten x hx
    · rw [headW_push ok hfd hh]; exact k.bsy hh
  · rw [he]; exact k
/-- a slot begins: the clock goes to the least start. -/
theorem TmS.begun {b : Int} {S : Sc} {c : Int} (k : TmS S c) (ok : OkS b S) (hid : idleS S.ts = false) : ∃ t w r, findT (begunS S).sv S.ts = some t ∧ t.l = w :: r ∧ (begunS S).ts = S.ts ∧ OkS b (begunS S) ∧ (begunS S).had = S.had ∧ (begunS S).had < w.j.cost ∧
    headW (begunS S).sv S.ts = w ∧ (begunS S).ck = w.st ∧ S.ck ≤ (begunS S).ck ∧ TmS (begunS S) c ∧ (S.had ≠ 0 → (begunS S).sv = S.sv) := by
  obtain ⟨t, w, r, hfd, hl, hts, okb, hhc, hhw, hbh, hn1, hn2⟩ := begun_spec ok hid
  obtain ⟨htm, htn⟩ := findT_some hfd
  have hh0 := ok.had0
  by_cases hz : S.had = 0
  · obtain ⟨⟨a, d, r', hN, hl2, hlo, hhi⟩, hck⟩ := hn1 hz
    have hmin : ∀ x ∈ S.ts, ∀ y q, x.l = y :: q → w.st ≤ y.st := by
      intro x hx y q hy
      rw [hN] at hx
      simp only [List.mem_append, List.mem_cons] at hx
      rcases hx with hx | rfl | hx
      · exact Int.le_of_lt (hlo x hx y q hy)
      · rw [hl] at hy; injection hy with hy _; rw [hy]; exact Int.le_refl _
      · exact hhi x hx y q hy
    have hle : S.ck ≤ w.st := (k.ten t htm).low w r hl
    refine ⟨t, w, r, hfd, hl, hts, okb, hbh, hhc, hhw, hck, by rw [hck]; exact hle, ⟨k.c0, fun x hx => ?_, fun hh => ?_⟩, fun h => absurd hz h⟩
    · rw [hts] at hx
      have kx := k.ten x hx
      rw [hck]
      refine ⟨kx.cst, kx.chn, fun y q hy => hmin x hx y q hy, ?_⟩
      have := kx.top
      omega
    · rw [hbh] at hh; omega
  · have hb := hn2 hz
    have hst := k.bsy (by omega)
    refine ⟨t, w, r, hfd, hl, hts, okb, hbh, hhc, hhw, ?_, by rw [hb]; exact Int.le_refl _, by rw [hb]; exact k, fun _ => by rw [hb]⟩
    rw [hb] at hhw ⊢
    rw [← hst, hhw]
/-- the tenant without its first job. -/
def popTn (t : Tn) : Tn := { t with l := t.l.tail }
theorem Tm.pop {c : Int} {t : Tn} {w : Wk} {r : List Wk} (k : Tm w.st c t) (hl : t.l = w :: r) (hc : w.j.cost ≤ c) : Tm w.st c (popTn t) ∧ nxt (popTn t).l (popTn t).en = w.st + w.j.cost * kw t := by
  have hch := k.chn
  rw [hl] at hch
  have hpl : (popTn t).l = r := by unfold popTn; rw [hl]; rfl
  have h1 : nxt (popTn t).l (popTn t).en = w.st + w.j.cost * kw t := by rw [hpl]; exact hch.1
  have hcw := (k.cst w (by rw [hl]; simp)).1
  have h2 := mul_mono (show (0 : Int) ≤ w.j.cost by omega) (kw_nn t)
  rw [Int.zero_mul] at h2
  have h3 := mul_mono hc (kw_nn t)
  refine ⟨⟨fun x hx => k.cst x (by rw [hl]; rw [hpl] at hx; exact List.mem_cons_of_mem _ hx), ?_, fun x q hx => ?_, ?_⟩, h1⟩
  · rw [hpl]; exact hch.2
  · rw [hx] at h1
    have h1 : x.st = _ := h1
    omega
  · rw [h1]; show _ ≤ w.st + c * kw t; omega
theorem TmS.step {b : Int} {S : Sc} {c : Int} (k : TmS S c) (ok : OkS b S) : TmS (stepS S).2 c := by
  by_cases hid : idleS S.ts = true
  · have : stepS S = (⟨[], job0, false, false⟩, S) := by simp [stepS, hid]
    rw [this]; exact k
  have hid : idleS S.ts = false := by simpa using hid
  obtain ⟨t, w, r, hfd, hl, hts, okb, hbh, hhc, hhw, hck, hle, kb, _⟩ := k.begun ok hid
  obtain ⟨B, hB⟩ : ∃ B, B = begunS S := ⟨_, rfl⟩
  rw [← hB] at hfd hts okb hbh hhc hhw hck hle kb
  have hs : stepS S = servedS B := by simp [stepS, hid, hB]
  rw [hs]
  have hhw' : headW B.sv B.ts = w := by rw [hts]; exact hhw
  obtain ⟨htm, htn⟩ := findT_some hfd
  have hh0 := ok.had0
  unfold servedS
  rw [hhw']
  split
  · refine ⟨k.c0, kb.ten, fun _ => ?_⟩
    show (headW B.sv B.ts).st = B.ck
    rw [hhw', hck]
  · have hpop : popT B.sv B.ts = putT (popTn t) B.ts := popT_of (by rw [hts]; exact hfd)
    have kt : Tm w.st c t := by
      have := kb.ten t (by rw [hts]; exact htm)
      rw [hck] at this; exact this
    have hten : ∀ x ∈ putT (popTn t) B.ts, Tm B.ck c x := by
      intro x hx
      rcases mem_put (putT_ord okb.ord).uni hx with rfl | ⟨hx, _⟩
      · rw [hck]; exact (kt.pop hl (kt.cst w (by rw [hl]; simp)).2).1
      · exact kb.ten x hx
    rw [hpop]
    split
    · rename_i hidp
      refine ⟨k.c0, fun x hx => ?_, fun h => by simp at h⟩
      obtain ⟨y, hy, rfl⟩ := List.mem_map.1 hx
      have hyl := idle_true hidp y hy
      refine ⟨fun w hw => ?_, ?_, fun w q hw => ?_, ?_⟩
      · simp only [hyl] at hw; cases hw
      · show Chn _ y.l _; rw [hyl]; trivial
      · simp only [hyl] at hw; cases hw
      · show nxt y.l 0 ≤ 0 + c * _
        rw [hyl]
        have h2 := mul_mono k.c0 (kw_nn { y with en := 0 })
        rw [Int.zero_mul] at h2
        show (0 : Int) ≤ 0 + c * kw { y with en := 0 }
        omega
    · exact ⟨k.c0, hten, fun h => by simp at h⟩
theorem sc0_tm : TmS ⟨[], 0, [], 0⟩ 0 := ⟨Int.le_refl _, by simp, by simp⟩
/-- where a job that is pushed starts. -/
theorem TmS.mark {b : Int} {S : Sc} {c : Int} (k : TmS S c) (ok : OkS b S) {nm : List UInt8} {t : Tn} (hfd : findT nm S.ts = some t) : S.ck ≤ startS S t ∧ startS S t ≤ S.ck + (aheadS S nm + c) * kw t := by
  obtain ⟨htm, htn⟩ := findT_some hfd
  have kt := k.ten t htm
  have hh0 := ok.had0
  have hahead : aheadS S nm = sumC t.l - (if S.sv = nm then S.had else 0) := by simp [aheadS, hfd]
  refine ⟨(start_le ok (ok.ten t htm)).2.2.1, ?_⟩
  rw [Int.add_mul, hahead]
  by_cases hl : t.l = []
  · have h1 := kt.start0 hl k.c0
    have h2 : (if S.sv = nm then S.had else 0) = 0 := by
      split
      · rename_i he
        by_cases hz : S.had = 0
        · exact hz
        · obtain ⟨t', w', r', ht', hn', hl', _⟩ := ok.bsy (by omega)
          have h3 := findT_mem ok.ord.uni ht'
          rw [hn', he, hfd] at h3
          injection h3 with h3
          rw [← h3, hl] at hl'; cases hl'
      · rfl
    rw [h2, hl]
    simp only [sumC, List.map_nil, List.sum_nil, Int.sub_zero, Int.zero_mul]
    omega
  · have h1 := kt.start hl
    have h2 := chn_end kt.chn
    rw [h1, h2, Int.sub_mul]
    by_cases hb : S.sv = nm ∧ 0 < S.had
    · obtain ⟨hb1, hb2⟩ := hb
      rw [if_pos hb1]
      obtain ⟨t', w', r', ht', hn', hl', hc'⟩ := ok.bsy hb2
      have h3 := findT_mem ok.ord.uni ht'
      rw [hn', hb1, hfd] at h3
      injection h3 with h3
      subst h3
      have h4 := k.bsy hb2
      rw [headW_of (by rw [hb1]; exact hfd) hl'] at h4
      have h5 : nxt t.l t.en = S.ck := by rw [hl']; exact h4
      have h6 := (kt.cst w' (by rw [hl']; simp)).2
      have h7 := mul_mono (show S.had ≤ c by omega) (kw_nn t)
      omega
    · have h3 : (if S.sv = nm then S.had else 0) = 0 := by
        split
        · rename_i he
          have : ¬ 0 < S.had := fun h => hb ⟨he, h⟩
          omega
        · rfl
      rw [h3, Int.zero_mul]
      have := kt.top
      omega

/-! ### a job that waits -/
def hadOf (S : Sc) (nm : List UInt8) : Int := if nm = S.sv then S.had else 0
/-- job M of tenant f, that starts at s, waits; x: the slots that each tenant has had since the clock stood at v; k in all. -/
structure Wai (S : Sc) (c v s : Int) (f : List UInt8) (M : Jb) (x : List UInt8 → Int) (k : Int) : Prop where
  tm : TmS S c
  v0 : v ≤ S.ck
  wt : ∃ t ∈ S.ts, t.nm = f ∧ ∃ a b, t.l = a ++ ⟨M, s⟩ :: b
  beh : ∀ t ∈ S.ts, (x t.nm - hadOf S t.nm) * kw t ≤ (if S.ck < nxt t.l t.en then nxt t.l t.en else S.ck) - v
  bd : ∀ t ∈ S.ts, x t.nm * kw t ≤ s - v + c * kw t
  sum : ((S.ts.map (·.nm)).map x).sum = k
theorem Wai.idle {S : Sc} {c v s : Int} {f : List UInt8} {M : Jb} {x : List UInt8 → Int} {k : Int} (W : Wai S c v s f M x k) : idleS S.ts = false := by
  obtain ⟨t, ht, _, a, b, hl⟩ := W.wt
  exact idle_not ht (by rw [hl]; simp)
/-- the clock is not beyond it. -/
theorem Wai.le {S : Sc} {c v s : Int} {f : List UInt8} {M : Jb} {x : List UInt8 → Int} {k : Int} (W : Wai S c v s f M x k) : S.ck ≤ s := by
  obtain ⟨t, ht, _, a, b, hl⟩ := W.wt
  have kt := W.tm.ten t ht
  have h1 := chn_le (kw_nn t) kt.chn (fun w hw => (kt.cst w hw).1) ⟨M, s⟩ (by rw [hl]; simp)
  have h2 : S.ck ≤ nxt t.l t.en := by
    cases hl' : t.l with
    | nil => rw [hl'] at hl; simp at hl
    | cons w r => exact kt.low w r hl'
  exact Int.le_trans h2 h1
theorem sum_upd {x : List UInt8 → Int} {n : List UInt8} : ∀ {ns : List (List UInt8)}, ns.Nodup → n ∈ ns → (ns.map fun m => if m = n then x m + 1 else x m).sum = (ns.map x).sum + 1
  | [], _, h => by cases h
  | m :: ns, hd, h => by
    rw [List.nodup_cons] at hd
    simp only [List.map_cons, List.sum_cons]
    rcases List.mem_cons.1 h with rfl | h
    · rw [if_pos rfl]
      have : (ns.map fun m => if m = n then x m + 1 else x m) = ns.map x := List.map_congr_left fun m hm => if_neg (fun e => hd.1 (by rw [← e]; exact hm))
      rw [this]; omega
    · rw [if_neg (fun e => hd.1 (by rw [e]; exact h)), sum_upd hd.2 h]; omega
theorem had_zero {b : Int} {S : Sc} (ok : OkS b S) {t : Tn} (ht : t ∈ S.ts) (hl : t.l = []) : hadOf S t.nm = 0 := by
  unfold hadOf
  split
  · rename_i he
    have hh0 := ok.had0
    by_cases hz : S.had = 0
    · exact hz
    · obtain ⟨t', w', r', ht', hn', hl', _⟩ := ok.bsy (by omega)
      have h3 := findT_mem ok.ord.uni ht'
      rw [hn', ← he, findT_mem ok.ord.uni ht] at h3
      injection h3 with h3
      rw [← h3, hl] at hl'; cases hl'
  · rfl
theorem Wai.push {b : Int} {S : Sc} {c v s : Int} {f : List UInt8} {M : Jb} {x : List UInt8 → Int} {k : Int} (W : Wai S c v s f M x k) (ok : OkS b S) {nm : List UInt8} {q : Jb} (hq : (pushS S nm q).1 = 0 → q.cost ≤ c) : Wai (pushS S nm q).2 c v s f M x k := by
  have htm := W.tm.push ok hq
  rcases pushS_def (S := S) (nm := nm) (q := q) with ⟨t, hfd, h1, h2, h3, he⟩ | ⟨_, he⟩
  · rw [he] at htm ⊢
    obtain ⟨hmem, htn⟩ := findT_some hfd
    have hput : pushT S t q ∈ putT (pushT S t q) S.ts := by
      have : findT t.nm (putT (pushT S t q) S.ts) = some (pushT S t q) := by
        rw [findT_putT, if_pos (by rfl), findT_mem ok.ord.uni hmem]; rfl
      exact (findT_some this).1
    refine ⟨htm, W.v0, ?_, fun y hy => ?_, fun y hy => ?_, ?_⟩
    · obtain ⟨t', ht', hn', a, d, hl'⟩ := W.wt
      by_cases e : t'.nm = t.nm
      · have h4 := findT_mem ok.ord.uni ht'
        rw [e, findT_mem ok.ord.uni hmem] at h4
        injection h4 with h4
        subst h4
        exact ⟨pushT S t q, hput, hn', a, d ++ [⟨q, startS S t⟩], by show t.l ++ _ = _; rw [hl']; simp⟩
      · have : findT t'.nm (putT (pushT S t q) S.ts) = some t' := by
          rw [findT_putT, if_neg (by exact e)]; exact findT_mem ok.ord.uni ht'
        exact ⟨t', (findT_some this).1, hn', a, d, hl'⟩
    · rcases mem_put (putT_ord ok.ord).uni hy with rfl | ⟨hy, _⟩
      · have hb := W.beh t hmem
        show (x t.nm - hadOf S t.nm) * kw t ≤ (if S.ck < nxt (t.l ++ [⟨q, startS S t⟩]) _ then nxt (t.l ++ [⟨q, startS S t⟩]) _ else S.ck) - v
        cases hl : t.l with
        | nil =>
          have hs := (W.tm.ten t hmem).start0 hl W.tm.c0
          rw [hl] at hb
          have hb : _ ≤ (if S.ck < t.en then t.en else S.ck) - v := hb
          show _ ≤ (if S.ck < startS S t then startS S t else S.ck) - v
          have h5 : (if S.ck < t.en then t.en else S.ck) ≤ (if S.ck < startS S t then startS S t else S.ck) := by
            split <;> split <;> omega
          omega
        | cons w r =>
          rw [hl] at hb
          exact hb
      · exact W.beh y hy
    · rcases mem_put (putT_ord ok.ord).uni hy with rfl | ⟨hy, _⟩
      · exact W.bd t hmem
      · exact W.bd y hy
    · show (((putT (pushT S t q) S.ts).map (·.nm)).map x).sum = k
      rw [putT_names]; exact W.sum
  · rw [he]; exact W
theorem max_ge {a b : Int} : a ≤ (if a < b then b else a) ∧ b ≤ (if a < b then b else a) := by split <;> omega
/-- a slot: it is done, or it waits on. -/
theorem Wai.step {b : Int} {S : Sc} {c v s : Int} {f : List UInt8} {M : Jb} {x : List UInt8 → Int} {k : Int} (W : Wai S c v s f M x k) (ok : OkS b S) :
    (stepS S).1.ok = true ∧ (((stepS S).1.dn = true ∧ (stepS S).1.j.id = M.id) ∨ ∃ x', Wai (stepS S).2 c v s f M x' (k + 1)) := by
  have hid := W.idle
  have hle := W.le
  obtain ⟨t, w, r, hfd, hl, hts, okb, hbh, hhc, hhw, hck, hckle, kb, hsv⟩ := W.tm.begun ok hid
  obtain ⟨B, hB⟩ : ∃ B, B = begunS S := ⟨_, rfl⟩
  rw [← hB] at hfd hts okb hbh hhc hhw hck hckle kb hsv
  have hs : stepS S = servedS B := by simp [stepS, hid, hB]
  have hhw' : headW B.sv B.ts = w := by rw [hts]; exact hhw
  obtain ⟨htm, htn⟩ := findT_some hfd
  have hh0 := ok.had0
  have hhB : ∀ n, hadOf B n = hadOf S n := by
    intro n
    unfold hadOf
    by_cases hz : S.had = 0
    · rw [hbh, hz]; simp
    · rw [hsv hz, hbh]
  -- all that is said of S is so of B
  have WB : Wai B c v s f M x k := by
    refine ⟨kb, by have := W.v0; omega, by rw [hts]; exact W.wt, fun y hy => ?_, fun y hy => ?_, by rw [hts]; exact W.sum⟩
    · rw [hts] at hy
      have h1 := W.beh y hy
      rw [hhB]
      have h2 : (if S.ck < nxt y.l y.en then nxt y.l y.en else S.ck) ≤ (if B.ck < nxt y.l y.en then nxt y.l y.en else B.ck) := by
        split <;> split <;> omega
      omega
    · rw [hts] at hy; exact W.bd y hy
  have hBs := WB.le
  have hsvn : hadOf B t.nm = B.had := by unfold hadOf; rw [if_pos htn]
  have htB : t ∈ B.ts := by rw [hts]; exact htm
  have hcw := ((kb.ten t htB).cst w (by rw [hl]; simp))
  have hbt := WB.beh t htB
  rw [hsvn, hl] at hbt
  have hbt : (x t.nm - B.had) * kw t ≤ (if B.ck < w.st then w.st else B.ck) - v := hbt
  rw [if_neg (by omega), hck] at hbt
  have hK := kw_nn t
  have hmul : (x t.nm + 1) * kw t = (x t.nm - B.had) * kw t + (B.had + 1) * kw t := by rw [← Int.add_mul]; congr 1; omega
  have hcm := mul_mono (show B.had + 1 ≤ c by omega) hK
  have hBh0 : 0 ≤ B.had := by omega
  let x' : List UInt8 → Int := fun m => if m = B.sv then x m + 1 else x m
  have hx't : x' t.nm = x t.nm + 1 := by show (if t.nm = B.sv then _ else _) = _; rw [if_pos htn]
  have hx'o : ∀ y : Tn, y.nm ≠ B.sv → x' y.nm = x y.nm := fun y hy => by show (if y.nm = B.sv then _ else _) = _; rw [if_neg hy]
  have hsum' : ((B.ts.map (·.nm)).map x').sum = k + 1 := by
    have h1 := sum_upd (x := x) (n := B.sv) (ns := B.ts.map fun t : Tn => t.nm) (show (B.ts.map fun t : Tn => t.nm).Nodup from okb.ord.uni) (by rw [← htn]; exact List.mem_map_of_mem htB)
    rw [WB.sum] at h1
    exact h1
  have hbd' : ∀ y ∈ B.ts, x' y.nm * kw y ≤ s - v + c * kw y := by
    intro y hy
    by_cases he : y.nm = B.sv
    · have h1 : y = t := by
        have h2 := findT_mem okb.ord.uni hy
        rw [he, ← htn, findT_mem okb.ord.uni htB] at h2
        injection h2 with h2
        exact h2.symm
      subst h1
      rw [hx't, hmul]
      omega
    · rw [hx'o y he]; exact WB.bd y hy
  have hoth : ∀ y ∈ B.ts, y.nm ≠ B.sv → hadOf B y.nm = 0 := fun y hy he => by unfold hadOf; rw [if_neg he]
  rw [hs]
  unfold servedS
  rw [hhw']
  split
  · rename_i hlt
    refine ⟨rfl, .inr ⟨x', ⟨⟨kb.c0, kb.ten, fun _ => by show (headW B.sv B.ts).st = B.ck; rw [hhw', hck]⟩, WB.v0, WB.wt, fun y hy => ?_, hbd', hsum'⟩⟩⟩
    have hy : y ∈ B.ts := hy
    by_cases he : y.nm = B.sv
    · have h1 : hadOf { B with had := B.had + 1 } y.nm = hadOf B y.nm + 1 := by unfold hadOf; rw [if_pos he, if_pos he]
      have h2 : x' y.nm = x y.nm + 1 := by show (if y.nm = B.sv then _ else _) = _; rw [if_pos he]
      rw [h1, h2, show x y.nm + 1 - (hadOf B y.nm + 1) = x y.nm - hadOf B y.nm by omega]
      exact WB.beh y hy
    · have h1 : hadOf { B with had := B.had + 1 } y.nm = hadOf B y.nm := by unfold hadOf; rw [if_neg he, if_neg he]
      rw [h1, hx'o y he]
      exact WB.beh y hy
  · rename_i hlt
    refine ⟨rfl, ?_⟩
    by_cases hMid : w.j.id = M.id
    · exact .inl ⟨rfl, hMid⟩
    refine .inr ⟨x', ?_⟩
    have hpop : popT B.sv B.ts = putT (popTn t) B.ts := popT_of (by rw [hts]; exact hfd)
    have hcost : B.had + 1 = w.j.cost := by omega
    have hput : popTn t ∈ putT (popTn t) B.ts := by
      have : findT t.nm (putT (popTn t) B.ts) = some (popTn t) := by
        rw [findT_putT, if_pos (by rfl), findT_mem okb.ord.uni htB]; rfl
      exact (findT_some this).1
    have hwt : ∃ y ∈ putT (popTn t) B.ts, y.nm = f ∧ ∃ a d, y.l = a ++ ⟨M, s⟩ :: d := by
      obtain ⟨y, hy, hn, a, d, hyl⟩ := WB.wt
      by_cases e : y.nm = t.nm
      · have h4 := findT_mem okb.ord.uni hy
        rw [e, findT_mem okb.ord.uni htB] at h4
        injection h4 with h4
        subst h4
        cases a with
        | nil =>
          rw [hl] at hyl
          injection hyl with h5 _
          rw [h5] at hMid
          exact absurd rfl hMid
        | cons a0 a =>
          exact ⟨popTn t, hput, hn, a, d, by unfold popTn; rw [hyl]; rfl⟩
      · have : findT y.nm (putT (popTn t) B.ts) = some y := by
          rw [findT_putT, if_neg (by exact e)]; exact findT_mem okb.ord.uni hy
        exact ⟨y, (findT_some this).1, hn, a, d, hyl⟩
    have hidp : idleS (popT B.sv B.ts) = false := by
      rw [hpop]
      obtain ⟨y, hy, _, a, d, hyl⟩ := hwt
      exact idle_not hy (by rw [hyl]; simp)
    rw [if_neg (by rw [hidp]; simp), hpop]
    have kt : Tm w.st c t := by
      have := kb.ten t htB
      rw [hck] at this; exact this
    obtain ⟨kp1, kp2⟩ := kt.pop hl (by omega)
    refine ⟨⟨kb.c0, fun y hy => ?_, fun h => by simp at h⟩, WB.v0, hwt, fun y hy => ?_, fun y hy => ?_, ?_⟩
    · rcases mem_put (putT_ord okb.ord).uni hy with rfl | ⟨hy, _⟩
      · rw [hck]; exact kp1
      · exact kb.ten y hy
    · have h0 : hadOf { B with ts := putT (popTn t) B.ts, had := 0 } y.nm = 0 := by unfold hadOf; split <;> rfl
      rw [h0, Int.sub_zero]
      rcases mem_put (putT_ord okb.ord).uni hy with rfl | ⟨hy, hne⟩
      · show x' t.nm * kw t ≤ (if B.ck < nxt (popTn t).l (popTn t).en then nxt (popTn t).l (popTn t).en else B.ck) - v
        rw [hx't, hmul, hcost]
        have := (max_ge (a := B.ck) (b := nxt (popTn t).l (popTn t).en)).2
        rw [kp2] at this ⊢
        omega
      · have hne' : y.nm ≠ B.sv := by rw [← htn]; exact hne
        have h1 := WB.beh y hy
        rw [hoth y hy hne', Int.sub_zero] at h1
        rw [hx'o y hne']
        exact h1
    · rcases mem_put (putT_ord okb.ord).uni hy with rfl | ⟨hy, _⟩
      · exact hbd' t htB
      · exact hbd' y hy
    · show (((putT (popTn t) B.ts).map (·.nm)).map x').sum = k + 1
      rw [putT_names]; exact hsum'
end Go.Proofs.Ytnnljhcpkkpniaa.Fa
