/- The pure machine, part M: what the reckoning gives stands for the code that it was given. -/
import Derived.Test.YtdnkpgbggpbgaaaPmL
set_option linter.unusedVariables false
set_option linter.unusedSimpArgs false
namespace Go.Proofs.Ytdnkpgbggpbgaaa.Pm
open Go.RowKit
variable {P : Program} {N : Nat} {o : Oper}

/-- the instruction is no call, and holds. -/
def IOK (P : Program) (N : Nat) (o : Oper) (i : I) : Prop := ((∀ f a, i ≠ .call f a) ∧ ∀ x, i ≠ .nextM x) ∧ (∀ f a, i ≠ .callv f a) ∧ (if readI i = true then ReadOK P N o i else StepOK P N o i)
theorem IOK.read {i : I} (h1 : readI i = true) (h : ReadOK P N o i) : IOK P N o i := ⟨⟨fun f a e => (by subst e; cases h1), fun x e => (by subst e; cases h1)⟩, fun f a e => (by subst e; cases h1), (by rw [if_pos h1]; exact h)⟩

theorem partN_some {t : TypeId} {n : Option Nat} (h : partN P t = some n) : ∃ d i, P.underlying t = some d ∧ P.info? t = some i ∧ n = if isAggD d = true then some i.size else none := by
  simp only [partN, Option.bind_eq_some_iff, Option.map_eq_some_iff] at h
  obtain ⟨d, hd, i, hi, rfl⟩ := h
  exact ⟨d, i, hd, hi, rfl⟩

theorem isConstO_some {x : Operand} (h : isConstO x = true) : ∃ c, x = .const c := by
  cases x <;> simp [isConstO] at h
  exact ⟨_, rfl⟩

theorem compBin_ok {op : BinOp} {t t' : TypeId} {x y : Operand} {i : I} (hop : o.op = .binOp op t x y t') (h : compBin P N op t x y = some i) : IOK P N o i := by
  simp only [compBin, Option.bind_eq_some_iff] at h
  obtain ⟨rx, hx, ry, hy, h⟩ := h
  split at h
  · injection h with h; subst h; exact .read rfl (ok_bin hop hx hy)
  · injection h with h; subst h; exact .read rfl (ok_bin hop hx hy)
  · rename_i ht
    split at h
    · injection h with h; subst h; exact .read rfl (ok_binB (neg := false) hop ht hx hy)
    · injection h with h; subst h; exact .read rfl (ok_binB (neg := true) hop ht hx hy)
    · cases h
  · rename_i d _ _ _ ht
    split at h
    · rename_i hk
      split at h
      · rename_i hc
        have hlit : NK.ifc = .ifc → (∃ c, x = .const c) ∨ (∃ c, y = .const c) := fun _ => by
          simp only [Bool.or_eq_true] at hc
          rcases hc with hc | hc
          · exact .inl (isConstO_some hc)
          · exact .inr (isConstO_some hc)
        split at h
        · injection h with h; subst h; exact .read rfl (ok_eqNil (neg := false) hop ht hk hlit hx hy)
        · injection h with h; subst h; exact .read rfl (ok_eqNil (neg := true) hop ht hk hlit hx hy)
        · cases h
      · cases h
    · rename_i k hki hk
      split at h
      · injection h with h; subst h; exact .read rfl (ok_eqNil (neg := false) hop ht hk (fun e => (hki e).elim) hx hy)
      · injection h with h; subst h; exact .read rfl (ok_eqNil (neg := true) hop ht hk (fun e => (hki e).elim) hx hy)
      · cases h
    · split at h
      · rename_i hag
        simp only [Option.bind_eq_some_iff] at h
        obtain ⟨ks, hks, h⟩ := h
        have had : ∀ d', P.underlying t = some d' → isAggD d' = true := fun d' hd' => by
          rw [ht] at hd'; injection hd' with hd'; subst hd'; exact hag.1
        split at h
        · injection h with h; subst h; exact .read rfl (ok_eqV (neg := false) hop hks (by omega) had hag.2 hx hy)
        · injection h with h; subst h; exact .read rfl (ok_eqV (neg := true) hop hks (by omega) had hag.2 hx hy)
        · cases h
      · cases h
  · cases h

theorem isU8_some {e : TypeId} (h : isU8 P e = true) : P.underlying e = some (.int .u8) := by
  unfold isU8 at h
  split at h
  · assumption
  · cases h

theorem IOK.step {i : I} (h1 : readI i = false) (h2 : ∀ f a, i ≠ .call f a) (h3 : ∀ f a, i ≠ .callv f a) (h : StepOK P N o i) (h4 : ∀ x, i ≠ .nextM x := by intro x e; cases e) : IOK P N o i := ⟨⟨h2, h4⟩, h3, by rw [if_neg (by rw [h1]; simp)]; exact h⟩

theorem compConv_ok {src dst : TypeId} {x : Operand} {i : I} (hop : o.op = .convert src dst x) (h : compConv P N src dst x = some i) : IOK P N o i := by
  simp only [compConv, Option.bind_eq_some_iff] at h
  obtain ⟨rx, hx, h⟩ := h
  split at h
  · rename_i h1 h2; injection h with h; subst h; exact .read rfl (ok_convI hop h1 h2 hx)
  · rename_i h1 h2; injection h with h; subst h; exact .read rfl (ok_convS hop h1 h2 hx)
  · rename_i h1 h2
    split at h
    · rename_i h3; injection h with h; subst h; exact .step rfl (fun f a e => by cases e) (fun f a e => by cases e) (ok_toBytes hop h1 h2 (isU8_some h3) hx)
    · cases h
  · rename_i h1 h2
    split at h
    · rename_i h3; injection h with h; subst h; exact .read rfl (ok_ofBytes hop h1 h2 (isU8_some h3) hx)
    · cases h
  · rename_i h1 h2
    split at h
    · rename_i h3
      obtain ⟨rfl, h3⟩ := h3
      injection h with h; subst h
      exact .step rfl (fun f a e => by cases e) (fun f a e => by cases e) (ok_sameB hop h1 (isU8_some h3) hx)
    · cases h
  · cases h

theorem compParts_some {place : Nat → Option (Nat × Nat)} {ps : List (Nat × Operand)} {qs : List (Nat × Nat × Ref)} (h : compParts P N place ps = some qs) :
    ps.length = qs.length ∧ ∀ (j : Nat) (p : Nat × Operand) (q : Nat × Nat × Ref), ps[j]? = some p → qs[j]? = some q → place p.1 = some (q.1, q.2.1) ∧ compRef N p.2 = some q.2.2 := by
  obtain ⟨h1, h2⟩ := mapM_some h
  refine ⟨h1, fun j p q hp hq => ?_⟩
  have := h2 j p q hp hq
  simp only [Option.bind_eq_some_iff, Option.map_eq_some_iff] at this
  obtain ⟨q0, hq0, r, hr, rfl⟩ := this
  exact ⟨hq0, hr⟩

theorem compBuild_ok {t : TypeId} {parts : Array (Nat × Operand)} {i : I} (hop : o.op = .build t parts) (h : compBuild P N t parts = some i) : IOK P N o i := by
  simp only [compBuild, Option.bind_eq_some_iff] at h
  obtain ⟨it, hit, z, hz, h⟩ := h
  split at h
  · rename_i hzc
    split at h
    · rename_i fs ht
      split at h
      · rename_i hall
        simp only [Option.map_eq_some_iff] at h
        obtain ⟨qs, hq, rfl⟩ := h
        obtain ⟨h1, h2⟩ := compParts_some hq
        exact .read rfl (ok_buildS hop ht hit hz hzc (fun f hf => List.all_eq_true.1 hall f hf) h1 h2)
      · cases h
    · rename_i n e ht
      simp only [Option.bind_eq_some_iff, Option.map_eq_some_iff] at h
      obtain ⟨ie, hie, qs, hq, rfl⟩ := h
      obtain ⟨h1, h2⟩ := compParts_some hq
      exact .read rfl (ok_buildA hop ht hie hit hz hzc h1 (fun j p q hp hq => by
        obtain ⟨e1, e2⟩ := h2 j p q hp hq
        injection e1 with e1
        exact ⟨e1, e2⟩))
    · cases h
  · cases h

theorem compRow_ok {t : TypeId} {len : Nat} {parts : Array (Nat × Operand)} {i : I} (hop : o.op = .buildSlice t len parts) (h : compRow P N t len parts = some i) : IOK P N o i := by
  unfold compRow at h
  split at h
  · rename_i e ht
    simp only [Option.bind_eq_some_iff] at h
    obtain ⟨ie, hie, z, hz, h⟩ := h
    split at h
    · rename_i hc
      simp only [Option.map_eq_some_iff] at h
      obtain ⟨qs, hq, rfl⟩ := h
      obtain ⟨h1, h2⟩ := compParts_some hq
      exact .step rfl (fun f a e => by cases e) (fun f a e => by cases e) (ok_row hop ht hie hz hc.1 hc.2.1 hc.2.2 h1 (fun j p q hp hq => by
        obtain ⟨e1, e2⟩ := h2 j p q hp hq
        injection e1 with e1
        exact ⟨e1, e2⟩) (rowE_le _ _ _ _))
    · cases h
  · cases h

theorem compAppend_ok {ts : Array TypeId} {x y : Operand} {i : I} (hop : o.op = .call { callee := .builtin .append, args := #[x, y], argTypes := ts }) (h : compAppend P N ts x y = some i) : IOK P N o i := by
  unfold compAppend at h
  split at h
  · rename_i t t' hts
    have hts' : ts = #[t, t'] := by apply Array.ext'; simpa using hts
    split at h
    · rename_i e ht
      simp only [Option.bind_eq_some_iff] at h
      obtain ⟨ie, hie, z, hz, rx, hx, ry, hy, h⟩ := h
      split at h
      · rename_i hc
        split at h
        · rename_i e' ht'
          injection h with h; subst h
          exact .step rfl (fun f a e => by cases e) (fun f a e => by cases e) (ok_append hop hts' ht ht' hie hz hc.1 hc.2 hx hy)
        · rename_i ht'
          split at h
          · rename_i hc2
            injection h with h; subst h
            exact .step rfl (fun f a e => by cases e) (fun f a e => by cases e) (ok_appendStr hop hts' ht ht' hie hz hc.1 hc2.1 hc2.2 hx hy)
          · cases h
        · rename_i ki ht'
          split at h
          · rename_i hc2
            injection h with h; subst h
            exact .step rfl (fun f a e => by cases e) (fun f a e => by cases e) (ok_appendZ hop hts' ht ht' hie hz hc.1 hc.2 hc2.1 hc2.2.1 hc2.2.2 hx hy)
          · cases h
        · cases h
      · cases h
    · cases h
  · cases h

theorem compLen_ok {ts : Array TypeId} {x : Operand} {i : I} (hop : o.op = .call { callee := .builtin .len, args := #[x], argTypes := ts }) (h : compLen P N ts x = some i) : IOK P N o i := by
  simp only [compLen, Option.bind_eq_some_iff] at h
  obtain ⟨t, hts, h⟩ := h
  split at h
  · rename_i ht
    simp only [Option.map_eq_some_iff] at h
    obtain ⟨rx, hx, rfl⟩ := h
    exact .read rfl (ok_lenStr hop hts ht hx)
  · rename_i ht
    simp only [Option.map_eq_some_iff] at h
    obtain ⟨rx, hx, rfl⟩ := h
    exact .read rfl (ok_lenS hop hts ht hx)
  · rename_i ht
    injection h with h; subst h
    exact .read rfl (ok_lenA hop hts ht)
  · rename_i ht
    simp only [Option.map_eq_some_iff] at h
    obtain ⟨rx, hx, rfl⟩ := h
    exact .read rfl (ok_lenM hop hts ht hx)
  · cases h

theorem compMapT_some {t : TypeId} {q : LK × Value} (h : compMapT P t = some q) : ∃ kt et d ie, P.underlying t = some (.map kt et) ∧ P.underlying kt = some d ∧ kdOf d = some q.1 ∧ P.info? et = some ie ∧ ie.zero = some q.2 ∧ closedD q.2 = true := by
  unfold compMapT at h
  split at h
  · rename_i kt et ht
    simp only [Option.bind_eq_some_iff] at h
    obtain ⟨d, hd, kd, hkd, ie, hie, z, hz, h⟩ := h
    split at h
    · rename_i hc
      injection h with h
      subst h
      exact ⟨kt, et, d, ie, ht, hd, hkd, hie, hz, hc⟩
    · cases h
  · cases h
theorem compMake_ok {t : TypeId} {x y : Operand} {i : I} (hop : o.op = .makeSlice t x y) (h : compMake P N t x y = some i) : IOK P N o i := by
  unfold compMake at h
  split at h
  · rename_i e ht
    simp only [Option.bind_eq_some_iff] at h
    obtain ⟨ie, hie, z, hz, rx, hx, ry, hy, h⟩ := h
    split at h
    · rename_i hc
      injection h with h; subst h
      exact .step rfl (fun f a e => by cases e) (fun f a e => by cases e) (ok_makeSl hop ht hie hz hc.1 hc.2.1 hc.2.2.1 hc.2.2.2.1 hc.2.2.2.2 hx hy)
    · cases h
  · cases h
theorem compCopy_ok {ts : Array TypeId} {x y : Operand} {i : I} (hop : o.op = .call { callee := .builtin .copy, args := #[x, y], argTypes := ts }) (h : compCopy P N ts x y = some i) : IOK P N o i := by
  unfold compCopy at h
  split at h
  · rename_i t t' hts
    have hts' : ts = #[t, t'] := by apply Array.ext'; simpa using hts
    split at h
    · rename_i e ht
      simp only [Option.bind_eq_some_iff, Option.map_eq_some_iff] at h
      obtain ⟨ie, hie, rx, hx, ry, hy, rfl⟩ := h
      exact .step rfl (fun f a e => by cases e) (fun f a e => by cases e) (ok_copyV hop hts' ht hie hx hy)
    · cases h
  · cases h
theorem compDel_ok {ts : Array TypeId} {x y : Operand} {i : I} (hop : o.op = .call { callee := .builtin .delete, args := #[x, y], argTypes := ts }) (h : compDel P N ts x y = some i) : IOK P N o i := by
  simp only [compDel, Option.bind_eq_some_iff, Option.map_eq_some_iff] at h
  obtain ⟨t, hts, q, hq, rx, hx, ry, hy, rfl⟩ := h
  obtain ⟨kt, et, d, ie, ht, hkt, hkd, _⟩ := compMapT_some hq
  exact .step rfl (fun f a e => by cases e) (fun f a e => by cases e) (ok_mapDel (t2 := kt) hop hts ht hkt hkd hx hy)
theorem compAsrt_ok {x : Operand} {xt t : TypeId} {ok : Bool} {i : I} (hop : o.op = .typeAssert x xt t ok) (h : compAsrt P N x t ok = some i) : IOK P N o i := by
  unfold compAsrt at h
  split at h
  · cases h
  · rename_i d hnot ht
    simp only [Option.bind_eq_some_iff] at h
    obtain ⟨ie, hie, z, hz, h⟩ := h
    split at h
    · rename_i hc
      simp only [Option.map_eq_some_iff] at h
      obtain ⟨rx, hx, rfl⟩ := h
      exact .read rfl (ok_asrt hop ht (fun ms e => hnot ms e) hie hz hc hx)
    · cases h
  · cases h

def Meaning (P : Program) (N : Nat) (o : Oper) (i : I) : Prop := match i with
    | .call f args => ∃ (xs : Array Operand) (ts : Array TypeId), o.op = .call { callee := .value (.func f), args := xs, argTypes := ts } ∧ compRefs N xs.toList = some args ∧ isFn P f = true
    | .callv fr args => ∃ (x : Operand) (xs : Array Operand) (ts : Array TypeId), o.op = .call { callee := .value x, args := xs, argTypes := ts } ∧ compRef N x = some fr ∧ compRefs N xs.toList = some args
    | .nextM x => ∃ xo, o.op = .next xo false ∧ compRef N xo = some x
    | i => if readI i = true then ReadOK P N o i else StepOK P N o i
theorem IOK.meaning {i : I} (h : IOK P N o i) : Meaning P N o i := by
  unfold Meaning
  split
  · exact absurd rfl (h.1.1 _ _)
  · exact absurd rfl (h.2.1 _ _)
  · exact absurd rfl (h.1.2 _)
  · exact h.2.2

theorem compI_nod {i : I} (h : compI P N o.op = some i) : ∀ c, o.op ≠ .defer c := by
  intro c e
  rw [e] at h
  simp [compI] at h

theorem compI_ok {i : I} (h : compI P N o.op = some i) : Meaning P N o i := by
  unfold compI at h
  split at h
  · rename_i x hop
    simp only [Option.map_eq_some_iff] at h
    obtain ⟨r, hr, rfl⟩ := h
    exact (IOK.read rfl (ok_mov (.inl hop) hr)).meaning
  · rename_i x hop
    simp only [Option.map_eq_some_iff] at h
    obtain ⟨r, hr, rfl⟩ := h
    exact (IOK.read rfl (ok_mov (.inr hop) hr)).meaning
  · rename_i c a b hop
    simp only [Option.bind_eq_some_iff, Option.map_eq_some_iff] at h
    obtain ⟨rc, hc, ra, ha, rb, hb, rfl⟩ := h
    exact (IOK.read rfl (ok_pick hop hc ha hb)).meaning
  · rename_i x hop
    simp only [Option.map_eq_some_iff] at h
    obtain ⟨r, hr, rfl⟩ := h
    exact (IOK.read rfl (ok_nilck hop hr)).meaning
  · rename_i op t x y t' hop
    exact (compBin_ok hop h).meaning
  · rename_i op t x hop
    simp only [Option.map_eq_some_iff] at h
    obtain ⟨r, hr, rfl⟩ := h
    exact (IOK.read rfl (ok_un hop hr)).meaning
  · rename_i src dst x hop
    exact (compConv_ok hop h).meaning
  · rename_i t hop
    simp only [Option.bind_eq_some_iff] at h
    obtain ⟨it, hit, z, hz, h⟩ := h
    split at h
    · rename_i hc
      simp only [Bool.and_eq_true] at hc
      injection h with h; subst h
      exact (IOK.step rfl (fun f a e => by cases e) (fun f a e => by cases e) (ok_alloc hop hit hz hc.1 hc.2)).meaning
    · cases h
  · rename_i t parts hop
    exact (compBuild_ok hop h).meaning
  · rename_i t len parts hop
    exact (compRow_ok hop h).meaning
  · rename_i t x hop
    simp only [Option.map_eq_some_iff] at h
    obtain ⟨r, hr, rfl⟩ := h
    exact (IOK.step rfl (fun f a e => by cases e) (fun f a e => by cases e) (ok_box hop hr)).meaning
  · rename_i t a hop
    simp only [Option.bind_eq_some_iff, Option.map_eq_some_iff] at h
    obtain ⟨n, hn, r, hr, rfl⟩ := h
    obtain ⟨d, i, hd, hi, rfl⟩ := partN_some hn
    by_cases hag : isAggD d = true
    · rw [if_pos hag]
      exact (IOK.read rfl (ok_loadN hop hd hag hi hr)).meaning
    · rw [if_neg hag]
      exact (IOK.read rfl (ok_load1 hop hd (by simpa using hag) hr)).meaning
  · rename_i t a x hop
    simp only [Option.bind_eq_some_iff, Option.map_eq_some_iff] at h
    obtain ⟨it, hit, ra, ha, rx, hx, rfl⟩ := h
    exact (IOK.step rfl (fun f a e => by cases e) (fun f a e => by cases e) (ok_store hop hit ha hx)).meaning
  · rename_i t x k hop
    split at h
    · rename_i fs ht
      simp only [Option.bind_eq_some_iff] at h
      obtain ⟨f, hf, i, hi, h⟩ := h
      split at h
      · cases h
      · rename_i hn
        simp only [Option.map_eq_some_iff] at h
        obtain ⟨r, hr, rfl⟩ := h
        exact (IOK.read rfl (ok_fieldAddr hop ht hf hi hn hr)).meaning
    · cases h
  · rename_i t x k hop
    split at h
    · rename_i fs ht
      simp only [Option.bind_eq_some_iff, Option.map_eq_some_iff] at h
      obtain ⟨f, hf, n, hn, r, hr, rfl⟩ := h
      obtain ⟨d, i, hd, hi, rfl⟩ := partN_some hn
      exact (IOK.read rfl (ok_field hop ht hf hd hi rfl hr)).meaning
    · cases h
  · rename_i t x j hop
    split at h
    · rename_i e ht
      simp only [Option.bind_eq_some_iff, Option.map_eq_some_iff] at h
      obtain ⟨ie, hie, rx, hx, rj, hj, rfl⟩ := h
      exact (IOK.read rfl (ok_idxS hop ht hie hx hj)).meaning
    · rename_i n e ht
      simp only [Option.bind_eq_some_iff, Option.map_eq_some_iff] at h
      obtain ⟨ie, hie, rx, hx, rj, hj, rfl⟩ := h
      exact (IOK.read rfl (ok_idxA hop ht hie hx hj)).meaning
    · cases h
  · rename_i t x j hop
    split at h
    · rename_i ht
      simp only [Option.bind_eq_some_iff, Option.map_eq_some_iff] at h
      obtain ⟨rx, hx, rj, hj, rfl⟩ := h
      exact (IOK.read rfl (ok_idxStr hop ht hx hj)).meaning
    · rename_i n e ht
      simp only [Option.bind_eq_some_iff, Option.map_eq_some_iff] at h
      obtain ⟨ie, hie, q, hq, rx, hx, rj, hj, rfl⟩ := h
      obtain ⟨d, i, hd, hi, rfl⟩ := partN_some hq
      rw [hi] at hie
      injection hie with hie
      subst hie
      exact (IOK.read rfl (ok_idxV hop ht hd hi rfl hx hj)).meaning
    · cases h
  · rename_i t x lo hi mx hop
    split at h
    · rename_i e ht
      simp only [Option.bind_eq_some_iff] at h
      obtain ⟨ie, hie, rx, hx, rl, hl, rh, hh, rm, hm, h⟩ := h
      split at h
      · cases h
      · rename_i hc
        injection h with h; subst h
        exact (IOK.read rfl (ok_slS hop ht hie (fun h1 h2 => hc (by rw [h2]; cases mx with | none => exact absurd rfl h1 | some _ => rfl)) hx hl hh hm)).meaning
    · rename_i ht
      split at h
      · cases h
      · rename_i hc
        have hc : mx = none := by cases mx <;> simp_all
        subst hc
        simp only [Option.bind_eq_some_iff, Option.map_eq_some_iff] at h
        obtain ⟨rx, hx, rl, hl, rh, hh, rfl⟩ := h
        exact (IOK.read rfl (ok_slStr hop ht hx hl hh)).meaning
    · rename_i n e ht
      split at h
      · cases h
      · rename_i hc
        have hc : mx = none := by cases mx <;> simp_all
        subst hc
        simp only [Option.bind_eq_some_iff, Option.map_eq_some_iff] at h
        obtain ⟨ie, hie, rx, hx, rl, hl, rh, hh, rfl⟩ := h
        exact (IOK.read rfl (ok_slA hop ht hie hx hl hh)).meaning
    · cases h
  · rename_i x k hop
    simp only [Option.map_eq_some_iff] at h
    obtain ⟨r, hr, rfl⟩ := h
    exact (IOK.read rfl (ok_extract hop hr)).meaning
  · rename_i t hop
    injection h with h; subst h
    exact (IOK.step rfl (fun f a e => by cases e) (fun f a e => by cases e) (ok_makeMap hop)).meaning
  · rename_i t x k ok hop
    simp only [Option.bind_eq_some_iff, Option.map_eq_some_iff] at h
    obtain ⟨q, hq, rx, hx, rk, hk, rfl⟩ := h
    obtain ⟨kt, et, d, ie, ht, hkt, hkd, hie, hz, hzc⟩ := compMapT_some hq
    exact (IOK.read rfl (ok_lookup hop ht hkt hkd hie hz hzc hx hk)).meaning
  · rename_i t x k y hop
    simp only [Option.bind_eq_some_iff, Option.map_eq_some_iff] at h
    obtain ⟨q, hq, rx, hx, rk, hk, ry, hy, rfl⟩ := h
    obtain ⟨kt, et, d, ie, ht, hkt, hkd, hie, hz, hzc⟩ := compMapT_some hq
    exact (IOK.step rfl (fun f a e => by cases e) (fun f a e => by cases e) (ok_mapSet hop ht hkt hkd hx hk hy)).meaning
  · rename_i t x k hop
    simp only [Option.bind_eq_some_iff, Option.map_eq_some_iff] at h
    obtain ⟨q, hq, rx, hx, rk, hk, rfl⟩ := h
    obtain ⟨kt, et, d, ie, ht, hkt, hkd, hie, hz, hzc⟩ := compMapT_some hq
    exact (IOK.step rfl (fun f a e => by cases e) (fun f a e => by cases e) (ok_mapEntry hop ht hkt hkd hie hz hzc hx hk)).meaning
  · rename_i t x st y hop
    simp only [Option.bind_eq_some_iff, Option.map_eq_some_iff] at h
    obtain ⟨rx, hx, rs, hst, ry, hy, rfl⟩ := h
    exact (IOK.step rfl (fun f a e => by cases e) (fun f a e => by cases e) (ok_entrySet hop hx hst hy)).meaning
  · rename_i t x hop
    split at h
    · rename_i ht
      simp only [Option.map_eq_some_iff] at h
      obtain ⟨rx, hx, rfl⟩ := h
      exact (IOK.step rfl (fun f a e => by cases e) (fun f a e => by cases e) (ok_rangeS hop ht hx)).meaning
    · rename_i ht
      simp only [Option.map_eq_some_iff] at h
      obtain ⟨rx, hx, rfl⟩ := h
      exact (IOK.step rfl (fun f a e => by cases e) (fun f a e => by cases e) (ok_rangeM hop ht hx)).meaning
    · cases h
  · rename_i x hop
    simp only [Option.map_eq_some_iff] at h
    obtain ⟨rx, hx, rfl⟩ := h
    exact (IOK.step rfl (fun f a e => by cases e) (fun f a e => by cases e) (ok_nextS hop hx)).meaning
  · rename_i x hop
    simp only [Option.map_eq_some_iff] at h
    obtain ⟨rx, hx, rfl⟩ := h
    exact ⟨x, hop, hx⟩
  · rename_i x hop
    simp only [Option.map_eq_some_iff] at h
    obtain ⟨rx, hx, rfl⟩ := h
    exact (IOK.read rfl (ok_entryM hop hx)).meaning
  · rename_i t x y hop
    exact (compMake_ok hop h).meaning
  · rename_i x xt t ok hop
    exact (compAsrt_ok hop h).meaning
  · rename_i fn xs ys hop
    split at h
    · cases h
    · rename_i hy
      simp only [Option.bind_eq_some_iff, Option.map_eq_some_iff] at h
      obtain ⟨rs, hr, us, hu, rfl⟩ := h
      exact (IOK.read rfl (ok_mkFunc hop (by simpa using hy) hr hu)).meaning
  · rename_i t x hop
    split at h
    · cases h
    · rename_i d hnot ht
      simp only [Option.map_eq_some_iff] at h
      obtain ⟨r, hr, rfl⟩ := h
      exact (IOK.read rfl (ok_mkIface hop ht (fun ms e => hnot ms e) hr)).meaning
    · cases h
  · rename_i c hop
    obtain ⟨cal, args, ts⟩ := c
    have ha : args = args.toList.toArray := by simp
    split at h
    · rename_i x hcal hargs
      simp only at hcal hargs
      rw [hargs] at ha
      subst hcal ha
      exact (compLen_ok hop h).meaning
    · rename_i x y hcal hargs
      simp only at hcal hargs
      rw [hargs] at ha
      subst hcal ha
      simp only [Option.bind_eq_some_iff, Option.map_eq_some_iff] at h
      obtain ⟨rx, hx, ry, hy, rfl⟩ := h
      exact (IOK.read rfl (ok_min hop hx hy)).meaning
    · rename_i x y hcal hargs
      simp only at hcal hargs
      rw [hargs] at ha
      subst hcal ha
      simp only [Option.bind_eq_some_iff, Option.map_eq_some_iff] at h
      obtain ⟨rx, hx, ry, hy, rfl⟩ := h
      exact (IOK.read rfl (ok_max hop hx hy)).meaning
    · rename_i x y hcal hargs
      simp only at hcal hargs
      rw [hargs] at ha
      subst hcal ha
      exact (compAppend_ok hop h).meaning
    · rename_i x y hcal hargs
      simp only at hcal hargs
      rw [hargs] at ha
      subst hcal ha
      exact (compDel_ok hop h).meaning
    · rename_i x y hcal hargs
      simp only at hcal hargs
      rw [hargs] at ha
      subst hcal ha
      exact (compCopy_ok hop h).meaning
    · rename_i f hcal
      have hcal : cal = .value (.func f) := hcal
      subst hcal
      split at h
      · rename_i hf
        simp only [Option.map_eq_some_iff] at h
        obtain ⟨rs, hr, rfl⟩ := h
        exact ⟨args, ts, hop, hr, hf⟩
      · cases h
    · rename_i x hnf hcal
      have hcal : cal = .value x := hcal
      subst hcal
      simp only [Option.bind_eq_some_iff, Option.map_eq_some_iff] at h
      obtain ⟨rx, hx, rs, hr, rfl⟩ := h
      exact ⟨x, args, ts, hop, hx, hr⟩
    · cases h
  · cases h

theorem compGI_ok {ops : Array Oper} {g : GI} (h : compGI P N ops o = some g) : GC P N ops o g := by
  unfold compGI at h
  split at h
  · rename_i hd
    simp only [Option.bind_eq_some_iff] at h
    obtain ⟨i, hi, h⟩ := h
    have hlt : ∀ d, o.dst = some d → d < N := fun d e => by rw [e] at hd; simpa [dstLt] using hd
    split at h
    · rename_i hg
      injection h with h; subst h
      exact ⟨rfl, hlt, .inl ⟨hg, rfl⟩, compI_ok hi, compI_nod hi⟩
    · rename_i j b hg
      simp only [Option.bind_eq_some_iff] at h
      obtain ⟨oj, hj, t, ht, h⟩ := h
      split at h
      · rename_i htl
        injection h with h; subst h
        exact ⟨rfl, hlt, .inr ⟨j, b, t, oj, hg, hj, ht, htl, rfl⟩, compI_ok hi, compI_nod hi⟩
      · cases h
  · cases h

theorem compOps_ok {ops : Array Oper} : ∀ {os : List Oper} {gs : List GI}, compOps P N ops os = some gs → GCs P N ops os gs
  | [], gs, h => by simp [compOps] at h; subst h; trivial
  | o :: os, gs, h => by
    simp only [compOps, List.mapM_cons, Option.bind_eq_bind, Option.bind_eq_some_iff, Option.pure_def, Option.some.injEq] at h
    obtain ⟨g, hg, gs', hgs, rfl⟩ := h
    exact ⟨compGI_ok hg, compOps_ok hgs⟩

theorem compC_ok : ∀ {c : Code} {top : Bool} {pc : PC}, compC P N top c = some pc → Stands P N top pc c := by
  intro c
  induction c with
  | skip => intro top pc h; injection h with h; subst h; exact .skip
  | region id os dr =>
    intro top pc h
    cases dr with
    | false =>
      simp only [compC, Option.map_eq_some_iff] at h
      obtain ⟨gs, hg, rfl⟩ := h
      exact .ops id os gs (compOps_ok hg)
    | true =>
      simp only [compC] at h
      split at h
      · rename_i hm
        simp only [Option.bind_eq_some_iff] at h
        obtain ⟨gs, hg, h⟩ := h
        split at h
        · rename_i hc
          injection h with h
          subst h
          exact .quiet id os gs (compOps_ok hg) hm hc.2
        · split at h
          · rename_i l hd
            injection h with h
            subst h
            simp only [compDraw] at hd
            split at hd
            · rename_i hc
              simp only [Bool.and_eq_true] at hc
              simp only [Option.bind_eq_some_iff] at hd
              obtain ⟨ps, _, hd⟩ := hd
              split at hd
              · rename_i hp
                simp only [Bool.and_eq_true, beq_iff_eq] at hp
                exact .draw id os gs ps l (compOps_ok hg) hm hc.1 hc.2 hp.1 hp.2 hd
              · cases hd
            · cases hd
          · simp only [Option.map_eq_some_iff, compDrawT] at h
            obtain ⟨l, h, rfl⟩ := h
            split at h
            · rename_i hc
              simp only [Bool.and_eq_true] at hc
              simp only [Option.bind_eq_some_iff] at h
              obtain ⟨ps, _, h⟩ := h
              split at h
              · rename_i hp
                simp only [Bool.and_eq_true, beq_iff_eq] at hp
                exact .drawT id os gs ps l (compOps_ok hg) hm hc.1 hc.2 hp.1 hp.2 h
              · cases h
            · cases h
      · cases h
  | seq a b iha ihb =>
    intro top pc h
    simp only [compC, Option.bind_eq_some_iff, Option.map_eq_some_iff] at h
    obtain ⟨x, hx, y, hy, rfl⟩ := h
    exact .seq (iha hx) (ihb hy)
  | cond c a b iha ihb =>
    intro top pc h
    simp only [compC, Option.bind_eq_some_iff, Option.map_eq_some_iff] at h
    obtain ⟨r, hr, x, hx, y, hy, rfl⟩ := h
    exact .cond hr (iha hx) (ihb hy)
  | block id b ih =>
    intro top pc h
    simp only [compC, Option.map_eq_some_iff] at h
    obtain ⟨x, hx, rfl⟩ := h
    exact .block id (ih hx)
  | loop b ih =>
    intro top pc h
    simp only [compC, Option.map_eq_some_iff] at h
    obtain ⟨x, hx, rfl⟩ := h
    exact .loop (ih hx)
  | rangeFunc f ps a b iha ihb =>
    intro top pc h
    simp only [compC] at h
    split at h
    · rename_i hc
      obtain ⟨rfl, hps⟩ := hc
      simp only [Option.bind_eq_some_iff, Option.map_eq_some_iff] at h
      obtain ⟨r, hr, x, hx, y, hy, rfl⟩ := h
      exact .rangeF hr (fun p hp => by simpa using List.all_eq_true.1 hps p hp) (iha hx) (ihb hy)
    · cases h
  | exit id => intro top pc h; injection h with h; subst h; exact .exit id
  | scope b ih =>
    intro top pc h
    simp only [compC, Option.bind_eq_some_iff] at h
    obtain ⟨x, hx, h⟩ := h
    split at h
    · injection h with h; subst h; exact .scope (ih hx)
    · simp only [Option.map_eq_some_iff] at h
      obtain ⟨t, ht, rfl⟩ := h
      obtain ⟨rest, h1, h2⟩ := findPC_ok (ih hx) ht
      exact .scopeL (ih hx) h1 h2
  | label l => intro top pc h; injection h with h; subst h; exact .label l
  | goto l => intro top pc h; injection h with h; subst h; exact .goto l
  | ret => intro top pc h; injection h with h; subst h; exact .ret
  | refuse w => intro top pc h; simp [compC] at h

theorem compRV_ok : ∀ {xs : List ResultVar} {rs : List RV}, xs.mapM (compRV P N) = some rs → RVoks P N rs xs
  | [], rs, h => by simp at h; subst h; trivial
  | x :: xs, rs, h => by
    simp only [List.mapM_cons, Option.bind_eq_bind, Option.bind_eq_some_iff, Option.pure_def, Option.some.injEq] at h
    obtain ⟨r, hr, rs', hrs, rfl⟩ := h
    refine ⟨?_, compRV_ok hrs⟩
    cases x with
    | tmp t =>
      simp only [compRV] at hr
      split at hr
      · rename_i ht; injection hr with hr; subst hr; exact ⟨rfl, ht⟩
      · cases hr
    | cell a t =>
      simp only [compRV] at hr
      split at hr
      · rename_i ha
        simp only [Option.map_eq_some_iff] at hr
        obtain ⟨n, hn, rfl⟩ := hr
        obtain ⟨d, i, hd, hi, rfl⟩ := partN_some hn
        exact ⟨rfl, ha, d, i, hd, hi, rfl⟩
      · cases hr

/-- **the reckoning's word.** -/
theorem compF_ok {f : FuncId} {F : PF} (h : compF P f = some F) : StandsF P f F := by
  unfold compF at h
  split at h
  · cases h
  rename_i hisfn
  simp only [Option.bind_eq_some_iff, Option.map_eq_some_iff] at h
  obtain ⟨fn, hfn, c, hc, b, hb, rs, hrs, rfl⟩ := h
  exact ⟨by simpa using hisfn, ⟨fn, c, hfn, hc, rfl, compC_ok hb, compRV_ok hrs⟩⟩

end Go.Proofs.Ytdnkpgbggpbgaaa.Pm
