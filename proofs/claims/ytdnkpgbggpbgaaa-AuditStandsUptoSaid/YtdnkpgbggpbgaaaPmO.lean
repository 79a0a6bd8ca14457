/- The pure machine, part O: what a call leaves of the heap; runs that the kernel carries out. -/
import Derived.Test.YtdnkpgbggpbgaaaPmM
set_option linter.unusedVariables false
set_option linter.unusedSimpArgs false
namespace Go.Proofs.Ytdnkpgbggpbgaaa.Pm
open Go.RowKit

theorem closedE_inv {m : Mp} {v v' : Value} (hc : closedE v = true) (h : VR m v v') : v' = v := by
  cases v <;> try exact h.closed_inv hc
  rename_i a
  cases h with
  | agg _ a' ha h1 =>
    congr 1
    apply Array.ext ha.symm
    intro j hj hj'
    exact (h1 j hj' hj).closed_inv (List.all_eq_true.1 hc _ (by simp))
theorem closedD_inv {m : Mp} {v v' : Value} (hc : closedD v = true) (h : VR m v v') : v' = v := by
  cases v <;> try exact h.closed_inv hc
  · rename_i a
    cases h with
    | agg _ a' ha h1 =>
      congr 1
      apply Array.ext ha.symm
      intro j hj hj'
      exact (h1 j hj' hj).closed_inv (List.all_eq_true.1 hc _ (by simp))
  · rename_i a
    cases h with
    | tuple _ a' ha h1 =>
      congr 1
      apply Array.ext ha.symm
      intro j hj hj'
      exact closedE_inv (List.all_eq_true.1 hc _ (by simp)) (h1 j hj' hj)

/-- a call that only reads, and hands back a value without addresses: the heap is as it was. -/
theorem PCalls.drop {P : Program} {f : FuncId} {args : List Value} {h : VH} {R : Value → Prop} (hc : PCalls P f args h.ro (fun v _ => closedD v = true ∧ R v)) : PCalls P f args h (fun v h' => R v ∧ h' = h) := by
  intro B w0 m w args' S ha
  refine (hc _ _ (m.setFx []) w args' (S.ro (Below.refl _ _)) ⟨ha.1, fun j x y hx hy => (ha.2 j x y hx hy).setFx []⟩).mono ?_
  rintro e w' ⟨m', v, v', h', rfl, ⟨hcl, hR⟩, hle, S', hv⟩
  exact ⟨m, v, v', h, rfl, ⟨hR, rfl⟩, m.le_refl, S.below_of' S'.below, by rw [closedD_inv hcl hv]; exact closedD_VR m hcl⟩

def VH.empty : VH := ⟨glb.length, fun _ => .dead⟩
/-- .. and looks at nothing. -/
theorem PCalls.alone {P : Program} {f : FuncId} {args : List Value} (hargs : args.all closedD = true) {R : Value → Prop} (hc : PCalls P f args VH.empty (fun v _ => closedD v = true ∧ R v)) (h : VH) : PCalls P f args h (fun v h' => R v ∧ h' = h) := by
  intro B w0 m w args' S ha
  have hargs' : args'.toList = args := by
    apply List.ext_getElem?
    intro j
    by_cases hj : j < args.length
    · have hj' : j < args'.toList.length := by rw [← ha.1]; exact hj
      rw [List.getElem?_eq_getElem hj, List.getElem?_eq_getElem hj']
      congr 1
      exact closedD_inv (List.all_eq_true.1 hargs _ (List.getElem_mem hj)) (ha.2 j _ _ (List.getElem?_eq_getElem hj) (List.getElem?_eq_getElem hj'))
    · rw [List.getElem?_eq_none (by rw [← ha.1]; omega), List.getElem?_eq_none (by omega)]
  have S0 : Sim w.heap.size w ⟨glb.length, m.at_, [], fun k g hk => ⟨(List.getElem?_eq_some_iff.1 hk).1, (m.gl k g hk).2⟩⟩ VH.empty w := ⟨rfl, Below.refl _ _, Nat.le_refl _, fun i hi => trivial, fun i j hi _ _ ho => (by cases ho), fun i hi ho => (by cases ho), fun D hD => absurd hD (by simp)⟩
  refine (hc _ _ ⟨glb.length, m.at_, [], _⟩ w args' S0 ?_).mono ?_
  · rw [hargs']
    refine ⟨rfl, fun j x y hx hy => ?_⟩
    rw [hx] at hy
    injection hy with hy
    subst hy
    exact closedD_VR _ (List.all_eq_true.1 hargs _ (List.mem_of_getElem? hx))
  · rintro e w' ⟨m', v, v', h', rfl, ⟨hcl, hR⟩, hle, S', hv⟩
    exact ⟨m, v, v', h, rfl, ⟨hR, rfl⟩, m.le_refl, S.below_of' S'.below, by rw [closedD_inv hcl hv]; exact closedD_VR m hcl⟩

/-! ### runs -/
def toS (s : List Value) : Slots := fun j => s.getD j undef
def putL (s : List Value) (d : Option Nat) (v : Value) : Option (List Value) :=
  match d with
  | some d => if d < s.length then some (s.set d v) else none
  | none => some s
theorem putL_ok {s s' : List Value} {d : Option Nat} {v : Value} (h : putL s d v = some s') : toS s' = putS (toS s) d v := by
  cases d with
  | none => injection h with h; subst h; rfl
  | some d =>
    simp only [putL] at h
    split at h
    · rename_i hd
      injection h with h
      subst h
      funext j
      simp only [toS, putS, upd, List.getD_eq_getElem?_getD, List.getElem?_set]
      by_cases hj : d = j
      · subst hj; simp [hd]
      · rw [if_neg hj, if_neg (fun e => hj e.symm)]
    · cases h

def pxOps (call : FuncId → List Value → VH → Option (Value × VH)) : List GI → List Value → VH → Option (List Value × VH)
  | [], s, h => some (s, h)
  | g :: r, s, h =>
    if wantedS (toS s) g.guard = true then
      match g.i with
      | .call f args => (call f (args.map (ev (toS s))) h).bind fun (v, h') => (putL s g.dst v).bind fun s' => pxOps call r s' h'
      | .callv fr args => match ev (toS s) fr with
        | .func (.func f) first cap => (call f (first.toList ++ args.map (ev (toS s)) ++ cap.toList) h).bind fun (v, h') => (putL s g.dst v).bind fun s' => pxOps call r s' h'
        | _ => none
      | .nextM x => match pnextM (ev (toS s) x) h with
        | some [(v, h')] => (putL s g.dst v).bind fun s' => pxOps call r s' h'
        | _ => none
      | i => (pstep i (toS s) h).bind fun (v, h') => (putL s g.dst v).bind fun s' => pxOps call r s' h'
    else (putL s g.dst undef).bind fun s' => pxOps call r s' h
def pxQ (call : FuncId → List Value → VH → Option (Value × VH)) : List GI → List Value → VH → Option (List Value)
  | [], s, h => some s
  | g :: r, s, h =>
    if wantedS (toS s) g.guard = true then
      match g.i with
      | .call f args => (call f (args.map (ev (toS s))) h.ro).bind fun (v, _) => if closedV v then (putL s g.dst v).bind fun s' => pxQ call r s' h else none
      | i => if readI i then (pstep i (toS s) h).bind fun (v, _) => (putL s g.dst v).bind fun s' => pxQ call r s' h else none
    else (putL s g.dst undef).bind fun s' => pxQ call r s' h

def s0L (n : Nat) (args : List Value) : List Value := args ++ List.replicate (n - args.length) undef
theorem toS_s0L (n : Nat) (args : List Value) : toS (s0L n args) = s0 args := by
  funext j
  simp only [toS, s0L, s0, List.getD_eq_getElem?_getD, List.getElem?_append]
  split
  · rfl
  · rename_i h
    rw [List.getElem?_eq_none (l := args) (by omega), List.getElem?_replicate]
    split <;> rfl

/-- the same value, as far as a run may tell. -/
def sameV1 : Value → Value → Bool
  | .bool a, .bool b => a == b
  | .int k a, .int l b => decide (k = l) && decide (a = b)
  | .string a, .string b => decide (a.data.toList = b.data.toList)
  | .pointer none, .pointer none => true
  | .pointer (some ⟨i, o, none⟩), .pointer (some ⟨j, p, none⟩) => decide (i = j) && decide (o = p)
  | .slice none n c, .slice none m d => decide (n = m) && decide (c = d)
  | .slice (some ⟨i, o, none⟩) n c, .slice (some ⟨j, p, none⟩) m d => decide (i = j) && decide (o = p) && decide (n = m) && decide (c = d)
  | .nilIface, .nilIface => true
  | .nilFunc, .nilFunc => true
  | .map a, .map b => decide (a = b)
  | _, _ => false
theorem sameV1_ok {a b : Value} (h : sameV1 a b = true) : a = b := by
  unfold sameV1 at h
  split at h <;> (try simp only [Bool.and_eq_true, decide_eq_true_eq, beq_iff_eq] at h)
  · rw [h]
  · rw [h.1, h.2]
  · rename_i x y
    cases x; cases y
    simp only at h
    rename_i x y
    have : x = y := by
      cases x; cases y
      simpa using h
    rw [this]
  · rfl
  · rw [h.1, h.2]
  · rw [h.1, h.2]
  · rw [h.1.1.1, h.1.1.2, h.1.2, h.2]
  · rfl
  · rfl
  · rw [h]
  · cases h
def sameL : List Value → List Value → Bool
  | [], [] => true
  | a :: r, b :: s => sameV1 a b && sameL r s
  | _, _ => false
theorem sameL_ok : ∀ {a b : List Value}, sameL a b = true → a = b
  | [], [], _ => rfl
  | x :: a, y :: b, h => by
    simp only [sameL, Bool.and_eq_true] at h
    rw [sameV1_ok h.1, sameL_ok h.2]
  | [], _ :: _, h => by cases h
  | _ :: _, [], h => by cases h
def sameV : Value → Value → Bool
  | .agg a, .agg b => sameL a.toList b.toList
  | a, b => sameV1 a b
theorem sameV_ok {a b : Value} (h : sameV a b = true) : a = b := by
  unfold sameV at h
  split at h
  · rename_i x y
    have := sameL_ok h
    rw [← Array.toArray_toList (xs := x), ← Array.toArray_toList (xs := y), this]
  · exact sameV1_ok h
def dstB (s : List Value) : Option Nat → Value → Bool
  | some d, v => sameV (toS s d) v
  | none, _ => true
def lateB (s : List Value) (h : VH) : List GI → Bool
  | [] => true
  | u :: r => (if wantedS (toS s) u.guard = true then match pstep u.i (toS s) h with
      | some (v, _) => dstB s u.dst v
      | none => false
    else dstB s u.dst undef) && lateB s h r
theorem dstB_ok {s : List Value} {d : Option Nat} {v : Value} (h : dstB s d v = true) : dstIs (toS s) d v := by
  cases d with
  | none => trivial
  | some d => exact sameV_ok h
theorem lateB_ok {s : List Value} {h : VH} : ∀ {l : List GI}, lateB s h l = true → lateOK (toS s) h l
  | [], _ => trivial
  | u :: r, hl => by
    simp only [lateB, Bool.and_eq_true] at hl
    refine ⟨?_, lateB_ok hl.2⟩
    have h1 := hl.1
    unfold evalOK
    split at h1
    · rename_i hw
      rw [if_pos hw]
      split at h1
      · rename_i v h' he
        rw [he]
        exact dstB_ok h1
      · cases h1
    · rename_i hw
      rw [if_neg hw]
      exact dstB_ok h1
def pxD (call : FuncId → List Value → VH → Option (Value × VH)) : List DI → List Value → VH → Option (List Value × VH)
  | [], s, h => some (s, h)
  | d :: r, s, h => (pxOps call [d.g] s h).bind fun (s', h') => if lateB s' h' d.late then pxD call r s' h' else none

def px (Γ : Nat → Option PF) : Nat → PC → List Value → VH → Option (Exit × List Value × VH)
  | 0, _, _, _ => none
  | n + 1, pc, s, h =>
    let call : FuncId → List Value → VH → Option (Value × VH) := fun f args h => (Γ f).bind fun F =>
      if args.length ≤ F.n then
        match px Γ n F.body (s0L F.n args) h with
        | some (.normal, s', h') | some (.ret, s', h') => (resV (toS s') h' F.res).map (·, h')
        | _ => none
      else none
    match pc with
    | .skip => some (.normal, s, h)
    | .ops l => (pxOps call l s h).map fun (s', h') => (.normal, s', h')
    | .quiet l => (pxQ call l s h).map fun s' => (.normal, s', h)
    | .draw l => (pxD call l s h).map fun (s', h') => (.normal, s', h')
    | .drawT _ => none
    | .seq a b =>
      match px Γ n a s h with
      | some (.normal, s', h') => px Γ n b s' h'
      | r => r
    | .cond c a b =>
      match ev (toS s) c with
      | .bool t => px Γ n (if t then a else b) s h
      | _ => none
    | .block id b =>
      match px Γ n b s h with
      | some (.exit i, s', h') => if i = id then some (.normal, s', h') else some (.exit i, s', h')
      | r => r
    | .loop b =>
      match px Γ n b s h with
      | some (.normal, s', h') => px Γ n (.loop b) s' h'
      | r => r
    | .exit id => some (.exit id, s, h)
    | .ret => some (.ret, s, h)
    | .scope b =>
      match px Γ n b s h with
      | some (.goto _, _, _) => none
      | r => r
    | .scopeL b l t =>
      match px Γ n b s h with
      | some (.goto l', s', h') => if l' = l then
          match px Γ n t s' h' with
          | some (.goto _, _, _) => none
          | r => r
        else none
      | r => r
    | .label _ => some (.normal, s, h)
    | .goto l => some (.goto l, s, h)
    | .rangeF _ _ _ _ => none

theorem pxOps_ok {P : Program} {call : FuncId → List Value → VH → Option (Value × VH)} (hcall : ∀ f args h v h', call f args h = some (v, h') → isFn P f = true ∧ ∀ R : Value → VH → Prop, R v h' → PCalls P f args h R) :
    ∀ (l : List GI) (s : List Value) (h : VH) (s' : List Value) (h' : VH), pxOps call l s h = some (s', h') → ∀ K : Slots → VH → Prop, K (toS s') h' → pwOps P l (toS s) h K
  | [], s, h, s', h', he, K, hK => by
    simp only [pxOps] at he
    injection he with he
    simp only [Prod.mk.injEq] at he
    obtain ⟨rfl, rfl⟩ := he
    exact hK
  | g :: r, s, h, s', h', he, K, hK => by
    simp only [pxOps] at he
    simp only [pwOps]
    split at he
    · rename_i hw
      rw [if_pos hw]
      split at he
      · rename_i f args hi
        simp only [Option.bind_eq_some_iff] at he
        obtain ⟨⟨v, h1⟩, hc, s1, hp, he⟩ := he
        simp only [hi]
        refine (hcall f _ h v h1 hc).2 _ ?_
        rw [← putL_ok hp]
        exact pxOps_ok hcall r s1 h1 s' h' he K hK
      · rename_i fr args hi
        split at he
        · rename_i f first cap hev
          simp only [Option.bind_eq_some_iff] at he
          obtain ⟨⟨v, h1⟩, hc, s1, hp, he⟩ := he
          simp only [hi, hev]
          refine ⟨(hcall f _ h v h1 hc).1, (hcall f _ h v h1 hc).2 _ ?_⟩
          rw [← putL_ok hp]
          exact pxOps_ok hcall r s1 h1 s' h' he K hK
        · cases he
      · rename_i x hi
        split at he
        · rename_i v h1 hc
          simp only [Option.bind_eq_some_iff] at he
          obtain ⟨s1, hp, he⟩ := he
          simp only [hi, hc]
          intro q hq
          obtain rfl := List.mem_singleton.1 hq
          simp only
          rw [← putL_ok hp]
          exact pxOps_ok hcall r s1 h1 s' h' he K hK
        · cases he
      · rename_i i hn1 hn2 hn3
        simp only [Option.bind_eq_some_iff] at he
        obtain ⟨⟨v, h1⟩, hc, s1, hp, he⟩ := he
        split
        · rename_i f args hi; exact absurd hi (hn1 f args)
        · rename_i f args hi; exact absurd hi (hn2 f args)
        · rename_i x hi; exact absurd hi (hn3 x)
        · rw [hc]
          simp only
          rw [← putL_ok hp]
          exact pxOps_ok hcall r s1 h1 s' h' he K hK
    · rename_i hw
      rw [if_neg hw]
      simp only [Option.bind_eq_some_iff] at he
      obtain ⟨s1, hp, he⟩ := he
      rw [← putL_ok hp]
      exact pxOps_ok hcall r s1 h s' h' he K hK

theorem pxD_ok {P : Program} {call : FuncId → List Value → VH → Option (Value × VH)} (hcall : ∀ f args h v h', call f args h = some (v, h') → isFn P f = true ∧ ∀ R : Value → VH → Prop, R v h' → PCalls P f args h R) :
    ∀ (l : List DI) (s : List Value) (h : VH) (s' : List Value) (h' : VH), pxD call l s h = some (s', h') → ∀ K : Slots → VH → Prop, K (toS s') h' → pwD P l (toS s) h K
  | [], s, h, s', h', he, K, hK => by
    simp only [pxD] at he
    injection he with he
    simp only [Prod.mk.injEq] at he
    obtain ⟨rfl, rfl⟩ := he
    exact hK
  | d :: r, s, h, s', h', he, K, hK => by
    simp only [pxD, Option.bind_eq_some_iff, Prod.exists] at he
    obtain ⟨s1, h1, hp, he⟩ := he
    split at he
    · rename_i hl
      exact pxOps_ok hcall [d.g] s h s1 h1 hp _ ⟨lateB_ok hl, pxD_ok hcall r s1 h1 s' h' he K hK⟩
    · cases he
theorem pxQ_ok {P : Program} {call : FuncId → List Value → VH → Option (Value × VH)} (hcall : ∀ f args h v h', call f args h = some (v, h') → isFn P f = true ∧ ∀ R : Value → VH → Prop, R v h' → PCalls P f args h R) :
    ∀ (l : List GI) (s : List Value) (h : VH) (s' : List Value), pxQ call l s h = some s' → ∀ K : Slots → Prop, K (toS s') → pwQ P l (toS s) h K
  | [], s, h, s', he, K, hK => by
    simp only [pxQ] at he
    injection he with he
    subst he
    exact hK
  | g :: r, s, h, s', he, K, hK => by
    simp only [pxQ] at he
    simp only [pwQ]
    split at he
    · rename_i hw
      rw [if_pos hw]
      split at he
      · rename_i f args hi
        simp only [Option.bind_eq_some_iff] at he
        obtain ⟨⟨v, h1⟩, hc, he⟩ := he
        simp only at he
        split at he
        · rename_i hcl
          simp only [Option.bind_eq_some_iff] at he
          obtain ⟨s1, hp, he⟩ := he
          simp only [hi]
          refine ⟨v, hcl, (hcall f _ h.ro v h1 hc).2 _ rfl, ?_⟩
          rw [← putL_ok hp]
          exact pxQ_ok hcall r s1 h s' he K hK
        · cases he
      · rename_i i hn1
        split at he
        · rename_i hri
          simp only [Option.bind_eq_some_iff] at he
          obtain ⟨⟨v, h1⟩, hc, s1, hp, he⟩ := he
          split
          · rename_i f args hi; exact absurd hi (hn1 f args)
          · rw [if_pos hri, hc]
            simp only
            rw [← putL_ok hp]
            exact pxQ_ok hcall r s1 h s' he K hK
        · cases he
    · rename_i hw
      rw [if_neg hw]
      simp only [Option.bind_eq_some_iff] at he
      obtain ⟨s1, hp, he⟩ := he
      rw [← putL_ok hp]
      exact pxQ_ok hcall r s1 h s' he K hK


def PxOK (P : Program) (Γ : Nat → Option PF) (n : Nat) : Prop :=
  ∀ (pc : PC) (s : List Value) (h : VH) (e : Exit) (s' : List Value) (h' : VH), px Γ n pc s h = some (e, s', h') → ∀ Q : Exit → Slots → VH → Prop, Q e (toS s') h' → pw P pc (toS s) h Q

theorem px_step {P : Program} {Γ : Nat → Option PF} (hΓ : ∀ f F, Γ f = some F → StandsF P f F) (n : Nat) (all : ∀ k, k ≤ n → PxOK P Γ k) : PxOK P Γ (n + 1) := by
    have ih : PxOK P Γ n := all n (Nat.le_refl _)
    intro pc s h e s' h' he Q hQ
    have hcall : ∀ (f : FuncId) (args : List Value) (h : VH) (v : Value) (h' : VH), ((Γ f).bind fun F =>
      if args.length ≤ F.n then
        match px Γ n F.body (s0L F.n args) h with
        | some (.normal, s', h') | some (.ret, s', h') => (resV (toS s') h' F.res).map (·, h')
        | _ => none
      else none) = some (v, h') → isFn P f = true ∧ ∀ R : Value → VH → Prop, R v h' → PCalls P f args h R := by
      intro f args h v h' hc
      simp only [Option.bind_eq_some_iff] at hc
      obtain ⟨F, hF, hc⟩ := hc
      refine ⟨(hΓ f F hF).fn, fun R hR => ?_⟩
      split at hc
      · rename_i hlen
        refine PCalls_of_pw (hΓ f F hF) hlen ?_
        rw [← toS_s0L F.n args]
        split at hc
        · rename_i s1 h1 hpx
          simp only [Option.map_eq_some_iff, Prod.mk.injEq] at hc
          obtain ⟨v1, hv, rfl, rfl⟩ := hc
          exact ih _ _ _ _ _ _ hpx _ (by simp only [PF.ret, hv]; exact hR)
        · rename_i s1 h1 hpx
          simp only [Option.map_eq_some_iff, Prod.mk.injEq] at hc
          obtain ⟨v1, hv, rfl, rfl⟩ := hc
          exact ih _ _ _ _ _ _ hpx _ (by simp only [PF.ret, hv]; exact hR)
        · cases hc
      · cases hc
    simp only [px] at he
    cases pc with
    | skip =>
      injection he with he; simp only [Prod.mk.injEq] at he; obtain ⟨rfl, rfl, rfl⟩ := he
      exact hQ
    | label l =>
      injection he with he; simp only [Prod.mk.injEq] at he; obtain ⟨rfl, rfl, rfl⟩ := he
      exact hQ
    | exit id =>
      injection he with he; simp only [Prod.mk.injEq] at he; obtain ⟨rfl, rfl, rfl⟩ := he
      exact hQ
    | goto l =>
      injection he with he; simp only [Prod.mk.injEq] at he; obtain ⟨rfl, rfl, rfl⟩ := he
      exact hQ
    | rangeF fr ps a b => cases he
    | scopeL b l t =>
      simp only [pw]
      simp only at he
      split at he
      · rename_i l' s1 h1 hp
        split at he
        · rename_i hll
          refine ih b s h _ _ _ hp _ ⟨hll, ?_⟩
          split at he
          · cases he
          · rename_i hnot
            refine ih t s1 h1 _ _ _ he _ ?_
            cases e <;> first
              | exact hQ
              | exact absurd he (hnot _ _ _)
        · cases he
      · rename_i hnot
        refine ih b s h _ _ _ he _ ?_
        cases e <;> first
          | exact hQ
          | exact absurd he (hnot _ _ _)
    | ret =>
      injection he with he; simp only [Prod.mk.injEq] at he; obtain ⟨rfl, rfl, rfl⟩ := he
      exact hQ
    | ops l =>
      simp only [Option.map_eq_some_iff, Prod.mk.injEq, Prod.exists] at he
      obtain ⟨s1, h1, hp, rfl, rfl, rfl⟩ := he
      exact pxOps_ok hcall l s h s1 h1 hp _ hQ
    | draw l =>
      simp only [Option.map_eq_some_iff, Prod.mk.injEq, Prod.exists] at he
      obtain ⟨s1, h1, hp, rfl, rfl, rfl⟩ := he
      exact pxD_ok hcall l s h s1 h1 hp _ hQ
    | drawT t => cases he
    | quiet l =>
      simp only [Option.map_eq_some_iff, Prod.mk.injEq] at he
      obtain ⟨s1, hp, rfl, rfl, rfl⟩ := he
      exact pxQ_ok hcall l s h s1 hp _ hQ
    | seq a b =>
      simp only [pw]
      simp only at he
      split at he
      · rename_i s1 h1 hp
        exact ih a s h _ _ _ hp _ (ih b s1 h1 e s' h' he Q hQ)
      · rename_i hnot
        refine ih a s h _ _ _ he _ ?_
        cases e <;> first
          | exact hQ
          | exact absurd he (hnot _ _)
    | cond c a b =>
      simp only [pw]
      simp only at he
      split at he
      · rename_i t ht
        rw [ht]
        cases t with
        | true => exact ⟨fun _ => ih a s h e s' h' he Q hQ, (fun e => by cases e)⟩
        | false => exact ⟨(fun e => by cases e), fun _ => ih b s h e s' h' he Q hQ⟩
      · cases he
    | block id b =>
      simp only [pw]
      simp only at he
      split at he
      · rename_i i s1 h1 hp
        split at he
        · rename_i hi
          injection he with he; simp only [Prod.mk.injEq] at he; obtain ⟨rfl, rfl, rfl⟩ := he
          exact ih b s h _ _ _ hp _ (by simp only; rw [if_pos hi]; exact hQ)
        · rename_i hi
          injection he with he; simp only [Prod.mk.injEq] at he; obtain ⟨rfl, rfl, rfl⟩ := he
          exact ih b s h _ _ _ hp _ (by simp only; rw [if_neg hi]; exact hQ)
      · rename_i hnot
        refine ih b s h _ _ _ he _ ?_
        cases e <;> first
          | exact hQ
          | exact absurd he (hnot _ _ _)
    | loop b =>
      simp only [pw]
      simp only at he
      refine ⟨fun k s1 h1 => ∃ (sL : List Value) (e2 : Exit) (s2 : List Value) (h2 : VH), s1 = toS sL ∧ k ≤ n + 1 ∧ px Γ k (.loop b) sL h1 = some (e2, s2, h2) ∧ Q e2 (toS s2) h2, n + 1, ⟨s, e, s', h', rfl, Nat.le_refl _, ?_, hQ⟩, ?_⟩
      · simp only [px]
        exact he
      · rintro k s1 h1 ⟨sL, e2, s2, h2, rfl, hk, hp, hQ2⟩
        cases k with
        | zero => simp only [px] at hp; cases hp
        | succ k =>
          simp only [px] at hp
          split at hp
          · rename_i s3 h3 hp3
            exact all k (by omega) b sL h1 _ _ _ hp3 _ ⟨k, by omega, s3, e2, s2, h2, rfl, by omega, hp, hQ2⟩
          · rename_i hnot
            refine all k (by omega) b sL h1 _ _ _ hp _ ?_
            cases e2 <;> first
              | exact hQ2
              | exact absurd hp (hnot _ _)
    | scope b =>
      simp only [pw]
      simp only at he
      split at he
      · cases he
      · rename_i hnot
        refine ih b s h _ _ _ he _ ?_
        cases e <;> first
          | exact hQ
          | exact absurd he (hnot _ _ _)


theorem px_ok {P : Program} {Γ : Nat → Option PF} (hΓ : ∀ f F, Γ f = some F → StandsF P f F) (n : Nat) : ∀ k, k ≤ n → PxOK P Γ k := by
  induction n with
  | zero =>
    intro k hk
    obtain rfl : k = 0 := by omega
    intro pc s h e s' h' he
    simp only [px] at he
    cases he
  | succ n ih =>
    intro k hk
    by_cases hkn : k ≤ n
    · exact ih k hkn
    · obtain rfl : k = n + 1 := by omega
      exact px_step hΓ n ih

/-- a whole call, run by the kernel. -/
def runF (Γ : Nat → Option PF) (n : Nat) (f : FuncId) (args : List Value) (h : VH) : Option Value :=
  (Γ f).bind fun F =>
    if args.length ≤ F.n then
      match px Γ n F.body (s0L F.n args) h with
      | some (.normal, s', h') | some (.ret, s', h') => resV (toS s') h' F.res
      | _ => none
    else none
theorem runF_ok {P : Program} {Γ : Nat → Option PF} (hΓ : ∀ f F, Γ f = some F → StandsF P f F) {n : Nat} {f : FuncId} {args : List Value} {h : VH} {v : Value} (hr : runF Γ n f args h = some v) : PCalls P f args h (fun u _ => u = v) := by
  simp only [runF, Option.bind_eq_some_iff] at hr
  obtain ⟨F, hF, hc⟩ := hr
  split at hc
  · rename_i hlen
    refine PCalls_of_pw (hΓ f F hF) hlen ?_
    rw [← toS_s0L F.n args]
    split at hc
    · rename_i s1 h1 hpx
      exact px_ok hΓ n n (Nat.le_refl _) _ _ _ _ _ _ hpx _ (by simp only [PF.ret, hc])
    · rename_i s1 h1 hpx
      exact px_ok hΓ n n (Nat.le_refl _) _ _ _ _ _ _ hpx _ (by simp only [PF.ret, hc])
    · cases hc
  · cases hc
/-- .. of which nothing is left in the heap. -/
theorem run_alone {P : Program} {Γ : Nat → Option PF} (hΓ : ∀ f F, Γ f = some F → StandsF P f F) {n : Nat} {f : FuncId} {args : List Value} {v : Value} (hr : runF Γ n f args VH.empty = some v) (hcl : closedD v = true) (hargs : args.all closedD = true) (h : VH) : PCalls P f args h (fun u h' => u = v ∧ h' = h) :=
  PCalls.alone hargs ((runF_ok hΓ hr).mono fun u _ e => by subst e; exact ⟨hcl, rfl⟩) h

/-! ### short words for instructions -/
def gI (d : Nat) (i : I) : GI := ⟨some d, none, i⟩
def gM (d x : Nat) : GI := ⟨some d, none, .mov (.t x)⟩
def gT (d t : Nat) (i : I) : GI := ⟨some d, some (t, true), i⟩
def gF (d t : Nat) (i : I) : GI := ⟨some d, some (t, false), i⟩
def gN (i : I) : GI := ⟨none, none, i⟩
def gNT (t : Nat) (i : I) : GI := ⟨none, some (t, true), i⟩
def gNF (t : Nat) (i : I) : GI := ⟨none, some (t, false), i⟩
def dI (d : Nat) (i : I) : DI := ⟨⟨some d, none, i⟩, []⟩
def dM (d x : Nat) : DI := ⟨⟨some d, none, .mov (.t x)⟩, []⟩
def dT (d t : Nat) (i : I) : DI := ⟨⟨some d, some (t, true), i⟩, []⟩
def dF (d t : Nat) (i : I) : DI := ⟨⟨some d, some (t, false), i⟩, []⟩
end Go.Proofs.Ytdnkpgbggpbgaaa.Pm
