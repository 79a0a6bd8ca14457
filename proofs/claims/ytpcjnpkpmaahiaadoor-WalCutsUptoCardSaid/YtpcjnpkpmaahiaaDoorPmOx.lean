/- The pure machine, part Ox: runs that the kernel carries out: functions that defer, calls by contract. -/
import Derived.Test.YtpcjnpkpmaahiaaDoorPmO
import Derived.Test.YtpcjnpkpmaahiaaDoorPmDf
set_option linter.unusedVariables false
set_option linter.unusedSimpArgs false
namespace Go.Proofs.YtpcjnpkpmaahiaaDoor.Pm
open Go.RowKit

structure Env where
  F : Nat → Option PF
  D : Nat → Option PFD
  F0 : Nat → Option PF
  Ω : FuncId → List Value → VH → Option (Value × VH)
structure EnvOK (P : Program) (E : Env) : Prop where
  F : ∀ f F, E.F f = some F → StandsF P f F
  D : ∀ f F, E.D f = some F → StandsFD P f F
  F0 : ∀ f F, E.F0 f = some F → StandsF0 P f F
  Ω : ∀ f args h v h', E.Ω f args h = some (v, h') → isFn P f = true ∧ ∀ R : Value → VH → Prop, R v h' → PCalls P f args h R
abbrev Rec := PC → List Value → VH → Option (Exit × List Value × VH)
def qxD (E : Env) (rec : Rec) (call : FuncId → List Value → VH → Option (Value × VH)) : PD → List Value → VH → DL → Option (Exit × List Value × VH × DL)
  | .code a, s, h, ds => (rec a s h).map fun (e, s', h') => (e, s', h', ds)
  | .ops gs x args d, s, h, ds => (pxOps call gs s h).bind fun (s', h') => match ev (toS s') x with
    | .func (.func g) first cap => if (E.F0 g).isSome then (putL s' d undef).map fun s2 => (.normal, s2, h', (g, first.toList ++ args.map (ev (toS s')) ++ cap.toList) :: ds) else none
    | _ => none
  | .seq a b, s, h, ds => match qxD E rec call a s h ds with
    | some (.normal, s', h', ds') => qxD E rec call b s' h' ds'
    | r => r
def qxR (E : Env) (rec : Rec) : DL → VH → Option VH
  | [], h => some h
  | (g, vs) :: ds, h => (E.F0 g).bind fun F => if vs.length ≤ F.n then
      match rec F.body (s0L F.n vs) h with
      | some (.normal, s', h') | some (.ret, s', h') => if (resV (toS s') h' F.res).isSome then qxR E rec ds h' else none
      | _ => none
    else none
def qxCall (E : Env) (rec : Rec) (call : FuncId → List Value → VH → Option (Value × VH)) (f : FuncId) (args : List Value) (h : VH) : Option (Value × VH) :=
  match E.Ω f args h with
  | some r => some r
  | none =>
    match E.F f with
    | some F => if args.length ≤ F.n then
        match rec F.body (s0L F.n args) h with
        | some (.normal, s', h') | some (.ret, s', h') => (resV (toS s') h' F.res).map (·, h')
        | _ => none
      else none
    | none => (E.D f).bind fun F => if args.length ≤ F.n then
        match qxD E rec call F.body (s0L F.n args) h [] with
        | some (.normal, s', h', ds) | some (.ret, s', h', ds) => (qxR E rec ds h').bind fun h2 => (resV (toS s') h2 F.res).map (·, h2)
        | _ => none
      else none
def qx (E : Env) : Nat → PC → List Value → VH → Option (Exit × List Value × VH)
  | 0, _, _, _ => none
  | n + 1, pc, s, h =>
    let call0 : FuncId → List Value → VH → Option (Value × VH) := qxCall E (qx E n) fun _ _ _ => none
    let call : FuncId → List Value → VH → Option (Value × VH) := qxCall E (qx E n) call0
    match pc with
    | .skip => some (.normal, s, h)
    | .ops l => (pxOps call l s h).map fun (s', h') => (.normal, s', h')
    | .quiet l => (pxQ call l s h).map fun s' => (.normal, s', h)
    | .draw l => (pxD call l s h).map fun (s', h') => (.normal, s', h')
    | .drawT _ => none
    | .seq a b =>
      match qx E n a s h with
      | some (.normal, s', h') => qx E n b s' h'
      | r => r
    | .cond c a b =>
      match ev (toS s) c with
      | .bool t => qx E n (if t then a else b) s h
      | _ => none
    | .block id b =>
      match qx E n b s h with
      | some (.exit i, s', h') => if i = id then some (.normal, s', h') else some (.exit i, s', h')
      | r => r
    | .loop b =>
      match qx E n b s h with
      | some (.normal, s', h') => qx E n (.loop b) s' h'
      | r => r
    | .exit id => some (.exit id, s, h)
    | .ret => some (.ret, s, h)
    | .scope b =>
      match qx E n b s h with
      | some (.goto _, _, _) => none
      | r => r
    | .scopeL b l t =>
      match qx E n b s h with
      | some (.goto l', s', h') => if l' = l then
          match qx E n t s' h' with
          | some (.goto _, _, _) => none
          | r => r
        else none
      | r => r
    | .label _ => some (.normal, s, h)
    | .goto l => some (.goto l, s, h)
    | .rangeF _ _ _ _ => none

def QxOK (P : Program) (E : Env) (n : Nat) : Prop :=
  ∀ (pc : PC) (s : List Value) (h : VH) (e : Exit) (s' : List Value) (h' : VH), qx E n pc s h = some (e, s', h') → ∀ Q : Exit → Slots → VH → Prop, Q e (toS s') h' → pw P pc (toS s) h Q

theorem qxD_ok {P : Program} {E : Env} (hE : EnvOK P E) {rec : Rec} {call : FuncId → List Value → VH → Option (Value × VH)} (hrec : ∀ (pc : PC) (s : List Value) (h : VH) (e : Exit) (s' : List Value) (h' : VH), rec pc s h = some (e, s', h') → ∀ Q : Exit → Slots → VH → Prop, Q e (toS s') h' → pw P pc (toS s) h Q)
    (hcall : ∀ f args h v h', call f args h = some (v, h') → isFn P f = true ∧ ∀ R : Value → VH → Prop, R v h' → PCalls P f args h R) : ∀ (p : PD) (s : List Value) (h : VH) (ds : DL) (e : Exit) (s' : List Value) (h' : VH) (ds' : DL), qxD E rec call p s h ds = some (e, s', h', ds') → ∀ Q : Exit → Slots → VH → DL → Prop, Q e (toS s') h' ds' → pd P p (toS s) h ds Q
  | .code a, s, h, ds, e, s', h', ds', he, Q, hQ => by
    simp only [qxD, Option.map_eq_some_iff, Prod.mk.injEq, Prod.exists] at he
    obtain ⟨e1, s1, h1, hp, rfl, rfl, rfl, rfl⟩ := he
    exact hrec _ _ _ _ _ _ hp _ hQ
  | .ops gs x args d, s, h, ds, e, s', h', ds', he, Q, hQ => by
    simp only [qxD, Option.bind_eq_some_iff, Prod.exists] at he
    obtain ⟨s1, h1, hp, he⟩ := he
    split at he
    · rename_i g first cap hev
      split at he
      · rename_i hg
        simp only [Option.map_eq_some_iff, Prod.mk.injEq] at he
        obtain ⟨s2, hs2, rfl, rfl, rfl, rfl⟩ := he
        obtain ⟨F, hF⟩ := Option.isSome_iff_exists.1 hg
        refine pxOps_ok hcall gs s h s1 h1 hp _ ⟨g, first, cap, hev, (hE.F0 g F hF).fn, ?_⟩
        rw [← putL_ok hs2]
        exact hQ
      · cases he
    · cases he
  | .seq a b, s, h, ds, e, s', h', ds', he, Q, hQ => by
    simp only [qxD] at he
    split at he
    · rename_i s1 h1 ds1 hp
      exact qxD_ok hE hrec hcall a s h ds _ _ _ _ hp _ (qxD_ok hE hrec hcall b s1 h1 ds1 e s' h' ds' he Q hQ)
    · rename_i hnot
      refine qxD_ok hE hrec hcall a s h ds _ _ _ _ he _ ?_
      cases e <;> first
        | exact hQ
        | exact absurd he (hnot _ _ _)
theorem qxR_ok {P : Program} {E : Env} (hE : EnvOK P E) {rec : Rec} (hrec : ∀ (pc : PC) (s : List Value) (h : VH) (e : Exit) (s' : List Value) (h' : VH), rec pc s h = some (e, s', h') → ∀ Q : Exit → Slots → VH → Prop, Q e (toS s') h' → pw P pc (toS s) h Q) : ∀ (ds : DL) (h h' : VH), qxR E rec ds h = some h' → ∀ K : VH → Prop, K h' → runD P ds h K
  | [], h, h', he, K, hK => by
    injection he with he
    subst he
    exact hK
  | (g, vs) :: ds, h, h', he, K, hK => by
    simp only [qxR, Option.bind_eq_some_iff] at he
    obtain ⟨F, hF, he⟩ := he
    split at he
    · rename_i hlen
      refine PCallsD_of_pw (hE.F0 g F hF) hlen ?_
      rw [← toS_s0L F.n vs]
      split at he
      · rename_i s1 h1 hpx
        split at he
        · rename_i hr
          obtain ⟨v, hv⟩ := Option.isSome_iff_exists.1 hr
          exact hrec _ _ _ _ _ _ hpx _ (by simp only [PF.ret, hv]; exact qxR_ok hE hrec ds h1 h' he K hK)
        · cases he
      · rename_i s1 h1 hpx
        split at he
        · rename_i hr
          obtain ⟨v, hv⟩ := Option.isSome_iff_exists.1 hr
          exact hrec _ _ _ _ _ _ hpx _ (by simp only [PF.ret, hv]; exact qxR_ok hE hrec ds h1 h' he K hK)
        · cases he
      · cases he
    · cases he
theorem qxCall_ok {P : Program} {E : Env} (hE : EnvOK P E) {rec : Rec} {call : FuncId → List Value → VH → Option (Value × VH)} (hrec : ∀ (pc : PC) (s : List Value) (h : VH) (e : Exit) (s' : List Value) (h' : VH), rec pc s h = some (e, s', h') → ∀ Q : Exit → Slots → VH → Prop, Q e (toS s') h' → pw P pc (toS s) h Q)
    (hcall : ∀ f args h v h', call f args h = some (v, h') → isFn P f = true ∧ ∀ R : Value → VH → Prop, R v h' → PCalls P f args h R) : ∀ f args h v h', qxCall E rec call f args h = some (v, h') → isFn P f = true ∧ ∀ R : Value → VH → Prop, R v h' → PCalls P f args h R := by
  intro f args h v h' hc
  unfold qxCall at hc
  split at hc
  · rename_i r hr
    injection hc with hc
    subst hc
    exact hE.Ω f args h v h' hr
  split at hc
  · rename_i F hF
    refine ⟨(hE.F f F hF).fn, fun R hR => ?_⟩
    split at hc
    · rename_i hlen
      refine PCalls_of_pw (hE.F f F hF) hlen ?_
      rw [← toS_s0L F.n args]
      split at hc
      · rename_i s1 h1 hpx
        simp only [Option.map_eq_some_iff, Prod.mk.injEq] at hc
        obtain ⟨v1, hv, rfl, rfl⟩ := hc
        exact hrec _ _ _ _ _ _ hpx _ (by simp only [PF.ret, hv]; exact hR)
      · rename_i s1 h1 hpx
        simp only [Option.map_eq_some_iff, Prod.mk.injEq] at hc
        obtain ⟨v1, hv, rfl, rfl⟩ := hc
        exact hrec _ _ _ _ _ _ hpx _ (by simp only [PF.ret, hv]; exact hR)
      · cases hc
    · cases hc
  · simp only [Option.bind_eq_some_iff] at hc
    obtain ⟨F, hF, hc⟩ := hc
    refine ⟨(hE.D f F hF).fn, fun R hR => ?_⟩
    split at hc
    · rename_i hlen
      refine PCalls_of_pd (hE.D f F hF) hlen ?_
      rw [← toS_s0L F.n args]
      split at hc
      · rename_i s1 h1 ds hpx
        simp only [Option.bind_eq_some_iff, Option.map_eq_some_iff, Prod.mk.injEq] at hc
        obtain ⟨h2, hr, v1, hv, rfl, rfl⟩ := hc
        exact qxD_ok hE hrec hcall _ _ _ _ _ _ _ _ hpx _ (qxR_ok hE hrec ds h1 h2 hr _ (by simp only [hv]; exact hR))
      · rename_i s1 h1 ds hpx
        simp only [Option.bind_eq_some_iff, Option.map_eq_some_iff, Prod.mk.injEq] at hc
        obtain ⟨h2, hr, v1, hv, rfl, rfl⟩ := hc
        exact qxD_ok hE hrec hcall _ _ _ _ _ _ _ _ hpx _ (qxR_ok hE hrec ds h1 h2 hr _ (by simp only [hv]; exact hR))
      · cases hc
    · cases hc
theorem qx_step {P : Program} {E : Env} (hE : EnvOK P E) (n : Nat) (all : ∀ k, k ≤ n → QxOK P E k) : QxOK P E (n + 1) := by
    have ih : QxOK P E n := all n (Nat.le_refl _)
    intro pc s h e s' h' he Q hQ
    have hcall0 := qxCall_ok hE (call := fun _ _ _ => none) ih (fun _ _ _ _ _ h => by cases h)
    have hcall := qxCall_ok hE ih hcall0
    simp only [qx] at he
    cases pc with
    | skip =>
      injection he with he; simp only [Prod.mk.injEq] at he; obtain ⟨rfl, rfl, rfl⟩ := he
      exact hQ
    | label l =>
      injection he with he; simp only [Prod.mk.injEq] at he; obtain ⟨rfl, rfl, rfl⟩ := he
      exact hQ
    | exit id =>
      injection he with he; simp only [Prod.mk.injEq] at he; obtain ⟨rfl, rfl, rfl⟩ := he
      exact hQ
    | goto l =>
      injection he with he; simp only [Prod.mk.injEq] at he; obtain ⟨rfl, rfl, rfl⟩ := he
      exact hQ
    | rangeF fr ps a b => cases he
    | scopeL b l t =>
      simp only [pw]
      simp only at he
      split at he
      · rename_i l' s1 h1 hp
        split at he
        · rename_i hll
          refine ih b s h _ _ _ hp _ ⟨hll, ?_⟩
          split at he
          · cases he
          · rename_i hnot
            refine ih t s1 h1 _ _ _ he _ ?_
            cases e <;> first
              | exact hQ
              | exact absurd he (hnot _ _ _)
        · cases he
      · rename_i hnot
        refine ih b s h _ _ _ he _ ?_
        cases e <;> first
          | exact hQ
          | exact absurd he (hnot _ _ _)
    | ret =>
      injection he with he; simp only [Prod.mk.injEq] at he; obtain ⟨rfl, rfl, rfl⟩ := he
      exact hQ
    | ops l =>
      simp only [Option.map_eq_some_iff, Prod.mk.injEq, Prod.exists] at he
      obtain ⟨s1, h1, hp, rfl, rfl, rfl⟩ := he
      exact pxOps_ok hcall l s h s1 h1 hp _ hQ
    | draw l =>
      simp only [Option.map_eq_some_iff, Prod.mk.injEq, Prod.exists] at he
      obtain ⟨s1, h1, hp, rfl, rfl, rfl⟩ := he
      exact pxD_ok hcall l s h s1 h1 hp _ hQ
    | drawT t => cases he
    | quiet l =>
      simp only [Option.map_eq_some_iff, Prod.mk.injEq] at he
      obtain ⟨s1, hp, rfl, rfl, rfl⟩ := he
      exact pxQ_ok hcall l s h s1 hp _ hQ
    | seq a b =>
      simp only [pw]
      simp only at he
      split at he
      · rename_i s1 h1 hp
        exact ih a s h _ _ _ hp _ (ih b s1 h1 e s' h' he Q hQ)
      · rename_i hnot
        refine ih a s h _ _ _ he _ ?_
        cases e <;> first
          | exact hQ
          | exact absurd he (hnot _ _)
    | cond c a b =>
      simp only [pw]
      simp only at he
      split at he
      · rename_i t ht
        rw [ht]
        cases t with
        | true => exact ⟨fun _ => ih a s h e s' h' he Q hQ, (fun e => by cases e)⟩
        | false => exact ⟨(fun e => by cases e), fun _ => ih b s h e s' h' he Q hQ⟩
      · cases he
    | block id b =>
      simp only [pw]
      simp only at he
      split at he
      · rename_i i s1 h1 hp
        split at he
        · rename_i hi
          injection he with he; simp only [Prod.mk.injEq] at he; obtain ⟨rfl, rfl, rfl⟩ := he
          exact ih b s h _ _ _ hp _ (by simp only; rw [if_pos hi]; exact hQ)
        · rename_i hi
          injection he with he; simp only [Prod.mk.injEq] at he; obtain ⟨rfl, rfl, rfl⟩ := he
          exact ih b s h _ _ _ hp _ (by simp only; rw [if_neg hi]; exact hQ)
      · rename_i hnot
        refine ih b s h _ _ _ he _ ?_
        cases e <;> first
          | exact hQ
          | exact absurd he (hnot _ _ _)
    | loop b =>
      simp only [pw]
      simp only at he
      refine ⟨fun k s1 h1 => ∃ (sL : List Value) (e2 : Exit) (s2 : List Value) (h2 : VH), s1 = toS sL ∧ k ≤ n + 1 ∧ qx E k (.loop b) sL h1 = some (e2, s2, h2) ∧ Q e2 (toS s2) h2, n + 1, ⟨s, e, s', h', rfl, Nat.le_refl _, ?_, hQ⟩, ?_⟩
      · simp only [qx]
        exact he
      · rintro k s1 h1 ⟨sL, e2, s2, h2, rfl, hk, hp, hQ2⟩
        cases k with
        | zero => simp only [qx] at hp; cases hp
        | succ k =>
          simp only [qx] at hp
          split at hp
          · rename_i s3 h3 hp3
            exact all k (by omega) b sL h1 _ _ _ hp3 _ ⟨k, by omega, s3, e2, s2, h2, rfl, by omega, hp, hQ2⟩
          · rename_i hnot
            refine all k (by omega) b sL h1 _ _ _ hp _ ?_
            cases e2 <;> first
              | exact hQ2
              | exact absurd hp (hnot _ _)
    | scope b =>
      simp only [pw]
      simp only at he
      split at he
      · cases he
      · rename_i hnot
        refine ih b s h _ _ _ he _ ?_
        cases e <;> first
          | exact hQ
          | exact absurd he (hnot _ _ _)


theorem qx_ok {P : Program} {E : Env} (hE : EnvOK P E) (n : Nat) : ∀ k, k ≤ n → QxOK P E k := by
  induction n with
  | zero =>
    intro k hk
    obtain rfl : k = 0 := by omega
    intro pc s h e s' h' he
    simp only [qx] at he
    cases he
  | succ n ih =>
    intro k hk
    by_cases hkn : k ≤ n
    · exact ih k hkn
    · obtain rfl : k = n + 1 := by omega
      exact qx_step hE n ih

/-- a whole call, run by the kernel. -/
def runE (E : Env) (n : Nat) (f : FuncId) (args : List Value) (h : VH) : Option Value :=
  (qxCall E (qx E n) (qxCall E (qx E n) fun _ _ _ => none) f args h).map (·.1)
theorem runE_ok {P : Program} {E : Env} (hE : EnvOK P E) {n : Nat} {f : FuncId} {args : List Value} {h : VH} {v : Value} (hr : runE E n f args h = some v) : PCalls P f args h (fun u _ => u = v) := by
  simp only [runE, Option.map_eq_some_iff] at hr
  obtain ⟨⟨v', h'⟩, hc, rfl⟩ := hr
  have ih := qx_ok hE n n (Nat.le_refl _)
  exact (qxCall_ok hE ih (qxCall_ok hE ih (fun _ _ _ _ _ h => by cases h)) f args h _ _ hc).2 _ rfl
end Go.Proofs.YtpcjnpkpmaahiaaDoor.Pm
