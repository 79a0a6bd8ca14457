/- wal, part D: walks over code that defers. -/
import Derived.Test.YtpcjnpkpmaahiaaDoorWaB
set_option linter.unusedVariables false
set_option linter.unusedSimpArgs false
set_option maxRecDepth 100000
namespace Go.Proofs.YtpcjnpkpmaahiaaDoor.Wa
open Go Go.RowKit Go.Proofs.YtpcjnpkpmaahiaaDoor.Pm Go.Proofs.YtpcjnpkpmaahiaaDoor.Fs

def kDs (P : Program) (b : PD) (Q : Exit → Slots → VH → DL → Prop) : Exit → Slots → VH → DL → Prop := fun e s h ds => match e with
  | .normal => pd P b s h ds Q
  | e => Q e s h ds
def kDc (Q : Exit → Slots → VH → DL → Prop) (ds : DL) : Exit → Slots → VH → Prop := fun e s h => Q e s h ds
def kDo (P : Program) (x : Ref) (args : List Ref) (d : Option Nat) (ds : DL) (Q : Exit → Slots → VH → DL → Prop) : Slots → VH → Prop := fun s' h' =>
  ∃ g first cap, ev s' x = .func (.func g) first cap ∧ isFn P g = true ∧ Q .normal (putS s' d undef) h' ((g, first.toList ++ args.map (ev s') ++ cap.toList) :: ds)
def kDr (P : Program) (F : PFD) (s : Slots) (R : Value → VH → Prop) : VH → Prop := fun h' => match resV s h' F.res with
  | some v => R v h'
  | none => False
section
variable {P : Program} {a b : PD} {c : PC} {s : Slots} {h : VH} {ds : DL} {Q : Exit → Slots → VH → DL → Prop}
theorem pd_seq : pd P (.seq a b) s h ds Q = pd P a s h ds (kDs P b Q) := Eq.trans rfl rfl
theorem pd_code : pd P (.code c) s h ds Q = pw P c s h (kDc Q ds) := Eq.trans rfl rfl
theorem pd_ops {gs : List GI} {x : Ref} {args : List Ref} {d : Option Nat} : pd P (.ops gs x args d) s h ds Q = pwOps P gs s h (kDo P x args d ds Q) := Eq.trans rfl rfl
theorem kDs_normal : kDs P b Q .normal s h ds = pd P b s h ds Q := Eq.trans rfl rfl
theorem kDs_ret : kDs P b Q .ret s h ds = Q .ret s h ds := Eq.trans rfl rfl
theorem kDc_at {e : Exit} : kDc Q ds e s h = Q e s h ds := Eq.trans rfl rfl
theorem kDo_at {x : Ref} {args : List Ref} {d : Option Nat} {g : FuncId} {first cap : Array Value} (h1 : ev s x = .func (.func g) first cap) (h2 : isFn P g = true) : kDo P x args d ds Q s h = Q .normal (putS s d undef) h ((g, first.toList ++ args.map (ev s) ++ cap.toList) :: ds) := by
  unfold kDo
  apply propext
  constructor
  · rintro ⟨g', f', c', e, _, hq⟩
    rw [h1] at e
    injection e with e1 e2 e3
    injection e1 with e1
    subst e1; subst e2; subst e3
    exact hq
  · intro hq
    exact ⟨g, first, cap, h1, h2, hq⟩
theorem retD_ret {F : PFD} {R : Value → VH → Prop} : F.ret P R .ret s h ds = runD P ds h (kDr P F s R) := Eq.trans rfl rfl
theorem retD_normal {F : PFD} {R : Value → VH → Prop} : F.ret P R .normal s h ds = runD P ds h (kDr P F s R) := Eq.trans rfl rfl
theorem runD_nil {K : VH → Prop} : runD P [] h K = K h := Eq.trans rfl rfl
theorem runD_cons {K : VH → Prop} {g : FuncId} {vs : List Value} : runD P ((g, vs) :: ds) h K = PCallsD P g vs h fun h' => runD P ds h' K := Eq.trans rfl rfl
theorem kDr_at {F : PFD} {R : Value → VH → Prop} {v : Value} (hv : resV s h F.res = some v) : kDr P F s R h = R v h := by
  show (match resV s h F.res with
    | some v => R v h
    | none => False) = _
  rw [hv]
end
end Go.Proofs.YtpcjnpkpmaahiaaDoor.Wa
