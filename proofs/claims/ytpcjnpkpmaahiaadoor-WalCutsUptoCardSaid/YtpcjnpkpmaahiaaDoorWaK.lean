/- wal, part K: fixed calls, run by the kernel. -/
import Derived.Test.YtpcjnpkpmaahiaaDoorWaB
import Derived.Test.YtpcjnpkpmaahiaaDoorFsC
import Derived.Test.YtpcjnpkpmaahiaaDoorDkH
set_option linter.unusedVariables false
set_option linter.unusedSimpArgs false
set_option maxRecDepth 100000
namespace Go.Proofs.YtpcjnpkpmaahiaaDoor.Wa
open Go Go.RowKit Go.Proofs.YtpcjnpkpmaahiaaDoor.Pm Go.Proofs.YtpcjnpkpmaahiaaDoor.Fs Go.Proofs.YtpcjnpkpmaahiaaDoor.Dk

def wF (f : Nat) : Option PF := match GA f with
  | some F => some F
  | none => match GB f with
    | some F => some F
    | none => GC f
def wD (f : Nat) : Option PFD := if f = f_wal_cut then some F_wal_cut else none
def wF0 (f : Nat) : Option PF := if f = f_wal_cut_1 then some F_wal_cut_1 else none
def isGlb (h : VH) : Bool := decide (4 ≤ h.n) && (match h.get 0 with
  | .cells [.iface 144 (.pointer (some ⟨3, 0, none⟩))] false 1 => true
  | _ => false) && (match h.get 1 with
  | .cells [.iface 129 (.agg ⟨[.pointer (some ⟨2, 88, none⟩)]⟩)] false 1 => true
  | _ => false)
theorem isGlb_ok {h : VH} (k : isGlb h = true) : GOK h := by
  unfold isGlb at k
  simp only [Bool.and_eq_true, decide_eq_true_eq] at k
  obtain ⟨⟨h1, h2⟩, h3⟩ := k
  refine ⟨h1, ?_, ?_⟩
  · split at h2
    · assumption
    · cases h2
  · split at h3
    · rename_i h4; exact h4
    · cases h3
def wO (f : FuncId) (args : List Value) (h : VH) : Option (Value × VH) :=
  if f = f_disk_told then match args with
    | [.iface 105 (.pointer (some ⟨i, 0, none⟩))] => match h.get i with
      | .cells [_, .int .i64 k] _ _ => if isGlb h = true then some (.int .i64 k, h) else none
      | _ => none
    | _ => none
  else if f = f_wal_Log_Len then match args with
    | [.pointer (some ⟨i, 0, none⟩)] => match h.get i with
      | .cells [dv, .string nm, bv, .slice (some ⟨p, 0, none⟩) 1 c, .int .i64 ct] ow 1 => match h.get p with
        | .cells [.int .u64 1, .slice (some ⟨r, 0, none⟩) 1 c2] _ 2 => match h.get r with
          | .cells [.int .u8 120] _ 1 => if i < h.n ∧ p < h.n ∧ r < h.n ∧ 1 ≤ c ∧ 1 ≤ c2 then some (.int .i64 1, h) else none
          | _ => none
        | _ => none
      | _ => none
    | _ => none
  else none
def wE : Env := ⟨wF, wD, wF0, wO⟩
theorem len_ok {h : VH} {i : Nat} {dv bv lv : Value} {nm : ByteArray} {ct : Int} {l : List Nm} {ow : Bool} (hi : i < h.n) (hg : h.get i = .cells (logL dv nm bv lv ct) ow 1) (hl : NumsAt h lv l) (hk : l.length ≤ 1000000) (hb : ∀ x ∈ l, x.1.2.length ≤ 1000000000)
    (hlt : (∀ x ∈ idOf lv, x < h.n) ∧ ∀ x ∈ l, ∀ y ∈ idOf x.2, y < h.n) :
    PCalls Tryd.prog f_wal_Log_Len [.pointer (some ⟨i, 0, none⟩)] h (fun u h' => u = .int .i64 (l.length : Int) ∧ h' = h) :=
  ((len_ok' (h := h.ro) (dv := dv) (bv := bv) (nm := nm) (ct := ct) (ow := false) hi (by simp [VH.ro, hg, VObj.ro]) hl.ro hk hb hlt).mono fun u _ e => by subst e; exact ⟨rfl, rfl⟩).drop
theorem wO_ok : ∀ f args h v h', wO f args h = some (v, h') → isFn Tryd.prog f = true ∧ ∀ R : Value → VH → Prop, R v h' → PCalls Tryd.prog f args h R := by
  intro f args h v h' hw
  unfold wO at hw
  split at hw
  · rename_i hf
    subst hf
    split at hw
    · rename_i i
      split at hw
      · rename_i x k ow e hi
        split at hw
        · rename_i hgb
          injection hw with hw
          simp only [Prod.mk.injEq] at hw
          obtain ⟨rfl, rfl⟩ := hw
          exact ⟨by kernel_rfl, fun R hR => (told_ok (isGlb_ok hgb) hi rfl).mono (by rintro u h' ⟨rfl, rfl⟩; exact hR)⟩
        · cases hw
      · cases hw
    · cases hw
  split at hw
  · rename_i hf
    subst hf
    split at hw
    · rename_i i
      split at hw
      · rename_i dv nm bv p c ct ow hi
        split at hw
        · rename_i r c2 ow2 hp
          split at hw
          · rename_i ow3 hr
            split at hw
            · rename_i hc
              injection hw with hw
              simp only [Prod.mk.injEq] at hw
              obtain ⟨rfl, rfl⟩ := hw
              obtain ⟨h1, h2, h3, h4, h5⟩ := hc
              refine ⟨by kernel_rfl, fun R hR => ?_⟩
              have hN : NumsAt h (.slice (some ⟨p, 0, none⟩) 1 c) [((1, [120]), .slice (some ⟨r, 0, none⟩) 1 c2)] := by
                refine ⟨⟨some ⟨p, 0, none⟩, c, rfl, fun _ => ⟨p, 0, _, ow2, rfl, h2, h4, hp, fun k hk => ?_⟩⟩, fun x hx => ?_⟩
                · obtain rfl : k = 0 := by simp at hk; exact hk
                  exact ⟨by simp, rfl⟩
                · obtain rfl := List.mem_singleton.1 hx
                  exact .inr ⟨r, 0, c2, _, ow3, ⟨h3, h5⟩, rfl, hr, by simp, rfl⟩
              exact (len_ok h1 hi hN (by simp) (by simp) ⟨by simp [idOf]; exact h2, by simp [idOf]; exact h3⟩).mono (by rintro u h' ⟨rfl, rfl⟩; exact hR)
            · cases hw
          · cases hw
        · cases hw
      · cases hw
    · cases hw
  · cases hw
theorem wE_ok : EnvOK Tryd.prog wE where
  F f F hF := by
    have hF : wF f = some F := hF
    unfold wF at hF
    split at hF
    · rename_i F' h1; injection hF with hF; subst hF; exact GA_ok f _ h1
    split at hF
    · rename_i F' h1; injection hF with hF; subst hF; exact GB_ok f _ h1
    · exact GC_ok f F hF
  D f F hF := by
    have hF : wD f = some F := hF
    unfold wD at hF
    split at hF
    · rename_i h1; injection hF with hF; subst hF; subst h1; exact st_wal_cut
    · cases hF
  F0 f F hF := by
    have hF : wF0 f = some F := hF
    unfold wF0 at hF
    split at hF
    · rename_i h1; injection hF with hF; subst hF; subst h1; exact st0_wal_cut_1
    · cases hF
  Ω := wO_ok
theorem known_run : runE wE 300 f_law07_known [] h0 = some (.bool true) := by kernel_rfl
/-- what is done over the first world alone, is done over any. -/
theorem alone0 {P : Program} {f : FuncId} {args : List Value} (hargs : args.all closedD = true) {R : Value → Prop} (hc : PCalls P f args h0 (fun v _ => closedD v = true ∧ R v)) {h : VH} (G : GOK h) : PCalls P f args h (fun v h' => R v ∧ h' = h) := by
  intro B w0 m w args' S ha
  have hargs' : args'.toList = args := by
    apply List.ext_getElem?
    intro j
    by_cases hj : j < args.length
    · have hj' : j < args'.toList.length := by rw [← ha.1]; exact hj
      rw [List.getElem?_eq_getElem hj, List.getElem?_eq_getElem hj']
      congr 1
      exact closedD_inv (List.all_eq_true.1 hargs _ (List.getElem_mem hj)) (ha.2 j _ _ (List.getElem?_eq_getElem hj) (List.getElem?_eq_getElem hj'))
    · rw [List.getElem?_eq_none (by rw [← ha.1]; omega), List.getElem?_eq_none (by omega)]
  have hn : 4 ≤ m.n := by rw [S.n]; exact G.n
  obtain ⟨m', hm'⟩ : ∃ m' : Mp, m' = ⟨4, m.at_, [], fun k g hk => ⟨by have := (List.getElem?_eq_some_iff.1 hk).1; rw [glb_is] at this; simp at this; omega, (m.gl k g hk).2⟩⟩ := ⟨_, rfl⟩
  have hat : ∀ i, m'.at_ i = m.at_ i := fun i => by rw [hm']
  have hm4 : m'.n = 4 := by rw [hm']
  have S0 : Sim w.heap.size w m' h0 w := by
    refine ⟨by rw [hm4]; rfl, Below.refl _ _, Nat.le_refl _, fun i hi => ?_, fun i j hi hj hne ho => ?_, fun i hi ho => ?_, fun D hD => absurd hD (by rw [hm']; simp)⟩
    · rw [hm4] at hi
      match i with
      | 0 =>
        have ho := S.obj 0 (by omega)
        rw [G.e] at ho
        obtain ⟨q1, q2, q3, q4, q5⟩ := ho
        show ORel m' (m'.at_ 0) w (.cells _ _ _)
        rw [hat]
        refine ⟨q1, q2, q3, fun j v hj => ?_, fun ho => by cases ho⟩
        obtain ⟨v', c1, c2, c3⟩ := q4 j v hj
        obtain rfl : j = 0 := by
          have := (List.getElem?_eq_some_iff.1 hj).1
          simp at this
          exact this
        simp at hj
        subst hj
        obtain ⟨p', rfl, hp⟩ := iface_inv c2
        refine ⟨_, c1, .iface _ ?_, c3⟩
        cases hp with
        | ptr h3 =>
          have := VR.ptr (m := m') (i := 3) (o := 0) (by rw [hm4]; decide)
          rw [hat] at this
          exact this
        | _ => rename_i hc; simp [closedV] at hc
      | 1 =>
        have ho := S.obj 1 (by omega)
        rw [G.t] at ho
        obtain ⟨q1, q2, q3, q4, q5⟩ := ho
        show ORel m' (m'.at_ 1) w (.cells _ _ _)
        rw [hat]
        refine ⟨q1, q2, q3, fun j v hj => ?_, fun ho => by cases ho⟩
        obtain ⟨v', c1, c2, c3⟩ := q4 j v hj
        obtain rfl : j = 0 := by
          have := (List.getElem?_eq_some_iff.1 hj).1
          simp at this
          exact this
        simp at hj
        subst hj
        obtain ⟨p', rfl, hp⟩ := iface_inv c2
        refine ⟨_, c1, .iface _ ?_, c3⟩
        cases hp with
        | agg _ x hx hv =>
          refine .agg _ _ hx fun j hj hj' => ?_
          have := hv j hj hj'
          obtain rfl : j = 0 := by simp at hj; exact hj
          generalize x[0] = p at this ⊢
          have h4 : VR m (.pointer (some ⟨2, 88, none⟩)) p := this
          cases h4 with
          | ptr h3 =>
            have := VR.ptr (m := m') (i := 2) (o := 88) (by rw [hm4]; decide)
            rw [hat] at this
            exact this
          | _ => rename_i hc; simp [closedV] at hc
        | _ => rename_i hc; simp [closedV] at hc
      | i + 2 => exact trivial
    · rw [h0_ro] at ho; cases ho
    · rw [h0_ro] at ho; cases ho
  refine (hc _ _ m' w args' S0 ?_).mono ?_
  · rw [hargs']
    refine ⟨rfl, fun j x y hx hy => ?_⟩
    rw [hx] at hy
    injection hy with hy
    subst hy
    exact closedD_VR _ (List.all_eq_true.1 hargs _ (List.mem_of_getElem? hx))
  · rintro e w' ⟨m'', v, v', h', rfl, ⟨hcl, hR⟩, hle, S', hv⟩
    exact ⟨m, v, v', h, rfl, ⟨hR, rfl⟩, m.le_refl, S.below_of' S'.below, by rw [closedD_inv hcl hv]; exact closedD_VR m hcl⟩
theorem known_ok {h : VH} (G : GOK h) : PCalls Tryd.prog f_law07_known [] h (fun u h' => u = .bool true ∧ h' = h) :=
  alone0 rfl ((runE_ok wE_ok known_run).mono fun u _ e => by subst e; exact ⟨rfl, rfl⟩) G
end Go.Proofs.YtpcjnpkpmaahiaaDoor.Wa
