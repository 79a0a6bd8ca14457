/- disk, part H: what the listed variables hold; the first world; told, lifted. -/
import Derived.Test.YtpcjnpkpmaahiaaDoorRows
import Derived.Test.YtpcjnpkpmaahiaaDoorDkG
import Derived.Test.YtpcjnpkpmaahiaaDoorPmMr
import Derived.Stop.LaidErr
import Derived.LaidHandle
set_option linter.unusedVariables false
set_option linter.unusedSimpArgs false
set_option maxRecDepth 20000
namespace Go.Proofs.YtpcjnpkpmaahiaaDoor.Dk
open Go Go.RowKit Go.Proofs.YtpcjnpkpmaahiaaDoor.Pm

theorem gErr : Tryd.prog.globalNamed "belfry/disk.errNone" = some 0 := by kernel_rfl
theorem gErrT : (Tryd.prog.globals[0]?).map (·.type) = some 88 := by kernel_rfl
theorem gTy : Tryd.prog.globalNamed "errors.errorType" = some 1 := by kernel_rfl
theorem gRt : (Tryd.prog.cutTypes.find? (·.1 == "internal/reflectlite.rtype")).map (·.2) = some 129 := by kernel_rfl
theorem gSize : Tryd.prog.types.size = 176 := by kernel_rfl
theorem gRow : ((List.range 176).filter fun t => Tryd.prog.rowNamed t [101, 114, 114, 111, 114]) = [88] := by kernel_rfl
theorem gCells : Tryd.prog.cellsOf 164 = 1 := by kernel_rfl
theorem gStr9 : Tryd.prog.underlying 9 = some .string := by kernel_rfl
theorem gCells9 : Tryd.prog.cellsOf 9 = 1 := by kernel_rfl
theorem star : "*" ++ "errors.errorString" = "*errors.errorString" := by decide
theorem gName (u : TypeId) (h : Tryd.prog.typeName? 3 u = some "*errors.errorString") : u = 144 :=
  typeName_ptr_named (nm := "errors.errorString") (by rw [star]; kernel_rfl) (by kernel_rfl) (by decide) u (by rw [star]; exact h)
abbrev laidL : List (String × DataW Unit) := [("errors.errorType", Rows.laid_errors_errorType), ("belfry/disk.errNone", Rows.laid_belfry_disk_errNone)]
theorem laid_type {W : World} (h : handlesMet Tryd.prog [("errors.errorType", Rows.laid_errors_errorType)] W) : W.cell? ⟨1, 0, none⟩ = some (.iface 129 (.agg #[.pointer (some ⟨2, 88, none⟩)])) := by
  obtain ⟨name, u, ty, e1, e2, e3, e4, e5⟩ := h _ (List.mem_singleton.2 rfl)
  have en : name = [101, 114, 114, 111, 114] := (Option.some.inj e1).symm
  subst en
  obtain rfl := Option.some.inj (gRt.symm.trans e2)
  have hm : ty ∈ (List.range 176).filter fun t => Tryd.prog.rowNamed t [101, 114, 114, 111, 114] := List.mem_filter.2 ⟨List.mem_range.2 (by rw [← gSize]; exact e3), e4⟩
  rw [gRow] at hm
  obtain rfl := List.mem_singleton.1 hm
  have hh : typeHandle Tryd.prog 88 = .pointer (some ⟨2, 88, none⟩) := by kernel_rfl
  rw [hh] at e5
  simpa using World.var?_cell gTy e5 0
theorem spot_none {w : World} {a : Addr} {v : Value} (h : w.cell? a = some v) : a.spot = none := by
  cases hs : a.spot with
  | none => rfl
  | some x => unfold World.cell? at h; split at h <;> simp_all
theorem laid_err {W : World} (h : laidMet Tryd.prog [("belfry/disk.errNone", Rows.laid_belfry_disk_errNone)] W) : ∃ b o, W.cell? ⟨0, 0, none⟩ = some (.iface 144 (.pointer (some ⟨b, o, none⟩))) ∧ b < W.heap.size := by
  obtain ⟨a, s, hv, hc, _, _⟩ := laid_sentinel h gErr gErrT Tryd.underlying88 gName Tryd.underlying144 Tryd.underlying164 rfl rfl gStr9 gCells gCells9
  have h0 : W.cell? ⟨0, 0, none⟩ = some (.iface 144 (.pointer (some a))) := by simpa using World.var?_cell gErr hv 0
  obtain ⟨b, o, sp⟩ := a
  have := spot_none hc
  simp only at this
  subst this
  exact ⟨b, o, h0, cell_lt hc⟩
theorem laid_parts {W : World} (h : laidMetH Tryd.prog laidL W) : ∃ b o, W.cell? ⟨0, 0, none⟩ = some (.iface 144 (.pointer (some ⟨b, o, none⟩))) ∧ b < W.heap.size ∧ W.cell? ⟨1, 0, none⟩ = some (.iface 129 (.agg #[.pointer (some ⟨2, 88, none⟩)])) := by
  have h' : laidMet Tryd.prog [("belfry/disk.errNone", Rows.laid_belfry_disk_errNone)] W ∧ handlesMet Tryd.prog [("errors.errorType", Rows.laid_errors_errorType)] W := h
  obtain ⟨b, o, h1, h2⟩ := laid_err h'.1
  exact ⟨b, o, h1, h2, laid_type h'.2⟩

/-! ### the first world -/
theorem glb_is : glb = [0, 1, 2] := rfl
/-- the listed variables, as they stay: ids 0 and 1; 2: the types' handles; 3: the sentinel. -/
structure GOK (h : VH) : Prop where
  n : 4 ≤ h.n
  e : h.get 0 = .cells [.iface 144 (.pointer (some ⟨3, 0, none⟩))] false 1
  t : h.get 1 = .cells [.iface 129 (.agg #[.pointer (some ⟨2, 88, none⟩)])] false 1
theorem GOK.le {h h' : VH} (g : GOK h) (hl : h.le h') : GOK h' := ⟨Nat.le_trans g.n hl.n, by rw [hl.get 0 (by have := g.n; omega)]; exact g.e, by rw [hl.get 1 (by have := g.n; omega)]; exact g.t⟩
def m0 (b o : Nat) : Mp := ⟨4, fun k => match k with
  | 0 => ⟨0, 0, 1, 1⟩
  | 1 => ⟨1, 0, 1, 1⟩
  | 2 => ⟨2, 0, 0, 0⟩
  | _ => ⟨b, o, 0, 0⟩, [], fun k g hk => by
    rw [glb_is] at hk
    match k with
    | 0 => simp at hk; exact ⟨by omega, hk, rfl⟩
    | 1 => simp at hk; exact ⟨by omega, hk, rfl⟩
    | 2 => simp at hk; exact ⟨by omega, hk, rfl⟩
    | k + 3 => simp at hk⟩
def h0 : VH := ⟨4, fun k => match k with
  | 0 => .cells [.iface 144 (.pointer (some ⟨3, 0, none⟩))] false 1
  | 1 => .cells [.iface 129 (.agg #[.pointer (some ⟨2, 88, none⟩)])] false 1
  | _ => .dead⟩
theorem h0_ok : GOK h0 := ⟨Nat.le_refl _, rfl, rfl⟩
theorem h0_ro : ∀ i, (h0.get i).own = false
  | 0 => rfl
  | 1 => rfl
  | i + 2 => rfl
theorem first {W : World} (h : laidMetH Tryd.prog laidL W) : ∃ b o, In0 W (m0 b o) h0 := by
  obtain ⟨b, o, h1, h2, h3⟩ := laid_parts h
  refine ⟨b, o, ⟨rfl, Below.refl _ _, Nat.le_refl _, fun i hi => ?_, fun i j hi hj hne ho => ?_, fun i hi ho => ?_, fun D hD => absurd hD (by simp [m0])⟩, h0_ro⟩
  · match i with
    | 0 =>
      refine ⟨rfl, Nat.le_refl _, fun _ => cell_lt h1, fun j v hj => ?_, fun ho => by cases ho⟩
      obtain rfl : j = 0 := by
        have := (List.getElem?_eq_some_iff.1 hj).1
        simp at this
        exact this
      simp at hj
      subst hj
      exact ⟨_, h1, .iface _ (VR.ptr (m := m0 b o) (i := 3) (o := 0) (show 3 < 4 by decide)), rfl⟩
    | 1 =>
      refine ⟨rfl, Nat.le_refl _, fun _ => cell_lt h3, fun j v hj => ?_, fun ho => by cases ho⟩
      obtain rfl : j = 0 := by
        have := (List.getElem?_eq_some_iff.1 hj).1
        simp at this
        exact this
      simp at hj
      subst hj
      refine ⟨_, h3, .iface _ (.agg _ _ rfl fun j hj hj' => ?_), rfl⟩
      obtain rfl : j = 0 := by simp at hj; exact hj
      exact VR.ptr (m := m0 b o) (i := 2) (o := 88) (show 2 < 4 by decide)
    | i + 2 => exact trivial
  · rw [h0_ro] at ho; cases ho
  · rw [h0_ro] at ho; cases ho

/-! ### told, lifted -/
theorem iface_inv {m : Mp} {t : TypeId} {v w : Value} (h : VR m (.iface t v) w) : ∃ v', w = .iface t v' ∧ VR m v v' := by
  cases h with
  | iface _ h => exact ⟨_, rfl, h⟩
  | _ => rename_i hc; simp [closedV] at hc
theorem cell_of {B : Nat} {w0 : World} {m : Mp} {h : VH} {w : World} (S : Sim B w0 m h w) {i : Nat} (hi : i < m.n) {cs : List Value} {ow : Bool} {e : Nat} (hg : h.get i = .cells cs ow e) {j : Nat} {v : Value} (hj : cs[j]? = some v) :
    ∃ v', w.cell? ⟨(m.at_ i).blk, (m.at_ i).base + j, none⟩ = some v' ∧ VR m v v' := by
  have ho := S.obj i hi
  rw [hg] at ho
  obtain ⟨v', h1, h2⟩ := ho.2.2.2.1 j v hj
  exact ⟨v', h1, h2.1⟩
theorem told_ok {h : VH} {i : Nat} {cs : List Value} {ow : Bool} {e : Nat} {k : Int} (G : GOK h) (hi : h.get i = .cells cs ow e) (hk : cs[1]? = some (.int .i64 k)) :
    PCalls Tryd.prog 46 [.iface 105 (.pointer (some ⟨i, 0, none⟩))] h (fun u h' => u = .int .i64 k ∧ h' = h) := by
  intro B w0 m w args' S ha
  have hn : 4 ≤ m.n := by rw [S.n]; exact G.n
  obtain ⟨l⟩ := args'
  obtain ⟨hl, hv⟩ := ha
  match l, hl with
  | [x], _ =>
    have hx := hv 0 _ _ rfl rfl
    obtain ⟨p', rfl, hp⟩ := iface_inv hx
    cases hp with
    | ptr him =>
      obtain ⟨a0, a1, a2⟩ := m.gl 0 0 rfl
      obtain ⟨b0, b1, b2⟩ := m.gl 1 1 rfl
      obtain ⟨c0, c1, c2⟩ := m.gl 2 2 rfl
      obtain ⟨v1, f1, f2⟩ := cell_of S a0 G.e (j := 0) rfl
      obtain ⟨q1, rfl, f3⟩ := iface_inv f2
      obtain ⟨v2, g1, g2⟩ := cell_of S b0 G.t (j := 0) rfl
      obtain ⟨q2, rfl, g3⟩ := iface_inv g2
      obtain ⟨v3, k1, k2⟩ := cell_of S him hi hk
      have k3 := k2.int_inv
      subst k3
      rw [a1, a2] at f1
      rw [b1, b2] at g1
      cases f3 with
      | ptr h3 =>
        cases g3 with
        | agg _ x ha hx =>
          have g4 : x = #[.pointer (some ⟨2, 88, none⟩)] := by
            have hs : x.size = 1 := by rw [← ha]; rfl
            have h5 := hx 0 (by simp) (by omega)
            have h6 : VR m (.pointer (some ⟨2, 88, none⟩)) x[0] := h5
            have h7 : x[0] = .pointer (some ⟨2, 88, none⟩) := by
              generalize hz : x[0] = z at h6
              cases h6 with
              | ptr h8 => rw [c1, c2]
            apply Array.ext
            · simpa using hs
            · intro j h8 h9
              obtain rfl : j = 0 := by simp at h9; exact h9
              simpa using h7
          subst g4
          have base : (m.at_ i).base + 0 = (m.at_ i).base := Nat.add_zero _
          by_cases h5 : k = 5
          · subst h5
            refine (told_none (m.at_ i).blk ((m.at_ i).base + 0) _ w f1 (by rw [base]; exact k1)).mono ?_
            rintro e w' ⟨rfl, hb⟩
            exact ⟨m, _, _, h, rfl, ⟨rfl, rfl⟩, m.le_refl, S.below_of' hb, .int _ _⟩
          · refine (told_other (m.at_ i).blk ((m.at_ i).base + 0) _ k h5 w f1 g1 (by rw [base]; exact k1)).mono ?_
            rintro e w' ⟨rfl, hb⟩
            exact ⟨m, _, _, h, rfl, ⟨rfl, rfl⟩, m.le_refl, S.below_of' hb, .int _ _⟩
theorem told_nilW (w : World) : Calls Tryd.prog 46 #[.nilIface] w fun e w' => e = .returned (.int .i64 0) ∧ Below w.heap.size w w' := by
  go_enter Tryd.func46, Tryd.ntmps46
  go_wp2
  go_ret
  exact ⟨rfl, Below.alloc (Below.refl _ _) (Nat.le_refl _) _⟩
theorem told_nil {h : VH} : PCalls Tryd.prog 46 [.nilIface] h (fun u h' => u = .int .i64 0 ∧ h' = h) := by
  intro B w0 m w args' S ha
  obtain ⟨l⟩ := args'
  obtain ⟨hl, hv⟩ := ha
  match l, hl with
  | [x], _ =>
    have hx := (hv 0 _ _ rfl rfl).closed_inv rfl
    subst hx
    refine (told_nilW w).mono ?_
    rintro e w' ⟨rfl, hb⟩
    exact ⟨m, _, _, h, rfl, ⟨rfl, rfl⟩, m.le_refl, S.below_of' hb, .int _ _⟩
theorem GOK.ro {h : VH} (g : GOK h) : GOK h.ro := ⟨g.n, by show VObj.ro (h.get 0) = _; rw [g.e]; rfl, by show VObj.ro (h.get 1) = _; rw [g.t]; rfl⟩
end Go.Proofs.YtpcjnpkpmaahiaaDoor.Dk
