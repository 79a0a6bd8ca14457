/- The pure machine, part U: arrays and structs of bools, integers and strings: when two are the same. -/
import Derived.Test.YtdnkpgbggpbgaaaPmE
import Derived.Laws.StructEq
import Derived.ChangeKeysEq
set_option linter.unusedVariables false
set_option linter.unusedSimpArgs false
namespace Go.Proofs.Ytdnkpgbggpbgaaa.Pm
open Go.RowKit

/-- the cells of a type that is made of bools, integers and strings. -/
def flatFs (P : Program) (F : TypeId → Option (List LK)) : Nat → List Field → Option (List LK)
  | _, [] => some []
  | o, f :: fs => if f.name ≠ "_" ∧ f.offset = o then (P.info? f.type).bind fun i => (F f.type).bind fun ks => if ks.length = i.size then (flatFs P F (o + i.size) fs).map (ks ++ ·) else none else none
def flatK (P : Program) : Nat → TypeId → Option (List LK)
  | 0, _ => none
  | d + 1, t =>
    match P.underlying t with
    | some .bool => some [.b]
    | some (.int k) => some [.i k]
    | some .string => some [.s]
    | some (.array n e) => (P.info? e).bind fun ie => (flatK P d e).bind fun ks => if ks.length = ie.size then some (List.replicate n ks).flatten else none
    | some (.struct fs) => if P.stoodInHeld t = true then none else flatFs P (flatK P d) 0 fs.toList
    | _ => none

theorem fitsK_append : ∀ {ks ls : List LK} {vs : List Value}, fitsK (ks ++ ls) vs = true → ∃ a b, vs = a ++ b ∧ a.length = ks.length ∧ fitsK ks a = true ∧ fitsK ls b = true
  | [], ls, vs, h => ⟨[], vs, rfl, rfl, rfl, h⟩
  | k :: ks, ls, [], h => by simp [fitsK] at h
  | k :: ks, ls, v :: vs, h => by
    simp only [List.cons_append, fitsK, Bool.and_eq_true] at h
    obtain ⟨a, b, rfl, h1, h2, h3⟩ := fitsK_append h.2
    exact ⟨v :: a, b, rfl, by simp [h1], by simp [fitsK, h.1, h2], h3⟩
theorem fitsK_length : ∀ {ks : List LK} {vs : List Value}, fitsK ks vs = true → vs.length = ks.length
  | [], [], _ => rfl
  | [], _ :: _, h => by simp [fitsK] at h
  | _ :: _, [], h => by simp [fitsK] at h
  | k :: ks, v :: vs, h => by
    simp only [fitsK, Bool.and_eq_true] at h
    simp [fitsK_length h.2]
theorem cellsB_append : ∀ {a c : List Value} (b d : List Value), a.length = c.length → cellsB (a ++ b) (c ++ d) = (cellsB a c && cellsB b d)
  | [], [], b, d, _ => by simp [cellsB]
  | x :: a, y :: c, b, d, h => by
    simp only [List.cons_append, cellsB, cellsB_append b d (by simpa using h), Bool.and_assoc]
  | [], _ :: _, _, _, h => by simp at h
  | _ :: _, [], _, _, h => by simp at h

/-- the value of a type that has these cells. -/
def Forms (P : Program) (t : TypeId) (cs : List Value) (v : Value) : Prop :=
  ∃ d, P.underlying t = some d ∧ ((isAggD d = true ∧ v = .agg cs.toArray) ∨ (isAggD d = false ∧ cs = [v]))

theorem part_at {P : Program} {e : TypeId} {i : TypeInfo} {d : TypeDesc} (hu : P.underlying e = some d) (hi : P.info? e = some i) {cs : Array Value} {pre xs post : List Value} (hc : cs.toList = pre ++ (xs ++ post)) (hl : xs.length = i.size) (h1 : isAggD d = false → i.size = 1) (w : World) :
    ∃ v, (part e cs pre.length).run P w = .ok v w ∧ Forms P e xs v := by
  by_cases ha : isAggD d = true
  · refine ⟨.agg xs.toArray, ?_, d, hu, .inl ⟨ha, rfl⟩⟩
    have hx : cs.extract pre.length (pre.length + i.size) = xs.toArray := by
      apply Array.toList_inj.1
      rw [Array.toList_extract, hc]
      simp [← hl]
    simp [part, run_isAgg hu, ha, run_sizeOf hi, hx]
  · have ha : isAggD d = false := by simpa using ha
    have hs := h1 ha
    match xs, hl with
    | [v], _ =>
      refine ⟨v, ?_, d, hu, .inr ⟨ha, rfl⟩⟩
      have hx : cs[pre.length]? = some v := by
        rw [← Array.getElem?_toList, hc]
        simp
      simp [part, run_isAgg hu, ha, hx]
    | [], hl => simp at hl; omega
    | _ :: _ :: _, hl => simp at hl; omega

/-- two values of type e, told by their cells, are compared so. -/
def EqF (P : Program) (dd : Nat) (e : TypeId) (ks : List LK) : Prop :=
  ∀ (w : World) (xs ys : List Value) (x y : Value), fitsK ks xs = true → fitsK ks ys = true → Forms P e xs x → Forms P e ys y → (Op.equalIn dd e x y).run P w = .ok (cellsB xs ys) w

theorem flatK_one {P : Program} {D : Nat} {t : TypeId} {d : TypeDesc} {ks : List LK} (hu : P.underlying t = some d) (h : flatK P D t = some ks) (ha : isAggD d = false) : ks.length = 1 := by
  cases D with
  | zero => cases h
  | succ D =>
    simp only [flatK, hu] at h
    cases d <;> first
      | (simp only [Option.some.injEq] at h; subst h; rfl)
      | (cases h; done)
      | (simp [isAggD] at ha)

theorem eqItems_ok {P : Program} {dd : Nat} {e : TypeId} {ks : List LK} {i : TypeInfo} {d : TypeDesc} (hu : P.underlying e = some d) (hi : P.info? e = some i) (hl : ks.length = i.size) (h1 : isAggD d = false → i.size = 1) (IH : EqF P dd e ks) (w : World) {cx cy : Array Value} :
    ∀ (m k : Nat) (px py rx ry : List Value), cx.toList = px ++ rx → cy.toList = py ++ ry → px.length = k * i.size → py.length = k * i.size → fitsK (List.replicate m ks).flatten rx = true → fitsK (List.replicate m ks).flatten ry = true →
      (Op.eqItems dd e (P.cellsOf e) cx cy (List.range' k m)).run P w = .ok (cellsB rx ry) w
  | 0, k, px, py, rx, ry, _, _, _, _, fx, fy => by
    simp at fx fy
    have ex := fitsK_length fx
    have ey := fitsK_length fy
    obtain rfl : rx = [] := List.length_eq_zero_iff.1 (by simpa using ex)
    obtain rfl : ry = [] := List.length_eq_zero_iff.1 (by simpa using ey)
    simp [Op.eqItems, cellsB]
  | m + 1, k, px, py, rx, ry, hx, hy, lx, ly, fx, fy => by
    have hsz : P.cellsOf e = i.size := by simp [Program.cellsOf, hi]
    rw [List.replicate_succ, List.flatten_cons] at fx fy
    obtain ⟨ax, bx, rfl, lax, fax, fbx⟩ := fitsK_append fx
    obtain ⟨ay, by_, rfl, lay, fay, fby⟩ := fitsK_append fy
    obtain ⟨vx, p1, q1⟩ := part_at hu hi (cs := cx) (pre := px) (xs := ax) (post := bx) hx (by omega) h1 w
    obtain ⟨vy, p2, q2⟩ := part_at hu hi (cs := cy) (pre := py) (xs := ay) (post := by_) hy (by omega) h1 w
    rw [lx] at p1
    rw [ly] at p2
    have he := IH w ax ay vx vy fax fay q1 q2
    have hrec := eqItems_ok hu hi hl h1 IH w (cx := cx) (cy := cy) m (k + 1) (px ++ ax) (py ++ ay) bx by_ (by rw [hx]; simp) (by rw [hy]; simp) (by simp [lx, lax, hl, Nat.succ_mul]) (by simp [ly, lay, hl, Nat.succ_mul]) fbx fby
    rw [List.range'_succ]
    simp only [Op.eqItems, Sem.run_bind, hsz, p1, p2, he, Result.andThen_ok]
    rw [cellsB_append bx by_ (by omega)]
    cases hc : cellsB ax ay
    · simp
    · rw [hsz] at hrec
      simpa using hrec

theorem eqFields_ok {P : Program} {dd : Nat} {F : TypeId → Option (List LK)} (hF : ∀ t ks, F t = some ks → EqF P dd t ks ∧ ∃ d, P.underlying t = some d ∧ (isAggD d = false → ks.length = 1)) (w : World) {cx cy : Array Value} :
    ∀ (fs : List Field) (ks : List LK) (px py rx ry : List Value), flatFs P F px.length fs = some ks → px.length = py.length → cx.toList = px ++ rx → cy.toList = py ++ ry → fitsK ks rx = true → fitsK ks ry = true →
      (Op.eqFields dd cx cy fs).run P w = .ok (cellsB rx ry) w
  | [], ks, px, py, rx, ry, h, hpp, _, _, fx, fy => by
    simp only [flatFs, Option.some.injEq] at h
    subst h
    have ex := fitsK_length fx
    have ey := fitsK_length fy
    obtain rfl : rx = [] := List.length_eq_zero_iff.1 (by simpa using ex)
    obtain rfl : ry = [] := List.length_eq_zero_iff.1 (by simpa using ey)
    simp [Op.eqFields, cellsB]
  | f :: fs, ks, px, py, rx, ry, h, hpp, hx, hy, fx, fy => by
    simp only [flatFs] at h
    split at h
    · rename_i hn
      simp only [Option.bind_eq_some_iff] at h
      obtain ⟨i, hi, ks1, hks, h⟩ := h
      split at h
      · rename_i hl
        simp only [Option.map_eq_some_iff] at h
        obtain ⟨ks2, hfs, rfl⟩ := h
        obtain ⟨hE, d, hu, h1⟩ := hF _ _ hks
        obtain ⟨ax, bx, rfl, lax, fax, fbx⟩ := fitsK_append fx
        obtain ⟨ay, by_, rfl, lay, fay, fby⟩ := fitsK_append fy
        obtain ⟨vx, p1, q1⟩ := part_at hu hi (cs := cx) (pre := px) (xs := ax) (post := bx) hx (by omega) (fun ha => by rw [← hl]; exact h1 ha) w
        obtain ⟨vy, p2, q2⟩ := part_at hu hi (cs := cy) (pre := py) (xs := ay) (post := by_) hy (by omega) (fun ha => by rw [← hl]; exact h1 ha) w
        rw [← hpp] at p2
        have he := hE w ax ay vx vy fax fay q1 q2
        have hrec := eqFields_ok hF w (cx := cx) (cy := cy) fs ks2 (px ++ ax) (py ++ ay) bx by_ (by rw [show (px ++ ax).length = px.length + i.size by simp [lax, hl]]; exact hfs) (by simp [hpp, lax, lay]) (by rw [hx]; simp) (by rw [hy]; simp) fbx fby
        simp only [Op.eqFields, if_pos hn.1, Sem.run_bind, hn.2, p1, p2, he, Result.andThen_ok]
        rw [cellsB_append bx by_ (by omega)]
        cases hc : cellsB ax ay
        · simp
        · simpa using hrec
      · cases h
    · cases h

theorem flat_eq {P : Program} (dx : Nat) : ∀ (D : Nat) (t : TypeId) (ks : List LK), flatK P D t = some ks → EqF P (dx + D) t ks
  | 0, t, ks, h => by cases h
  | D + 1, t, ks, h => by
    intro w xs ys x y fx fy hx hy
    obtain ⟨d, hu, hx⟩ := hx
    obtain ⟨d', hu', hy⟩ := hy
    rw [hu] at hu'; injection hu' with hu'; subst hu'
    simp only [flatK, hu] at h
    have IH := flat_eq (P := P) dx D
    cases d <;> try (cases h; done)
    case bool =>
      injection h with h; subst h
      rcases hx with ⟨ha, _⟩ | ⟨_, rfl⟩; · cases ha
      rcases hy with ⟨ha, _⟩ | ⟨_, rfl⟩; · cases ha
      cases x <;> simp [fitsK, fitK] at fx
      cases y <;> simp [fitsK, fitK] at fy
      rw [show dx + (D + 1) = (dx + D) + 1 by omega, run_equalIn_bool w _ _ _ _ hu]
      simp [cellsB, cellB]
    case int k =>
      injection h with h; subst h
      rcases hx with ⟨ha, _⟩ | ⟨_, rfl⟩; · cases ha
      rcases hy with ⟨ha, _⟩ | ⟨_, rfl⟩; · cases ha
      cases x <;> simp [fitsK, fitK] at fx
      cases y <;> simp [fitsK, fitK] at fy
      subst fx; subst fy
      rw [show dx + (D + 1) = (dx + D) + 1 by omega, run_equalIn_int w _ _ _ _ _ _ hu]
      simp [cellsB, cellB]
    case string =>
      injection h with h; subst h
      rcases hx with ⟨ha, _⟩ | ⟨_, rfl⟩; · cases ha
      rcases hy with ⟨ha, _⟩ | ⟨_, rfl⟩; · cases ha
      cases x <;> simp [fitsK, fitK] at fx
      cases y <;> simp [fitsK, fitK] at fy
      rw [show dx + (D + 1) = (dx + D) + 1 by omega, run_equalIn_string w _ _ _ _ hu]
      simp [cellsB, cellB]
    case array n e =>
      simp only [Option.bind_eq_some_iff] at h
      obtain ⟨ie, hie, k1, hk1, h⟩ := h
      split at h
      · rename_i hl
        injection h with h; subst h
        rcases hx with ⟨_, rfl⟩ | ⟨ha, _⟩
        · rcases hy with ⟨_, rfl⟩ | ⟨ha, _⟩
          · obtain ⟨de, hue⟩ : ∃ de, P.underlying e = some de := by
              cases D with
              | zero => cases hk1
              | succ D =>
                simp only [flatK] at hk1
                cases hq : P.underlying e with
                | none => rw [hq] at hk1; cases hk1
                | some de => exact ⟨de, rfl⟩
            rw [show dx + (D + 1) = (dx + D) + 1 by omega, run_equalIn_array w _ _ _ hu hie, List.range_eq_range']
            exact eqItems_ok hue hie hl (fun ha => by rw [← hl]; exact flatK_one hue hk1 ha) (IH e k1 hk1) w n 0 [] [] xs ys (by simp) (by simp) (by simp) (by simp) fx fy
          · cases ha
        · cases ha
      · cases h
    case struct fs =>
      have h : (if P.stoodInHeld t = true then none else flatFs P (flatK P D) 0 fs.toList) = some ks := h
      by_cases hst : P.stoodInHeld t = true
      · rw [if_pos hst] at h; cases h
      · rw [if_neg hst] at h
        have hst : P.stoodInHeld t = false := by simpa using hst
        rcases hx with ⟨_, rfl⟩ | ⟨ha, _⟩
        · rcases hy with ⟨_, rfl⟩ | ⟨ha, _⟩
          · have hfs : P.fieldsOf t = fs := by simp [Program.fieldsOf, hu]
            rw [show dx + (D + 1) = (dx + D) + 1 by omega, run_equalIn_struct w _ _ _ _ (by rw [hfs]; exact hu) hst, hfs]
            refine eqFields_ok (F := flatK P D) (fun t ks hk => ⟨IH t ks hk, ?_⟩) w fs.toList ks [] [] xs ys h rfl (by simp) (by simp) fx fy
            cases hq : P.underlying t with
            | none =>
              cases D with
              | zero => cases hk
              | succ D => simp [flatK, hq] at hk
            | some d => exact ⟨d, rfl, fun ha => flatK_one hq hk ha⟩
          · cases ha
        · cases ha

theorem fits_closed : ∀ {ks : List LK} {vs : List Value}, fitsK ks vs = true → ∀ v ∈ vs, closedV v = true
  | [], [], _, v, hv => by cases hv
  | [], _ :: _, h, _, _ => by simp [fitsK] at h
  | _ :: _, [], h, _, _ => by simp [fitsK] at h
  | k :: ks, u :: vs, h, v, hv => by
    simp only [fitsK, Bool.and_eq_true] at h
    rcases List.mem_cons.1 hv with rfl | hv
    · cases k <;> cases v <;> simp [fitK] at h <;> rfl
    · exact fits_closed h.2 v hv
theorem fits_VR {m : Mp} {ks : List LK} {xs : Array Value} (h : fitsK ks xs.toList = true) {v : Value} (hv : VR m (.agg xs) v) : v = .agg xs := by
  cases hv with
  | agg _ a' ha h1 =>
    congr 1
    apply Array.ext ha.symm
    intro j hj hj'
    exact (h1 j hj' hj).closed_inv (fits_closed h _ (by simp))

variable {P : Program} {N : Nat} {o : Oper}
theorem ok_eqV {neg : Bool} {t t' : TypeId} {x y : Operand} {rx ry : Ref} {ks : List LK} {D : Nat} (hop : o.op = .binOp (if neg then .neq else .eql) t x y t') (hk : flatK P D t = some ks) (hD : D ≤ 10000) (ha : ∀ d, P.underlying t = some d → isAggD d = true)
    (hg : P.eqGuardType P.depth t = false) (hx : compRef N x = some rx) (hy : compRef N y = some ry) : ReadOK P N o (.eqV neg ks rx ry) := by
  intro B w0 m h w s a v h' S hs hp
  simp only [pstep] at hp
  have h1 := compRef_ok hx hs
  have h2 := compRef_ok hy hs
  split at hp
  · rename_i xs ys e1 e2
    rw [e1] at h1
    rw [e2] at h2
    split at hp
    · rename_i hf
      injection hp with hp
      simp only [Prod.mk.injEq] at hp
      obtain ⟨rfl, rfl⟩ := hp
      refine plain_ok S ?_ (VR.bool _)
      intro w1 hw1
      have q1 := fits_VR hf.1 h1
      have q2 := fits_VR hf.2 h2
      obtain ⟨d, hd⟩ : ∃ d, P.underlying t = some d := by
        cases D with
        | zero => cases hk
        | succ D =>
          cases hq : P.underlying t with
          | none => simp [flatK, hq] at hk
          | some d => exact ⟨d, rfl⟩
      have he := flat_eq (10000 - D) D t ks hk w1 xs.toList ys.toList (.agg xs) (.agg ys) hf.1 hf.2 ⟨d, hd, .inl ⟨ha d hd, rfl⟩⟩ ⟨d, hd, .inl ⟨ha d hd, rfl⟩⟩
      rw [show 10000 - D + D = 10000 by omega] at he
      simp only [execOp, hop, q1, q2, Sem.run_bind, run_eqGuard_agg w1 _ t x y xs ys hg, Result.andThen_ok]
      cases neg
      · simp [run_eql_struct, he]
      · simp [run_neq_struct, he]
    · cases hp
  · cases hp
end Go.Proofs.Ytdnkpgbggpbgaaa.Pm
