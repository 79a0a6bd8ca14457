/- The pure machine, part V: maps, iterators, copies, rows that are made: each instruction's meaning holds of the model's operation. -/
import Derived.Test.YtdnkpgbggpbgaaaPmH
import Derived.MapKept
import Derived.Laws.CopyRow
import Derived.ChangeMaps5
set_option linter.unusedVariables false
set_option linter.unusedSimpArgs false
namespace Go.Proofs.Ytdnkpgbggpbgaaa.Pm
open Go.RowKit Go.MapKept
variable {P : Program} {N : Nat} {o : Oper}

def kdOf : TypeDesc → Option LK
  | .int k => some (.i k)
  | .string => some .s
  | .bool => some .b
  | _ => none

theorem isKey_of_fit {d : TypeDesc} {kd : LK} (hd : kdOf d = some kd) {v : Value} (h : fitK kd v = true) : IsKey d v := by
  cases d <;> simp only [kdOf] at hd <;> first
    | (cases hd; done)
    | (injection hd with hd; subst hd; cases v <;> simp_all [fitK, IsKey])
theorem fit_closed {kd : LK} {v : Value} (h : fitK kd v = true) : closedV v = true := by
  cases kd <;> cases v <;> simp_all [fitK, closedV]
theorem keq_eq {kd : LK} {a b : Value} (ha : fitK kd a = true) (hb : fitK kd b = true) : (keq a b = true ↔ a = b) := by
  cases kd <;> cases a <;> cases b <;> simp_all [fitK, keq]
  rename_i x y
  obtain ⟨⟨x⟩⟩ := x
  obtain ⟨⟨y⟩⟩ := y
  simp
theorem sameNow_keq {d : TypeDesc} {kd : LK} (hd : kdOf d = some kd) {a b : Value} (ha : fitK kd a = true) (hb : fitK kd b = true) : Instr.sameNow d a b = some (keq a b) := by
  obtain ⟨r, hr, hiff⟩ := sameNow_of_keys (isKey_of_fit hd ha) (isKey_of_fit hd hb)
  rw [hr]
  congr 1
  have := keq_eq ha hb
  cases r <;> cases hq : keq a b <;> simp_all

/-- entries, in a row, are those of the model. -/
def ML (m : Mp) : List (Value × Value × Nat) → List MapEntry → Prop
  | [], [] => True
  | x :: xs, e :: es => EntryRel m x e ∧ ML m xs es
  | _, _ => False
theorem ML_iff {m : Mp} : ∀ {es : List (Value × Value × Nat)} {l : List MapEntry}, ML m es l ↔ es.length = l.length ∧ ∀ (j : Nat) (x : Value × Value × Nat) (e : MapEntry), es[j]? = some x → l[j]? = some e → EntryRel m x e
  | [], [] => by simp [ML]
  | [], _ :: _ => by simp [ML]
  | _ :: _, [] => by simp [ML]
  | x :: xs, e :: es => by
    simp only [ML, ML_iff (es := xs) (l := es), List.length_cons, Nat.add_right_cancel_iff]
    constructor
    · rintro ⟨h1, h2, h3⟩
      refine ⟨h2, fun j y f hy hf => ?_⟩
      cases j with
      | zero => simp at hy hf; subst hy hf; exact h1
      | succ j => exact h3 j y f (by simpa using hy) (by simpa using hf)
    · rintro ⟨h1, h2⟩
      exact ⟨h2 0 x e rfl rfl, h1, fun j y f hy hf => h2 (j + 1) y f (by simpa using hy) (by simpa using hf)⟩
theorem MapRel_ML {m : Mp} {es : List (Value × Value × Nat)} {mes : Array MapEntry} : MapRel m es mes ↔ ML m es mes.toList := by
  rw [ML_iff]
  simp [MapRel]

theorem find_ok {m : Mp} {d : TypeDesc} {kd : LK} (hd : kdOf d = some kd) {k : Value} (hk : fitK kd k = true) (v z : Value) (c : Nat) : ∀ (es : List (Value × Value × Nat)) (l : List MapEntry) (i : Nat), ML m es l → keysFit kd es = true →
    (Instr.findNow d k l i = some none ∧ mget k es = none ∧ mhas k es = false ∧ mdel k es = es ∧ mput k v c es = es ++ [(k, v, c)] ∧ ment k z c es = (z, c, es ++ [(k, z, c)])) ∨
    ∃ j x e, Instr.findNow d k l i = some (some (i + j, e.val)) ∧ es[j]? = some x ∧ l[j]? = some e ∧ e.key = k ∧ EntryRel m x e ∧ mget k es = some x.2.1 ∧ mhas k es = true ∧ mdel k es = es.eraseIdx j ∧ mput k v c es = es.set j (k, v, x.2.2) ∧
      ment k z c es = (x.2.1, x.2.2, es.set j (k, x.2.1, x.2.2))
  | [], [], _, _, _ => .inl ⟨rfl, rfl, rfl, rfl, rfl, rfl⟩
  | [], _ :: _, _, h, _ => h.elim
  | _ :: _, [], _, h, _ => h.elim
  | x :: es, e :: l, i, h, hf => by
    simp only [keysFit, List.all_cons, Bool.and_eq_true] at hf
    have hke : e.key = x.1 := h.1.key.closed_inv (fit_closed hf.1)
    have hs : Instr.sameNow d k e.key = some (keq k x.1) := by rw [hke]; exact sameNow_keq hd hk hf.1
    cases hq : keq k x.1 with
    | true =>
      rw [hq] at hs
      have hkx := (keq_eq hk hf.1).1 hq
      exact .inr ⟨0, x, e, by simp [Instr.findNow, hs], rfl, rfl, by rw [hke, hkx], h.1, by simp [mget, hq], by simp [mhas, hq], by simp [mdel, hq], by simp [mput, hq], by simp [ment, hq]⟩
    | false =>
      rw [hq] at hs
      rcases find_ok hd hk v z c es l (i + 1) h.2 hf.2 with ⟨h1, h2, h3, h4, h5, h6⟩ | ⟨j, y, f, h1, h2, h3, h4, h5, h6, h7, h8, h9, h10⟩
      · exact .inl ⟨by simp [Instr.findNow, hs, h1], by simp [mget, hq, h2], by simp [mhas, hq, h3], by simp [mdel, hq, h4], by simp [mput, hq, h5], by simp [ment, hq, h6]⟩
      · exact .inr ⟨j + 1, y, f, by simp [Instr.findNow, hs, h1]; omega, by simpa using h2, by simpa using h3, h4, h5, by simp [mget, hq, h6], by simp [mhas, hq, h7], by simp [mdel, hq, h8], by simp [mput, hq, h9], by simp [ment, hq, h10]⟩

theorem map_inv {m : Mp} {i : Nat} {v : Value} (h : VR m (.map (some i)) v) : i < m.n ∧ v = .map (some (m.at_ i).blk) := by
  cases h with
  | map hi => exact ⟨hi, rfl⟩
theorem map0_inv {m : Mp} {v : Value} (h : VR m (.map none) v) : v = .map none := by cases h; rfl

theorem map_of {B : Nat} {w0 : World} {m : Mp} {h : VH} {w : World} (S : Sim B w0 m h w) {i : Nat} (hi : i < m.n) {es : List (Value × Value × Nat)} {c : Nat} {ow : Bool} (hg : h.get i = .map es c ow) :
    ∃ mes, w.heap[(m.at_ i).blk]? = some (.map mes c) ∧ ML m es mes.toList := by
  have := S.obj i hi
  rw [hg] at this
  obtain ⟨mes, h1, h2⟩ := this
  exact ⟨mes, h1, MapRel_ML.1 h2⟩

theorem VR.tup2 {m : Mp} {a b a' b' : Value} (h : VR m a a') (k : VR m b b') : VR m (.tuple #[a, b]) (.tuple #[a', b']) := by
  refine .tuple _ _ rfl (fun j hj hj' => ?_)
  simp at hj
  match j with
  | 0 => exact h
  | 1 => exact k
theorem VR.tup3 {m : Mp} {a b c a' b' c' : Value} (h : VR m a a') (k : VR m b b') (l : VR m c c') : VR m (.tuple #[a, b, c]) (.tuple #[a', b', c']) := by
  refine .tuple _ _ rfl (fun j hj hj' => ?_)
  simp at hj
  match j with
  | 0 => exact h
  | 1 => exact k
  | 2 => exact l

theorem mval_VR {m : Mp} {ok : Bool} {z : Value} (hz : closedD z = true) {x : Option Value} {x' : Option Value} (h : (x = none ∧ x' = none) ∨ ∃ v v', x = some v ∧ x' = some v' ∧ VR m v v') : VR m (mval ok z x) (mval ok z x') := by
  rcases h with ⟨rfl, rfl⟩ | ⟨v, v', rfl, rfl, hv⟩ <;> cases ok <;> simp only [mval, if_true, Bool.false_eq_true, if_false]
  · exact closedD_VR m hz
  · exact .tup2 (closedD_VR m hz) (.bool _)
  · exact hv
  · exact .tup2 hv (.bool _)

/-! ### the instructions -/
theorem ok_lenM {ts : Array TypeId} {t kt et : TypeId} {x : Operand} {rx : Ref} (hop : o.op = .call { callee := .builtin .len, args := #[x], argTypes := ts }) (hts : ts[0]? = some t) (ht : P.underlying t = some (.map kt et)) (hx : compRef N x = some rx) : ReadOK P N o (.lenM rx) := by
  intro B w0 m h w s a v h' S hs hp
  have hr := compRef_ok hx hs
  simp only [pstep] at hp
  split at hp
  · rename_i e
    rw [e] at hr
    have e1 := map0_inv hr
    injection hp with hp
    simp only [Prod.mk.injEq] at hp
    obtain ⟨rfl, rfl⟩ := hp
    exact plain_ok S (v' := .int .i64 0) (fun w1 hw1 => by simp [execOp, hop, resolve, invoke, builtin, Builtin.len_, hts, run_underlying ht, e1, goInt]) (.int _ _)
  · rename_i i e
    rw [e] at hr
    obtain ⟨hi, e1⟩ := map_inv hr
    split at hp
    · rename_i es c ow hg
      injection hp with hp
      simp only [Prod.mk.injEq] at hp
      obtain ⟨rfl, rfl⟩ := hp
      obtain ⟨mes, hb, hml⟩ := map_of S hi hg
      have hlen := (ML_iff.1 hml).1
      refine plain_ok S (v' := .int .i64 mes.size) (fun w1 hw1 => ?_) (by rw [hlen]; simp; exact .int _ _)
      have hb1 : w1.heap[(m.at_ i).blk]? = some (.map mes c) := by rw [hw1 _ (Array.getElem?_eq_some_iff.1 hb).1]; exact hb
      simp [execOp, hop, resolve, invoke, builtin, Builtin.len_, hts, run_underlying ht, e1, goInt, MapKept.run_getObj_map hb1]
    · cases hp
  · cases hp

theorem ok_lookup {t kt et : TypeId} {d : TypeDesc} {kd : LK} {ie : TypeInfo} {z : Value} {ok : Bool} {x k : Operand} {rx rk : Ref} (hop : o.op = .lookup t x k ok) (ht : P.underlying t = some (.map kt et)) (hkt : P.underlying kt = some d) (hkd : kdOf d = some kd)
    (hie : P.info? et = some ie) (hz : ie.zero = some z) (hzc : closedD z = true) (hx : compRef N x = some rx) (hk : compRef N k = some rk) : ReadOK P N o (.lookup kd ok z rx rk) := by
  intro B w0 m h w s a v h' S hs hp
  have hr := compRef_ok hx hs
  have hrk := compRef_ok hk hs
  simp only [pstep] at hp
  split at hp
  · rename_i e
    rw [e] at hr
    have e1 := map0_inv hr
    split at hp
    · rename_i hf
      injection hp with hp
      simp only [Prod.mk.injEq] at hp
      obtain ⟨rfl, rfl⟩ := hp
      have ek := hrk.closed_inv (fit_closed hf)
      have hkey := isKey_of_fit hkd hf
      refine plain_ok S (v' := mval ok z none) (fun w1 hw1 => ?_) (mval_VR hzc (.inl ⟨rfl, rfl⟩))
      simp [execOp, hop, Instr.lookup, run_underlying ht, e1, ek, run_checkKey hkt hkey, run_findKey hkt (show Instr.findNow d (ev s rk) [] 0 = some none from rfl), run_zeroValue hie hz, mval]
    · cases hp
  · rename_i i e
    rw [e] at hr
    obtain ⟨hi, e1⟩ := map_inv hr
    split at hp
    · rename_i es c ow hg
      split at hp
      · rename_i hf
        injection hp with hp
        simp only [Prod.mk.injEq] at hp
        obtain ⟨rfl, rfl⟩ := hp
        obtain ⟨mes, hb, hml⟩ := map_of S hi hg
        have ek := hrk.closed_inv (fit_closed hf.1)
        have hkey := isKey_of_fit hkd hf.1
        have hb1 : ∀ w1, Same w w1 → w1.heap[(m.at_ i).blk]? = some (.map mes c) := fun w1 hw1 => by rw [hw1 _ (Array.getElem?_eq_some_iff.1 hb).1]; exact hb
        rcases find_ok hkd hf.1 z z 0 es mes.toList 0 hml hf.2 with ⟨h1, h2, _⟩ | ⟨j, y, f, h1, _, _, _, h5, h6, _⟩
        · rw [h2]
          refine plain_ok S (v' := mval ok z none) (fun w1 hw1 => ?_) (mval_VR hzc (.inl ⟨rfl, rfl⟩))
          simp [execOp, hop, Instr.lookup, run_underlying ht, e1, ek, MapKept.run_getObj_map (hb1 w1 hw1), run_checkKey hkt hkey, run_findKey hkt h1, run_zeroValue hie hz, mval]
        · rw [h6]
          refine plain_ok S (v' := mval ok z (some f.val)) (fun w1 hw1 => ?_) (mval_VR hzc (.inr ⟨_, _, rfl, rfl, h5.val⟩))
          simp [execOp, hop, Instr.lookup, run_underlying ht, e1, ek, MapKept.run_getObj_map (hb1 w1 hw1), run_checkKey hkt hkey, run_findKey hkt h1, mval]
      · cases hp
    · cases hp
  · cases hp

theorem grown_put (w : World) (r : Nat) (o' : Obj) : w.grownBy { w with heap := w.heap.setIfInBounds r o' } (some r) :=
  ⟨rfl, rfl, rfl, by simp, fun k hk hne => by
    have : k ≠ r := fun e => hne (by rw [e])
    simp [Ne.symm this]⟩

theorem ok_makeMap {t : TypeId} (hop : o.op = .makeMap t none) : StepOK P N o .makeMap := by
  intro B w0 m h w s a v h' S hs hp
  simp only [pstep] at hp
  injection hp with hp
  simp only [Prod.mk.injEq] at hp
  obtain ⟨rfl, rfl⟩ := hp
  have S' := S.push (.map #[] 0) (.map [] 0 true) ⟨w.heap.size, 0, 0, 0⟩ rfl ⟨#[], heap_alloc_new' w _, rfl, fun j x e hx => by simp at hx⟩
  refine ⟨_, .value (.map (some w.heap.size)), _, _, ?_, rfl, m.push_le _, S', ?_⟩
  · simp [execOp, hop, Instr.makeMap]
  · have := VR.map (m := m.push ⟨w.heap.size, 0, 0, 0⟩) (i := m.n) (by simp)
    rw [Mp.at_push_new] at this
    rw [← S.n]
    exact this

theorem ML.set {m : Mp} {es : List (Value × Value × Nat)} {l : List MapEntry} (h : ML m es l) {j : Nat} {x : Value × Value × Nat} {e : MapEntry} (hx : EntryRel m x e) : ML m (es.set j x) (l.set j e) := by
  rw [ML_iff] at h ⊢
  refine ⟨by simp [h.1], fun k y f hy hf => ?_⟩
  rw [List.getElem?_set] at hy hf
  rw [h.1] at hy
  split at hy
  · rename_i hjk
    rw [if_pos hjk] at hf
    split at hy
    · rename_i hlt
      rw [if_pos hlt] at hf
      injection hy with hy; injection hf with hf
      subst hy; subst hf
      exact hx
    · cases hy
  · rename_i hjk
    rw [if_neg hjk] at hf
    exact h.2 k y f hy hf
theorem ML.snoc {m : Mp} {es : List (Value × Value × Nat)} {l : List MapEntry} (h : ML m es l) {x : Value × Value × Nat} {e : MapEntry} (hx : EntryRel m x e) : ML m (es ++ [x]) (l ++ [e]) := by
  rw [ML_iff] at h ⊢
  refine ⟨by simp [h.1], fun k y f hy hf => ?_⟩
  rw [List.getElem?_append] at hy hf
  rw [h.1] at hy
  split at hy
  · rename_i hlt
    rw [if_pos hlt] at hf
    exact h.2 k y f hy hf
  · rename_i hlt
    rw [if_neg hlt] at hf
    cases hk : k - l.length with
    | zero => rw [hk] at hy hf; simp at hy hf; subst hy; subst hf; exact hx
    | succ q => rw [hk] at hy; simp at hy
theorem ML.erase {m : Mp} : ∀ {es : List (Value × Value × Nat)} {l : List MapEntry}, ML m es l → ∀ j, ML m (es.eraseIdx j) (l.eraseIdx j)
  | [], [], _, j => by simp [ML]
  | [], _ :: _, h, _ => h.elim
  | _ :: _, [], h, _ => h.elim
  | x :: es, e :: l, h, 0 => by simpa using h.2
  | x :: es, e :: l, h, j + 1 => by
    simp only [List.eraseIdx_cons_succ]
    exact ⟨h.1, ML.erase h.2 j⟩

theorem upd_map {B : Nat} {w0 : World} {m : Mp} {h : VH} {w : World} (S : Sim B w0 m h w) {i : Nat} (hi : i < m.n) {es es' : List (Value × Value × Nat)} {c c' : Nat} (hg : h.get i = .map es c true) {mes mes' : Array MapEntry}
    (hb : w.heap[(m.at_ i).blk]? = some (.map mes c)) (hml : ML m es' mes'.toList) : Sim B w0 m (h.set i (.map es' c' true)) { w with heap := w.heap.setIfInBounds (m.at_ i).blk (.map mes' c') } :=
  S.upd hi (by rw [hg]; rfl) _ (grown_put w _ _) ⟨mes', (heap_set hb).1, MapRel_ML.2 hml⟩

theorem modify_toList (mes : Array MapEntry) (j : Nat) (f : MapEntry → MapEntry) (e : MapEntry) (h : mes.toList[j]? = some e) : (mes.modify j f).toList = mes.toList.set j (f e) := by
  have hj : j < mes.toList.length := (List.getElem?_eq_some_iff.1 h).1
  apply List.ext_getElem?
  intro k
  simp only [Array.getElem?_toList, Array.getElem?_modify, List.getElem?_set]
  by_cases hk : j = k
  · subst hk
    have : mes[j]? = some e := by simpa using h
    simp [this, hj]
    simpa using hj
  · simp [hk]

theorem ok_mapSet {t kt et : TypeId} {d : TypeDesc} {kd : LK} {x k y : Operand} {rx rk ry : Ref} (hop : o.op = .mapUpdate t x k y) (ht : P.underlying t = some (.map kt et)) (hkt : P.underlying kt = some d) (hkd : kdOf d = some kd)
    (hx : compRef N x = some rx) (hk : compRef N k = some rk) (hy : compRef N y = some ry) : StepOK P N o (.mapSet kd rx rk ry) := by
  intro B w0 m h w s a v h' S hs hp
  have hr := compRef_ok hx hs
  have hrk := compRef_ok hk hs
  have hry := compRef_ok hy hs
  simp only [pstep] at hp
  split at hp
  · rename_i i e
    rw [e] at hr
    obtain ⟨hi, e1⟩ := map_inv hr
    split at hp
    · rename_i es c hg
      split at hp
      · rename_i hf
        injection hp with hp
        simp only [Prod.mk.injEq] at hp
        obtain ⟨rfl, rfl⟩ := hp
        obtain ⟨mes, hb, hml⟩ := map_of S hi hg
        have ek := hrk.closed_inv (fit_closed hf.1)
        have hkey := isKey_of_fit hkd hf.1
        rcases find_ok hkd hf.1 (ev s ry) (ev s ry) c es mes.toList 0 hml hf.2 with ⟨h1, _, h3, _, h5, _⟩ | ⟨j, q, f, h1, h2, h3, h4, h5, _, h7, _, h9, _⟩
        · refine ⟨m, .skip, undef, { w with heap := w.heap.setIfInBounds (m.at_ i).blk (.map (mes.push { key := ev s rk, val := a.eval y, born := c }) (c + 1)) }, ?_, rfl, m.le_refl, ?_, VR.undef m⟩
          · simp [execOp, hop, Instr.mapUpdate, run_underlying ht, e1, ek, MapKept.run_getObj_map hb, run_checkKey hkt hkey, run_findKey hkt h1, run_setObj_map _ hb]
          · rw [h5, show mtick (ev s rk) c es = c + 1 by simp [mtick, h3]]
            exact upd_map S hi hg hb (by simp only [Array.toList_push]; exact hml.snoc ⟨by show VR m (ev s rk) (ev s rk); rw [ek] at hrk; exact hrk, hry, rfl⟩)
        · have hj : mes[j]? = some f := by simpa using h3
          refine ⟨m, .skip, undef, { w with heap := w.heap.setIfInBounds (m.at_ i).blk (.map (mes.modify j fun e => { e with key := ev s rk, val := a.eval y }) c) }, ?_, rfl, m.le_refl, ?_, VR.undef m⟩
          · simp only [Nat.zero_add] at h1
            simp [execOp, hop, Instr.mapUpdate, run_underlying ht, e1, ek, MapKept.run_getObj_map hb, run_checkKey hkt hkey, run_findKey hkt h1, hj, h4, run_keyThatStays hkey, run_setObj_map _ hb]
          · rw [h9, show mtick (ev s rk) c es = c by simp [mtick, h7]]
            refine upd_map S hi hg hb ?_
            rw [modify_toList mes j _ f h3]
            exact hml.set ⟨by show VR m (ev s rk) (ev s rk); rw [ek] at hrk; exact hrk, hry, h5.born⟩
      · cases hp
    · cases hp
  · cases hp

theorem eraseIdx_toList (mes : Array MapEntry) (j : Nat) (h : j < mes.toList.length) : (mes.eraseIdxIfInBounds j).toList = mes.toList.eraseIdx j := by
  have h' : j < mes.size := by simpa using h
  simp [Array.eraseIdxIfInBounds, h']

theorem ok_mapDel {ts : Array TypeId} {t t2 kt et : TypeId} {d : TypeDesc} {kd : LK} {x k : Operand} {rx rk : Ref} (hop : o.op = .call { callee := .builtin .delete, args := #[x, k], argTypes := ts }) (hts : ts[0]? = some t) (ht : P.underlying t = some (.map kt et))
    (hkt : P.underlying kt = some d) (hkd : kdOf d = some kd) (hx : compRef N x = some rx) (hk : compRef N k = some rk) : StepOK P N o (.mapDel kd rx rk) := by
  intro B w0 m h w s a v h' S hs hp
  have hr := compRef_ok hx hs
  have hrk := compRef_ok hk hs
  have tup0 : VR m (.tuple #[]) (.tuple #[]) := VR.closed m rfl
  simp only [pstep] at hp
  split at hp
  · rename_i e
    rw [e] at hr
    have e1 := map0_inv hr
    split at hp
    · rename_i hf
      injection hp with hp
      simp only [Prod.mk.injEq] at hp
      obtain ⟨rfl, rfl⟩ := hp
      have ek := hrk.closed_inv (fit_closed hf)
      have hkey := isKey_of_fit hkd hf
      refine ⟨m, .value (.tuple #[]), _, w, ?_, rfl, m.le_refl, S, tup0⟩
      simp [execOp, hop, resolve, invoke, builtin, Builtin.delete_, hts, run_underlying ht, e1, ek, run_checkKey hkt hkey]
    · cases hp
  · rename_i i e
    rw [e] at hr
    obtain ⟨hi, e1⟩ := map_inv hr
    split at hp
    · rename_i es c hg
      split at hp
      · rename_i hf
        injection hp with hp
        simp only [Prod.mk.injEq] at hp
        obtain ⟨rfl, rfl⟩ := hp
        obtain ⟨mes, hb, hml⟩ := map_of S hi hg
        have ek := hrk.closed_inv (fit_closed hf.1)
        have hkey := isKey_of_fit hkd hf.1
        rcases find_ok hkd hf.1 (ev s rk) (ev s rk) c es mes.toList 0 hml hf.2 with ⟨h1, _, _, h4, _⟩ | ⟨j, q, f, h1, h2, h3, h4, h5, _, _, h8, _⟩
        · refine ⟨m, .value (.tuple #[]), _, { w with heap := w.heap.setIfInBounds (m.at_ i).blk (.map mes c) }, ?_, rfl, m.le_refl, ?_, tup0⟩
          · simp [execOp, hop, resolve, invoke, builtin, Builtin.delete_, hts, run_underlying ht, e1, ek, MapKept.run_getObj_map hb, run_checkKey hkt hkey, run_findKey hkt h1, run_setObj_map _ hb]
          · rw [h4]
            exact upd_map S hi hg hb hml
        · simp only [Nat.zero_add] at h1
          have hjl : j < mes.toList.length := (List.getElem?_eq_some_iff.1 h3).1
          refine ⟨m, .value (.tuple #[]), _, { w with heap := w.heap.setIfInBounds (m.at_ i).blk (.map (mes.eraseIdxIfInBounds j) c) }, ?_, rfl, m.le_refl, ?_, tup0⟩
          · simp [execOp, hop, resolve, invoke, builtin, Builtin.delete_, hts, run_underlying ht, e1, ek, MapKept.run_getObj_map hb, run_checkKey hkt hkey, run_findKey hkt h1, run_setObj_map _ hb]
          · rw [h8]
            refine upd_map S hi hg hb ?_
            rw [eraseIdx_toList _ _ hjl]
            exact hml.erase j
      · cases hp
    · cases hp
  · cases hp

theorem ok_mapEntry {t kt et : TypeId} {d : TypeDesc} {kd : LK} {ie : TypeInfo} {z : Value} {x k : Operand} {rx rk : Ref} (hop : o.op = .mapEntry t x k) (ht : P.underlying t = some (.map kt et)) (hkt : P.underlying kt = some d) (hkd : kdOf d = some kd)
    (hie : P.info? et = some ie) (hz : ie.zero = some z) (hzc : closedD z = true) (hx : compRef N x = some rx) (hk : compRef N k = some rk) : StepOK P N o (.mapEntry kd z rx rk) := by
  intro B w0 m h w s a v h' S hs hp
  have hr := compRef_ok hx hs
  have hrk := compRef_ok hk hs
  simp only [pstep] at hp
  split at hp
  · rename_i i e
    rw [e] at hr
    obtain ⟨hi, e1⟩ := map_inv hr
    split at hp
    · rename_i es c hg
      split at hp
      · rename_i hf
        injection hp with hp
        simp only [Prod.mk.injEq] at hp
        obtain ⟨rfl, rfl⟩ := hp
        obtain ⟨mes, hb, hml⟩ := map_of S hi hg
        have ek := hrk.closed_inv (fit_closed hf.1)
        have hkey := isKey_of_fit hkd hf.1
        rcases find_ok hkd hf.1 z z c es mes.toList 0 hml hf.2 with ⟨h1, _, h3, _, _, h6⟩ | ⟨j, q, f, h1, h2, h3, h4, h5, _, h7, _, _, h10⟩
        · refine ⟨m, .value (.tuple #[z, .int .i64 c]), _, { w with heap := w.heap.setIfInBounds (m.at_ i).blk (.map (mes.push { key := ev s rk, val := z, born := c }) (c + 1)) }, ?_, rfl, m.le_refl, ?_, ?_⟩
          · simp [execOp, hop, Instr.mapEntry, run_underlying ht, e1, ek, MapKept.run_getObj_map hb, run_checkKey hkt hkey, run_findKey hkt h1, run_setObj_map _ hb, run_zeroValue hie hz, goInt]
          · rw [h6, show mtick (ev s rk) c es = c + 1 by simp [mtick, h3]]
            exact upd_map S hi hg hb (by simp only [Array.toList_push]; exact hml.snoc ⟨by show VR m (ev s rk) (ev s rk); rw [ek] at hrk; exact hrk, closedD_VR m hzc, rfl⟩)
          · rw [h6]
            exact .tup2 (closedD_VR m hzc) (.int _ _)
        · simp only [Nat.zero_add] at h1
          have hj : mes[j]? = some f := by simpa using h3
          refine ⟨m, .value (.tuple #[f.val, .int .i64 f.born]), _, { w with heap := w.heap.setIfInBounds (m.at_ i).blk (.map (mes.modify j fun e => { e with key := ev s rk }) c) }, ?_, rfl, m.le_refl, ?_, ?_⟩
          · simp [execOp, hop, Instr.mapEntry, run_underlying ht, e1, ek, MapKept.run_getObj_map hb, run_checkKey hkt hkey, run_findKey hkt h1, hj, h4, run_keyThatStays hkey, run_setObj_map _ hb, goInt]
          · rw [h10, show mtick (ev s rk) c es = c by simp [mtick, h7]]
            refine upd_map S hi hg hb ?_
            rw [modify_toList mes j _ f h3]
            exact hml.set ⟨by show VR m (ev s rk) (ev s rk); rw [ek] at hrk; exact hrk, h5.val, h5.born⟩
          · rw [h10]
            have := h5.born
            simp only
            rw [this]
            exact .tup2 h5.val (.int _ _)
      · cases hp
    · cases hp
  · cases hp

theorem mstamp_ok {m : Mp} {n : Int} {v v' : Value} (hv : VR m v v') : ∀ {es es' : List (Value × Value × Nat)} {l : List MapEntry}, ML m es l → mstamp n v es = some es' → ∃ j, l.findIdx? (fun e => (e.born : Int) == n) = some j ∧ ∃ f, l[j]? = some f ∧ ML m es' (l.set j { f with val := v' })
  | [], _, _, _, hm => by cases hm
  | x :: es, es', [], h, _ => h.elim
  | x :: es, es', e :: l, h, hm => by
    have hb := h.1.born
    simp only [mstamp] at hm
    split at hm
    · rename_i hq
      injection hm with hm
      subst hm
      rw [hb] at hq
      exact ⟨0, by simp [List.findIdx?_cons, hq], e, rfl, ⟨⟨h.1.key, hv, hb⟩, h.2⟩⟩
    · rename_i hq
      rw [hb] at hq
      simp only [Option.map_eq_some_iff] at hm
      obtain ⟨r, hr, rfl⟩ := hm
      obtain ⟨j, h1, f, h2, h3⟩ := mstamp_ok hv h.2 hr
      exact ⟨j + 1, by simp [List.findIdx?_cons, hq, h1], f, by simpa using h2, ⟨h.1, h3⟩⟩

theorem ok_entrySet {t : TypeId} {x st y : Operand} {rx rs ry : Ref} (hop : o.op = .entryStore t x st y) (hx : compRef N x = some rx) (hst : compRef N st = some rs) (hy : compRef N y = some ry) : StepOK P N o (.entrySet rx rs ry) := by
  intro B w0 m h w s a v h' S hs hp
  have hr := compRef_ok hx hs
  have hrs := compRef_ok hst hs
  have hry := compRef_ok hy hs
  simp only [pstep] at hp
  split at hp
  · rename_i i kk n e e2
    rw [e] at hr
    rw [e2] at hrs
    obtain ⟨hi, e1⟩ := map_inv hr
    split at hp
    · rename_i es c hg
      simp only [Option.map_eq_some_iff, Prod.mk.injEq] at hp
      obtain ⟨es', hm, rfl, rfl⟩ := hp
      obtain ⟨mes, hb, hml⟩ := map_of S hi hg
      obtain ⟨j, h1, f, h2, h3⟩ := mstamp_ok hry hml hm
      have h1' : mes.findIdx? (fun e => (e.born : Int) == n) = some j := by obtain ⟨l⟩ := mes; simpa using h1
      refine ⟨m, .skip, undef, { w with heap := w.heap.setIfInBounds (m.at_ i).blk (.map (mes.modify j fun e => { e with val := a.eval y }) c) }, ?_, rfl, m.le_refl, ?_, VR.undef m⟩
      · simp [execOp, hop, Instr.entryStore, e1, hrs.int_inv, asInt, asIntOf, MapKept.run_getObj_map hb, h1', run_setObj_map _ hb]
      · refine upd_map S hi hg hb ?_
        rw [modify_toList mes j _ f h2]
        exact h3
    · cases hp
  · cases hp
end Go.Proofs.Ytdnkpgbggpbgaaa.Pm
