/- The pure machine, part W: iterators over strings and maps, copies, rows that are made, assertions. -/
import Derived.Test.YtdnkpgbggpbgaaaPmV
import Derived.Test.YtdnkpgbggpbgaaaPmN
set_option linter.unusedVariables false
set_option linter.unusedSimpArgs false
namespace Go.Proofs.Ytdnkpgbggpbgaaa.Pm
open Go.RowKit Go.MapKept
variable {P : Program} {N : Nat} {o : Oper}

theorem run_getObj_any {w : World} {r : Nat} {ob : Obj} (hb : w.heap[r]? = some ob) (hn : ∀ c e f, ob ≠ .cells c e f) : (getObj r).run P w = .ok ob w := by
  cases ob <;> first
    | (simp [getObj, Sem.run, hb]; done)
    | exact absurd rfl (hn _ _ _)
theorem run_setObj_any {w : World} {r : Nat} {ob : Obj} (o' : Obj) (hb : w.heap[r]? = some ob) (hn : ∀ c e f, ob ≠ .cells c e f) : (setObj r o').run P w = .ok () { w with heap := w.heap.setIfInBounds r o' } := by
  cases ob <;> first
    | (simp [setObj, Sem.run, hb]; done)
    | exact absurd rfl (hn _ _ _)

theorem ptr_new {B : Nat} {w0 : World} {m : Mp} {h : VH} {w : World} (S : Sim B w0 m h w) (i : Info) (hb : i.base = 0) : VR (m.push i) (.pointer (some ⟨h.n, 0, none⟩)) (.pointer (some ⟨i.blk, 0, none⟩)) := by
  have := VR.ptr (m := m.push i) (i := m.n) (o := 0) (by simp)
  rw [Mp.at_push_new, hb] at this
  rw [← S.n]
  exact this

theorem ok_rangeS {t : TypeId} {x : Operand} {rx : Ref} (hop : o.op = .range t x) (ht : P.underlying t = some .string) (hx : compRef N x = some rx) : StepOK P N o (.rangeS rx) := by
  intro B w0 m h w s a v h' S hs hp
  have hr := compRef_ok hx hs
  simp only [pstep] at hp
  split at hp
  · rename_i b e
    rw [e] at hr
    injection hp with hp
    simp only [Prod.mk.injEq] at hp
    obtain ⟨rfl, rfl⟩ := hp
    have S' := S.push (.stringIter b 0) (.siter b 0) ⟨w.heap.size, 0, 0, 0⟩ rfl ⟨heap_alloc_new' w _, rfl⟩
    refine ⟨_, .value (.pointer (some ⟨w.heap.size, 0, none⟩)), _, w.alloc (.stringIter b 0), ?_, rfl, m.push_le _, S', ptr_new S _ rfl⟩
    simp [execOp, hop, Instr.range, run_underlying ht, hr.string_inv]
  · cases hp

theorem ptr0_inv {m : Mp} {i : Nat} {v : Value} (h : VR m (.pointer (some ⟨i, 0, none⟩)) v) (h0 : i < m.n → (m.at_ i).base = 0) : i < m.n ∧ v = .pointer (some ⟨(m.at_ i).blk, 0, none⟩) := by
  cases h with
  | ptr hi => exact ⟨hi, by rw [h0 hi]⟩

theorem siter_of {B : Nat} {w0 : World} {m : Mp} {h : VH} {w : World} (S : Sim B w0 m h w) {i : Nat} (hi : i < m.n) {b : ByteArray} {pos : Nat} (hg : h.get i = .siter b pos) : w.heap[(m.at_ i).blk]? = some (.stringIter b pos) ∧ (m.at_ i).base = 0 := by
  have := S.obj i hi
  rw [hg] at this
  exact this

theorem ok_nextS {x : Operand} {rx : Ref} (hop : o.op = .next x true) (hx : compRef N x = some rx) : StepOK P N o (.nextS rx) := by
  intro B w0 m h w s a v h' S hs hp
  have hr := compRef_ok hx hs
  simp only [pstep] at hp
  split at hp
  · rename_i i e
    rw [e] at hr
    split at hp
    · rename_i b pos hg
      obtain ⟨hi, e1⟩ := ptr0_inv hr (fun hi => (siter_of S hi hg).2)
      obtain ⟨hb, hbase⟩ := siter_of S hi hg
      have hn : ∀ c e f, Obj.stringIter b pos ≠ .cells c e f := fun _ _ _ e => by cases e
      split at hp
      · rename_i hlt
        injection hp with hp
        simp only [Prod.mk.injEq] at hp
        obtain ⟨rfl, rfl⟩ := hp
        refine ⟨m, .value (.tuple #[.bool true, .int .i64 pos, .int .i32 (Utf8.decode b pos).1]), _, { w with heap := w.heap.setIfInBounds (m.at_ i).blk (.stringIter b (pos + (Utf8.decode b pos).2)) }, ?_, rfl, m.le_refl, ?_, .tup3 (.bool _) (.int _ _) (.int _ _)⟩
        · simp [execOp, hop, Instr.next, e1, run_getObj_any hb hn, hlt, run_setObj_any _ hb hn, goInt]
        · exact S.upd hi (by rw [hg]; rfl) _ (grown_put w _ _) ⟨(heap_set hb).1, hbase⟩
      · rename_i hlt
        injection hp with hp
        simp only [Prod.mk.injEq] at hp
        obtain ⟨rfl, rfl⟩ := hp
        refine ⟨m, .value (.tuple #[.bool false]), _, w, ?_, rfl, m.le_refl, S, closedD_VR m rfl⟩
        simp [execOp, hop, Instr.next, e1, run_getObj_any hb hn, hlt]
    · cases hp
  · cases hp

theorem ok_rangeM {t kt et : TypeId} {x : Operand} {rx : Ref} (hop : o.op = .range t x) (ht : P.underlying t = some (.map kt et)) (hx : compRef N x = some rx) : StepOK P N o (.rangeM rx) := by
  intro B w0 m h w s a v h' S hs hp
  have hr := compRef_ok hx hs
  simp only [pstep] at hp
  split at hp
  · rename_i e
    rw [e] at hr
    injection hp with hp
    simp only [Prod.mk.injEq] at hp
    obtain ⟨rfl, rfl⟩ := hp
    have S' := S.push (.mapIter none 0 #[] 0) (.miter none 0 [] 0) ⟨w.heap.size, 0, 0, 0⟩ rfl ⟨rfl, none, heap_alloc_new' w _, .inl ⟨rfl, rfl⟩⟩
    refine ⟨_, .value (.pointer (some ⟨w.heap.size, 0, none⟩)), _, w.alloc (.mapIter none 0 #[] 0), ?_, rfl, m.push_le _, S', ptr_new S _ rfl⟩
    simp [execOp, hop, Instr.range, run_underlying ht, map0_inv hr]
  · rename_i i e
    rw [e] at hr
    obtain ⟨hi, e1⟩ := map_inv hr
    split at hp
    · rename_i es c ow hg
      injection hp with hp
      simp only [Prod.mk.injEq] at hp
      obtain ⟨rfl, rfl⟩ := hp
      obtain ⟨mes, hb, hml⟩ := map_of S hi hg
      have S' := S.push (.mapIter (some (m.at_ i).blk) c #[] c) (.miter (some i) c [] c) ⟨w.heap.size, 0, 0, 0⟩ rfl ⟨rfl, _, heap_alloc_new' w _, .inr ⟨i, rfl, by simp; omega, by rw [Mp.at_push_lt _ _ hi]⟩⟩
      refine ⟨_, .value (.pointer (some ⟨w.heap.size, 0, none⟩)), _, w.alloc (.mapIter (some (m.at_ i).blk) c #[] c), ?_, rfl, m.push_le _, S', ptr_new S _ rfl⟩
      simp [execOp, hop, Instr.range, run_underlying ht, e1, MapKept.run_getObj_map hb]
    · cases hp
  · cases hp

theorem miter_of {B : Nat} {w0 : World} {m : Mp} {h : VH} {w : World} (S : Sim B w0 m h w) {i : Nat} (hi : i < m.n) {mp : Option Nat} {since last : Nat} {seen : List Nat} (hg : h.get i = .miter mp since seen last) :
    (m.at_ i).base = 0 ∧ ∃ o, w.heap[(m.at_ i).blk]? = some (.mapIter o since seen.toArray last) ∧ ((mp = none ∧ o = none) ∨ ∃ k, mp = some k ∧ k < m.n ∧ o = some (m.at_ k).blk) := by
  have := S.obj i hi
  rw [hg] at this
  exact this

theorem ML.filter {m : Mp} (p : Nat → Bool) : ∀ {es : List (Value × Value × Nat)} {l : List MapEntry}, ML m es l → ML m (es.filter fun e => p e.2.2) (l.filter fun e => p e.born)
  | [], [], _ => trivial
  | [], _ :: _, h => h.elim
  | _ :: _, [], h => h.elim
  | x :: es, e :: l, h => by
    have hb := h.1.born
    simp only [List.filter_cons, hb]
    split
    · exact ⟨h.1, ML.filter p h.2⟩
    · exact ML.filter p h.2
theorem ML.append {m : Mp} : ∀ {es es2 : List (Value × Value × Nat)} {l l2 : List MapEntry}, ML m es l → ML m es2 l2 → ML m (es ++ es2) (l ++ l2)
  | [], _, [], _, _, h => h
  | [], _, _ :: _, _, h, _ => h.elim
  | _ :: _, _, [], _, h, _ => h.elim
  | x :: es, _, e :: l, _, h, k => ⟨h.1, ML.append h.2 k⟩
theorem ML.isEmpty {m : Mp} : ∀ {es : List (Value × Value × Nat)} {l : List MapEntry}, ML m es l → es.isEmpty = l.isEmpty
  | [], [], _ => rfl
  | [], _ :: _, h => h.elim
  | _ :: _, [], h => h.elim
  | _ :: _, _ :: _, _ => rfl
theorem ML.all {m : Mp} (p : Nat → Bool) : ∀ {es : List (Value × Value × Nat)} {l : List MapEntry}, ML m es l → es.all (fun e => p e.2.2) = l.all (fun e => p e.born)
  | [], [], _ => rfl
  | [], _ :: _, h => h.elim
  | _ :: _, [], h => h.elim
  | x :: es, e :: l, h => by simp only [List.all_cons, h.1.born, ML.all p h.2]
theorem ML.at_ {m : Mp} {es : List (Value × Value × Nat)} {l : List MapEntry} (h : ML m es l) {j : Nat} {e : MapEntry} (hj : l[j]? = some e) : ∃ x, es[j]? = some x ∧ EntryRel m x e := by
  rw [ML_iff] at h
  have h1 : j < es.length := by rw [h.1]; exact (List.getElem?_eq_some_iff.1 hj).1
  exact ⟨_, List.getElem?_eq_getElem h1, h.2 j _ _ (List.getElem?_eq_getElem h1) hj⟩

/-- what 'next' answers at a range over a map is one of the answers told. -/
theorem nextM_ok {x : Operand} {rx : Ref} (hop : o.op = .next x false) (hx : compRef N x = some rx) {B : Nat} {w0 : World} {m : Mp} {h : VH} {w : World} {s : Slots} {a : Act} (S : Sim B w0 m h w) (hs : SR N m s a.tmps) {l : List (Value × VH)} (hp : pnextM (ev s rx) h = some l) :
    ∃ v h' v' w', (v, h') ∈ l ∧ (execOp a.eval o).run P w = .ok (.value v') w' ∧ Sim B w0 m h' w' ∧ VR m v v' := by
  have hr := compRef_ok hx hs
  unfold pnextM at hp
  split at hp
  · rename_i i e
    rw [e] at hr
    split at hp
    · rename_i since seen last hg
      injection hp with hp
      subst hp
      obtain ⟨hi, e1⟩ := ptr0_inv hr (fun hi => (miter_of S hi hg).1)
      obtain ⟨hbase, ob, hb, ho⟩ := miter_of S hi hg
      obtain rfl : ob = none := by
        rcases ho with ⟨_, h2⟩ | ⟨k, h1, _⟩
        · exact h2
        · cases h1
      refine ⟨_, _, .tuple #[.bool false], w, List.mem_singleton.2 rfl, ?_, S, closedD_VR m rfl⟩
      simp [execOp, hop, Instr.next, e1, run_getObj_any hb (fun _ _ _ e => by cases e)]
    · rename_i j since seen last hg
      split at hp
      · rename_i es clock ow hgj
        split at hp
        · cases hp
        · rename_i htest
          injection hp with hp
          obtain ⟨hi, e1⟩ := ptr0_inv hr (fun hi => (miter_of S hi hg).1)
          obtain ⟨hbase, ob, hb, ho⟩ := miter_of S hi hg
          obtain ⟨hj, rfl⟩ : j < m.n ∧ ob = some (m.at_ j).blk := by
            rcases ho with ⟨h1, _⟩ | ⟨k, h1, h2, h3⟩
            · cases h1
            · injection h1 with h1; subst h1; exact ⟨h2, h3⟩
          obtain ⟨mes, hbm, hml⟩ := map_of S hj hgj
          have ht : (!seen.toArray.isEmpty && !mes.isEmpty && mes.all (fun e => decide (e.born ≥ last))) = false := by
            have h1 := hml.isEmpty
            have h2 := hml.all (fun b => decide (last ≤ b))
            have h3 : mes.isEmpty = es.isEmpty := by rw [h1]; obtain ⟨ml⟩ := mes; cases ml <;> rfl
            have h4 : mes.all (fun e => decide (e.born ≥ last)) = es.all (fun e => decide (last ≤ e.2.2)) := by rw [h2, ← Array.all_toList]
            have h5 : seen.toArray.isEmpty = seen.isEmpty := by cases seen <;> rfl
            rw [h3, h4, h5]
            simpa using htest
          have hleft : ML m (es.filter fun e => !seen.contains e.2.2) (mes.toList.filter fun e => !seen.contains e.born) := hml.filter (fun b => !seen.contains b)
          have hold := hleft.filter (fun b => decide (b < since))
          have hnew := hleft.filter (fun b => decide (since ≤ b))
          have hall := hold.append hnew
          -- the candidates
          obtain ⟨cand, hcand⟩ : ∃ cand : Array (Option MapEntry), cand = (if (Array.filter (fun e => decide (e.born < since)) (Array.filter (fun e => !seen.toArray.contains e.born) mes)).isEmpty then #[none] else #[]) ++
              (Array.filter (fun e => decide (e.born < since)) (Array.filter (fun e => !seen.toArray.contains e.born) mes) ++ Array.filter (fun e => decide (e.born ≥ since)) (Array.filter (fun e => !seen.toArray.contains e.born) mes)).map some := ⟨_, rfl⟩
          obtain ⟨A, hA⟩ : ∃ A, A = Array.filter (fun e => decide (e.born < since)) (Array.filter (fun e => !seen.toArray.contains e.born) mes) := ⟨_, rfl⟩
          obtain ⟨C, hC⟩ : ∃ C, C = Array.filter (fun e => decide (e.born ≥ since)) (Array.filter (fun e => !seen.toArray.contains e.born) mes) := ⟨_, rfl⟩
          have hAl : A.toList = (mes.toList.filter fun e => !seen.contains e.born).filter fun e => decide (e.born < since) := by rw [hA]; simp
          have hCl : C.toList = (mes.toList.filter fun e => !seen.contains e.born).filter fun e => decide (since ≤ e.born) := by rw [hC]; simp
          have hAe : A.isEmpty = (miterL es since seen).1 := by
            have h1 := hold.isEmpty
            simp only [miterL, h1, ← hAl]
            obtain ⟨l⟩ := A
            cases l <;> rfl
          rw [← hA, ← hC, hAe] at hcand
          have hcl : cand.toList = (if (miterL es since seen).1 = true then [none] else []) ++ (((mes.toList.filter fun e => !seen.contains e.born).filter fun e => decide (e.born < since)) ++ ((mes.toList.filter fun e => !seen.contains e.born).filter fun e => decide (since ≤ e.born))).map some := by
            rw [hcand, ← hAl, ← hCl]
            cases (miterL es since seen).1 <;> simp
          have hne : 0 < cand.size := by
            rw [← Array.length_toList, hcl]
            have h1 := hold.isEmpty
            simp only [miterL, h1]
            split
            · simp
            · rename_i hq
              cases hf : ((mes.toList.filter fun e => !seen.contains e.born).filter fun e => decide (e.born < since)) with
              | nil => rw [hf] at hq; simp at hq
              | cons y ys => simp
          obtain ⟨q, w1, hq, hw1, hch⟩ : ∃ (q : Nat) (w1 : World), q < cand.size ∧ (∃ n, w1 = { w with drawn := n }) ∧ (choose (Question.mapNext cand.size)).run P w = .ok q w1 := by
            by_cases hf : cand.size ≤ 1
            · exact ⟨0, w, hne, ⟨w.drawn, rfl⟩, by simp [choose, Sem.run, Question.forced, hf]⟩
            · exact ⟨w.tape w.drawn (Question.mapNext cand.size) % cand.size, _, Nat.mod_lt _ hne, ⟨w.drawn + 1, rfl⟩, by
                simp only [choose, Sem.run, Question.forced, decide_eq_true_eq, hf, if_false, Question.cut]⟩
          obtain ⟨n1, rfl⟩ := hw1
          have S1 := S.drewN n1
          have hrun : ∀ (c : Option MapEntry) (res : Value) (w2 : World), cand[q]? = some c → (match c with
              | some e => (do setObj (m.at_ i).blk (.mapIter (some (m.at_ j).blk) since (seen.toArray.push e.born) clock); pure (.tuple #[.bool true, e.key, e.val]) : Sem Value)
              | none => pure (.tuple #[.bool false])).run P { w with drawn := n1 } = .ok res w2 → (execOp a.eval o).run P w = .ok (.value res) w2 := by
            intro c res w2 hc hres
            have : (Instr.next (.pointer (some ⟨(m.at_ i).blk, 0, none⟩)) false o.type).run P w = .ok res w2 := by
              simp only [Instr.next, Sem.run_bind, run_getObj_any hb (fun _ _ _ e => by cases e), Result.andThen_ok, MapKept.run_getObj_map hbm, ht, Bool.false_eq_true, if_false]
              rw [← hA, ← hC, hAe, ← hcand, hch]
              simp only [Result.andThen_ok, hc]
              cases c <;> exact hres
            simp [execOp, hop, e1, this]
          have hcq : cand[q]? = some cand[q] := Array.getElem?_eq_getElem hq
          have hcq' : cand.toList[q]? = some cand[q] := by simp
          have hmem : cand[q] ∈ cand.toList := List.mem_of_getElem? hcq'
          generalize hcg : cand[q] = c at hcq hmem
          rw [hcl, List.mem_append] at hmem
          cases c with
          | none =>
            have hm1 : (miterL es since seen).1 = true := by
              rcases hmem with h1 | h1
              · split at h1
                · assumption
                · simp at h1
              · simp at h1
            refine ⟨.tuple #[.bool false], h, _, _, by rw [← hp, if_pos hm1]; simp, hrun none (.tuple #[.bool false]) _ hcq rfl, S1, closedD_VR m rfl⟩
          | some e =>
            have he : e ∈ (((mes.toList.filter fun e => !seen.contains e.born).filter fun e => decide (e.born < since)) ++ ((mes.toList.filter fun e => !seen.contains e.born).filter fun e => decide (since ≤ e.born))) := by
              rcases hmem with h1 | h1
              · split at h1 <;> simp at h1
              · rw [List.mem_map] at h1
                obtain ⟨e', h2, h3⟩ := h1
                injection h3 with h3
                subst h3
                exact h2
            obtain ⟨p, hp1⟩ := List.mem_iff_getElem?.1 he
            obtain ⟨y, hy, hrel⟩ := hall.at_ hp1
            have hb1 : ({ w with drawn := n1 } : World).heap[(m.at_ i).blk]? = some (.mapIter (some (m.at_ j).blk) since seen.toArray last) := hb
            refine ⟨.tuple #[.bool true, y.1, y.2.1], h.set i (.miter (some j) since (seen ++ [y.2.2]) clock), .tuple #[.bool true, e.key, e.val], { w with drawn := n1, heap := w.heap.setIfInBounds (m.at_ i).blk (.mapIter (some (m.at_ j).blk) since (seen.toArray.push e.born) clock) }, ?_, hrun (some e) _ _ hcq ?_, ?_, .tup3 (.bool _) hrel.key hrel.val⟩
            · rw [← hp]
              refine List.mem_append_right _ (List.mem_map.2 ⟨y, ?_, rfl⟩)
              exact List.mem_of_getElem? hy
            · simp only [Sem.run_bind, run_setObj_any _ hb1 (fun _ _ _ e => by cases e), Result.andThen_ok, Sem.run_pure]
            · refine S1.upd hi (by rw [hg]; rfl) _ (grown_put _ _ _) ⟨hbase, _, (heap_set hb1).1.trans ?_, .inr ⟨j, rfl, hj, rfl⟩⟩
              rw [hrel.born]
              simp
      · cases hp
    · cases hp
  · cases hp

theorem mborn_ok {m : Mp} {st : Nat} : ∀ {es : List (Value × Value × Nat)} {l : List MapEntry} {q : Value × Value}, ML m es l → mborn st es = some q → ∃ e, l.find? (fun e => e.born == st) = some e ∧ VR m q.1 e.key ∧ VR m q.2 e.val
  | [], _, _, _, h => by cases h
  | _ :: _, [], _, h, _ => h.elim
  | x :: es, e :: l, q, h, hq => by
    have hb := h.1.born
    simp only [mborn] at hq
    split at hq
    · rename_i hst
      injection hq with hq
      subst hq
      rw [hb] at hst
      exact ⟨e, by simp [List.find?_cons, hst], h.1.key, h.1.val⟩
    · rename_i hst
      rw [hb] at hst
      obtain ⟨f, h1, h2⟩ := mborn_ok h.2 hq
      exact ⟨f, by simp [List.find?_cons, hst, h1], h2⟩

theorem ok_entryM {x : Operand} {rx : Ref} (hop : o.op = .entry x) (hx : compRef N x = some rx) : ReadOK P N o (.entryM rx) := by
  intro B w0 m h w s a v h' S hs hp
  have hr := compRef_ok hx hs
  simp only [pstep] at hp
  split at hp
  · rename_i i e
    rw [e] at hr
    split at hp
    · rename_i j since seen last hg
      split at hp
      · rename_i es clock ow hgj
        split at hp
        · rename_i hcl
          simp only [Option.map_eq_some_iff, Option.bind_eq_some_iff, Prod.mk.injEq] at hp
          obtain ⟨q, ⟨st, hst, hq⟩, rfl, rfl⟩ := hp
          obtain ⟨hi, e1⟩ := ptr0_inv hr (fun hi => (miter_of S hi hg).1)
          obtain ⟨hbase, ob, hb, ho⟩ := miter_of S hi hg
          obtain ⟨hj, rfl⟩ : j < m.n ∧ ob = some (m.at_ j).blk := by
            rcases ho with ⟨h1, _⟩ | ⟨k, h1, h2, h3⟩
            · cases h1
            · injection h1 with h1; subst h1; exact ⟨h2, h3⟩
          obtain ⟨mes, hbm, hml⟩ := map_of S hj hgj
          obtain ⟨f, h1, h2, h3⟩ := mborn_ok hml hq
          have h1' : mes.find? (fun e => e.born == st) = some f := by simpa using h1
          refine plain_ok S (v' := .tuple #[f.key, f.val]) (fun w1 hw1 => ?_) (.tup2 h2 h3)
          have hb1 : w1.heap[(m.at_ i).blk]? = some (.mapIter (some (m.at_ j).blk) since seen.toArray last) := by rw [hw1 _ (Array.getElem?_eq_some_iff.1 hb).1]; exact hb
          have hb2 : w1.heap[(m.at_ j).blk]? = some (.map mes clock) := by rw [hw1 _ (Array.getElem?_eq_some_iff.1 hbm).1]; exact hbm
          have hbk : seen.toArray.back? = some st := by simpa using hst
          simp [execOp, hop, Instr.entry, e1, run_getObj_any hb1 (fun _ _ _ e => by cases e), MapKept.run_getObj_map hb2, hbk, hcl, h1']
        · cases hp
      · cases hp
    · cases hp
  · cases hp

theorem madeRow_eq {z : Value} (n : Nat) (hz : 0 < z.cells.size) : (madeCells z.cells n).toList = madeRow (cellsL z) n := by
  have key : ∀ (l : List Value), 0 < l.length → (List.range n).map (fun i => l.toArray[i % l.toArray.size]!) = madeRow l n := by
    intro l hl
    match l with
    | [x] =>
      simp only [madeRow]
      apply List.ext_getElem?
      intro j
      by_cases hj : j < n
      · simp [hj, Nat.mod_one]
      · rw [List.getElem?_eq_none (by simp; omega), List.getElem?_eq_none (by simp; omega)]
    | x :: y :: r =>
      simp only [madeRow]
      apply List.map_congr_left
      intro i _
      have hm : i % (x :: y :: r).length < (x :: y :: r).length := Nat.mod_lt _ hl
      simp [getElem!_def, List.getD_eq_getElem?_getD]
      simp at hm
      rw [List.getElem?_eq_getElem (by simpa using hm)]
      rfl
  have := key z.cells.toList (by simpa using hz)
  simp only [Array.toArray_toList] at this
  rw [cellsL, ← this]
  simp [madeCells]

theorem madeRow_all {p : Value → Bool} {z : List Value} (hz : z.all p = true) (hne : 0 < z.length) (n : Nat) : (madeRow z n).all p = true := by
  match z with
  | [x] => simp [madeRow] at hz ⊢; simp [hz]
  | x :: y :: r =>
    simp only [madeRow, List.all_eq_true, List.mem_map]
    rintro v ⟨i, _, rfl⟩
    have hm : i % (x :: y :: r).length < (x :: y :: r).length := Nat.mod_lt _ hne
    rw [List.getD_eq_getElem?_getD, List.getElem?_eq_getElem hm]
    exact List.all_eq_true.1 hz _ (List.getElem_mem hm)

theorem madeRow_length {z : List Value} (n : Nat) : (madeRow z n).length = n := by
  match z with
  | [] => simp [madeRow]
  | [x] => simp [madeRow]
  | x :: y :: r => simp [madeRow]

theorem ok_makeSl {t e : TypeId} {ie : TypeInfo} {z : Value} {x y : Operand} {rx ry : Ref} (hop : o.op = .makeSlice t x y) (ht : P.underlying t = some (.slice e)) (hie : P.info? e = some ie) (hz : ie.zero = some z) (hzc : (cellsL z).all closedV = true) (hz1 : (cellsL z).all Value.oneCell' = true) (hsz : z.cells.size = ie.size)
    (hpos : 0 < ie.size) (hb0 : 0 < ie.bytes) (hx : compRef N x = some rx) (hy : compRef N y = some ry) : StepOK P N o (.makeSl ie.size ie.bytes (cellsL z) rx ry) := by
  intro B w0 m h w s a v h' S hs hp
  have h1 := compRef_ok hx hs
  have h2 := compRef_ok hy hs
  simp only [pstep] at hp
  split at hp
  · rename_i kl l kc c e1 e2
    rw [e1] at h1
    rw [e2] at h2
    split at hp
    · rename_i hc
      injection hp with hp
      simp only [Prod.mk.injEq] at hp
      obtain ⟨rfl, rfl⟩ := hp
      obtain ⟨h0, hlc, hbd⟩ := hc
      have hcb : c ≤ c * ie.bytes := by
        have : c * 1 ≤ c * (ie.bytes : Int) := Int.mul_le_mul_of_nonneg_left (by omega) (by omega)
        omega
      have hrun := run_make (P := P) w t e ie z ht hie hz kl kc l c h0 hlc (by rw [Int.mul_comm]; omega) (by omega)
      have hlen : (cellsL z).length = ie.size := by simpa [cellsL] using hsz
      have hz0 : 0 < z.cells.size := by omega
      have hml := madeRow_eq (c.toNat * ie.size) hz0
      have hrl : (madeRow (cellsL z) (c.toNat * ie.size)).length = c.toNat * ie.size := madeRow_length _
      obtain ⟨inf, hinf⟩ : ∃ inf : Info, inf = ⟨w.heap.size, 0, c.toNat * ie.size, ie.size⟩ := ⟨_, rfl⟩
      have hcl := madeRow_all hzc (by omega) (c.toNat * ie.size)
      have hon := madeRow_all hz1 (by omega) (c.toNat * ie.size)
      have S' := S.push (.cells (madeCells z.cells (c.toNat * ie.size)) e) (.cells (madeRow (cellsL z) (c.toNat * ie.size)) true ie.size) inf (by rw [hinf]) (by
        refine ⟨by rw [hinf], by rw [hinf, hrl]; exact Nat.le_refl _, fun _ => by rw [hinf]; simp, fun j u hj => ?_, fun _ => ⟨_, _, _, by rw [hinf]; exact heap_alloc_new' w _, by rw [hinf]; simp [madeCells], .inl rfl⟩⟩
        have hm : u ∈ madeRow (cellsL z) (c.toNat * ie.size) := List.mem_of_getElem? hj
        refine ⟨u, ?_, VR.closed _ (List.all_eq_true.1 hcl u hm), List.all_eq_true.1 hon u hm⟩
        rw [← hml] at hj
        have hn := heap_alloc_new' w (.cells (madeCells z.cells (c.toNat * ie.size)) e)
        rw [hinf]
        simp only [World.cell?, Nat.zero_add, hn]
        simpa using hj)
      refine ⟨_, .value (.slice (some ⟨w.heap.size, 0, none⟩) l.toNat c.toNat), _, _, ?_, rfl, m.push_le inf, S', ?_⟩
      · simp [execOp, hop, h1.int_inv, h2.int_inv, hrun]
      · have := VR.sl (m := m.push inf) (i := m.n) (o := 0) (n := l.toNat) (c := c.toNat) (c' := c.toNat) (by simp) (by omega) (Nat.le_refl _) (by rw [Mp.at_push_new, hinf]; simp) (by omega)
        rw [Mp.at_push_new, hinf] at this
        rw [← S.n]
        rw [hinf]
        exact this
    · cases hp
  · cases hp

theorem zeroCells_eq {z : Value} (n : Nat) (hz : 0 < z.cells.size) : (Builtin.zeroCells z.cells n).toList = madeRow (cellsL z) (n * z.cells.size) := madeRow_eq (n * z.cells.size) hz

/-- append of n zero elements ('append(s, make([]T, n)...)'). -/
theorem ok_appendZ {ts : Array TypeId} {t t' e : TypeId} {ie : TypeInfo} {z : Value} {x y : Operand} {rx ry : Ref} {ki : IntKind} (hop : o.op = .call { callee := .builtin .append, args := #[x, y], argTypes := ts }) (hts : ts = #[t, t']) (ht : P.underlying t = some (.slice e))
    (ht' : P.underlying t' = some (.int ki)) (hie : P.info? e = some ie) (hz : ie.zero = some z) (hzc : z.cells.size = ie.size) (hb0 : 0 < ie.bytes) (hcl : (cellsL z).all closedV = true) (hon : (cellsL z).all Value.oneCell' = true) (hsz : 0 < ie.size)
    (hx : compRef N x = some rx) (hy : compRef N y = some ry) : StepOK P N o (.appendZ ie.size ie.bytes (cellsL z) rx ry) := by
  intro B w0 m h w s a v h' S hs hp
  simp only [pstep] at hp
  have h1 := compRef_ok hx hs
  have h2 := compRef_ok hy hs
  subst hts
  split at hp
  · rename_i k n e1
    rw [e1] at h2
    have e2 := h2.int_inv
    split at hp
    · rename_i hc
      obtain ⟨hn0, hnb⟩ := hc
      obtain ⟨n, rfl⟩ : ∃ q : Nat, n = (q : Int) := ⟨n.toNat, by omega⟩
      simp only [Int.toNat_natCast] at hp
      have hzl : (cellsL z).length = ie.size := by simpa [cellsL] using hzc
      have hnb' : n * ie.bytes ≤ 140737488355328 := Int.ofNat_le.1 (by rw [Int.natCast_mul]; exact hnb)
      have hnn : n ≤ n * ie.bytes := Nat.le_mul_of_pos_right _ hb0
      have hw : IntKind.i64.wrap (n : Int) = n := by rw [IntKind.wrap_i64]; omega
      have hneg : ¬ (n : Int) < 0 := by omega
      have hbig : ¬ (281474976710656 : Int) < (n : Int) * (ie.bytes : Int) := by omega
      have hz0 : 0 < z.cells.size := by omega
      have hzero' : (Builtin.zeroCells z.cells n).toList = madeRow (cellsL z) (n * ie.size) := by rw [zeroCells_eq n hz0, hzc]
      have hzero2 : Builtin.zeroCells z.cells n = (madeRow (cellsL z) (n * ie.size)).toArray := by rw [← hzero']
      obtain ⟨m', v', w', hr, hle, S', hv⟩ := append_gen (P := P) (t := t) (t' := t') (e := e) (y' := a.eval y) hzc S h1 (VRL.closed m (madeRow_all hcl (by omega) (n * ie.size))) (madeRow_length _) (madeRow_all hon (by omega) _) o.type
        (fun hk ad n1 c hle => by
          subst hk
          rw [e2]
          cases ad <;> simp [Builtin.append_, run_underlying ht, run_underlying ht', run_sizeOf hie, run_typeInfo hie, asInt, asIntOf, hle, storeCells, show IntKind.i64.wrap 0 = 0 from rfl])
        (fun hk a1 n1 c w1 hr hst => by
          rw [e2]
          have hm : ¬ (n = 0 ∨ ie.size = 0) := by omega
          have hm2 : ¬ n * ie.size = 0 := Nat.ne_of_gt (Nat.mul_pos (by omega) hsz)
          simp [Builtin.append_, run_underlying ht, run_underlying ht', run_sizeOf hie, run_typeInfo hie, asInt, asIntOf, hw, hneg, hbig, hm, hm2, hr, run_zeroValue hie hz, hzero2, hst])
        (fun hk base n1 c xs' hfx hr hfit => by
          rw [e2]
          have hm : ¬ (n = 0 ∨ ie.size = 0) := by omega
          have hm2 : ¬ n * ie.size = 0 := Nat.ne_of_gt (Nat.mul_pos (by omega) hsz)
          have hfo : (Question.appendCap (n1 + n) c e).forced = false := rfl
          have h1 := nextcap_le (n1 + n) c (by omega)
          have h2 : ¬ Builtin.nextslicecap (n1 + n) c * ie.bytes > 281474976710656 := by
            have := Nat.mul_le_mul_right ie.bytes h1
            rw [Nat.mul_assoc] at this
            omega
          have hb1 : n1 + n ≤ (n1 + n) * ie.bytes := Nat.le_mul_of_pos_right _ hb0
          have h3 : ¬ (9223372036854775807 : Int) < (n1 : Int) + (n : Int) := by omega
          refine ⟨(Question.appendCap (n1 + n) c e).cut (w.tape w.drawn (Question.appendCap (n1 + n) c e)), by simp only [Question.cut]; omega, ?_, ?_⟩
          · simp only [Question.cut]
            have hlt := Nat.mod_lt (w.tape w.drawn (Question.appendCap (n1 + n) c e)) (show 0 < 2 ^ 63 - (n1 + n) by omega)
            omega
          have hfx' := hfx w.drew rfl
          simp [hfo, Builtin.append_, run_underlying ht, run_underlying ht', run_sizeOf hie, run_typeInfo hie, asInt, asIntOf, hw, hneg, hbig, hm, hm2, hr, h2, h3, hfx', run_zeroValue hie hz, hzero2, newRow, IntKind.max, IntKind.bits, IntKind.signed]) hp
      exact ⟨m', .value v', v', w', by simp [execOp, hop, resolve, invoke, builtin, hr], rfl, hle, S', hv⟩
    · cases hp
  · cases hp

theorem ok_asrt {xt t : TypeId} {d : TypeDesc} {ie : TypeInfo} {z : Value} {ok : Bool} {x : Operand} {rx : Ref} (hop : o.op = .typeAssert x xt t ok) (ht : P.underlying t = some d) (hn : ∀ ms, d ≠ .interface ms) (hie : P.info? t = some ie) (hz : ie.zero = some z) (hzc : closedD z = true)
    (hx : compRef N x = some rx) : ReadOK P N o (.asrt t ok z rx) := by
  intro B w0 m h w s a v h' S hs hp
  have h1 := compRef_ok hx hs
  simp only [pstep] at hp
  split at hp
  · rename_i e
    rw [e] at h1
    have e1 : a.eval x = .nilIface := h1.closed_inv rfl
    split at hp
    · rename_i hok
      injection hp with hp
      simp only [Prod.mk.injEq] at hp
      obtain ⟨rfl, rfl⟩ := hp
      refine plain_ok S (v' := .tuple #[z, .bool false]) (fun w1 hw1 => ?_) (.tup2 (closedD_VR m hzc) (.bool _))
      cases d <;> first
        | exact absurd rfl (hn _)
        | simp [execOp, hop, Instr.typeAssert, run_underlying ht, e1, hok, run_zeroValue hie hz]
    · cases hp
  · rename_i u y e
    rw [e] at h1
    obtain ⟨y', e1, hy⟩ : ∃ y', a.eval x = .iface u y' ∧ VR m y y' := by
      generalize a.eval x = q at h1
      cases h1 with
      | iface _ hv => exact ⟨_, rfl, hv⟩
    split at hp
    · rename_i hut
      subst hut
      injection hp with hp
      simp only [Prod.mk.injEq] at hp
      obtain ⟨rfl, rfl⟩ := hp
      refine plain_ok S (v' := if ok then .tuple #[y', .bool true] else y') (fun w1 hw1 => ?_) ?_
      · cases d <;> first
          | exact absurd rfl (hn _)
          | simp [execOp, hop, Instr.typeAssert, run_underlying ht, e1]
      · cases ok
        · exact hy
        · exact .tup2 hy (.bool _)
    · rename_i hut
      split at hp
      · rename_i hok
        injection hp with hp
        simp only [Prod.mk.injEq] at hp
        obtain ⟨rfl, rfl⟩ := hp
        refine plain_ok S (v' := .tuple #[z, .bool false]) (fun w1 hw1 => ?_) (.tup2 (closedD_VR m hzc) (.bool _))
        cases d <;> first
          | exact absurd rfl (hn _)
          | simp [execOp, hop, Instr.typeAssert, run_underlying ht, e1, hok, hut, run_zeroValue hie hz]
      · cases hp
  · cases hp

theorem storeCells_nil (ad : Addr) (w : World) : (storeCells ad []).run P w = .ok () w := rfl

theorem ok_copyV {ts : Array TypeId} {t t' e : TypeId} {ie : TypeInfo} {x y : Operand} {rx ry : Ref} (hop : o.op = .call { callee := .builtin .copy, args := #[x, y], argTypes := ts }) (hts : ts = #[t, t']) (ht : P.underlying t = some (.slice e)) (hie : P.info? e = some ie)
    (hx : compRef N x = some rx) (hy : compRef N y = some ry) : StepOK P N o (.copyV ie.size rx ry) := by
  intro B w0 m h w s a v h' S hs hp
  have h1 := compRef_ok hx hs
  have h2 := compRef_ok hy hs
  subst hts
  simp only [pstep] at hp
  have zero : ∀ (base : Option Addr) (dl dc : Nat) (base2 : Option Addr) (sl sc : Nat), a.eval x = .slice base dl dc → a.eval y = .slice base2 sl sc → min sl dl = 0 → (v, h') = (.int .i64 0, h) →
      ∃ m' nx v' w', (execOp a.eval o).run P w = .ok nx w' ∧ nxv nx = some v' ∧ m.le m' ∧ Sim B w0 m' h' w' ∧ VR m' v v' := by
    intro base dl dc base2 sl sc e1 e2 hz hq
    simp only [Prod.mk.injEq] at hq
    obtain ⟨rfl, rfl⟩ := hq
    refine ⟨m, .value (.int .i64 0), _, w, ?_, rfl, m.le_refl, S, .int _ _⟩
    have hfc : (Builtin.firstCells ie.size 0 (.slice base2 sl sc)).run P w = .ok #[] w := by
      cases base2 <;> simp [Builtin.firstCells, loadCells, loadCellsFrom]
    have hz' : Nat.min sl dl = 0 := hz
    cases base <;> simp [execOp, hop, resolve, invoke, builtin, Builtin.copy_, run_underlying ht, e1, e2, Builtin.lenOf, hz', run_sizeOf hie, hfc, goInt, storeCells_nil]
  split at hp
  · rename_i n c ad n' c' e1 e2
    rw [e1] at h1
    rw [e2] at h2
    injection hp with hp
    obtain ⟨rfl, rfl, q1⟩ := slice_nil_inv h1
    obtain ⟨ad', c2, q2⟩ : ∃ ad' c2, a.eval y = .slice ad' n' c2 := by
      generalize a.eval y = q at h2
      cases h2 <;> exact ⟨_, _, rfl⟩
    exact zero _ _ _ _ _ _ q1 q2 (by omega) hp.symm
  · rename_i i off n c ad n' c' e1 e2
    rw [e1] at h1
    rw [e2] at h2
    obtain ⟨ad', c2, q2⟩ : ∃ ad' c2, a.eval y = .slice ad' n' c2 := by
      generalize a.eval y = q at h2
      cases h2 <;> exact ⟨_, _, rfl⟩
    split at hp
    · rename_i hz
      injection hp with hp
      rcases slice_inv h1 with ⟨c3, hi, hnc, hcc, hlim, q1⟩ | ⟨ad3, hi, rfl, rfl, q1⟩
      · exact zero _ _ _ _ _ _ q1 q2 hz hp.symm
      · exact zero _ _ _ _ _ _ q1 q2 hz hp.symm
    · rename_i hz
      split at hp
      · rename_i ys hsrc
        split at hp
        · rename_i cs e' hg
          split at hp
          · rename_i hc
            obtain ⟨rfl, hfit⟩ := hc
            injection hp with hp
            simp only [Prod.mk.injEq] at hp
            obtain ⟨rfl, rfl⟩ := hp
            rcases slice_inv h1 with ⟨c3, hi, hnc, hcc, hlim, q1⟩ | ⟨ad3, hi, rfl, rfl, q1⟩
            · -- the source's cells
              obtain ⟨i2, o2, sp, rfl⟩ : ∃ i2 o2 sp, ad = some ⟨i2, o2, sp⟩ := by
                cases ad with
                | none =>
                  obtain ⟨rfl, _, _⟩ := slice_nil_inv h2
                  exact absurd (by omega) hz
                | some ad =>
                  obtain ⟨i2, o2, sp⟩ := ad
                  exact ⟨i2, o2, sp, rfl⟩
              simp only [srcCells] at hsrc
              unfold rowOf at hsrc
              split at hsrc
              · rename_i cs2 ow2 ez2 hg2
                split at hsrc
                · rename_i hle
                  injection hsrc with hsrc
                  rcases slice_invT h2 with ⟨c4, hi2, hnc2, hcc2, q3⟩ | ⟨ad4, hi2, rfl, rfl, q3⟩
                  · obtain ⟨ys0, hl0, hc0, hv0⟩ := row_of S hi2 hg2 hle
                    rw [hsrc] at hv0
                    have hyl : ys.length = min n' n * ie.size := by rw [← hsrc]; simp; omega
                    have hone : ys.all Value.oneCell' = true := by
                      rw [← hsrc]
                      exact List.all_eq_true.2 fun x hx => List.all_eq_true.1 (cellC_of S hi2 hg2) x (List.mem_of_mem_drop (List.mem_of_mem_take hx))
                    have hfc : (Builtin.firstCells ie.size (min n' n) (.slice (some ⟨(m.at_ i2).blk, (m.at_ i2).base + o2, none⟩) n' c4)).run P w = .ok ys0.toArray w := by
                      simp only [Builtin.firstCells]
                      exact run_loadCells' hl0 hc0
                    obtain ⟨w', hst, S'⟩ := store_own (P := P) S hi hg hv0 hfit hone
                    refine ⟨m, .value (.int .i64 (min n' n : Nat)), _, w', ?_, rfl, m.le_refl, S', .int _ _⟩
                    have hmin : Nat.min n' n = min n' n := rfl
                    simp [execOp, hop, resolve, invoke, builtin, Builtin.copy_, run_underlying ht, q1, q3, Builtin.lenOf, hmin, run_sizeOf hie, hfc, hst, goInt]
                  · exact absurd (by omega) hz
                · cases hsrc
              · cases hsrc
            · exact absurd (by omega) hz
          · cases hp
        · cases hp
      · cases hp
  · cases hp
end Go.Proofs.Ytdnkpgbggpbgaaa.Pm
