/- The pure machine, part N: boxes, rows written out, the lesser and the greater of two, bytes of a constant. -/
import Derived.Test.YtdnkpgbggpbgaaaPmH
set_option linter.unusedVariables false
set_option linter.unusedSimpArgs false
namespace Go.Proofs.Ytdnkpgbggpbgaaa.Pm
open Go.RowKit
variable {P : Program} {N : Nat} {o : Oper}

theorem VRL.one' {m : Mp} {xs ys : List Value} (h : VRL m xs ys) (h1 : xs.all Value.oneCell' = true) : ys.all Value.oneCell' = true := by
  refine List.all_eq_true.2 fun y hy => ?_
  obtain ⟨j, hj, rfl⟩ := List.mem_iff_getElem.1 hy
  have hjx : j < xs.length := by rw [h.1]; exact hj
  rw [oneCell_VR (h.2 j _ _ (List.getElem?_eq_getElem hjx) (List.getElem?_eq_getElem hj))]
  exact List.all_eq_true.1 h1 _ (List.getElem_mem hjx)

theorem ok_box {t : TypeId} {x : Operand} {rx : Ref} (hop : o.op = .box t x) (hx : compRef N x = some rx) : StepOK P N o (.box rx) := by
  intro B w0 m h w s a v h' S hs hp
  simp only [pstep] at hp
  have h1 := compRef_ok hx hs
  split at hp
  · rename_i hone
    injection hp with hp
    simp only [Prod.mk.injEq] at hp
    obtain ⟨rfl, rfl⟩ := hp
    have S1 := push_row S h1.cells hone [] t 1 (cellsL (ev s rx)).length (Nat.le_refl _) (by rw [h1.cells.1]; simp) (0, 0) (.inl rfl)
    refine ⟨_, .value (.pointer (some ⟨w.heap.size, 0, none⟩)), .pointer (some ⟨w.heap.size, 0, none⟩), _, ?_, rfl, m.push_le _, S1, ?_⟩
    · simp [execOp, hop, Instr.box, newVar, newRow, cellsL]
    · have := VR.ptr (m := m.push ⟨w.heap.size, 0, (cellsL (ev s rx)).length, 1⟩) (i := m.n) (o := 0) (by simp)
      rw [Mp.at_push_new] at this
      rw [← S.n]
      exact this
  · cases hp

def zeroRow (z : Array Value) (n : Nat) : List Value := ((Array.range n).map (z[· % z.size]!)).toList

theorem ok_row {t e : TypeId} {ie : TypeInfo} {z : Value} {len : Nat} {parts : Array (Nat × Operand)} {qs : List (Nat × Nat × Ref)} (hop : o.op = .buildSlice t len parts) (ht : P.underlying t = some (.slice e)) (hie : P.info? e = some ie) (hz : ie.zero = some z) (hzc : (zeroRow z.cells (len * ie.size)).all closedV = true)
    (hpos : 0 < ie.size) (hlim : len * ie.size ≤ 16777216) (hl : parts.toList.length = qs.length)
    (hq : ∀ (j : Nat) (p : Nat × Operand) (q : Nat × Nat × Ref), parts.toList[j]? = some p → qs[j]? = some q → (p.1 * ie.size, ie.size) = (q.1, q.2.1) ∧ compRef N p.2 = some q.2.2) {ez : Nat} (hez : ez ≤ ie.size) : StepOK P N o (.row ez len (zeroRow z.cells (len * ie.size)) qs) := by
  intro B w0 m h w s a v h' S hs hp
  simp only [pstep] at hp
  split at hp
  · rename_i cs hcs
    split at hp
    · rename_i hone
      injection hp with hp
      simp only [Prod.mk.injEq] at hp
      obtain ⟨rfl, rfl⟩ := hp
      obtain ⟨out', ho, hv⟩ := fill_ok (m := m) (place := fun i => some (i * ie.size, ie.size)) (parts.toList.map fun p => (p.1, a.eval p.2)) (qs.map fun (o, n, r) => (o, n, ev s r)) (zeroRow z.cells (len * ie.size)) ((Array.range (len * ie.size)).map (z.cells[· % z.cells.size]!)) cs (by simpa using hl)
        (fun j p q h1 h2 => by
          simp only [List.getElem?_map, Option.map_eq_some_iff] at h1 h2
          obtain ⟨p0, hp0, rfl⟩ := h1
          obtain ⟨q0, hq0, rfl⟩ := h2
          obtain ⟨e1, e2⟩ := hq j p0 q0 hp0 hq0
          exact ⟨by rw [e1], compRef_ok e2 hs⟩) (VRL.closed m hzc) hcs
      have hlen : cs.length = len * ie.size := by
        have hfl : ∀ (qs : List (Nat × Nat × Value)) (c0 c1 : List Value), fillC c0 qs = some c1 → c1.length = c0.length := by
          intro qs
          induction qs with
          | nil => intro c0 c1 h; simp only [fillC] at h; injection h with h; subst h; rfl
          | cons q qs ih =>
            intro c0 c1 h
            obtain ⟨off, n, v⟩ := q
            simp only [fillC] at h
            split at h
            · rename_i hc
              rw [ih _ _ h, wr_length (by omega)]
            · cases h
        rw [hfl _ _ _ hcs]
        simp [zeroRow]
      have S1 := push_row S hv hone [] e ez (len * ie.size) (by omega) (by rw [← hv.1]; simp; omega) (0, 0) (.inl rfl)
      refine ⟨m.push ⟨w.heap.size, 0, len * ie.size, ez⟩, .value (.slice (some ⟨w.heap.size, 0, none⟩) len len), .slice (some ⟨w.heap.size, 0, none⟩) len len, _, ?_, rfl, m.push_le _, S1, ?_⟩
      · have hz0 : (if len * ie.size = 0 then pure #[] else (do pure (← zeroValue e).cells) : Sem (Array Value)).run P w = .ok (if len * ie.size = 0 then #[] else z.cells) w := by
          by_cases h0 : len * ie.size = 0 <;> simp [h0, run_zeroValue hie hz]
        have hrange : (Array.range (len * ie.size)).map ((if len * ie.size = 0 then #[] else z.cells)[· % (if len * ie.size = 0 then #[] else z.cells).size]!) = (Array.range (len * ie.size)).map (z.cells[· % z.cells.size]!) := by
          by_cases h0 : len * ie.size = 0
          · rw [h0]; simp
          · simp [h0]
        have hne : ¬ len * ie.size > 16777216 := by omega
        simp only [execOp, hop, Instr.buildSlice, Sem.run_bind, run_underlying ht, Result.andThen_ok, run_sizeOf hie]
        by_cases h0 : len * ie.size = 0
        · have hout : Instr.fill (fun i => some (i * ie.size, ie.size)) #[] (parts.toList.map fun p => (p.1, a.eval p.2)) = some out' := by
            have : (Array.range (len * ie.size)).map (z.cells[· % z.cells.size]!) = #[] := by rw [h0]; simp
            rw [this] at ho
            exact ho
          simp [h0, hout, newRow, Array.range_zero']
        · simp [h0, hne, run_zeroValue hie hz, ho, newRow]
      · have := VR.sl (m := m.push ⟨w.heap.size, 0, len * ie.size, ez⟩) (i := m.n) (o := 0) (n := len) (c := len) (c' := len) (by simp) (Nat.le_refl _) (Nat.le_refl _) (by rw [Mp.at_push_new]; simp only [Nat.zero_add]; exact Nat.mul_le_mul_left _ hez) (by have := Nat.le_mul_of_pos_right len hpos; omega)
        rw [Mp.at_push_new] at this
        rw [← S.n]
        exact this
    · cases hp
  · cases hp

theorem ok_min {ts : Array TypeId} {x y : Operand} {rx ry : Ref} (hop : o.op = .call { callee := .builtin .min, args := #[x, y], argTypes := ts }) (hx : compRef N x = some rx) (hy : compRef N y = some ry) : ReadOK P N o (.minmax false rx ry) := by
  intro B w0 m h w s a v h' S hs hp
  simp only [pstep] at hp
  have h1 := compRef_ok hx hs
  have h2 := compRef_ok hy hs
  split at hp
  · rename_i k p k' q e1 e2
    rw [e1] at h1
    rw [e2] at h2
    injection hp with hp
    simp only [Prod.mk.injEq] at hp
    obtain ⟨rfl, rfl⟩ := hp
    refine plain_ok S ?_ (VR.int _ _)
    intro w1 hw1
    simp [execOp, hop, resolve, invoke, builtin, Builtin.min_, h1.int_inv, h2.int_inv, Builtin.min2]
  · cases hp
theorem ok_max {ts : Array TypeId} {x y : Operand} {rx ry : Ref} (hop : o.op = .call { callee := .builtin .max, args := #[x, y], argTypes := ts }) (hx : compRef N x = some rx) (hy : compRef N y = some ry) : ReadOK P N o (.minmax true rx ry) := by
  intro B w0 m h w s a v h' S hs hp
  simp only [pstep] at hp
  have h1 := compRef_ok hx hs
  have h2 := compRef_ok hy hs
  split at hp
  · rename_i k p k' q e1 e2
    rw [e1] at h1
    rw [e2] at h2
    injection hp with hp
    simp only [Prod.mk.injEq] at hp
    obtain ⟨rfl, rfl⟩ := hp
    refine plain_ok S ?_ (VR.int _ _)
    intro w1 hw1
    simp [execOp, hop, resolve, invoke, builtin, Builtin.max_, h1.int_inv, h2.int_inv, Builtin.max2]
  · cases hp

theorem ok_sameB {t e : TypeId} {x : Operand} {rx : Ref} (hop : o.op = .convert t t x) (ht : P.underlying t = some (.slice e)) (he : P.underlying e = some (.int .u8)) (hx : compRef N x = some rx) : StepOK P N o (.sameB rx) := by
  intro B w0 m h w s a v h' S hs hp
  simp only [pstep] at hp
  have h1 := compRef_ok hx hs
  split at hp
  · rename_i i off n c e1
    rw [e1] at h1
    have hi : i < m.n := by rcases slice_inv h1 with ⟨_, hi, _⟩ | ⟨_, hi, _⟩ <;> exact hi
    split at hp
    · rename_i cs ez hg
      split at hp
      · rename_i hc
        injection hp with hp
        simp only [Prod.mk.injEq] at hp
        obtain ⟨rfl, rfl⟩ := hp
        rcases slice_inv4 h1 with ⟨c', hc4, hi, hnc, hcc, hlim, e2⟩ | ⟨ad, hi, rfl, rfl, e2⟩
        · have hob := S.obj i hi
          rw [hg] at hob
          obtain ⟨hez, hlen0, hblt, hcells, hown⟩ := hob
          obtain ⟨c0, e0, fr, hb, hsz, hfr⟩ := hown rfl
          obtain ⟨w', hw'⟩ : ∃ w', w' = w.freeze ⟨(m.at_ i).blk, c0.size, none⟩ 1 := ⟨_, rfl⟩
          have hb' : w'.heap[(m.at_ i).blk]? = some (.cells c0 e0 (if fr.1 == fr.2 then (c0.size, c0.size + 1) else (min fr.1 c0.size, max fr.2 (c0.size + 1)))) := by
            rw [hw']
            simp only [World.freeze]
            rw [if_neg (by omega)]
            simp only [Array.getElem?_modify, hb]
            simp
          have hgr : w.grownBy w' (some (m.at_ i).blk) := by
            rw [hw']
            refine ⟨rfl, rfl, rfl, by simp [World.freeze], fun k hk hne => ?_⟩
            have hne' : ¬ (m.at_ i).blk = k := fun e => hne (by rw [e])
            simp only [World.freeze]
            rw [if_neg (by omega)]
            simp only [Array.getElem?_modify]
            rw [if_neg hne']
          have hcell : ∀ ad : Addr, ad.block = (m.at_ i).blk → w'.cell? ad = w.cell? ad := fun ad e => by simp [World.cell?, e, hb, hb']
          have S1 := S.upd hi (by rw [hg]; rfl) (.cells cs true ez) hgr ⟨hez, hlen0, fun hl => Nat.lt_of_lt_of_le (hblt hl) hgr.size, fun j v hj => by rw [hcell _ rfl]; exact hcells j v hj, fun _ => ⟨c0, e0, _, hb', hsz, by
            by_cases hq : (fr.1 == fr.2) = true
            · rw [if_pos hq]; exact .inr ⟨hsz, hc.2⟩
            · rw [if_neg hq]
              rcases hfr with hfr | hfr
              · exact absurd (by simpa using hfr) hq
              · exact .inr ⟨by simp only; omega, hfr.2⟩⟩⟩
          have hset : h.set i (.cells cs true ez) = h := by
            cases h with
            | mk n get =>
              simp only [VH.set, VH.mk.injEq, true_and]
              funext j
              split
              · rename_i hj; subst hj; exact hg.symm
              · rfl
          rw [hset] at S1
          refine ⟨m, .value (.slice (some ⟨(m.at_ i).blk, (m.at_ i).base + off, none⟩) n c'), _, w', ?_, rfl, m.le_refl, S1, VR.sl hi hnc hcc hlim hc4⟩
          have hms := run_markStringish (P := P) hb ((m.at_ i).base + off)
          rw [← hw'] at hms
          simp [execOp, hop, e2, convert, run_underlying ht, run_underlying he, hms]
        · omega
      · cases hp
    · cases hp
  · cases hp

end Go.Proofs.Ytdnkpgbggpbgaaa.Pm
