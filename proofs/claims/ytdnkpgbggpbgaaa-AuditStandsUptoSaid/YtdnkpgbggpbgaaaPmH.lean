/- The pure machine, part H: append, strings and bytes, built values: at the operation. -/
import Derived.Test.YtdnkpgbggpbgaaaPmG
set_option linter.unusedVariables false
set_option linter.unusedSimpArgs false
namespace Go.Proofs.Ytdnkpgbggpbgaaa.Pm
open Go.RowKit
variable {P : Program} {N : Nat} {o : Oper}

theorem run_firstCells_row {B : Nat} {w0 : World} {m : Mp} {h : VH} {w : World} (S : Sim B w0 m h w) {i off n c e : Nat} {sp : Option Nat} {y' : Value} (hy : VR m (.slice (some ⟨i, off, sp⟩) n c) y') {ys : List Value} (hr : rowOf h i off (n * e) = some ys) :
    ∃ ys', VRL m ys ys' ∧ (Builtin.lenOf y').run P w = .ok n w ∧ ∀ w1 : World, Same w w1 → (Builtin.firstCells e n y').run P w1 = .ok ys'.toArray w1 := by
  unfold rowOf at hr
  split at hr
  · rename_i cs own ez hg
    split at hr
    · rename_i hle
      injection hr with hr
      subst hr
      rcases slice_invT hy with ⟨c', hi, hnc, hcc, rfl⟩ | ⟨ad, hi, rfl, rfl, rfl⟩
      · obtain ⟨ys0, hl0, hc0, hv0⟩ := row_of S hi hg hle
        refine ⟨ys0, hv0, by simp [Builtin.lenOf], fun w1 hw1 => ?_⟩
        simp only [Builtin.firstCells]
        exact run_loadCells' hl0 (fun j y hj => hw1.cell (hc0 j y hj))
      · refine ⟨[], by simp [VRL], by simp [Builtin.lenOf], fun w1 hw1 => by simp [Builtin.firstCells, loadCells, loadCellsFrom]⟩
    · cases hr
  · cases hr

theorem ok_append {ts : Array TypeId} {t t' e : TypeId} {ie : TypeInfo} {z : Value} {x y : Operand} {rx ry : Ref} {e' : TypeId} (hop : o.op = .call { callee := .builtin .append, args := #[x, y], argTypes := ts }) (hts : ts = #[t, t']) (ht : P.underlying t = some (.slice e))
    (ht' : P.underlying t' = some (.slice e')) (hie : P.info? e = some ie) (hz : ie.zero = some z) (hzc : z.cells.size = ie.size) (hb0 : 0 < ie.bytes) (hx : compRef N x = some rx) (hy : compRef N y = some ry) : StepOK P N o (.append ie.size ie.bytes (cellsL z) rx ry) := by
  intro B w0 m h w s a v h' S hs hp
  simp only [pstep] at hp
  have h1 := compRef_ok hx hs
  have h2 := compRef_ok hy hs
  subst hts
  split at hp
  · rename_i ad n c e1
    rw [e1] at h2
    simp only [Option.bind_eq_some_iff] at hp
    obtain ⟨ys, hsrc, hp⟩ := hp
    have key : ∀ ys' : List Value, VRL m ys ys' → ys.length = n * ie.size → ys.all Value.oneCell' = true → (Builtin.lenOf (a.eval y)).run P w = .ok n w → (∀ w1 : World, w1.heap = w.heap → (Builtin.firstCells ie.size n (a.eval y)).run P w1 = .ok ys'.toArray w1) →
        ∃ m' nx v' w', (execOp a.eval o).run P w = .ok nx w' ∧ nxv nx = some v' ∧ m.le m' ∧ Sim B w0 m' h' w' ∧ VR m' v v' := by
      intro ys' q1 q2 q3 q4 q5
      obtain ⟨m', v', w', hr, hle, S', hv⟩ := append_ok ht hie hz hzc hb0 ht' (.inr ⟨e', rfl⟩) S h1 q1 q2 q3 q4 q5 hp o.type
      exact ⟨m', .value v', v', w', by simp [execOp, hop, resolve, invoke, builtin, hr], rfl, hle, S', hv⟩
    cases ad with
    | none =>
      obtain ⟨rfl, rfl, e2⟩ := slice_nil_inv h2
      simp only [srcCells] at hsrc
      injection hsrc with hsrc
      subst hsrc
      exact key [] (by simp [VRL]) (by simp) (by simp) (by simp [e2, Builtin.lenOf]) (fun w1 _ => by simp [e2, Builtin.firstCells])
    | some ad =>
      obtain ⟨i, off, sp⟩ := ad
      simp only [srcCells] at hsrc
      obtain ⟨ys', q1, q2, q3⟩ := run_firstCells_row (P := P) S h2 hsrc
      have hrow := hsrc
      unfold rowOf at hrow
      split at hrow
      · rename_i cs own ez hg
        split at hrow
        · rename_i hle
          injection hrow with hrow
          refine key ys' q1 (by rw [← hrow]; simp; omega) ?_ q2 (fun w1 hw1 => q3 w1 (fun b _ => by rw [hw1]))
          have hi : i < m.n := by rcases slice_invT h2 with ⟨_, hi, _⟩ | ⟨_, hi, _⟩ <;> exact hi
          rw [← hrow]
          exact List.all_eq_true.2 fun x hx => List.all_eq_true.1 (cellC_of S hi hg) x (List.mem_of_mem_drop (List.mem_of_mem_take hx))
        · cases hrow
      · cases hrow
  · cases hp


theorem bytesV_len (b : ByteArray) : (bytesV b).length = b.size := by simp [bytesV]
theorem bytesV_closed (b : ByteArray) : (bytesV b).all closedV = true := by
  refine List.all_eq_true.2 fun x hx => ?_
  obtain ⟨c, _, rfl⟩ := List.mem_map.1 hx
  rfl
theorem bytesV_one (b : ByteArray) : (bytesV b).all Value.oneCell' = true := by
  refine List.all_eq_true.2 fun x hx => ?_
  obtain ⟨c, _, rfl⟩ := List.mem_map.1 hx
  rfl

theorem ok_appendStr {ts : Array TypeId} {t t' e : TypeId} {ie : TypeInfo} {z : Value} {x y : Operand} {rx ry : Ref} (hop : o.op = .call { callee := .builtin .append, args := #[x, y], argTypes := ts }) (hts : ts = #[t, t']) (ht : P.underlying t = some (.slice e))
    (ht' : P.underlying t' = some .string) (hie : P.info? e = some ie) (hz : ie.zero = some z) (hzc : z.cells.size = ie.size) (hs1 : ie.size = 1) (hb1 : ie.bytes = 1) (hx : compRef N x = some rx) (hy : compRef N y = some ry) : StepOK P N o (.appendStr rx ry) := by
  intro B w0 m h w s a v h' S hs hp
  simp only [pstep] at hp
  have h1 := compRef_ok hx hs
  have h2 := compRef_ok hy hs
  subst hts
  split at hp
  · rename_i b e1
    rw [e1] at h2
    have e2 := h2.string_inv
    rw [← hs1, show ie.size = ie.bytes by omega] at hp
    obtain ⟨m', v', w', hr, hle, S', hv⟩ := append_ok (y' := a.eval y) (k := b.size) (ys := bytesV b) (ys' := bytesV b) ht hie hz hzc (by omega) ht' (.inl rfl) S h1 (VRL.closed m (bytesV_closed b)) (by rw [bytesV_len, hs1, Nat.mul_one]) (bytesV_one b)
      (by simp [e2, Builtin.lenOf]) (fun w1 _ => by
        have hb : b.extract 0 b.size = b := by simp
        simp only [e2, Builtin.firstCells, Sem.run_pure, hb]
        congr 1
        apply Array.ext'
        simp [bytesV]) (by rw [show ie.size = ie.bytes by omega]; exact hp) o.type
    exact ⟨m', .value v', v', w', by simp [execOp, hop, resolve, invoke, builtin, hr], rfl, hle, S', hv⟩
  · cases hp


theorem run_markStringish {w : World} {blk : Nat} {c : Array Value} {e : TypeId} {fr : Nat × Nat} (hb : w.heap[blk]? = some (.cells c e fr)) (off : Nat) :
    (markStringish ⟨blk, off, none⟩).run P w = .ok () (w.freeze ⟨blk, c.size, none⟩ 1) := by
  simp [markStringish, World.shape?, hb]

theorem ok_toBytes {src dst e : TypeId} {x : Operand} {rx : Ref} (hop : o.op = .convert src dst x) (hs' : P.underlying src = some .string) (hd : P.underlying dst = some (.slice e)) (he : P.underlying e = some (.int .u8)) (hx : compRef N x = some rx) : StepOK P N o (.toBytes rx) := by
  intro B w0 m h w s a v h' S hs hp
  simp only [pstep] at hp
  have h1 := compRef_ok hx hs
  split at hp
  · rename_i b e1
    rw [e1] at h1
    have e2 := h1.string_inv
    split at hp
    · rename_i hsz
      injection hp with hp
      simp only [Prod.mk.injEq] at hp
      obtain ⟨rfl, rfl⟩ := hp
      have hfo : (Question.appendCap b.size 0 e).forced = false := rfl
      obtain ⟨cap, hcap⟩ : ∃ cap, cap = (Question.appendCap b.size 0 e).cut (w.tape w.drawn (Question.appendCap b.size 0 e)) := ⟨_, rfl⟩
      have hge : b.size ≤ cap := by rw [hcap]; simp only [Question.cut]; omega
      have hge4 : cap ≤ 9223372036854775807 := by
        rw [hcap]
        have hlt := Nat.mod_lt (w.tape w.drawn (Question.appendCap b.size 0 e)) (show 0 < 2 ^ 63 - b.size by omega)
        simp only [Question.cut]
        omega
      have hrow : (Array.map (fun (c : UInt8) => Value.int .u8 c.toNat) b.data ++ Array.replicate (cap - b.size) (.int .u8 0)) = (bytesV b ++ List.replicate (cap - b.size) (Value.int .u8 0)).toArray := by
        apply Array.ext'; simp [bytesV]
      have hsize : (bytesV b ++ List.replicate (cap - b.size) (Value.int .u8 0)).length = cap := by simp [bytesV_len]; omega
      have S1 := push_row S.drew (VRL.closed m (bytesV_closed b)) (bytesV_one b) (List.replicate (cap - b.size) (Value.int .u8 0)) e 1 cap (by rw [bytesV_len]; exact hge) (by rw [bytesV_len]; simp; omega) (cap, cap + 1) (.inr ⟨Nat.le_refl _, by decide⟩)
      have hfz : (w.drew.alloc (.cells (bytesV b ++ List.replicate (cap - b.size) (Value.int .u8 0)).toArray e)).freeze ⟨w.heap.size, cap, none⟩ 1 = w.drew.alloc (.cells (bytesV b ++ List.replicate (cap - b.size) (Value.int .u8 0)).toArray e (cap, cap + 1)) := by
        simp only [World.freeze, World.alloc]
        rw [if_neg (by omega)]
        congr 1
        apply Array.ext_getElem?
        intro j
        simp only [Array.getElem?_modify, Array.getElem?_push, World.size_drew]
        by_cases hj : j = w.heap.size
        · subst hj; simp
        · rw [if_neg (fun e => hj e.symm)]
          exact (if_neg hj).trans (if_neg hj).symm
      refine ⟨m.push ⟨w.drew.heap.size, 0, cap, 1⟩, .value (.slice (some ⟨w.heap.size, 0, none⟩) b.size cap), _, _, ?_, rfl, m.push_le _, S1, ?_⟩
      · have hnew : (w.drew.alloc (.cells (bytesV b ++ List.replicate (cap - b.size) (Value.int .u8 0)).toArray e)).heap[w.heap.size]? = some (.cells (bytesV b ++ List.replicate (cap - b.size) (Value.int .u8 0)).toArray e (0, 0)) := heap_alloc_new' w.drew _
        have hms := run_markStringish (P := P) hnew 0
        have hA : (bytesV b ++ List.replicate (cap - b.size) (Value.int .u8 0)).toArray.size = cap := by simpa using hsize
        rw [hA, hfz] at hms
        simp [execOp, hop, e2, convert, run_underlying hs', run_underlying hd, run_underlying he, Conv.stringToBytes, hfo, ← hcap, newRow, hrow, hms]
      · have := VR.sl (m := m.push ⟨w.drew.heap.size, 0, cap, 1⟩) (i := m.n) (o := 0) (n := b.size) (c := b.size) (c' := cap) (by simp) (Nat.le_refl _) hge (by rw [Mp.at_push_new]; simp) hge4
        rw [Mp.at_push_new] at this
        rw [← S.n]
        exact this
    · cases hp
  · cases hp


theorem mapM_byteOf : ∀ {cs : List Value} {xs : List Int}, cs.mapM byteOf = some xs → cs = xs.map (Value.int .u8)
  | [], xs, h => by simp at h; subst h; rfl
  | c :: cs, xs, h => by
    simp only [List.mapM_cons, Option.bind_eq_bind, Option.bind_eq_some_iff, Option.pure_def, Option.some.injEq] at h
    obtain ⟨y, hy, zs, hz, rfl⟩ := h
    rw [mapM_byteOf hz, List.map_cons]
    congr 1
    unfold byteOf at hy
    split at hy
    · injection hy with hy; subst hy; rfl
    · cases hy

theorem VRL.closed_inv {m : Mp} {xs ys : List Value} (hc : xs.all closedV = true) (h : VRL m xs ys) : ys = xs := by
  apply List.ext_getElem?
  intro j
  by_cases hj : j < xs.length
  · have hj' : j < ys.length := by rw [← h.1]; exact hj
    have := h.2 j _ _ (List.getElem?_eq_getElem hj) (List.getElem?_eq_getElem hj')
    rw [List.getElem?_eq_getElem hj, List.getElem?_eq_getElem hj', this.closed_inv (List.all_eq_true.1 hc _ (List.getElem_mem hj))]
  · rw [List.getElem?_eq_none (by rw [← h.1]; omega), List.getElem?_eq_none (by omega)]

theorem ok_ofBytes {src dst e : TypeId} {x : Operand} {rx : Ref} (hop : o.op = .convert src dst x) (hs' : P.underlying src = some (.slice e)) (hd : P.underlying dst = some .string) (he : P.underlying e = some (.int .u8)) (hx : compRef N x = some rx) : ReadOK P N o (.ofBytes rx) := by
  intro B w0 m h w s a v h' S hs hp
  simp only [pstep] at hp
  have h1 := compRef_ok hx hs
  split at hp
  · rename_i n c e1
    rw [e1] at h1
    obtain ⟨rfl, rfl, e2⟩ := slice_nil_inv h1
    injection hp with hp
    simp only [Prod.mk.injEq] at hp
    obtain ⟨rfl, rfl⟩ := hp
    exact plain_ok S (fun w1 hw1 => by simp [execOp, hop, e2, run_convert_bytes_nil w1 src e hs' he 0 0 dst hd]) (VR.string _)
  · rename_i i off n c e1
    rw [e1] at h1
    simp only [Option.bind_eq_some_iff, Option.map_eq_some_iff, Prod.mk.injEq] at hp
    obtain ⟨cs, hcs, xs, hxs, rfl, rfl⟩ := hp
    have hmap := mapM_byteOf hxs
    obtain ⟨ys', hv, _, hfc⟩ := run_firstCells_row (P := P) (e := 1) S h1 (by rw [Nat.mul_one]; exact hcs)
    have hcl : cs.all closedV = true := by
      rw [hmap]
      exact List.all_eq_true.2 fun x hx => by obtain ⟨_, _, rfl⟩ := List.mem_map.1 hx; rfl
    have hys := hv.closed_inv hcl
    have hf := fun w1 hw1 => hfc w1 hw1
    rw [hys] at hf
    rcases slice_inv h1 with ⟨c', hi, hnc, hcc, hlim, e2⟩ | ⟨ad, hi, rfl, rfl, e2⟩
    · rw [e2] at hf
      simp only [Builtin.firstCells, Nat.mul_one] at hf
      rw [hmap] at hf
      refine plain_ok S ?_ (VR.string (strOfNums xs))
      intro w1 hw1
      have hc : (convert src dst (a.eval x)).run P w1 = .ok (.string (strOfNums xs)) w1 := by
        rw [e2, run_convert_bytes_string w1 src dst e _ n c' hs' he hd, run_bytesToString w1 _ n c' xs (hf w1 hw1), foldl_push_bytes]
        simp [strOfNums, ByteArray.empty, ByteArray.emptyWithCapacity]
        rfl
      simp [execOp, hop, hc]
    · have hx0 : xs = [] := by
        have h3 := hcs
        unfold rowOf at h3
        split at h3
        · split at h3
          · injection h3 with h3
            have : cs = [] := by rw [← h3]; simp
            rw [this] at hmap
            cases xs <;> simp at hmap
            rfl
          · cases h3
        · cases h3
      subst hx0
      refine plain_ok S ?_ (VR.string (strOfNums []))
      intro w1 hw1
      have hc : (convert src dst (a.eval x)).run P w1 = .ok (.string (strOfNums [])) w1 := by
        rw [e2, run_convert_bytes_string w1 src dst e _ 0 0 hs' he hd, run_bytesToString w1 _ 0 0 [] (by simp [loadCells, loadCellsFrom]), foldl_push_bytes]
        simp [strOfNums, ByteArray.empty, ByteArray.emptyWithCapacity]
        rfl
      simp [execOp, hop, hc]
  · cases hp


theorem foldl_set : ∀ (xs : List Value) (k : Nat) (cs : Array Value) (off : Nat), off + k + xs.length ≤ cs.size →
    ((xs.zipIdx k).foldl (fun cs (x : Value × Nat) => cs.setIfInBounds (off + x.2) x.1) cs).toList = wr cs.toList (off + k) xs
  | [], k, cs, off, _ => by simp [wr]
  | x :: xs, k, cs, off, h => by
    simp only [List.length_cons] at h
    simp only [List.zipIdx_cons, List.foldl_cons]
    rw [foldl_set xs (k + 1) _ off (by simp; omega)]
    apply List.ext_getElem?
    intro j
    rw [wr_get (by simp; omega), wr_get (by simp; omega)]
    simp only [Array.getElem?_toList, Array.getElem?_setIfInBounds, List.length_cons]
    by_cases h1 : j = off + k
    · subst h1
      rw [if_neg (by omega), if_pos rfl, if_pos (by omega), if_pos (by omega)]
      simp
    · by_cases h2 : off + (k + 1) ≤ j ∧ j < off + (k + 1) + xs.length
      · rw [if_pos h2, if_pos (by omega), show j - (off + k) = (j - (off + (k + 1))) + 1 by omega]
        simp
      · rw [if_neg h2, if_neg (fun e => h1 e.symm), if_neg (by omega)]

theorem VRL.wr {m : Mp} {cs cs' xs xs' : List Value} (h : VRL m cs cs') (k : VRL m xs xs') {off : Nat} (hf : off + xs.length ≤ cs.length) : VRL m (Pm.wr cs off xs) (Pm.wr cs' off xs') := by
  have hf' : off + xs'.length ≤ cs'.length := by rw [← k.1, ← h.1]; exact hf
  refine ⟨by rw [wr_length hf, wr_length hf', h.1], fun j x y hx hy => ?_⟩
  rw [wr_get hf] at hx
  rw [wr_get hf'] at hy
  rw [← k.1] at hy
  split at hx
  · rename_i hj
    rw [if_pos hj] at hy
    exact k.2 _ _ _ hx hy
  · rename_i hj
    rw [if_neg hj] at hy
    exact h.2 _ _ _ hx hy

/-! ### a struct, an array written out -/
theorem fill_ok {m : Mp} {place : Nat → Option (Nat × Nat)} : ∀ (parts : List (Nat × Value)) (qs : List (Nat × Nat × Value)) (cells : List Value) (cells' : Array Value) (out : List Value),
    parts.length = qs.length → (∀ (j : Nat) (p : Nat × Value) (q : Nat × Nat × Value), parts[j]? = some p → qs[j]? = some q → place p.1 = some (q.1, q.2.1) ∧ VR m q.2.2 p.2) → VRL m cells cells'.toList → fillC cells qs = some out →
    ∃ out', Instr.fill place cells' parts = some out' ∧ VRL m out out'.toList
  | [], [], cells, cells', out, _, _, hv, h => by
    simp only [fillC] at h
    injection h with h
    subst h
    exact ⟨cells', rfl, hv⟩
  | p :: ps, q :: qs, cells, cells', out, hl, hp, hv, h => by
    obtain ⟨off, n, v⟩ := q
    obtain ⟨k, v'⟩ := p
    obtain ⟨hpl, hvr⟩ := hp 0 _ _ rfl rfl
    simp only at hpl hvr
    simp only [fillC] at h
    split at h
    · rename_i hc
      obtain ⟨hc1, hc2⟩ := hc
      have hcv := hvr.cells
      have hs1 : v'.cells.size = n := by
        have := hcv.1
        simp only [cellsL, Array.length_toList] at this hc1
        omega
      have hs2 : cells'.size = cells.length := by
        have := hv.1
        simp only [Array.length_toList] at this
        omega
      obtain ⟨out', ho, hvo⟩ := fill_ok ps qs (wr cells off (cellsL v)) (v'.cells.zipIdx.foldl (fun cs x => cs.setIfInBounds (off + x.2) x.1) cells') out (by simpa using hl)
        (fun j p q h1 h2 => hp (j + 1) p q (by simpa using h1) (by simpa using h2)) (by
          have hfold := foldl_set v'.cells.toList 0 cells' off (by simp [hs1]; omega)
          simp only [Nat.add_zero] at hfold
          have hz : v'.cells.zipIdx.foldl (fun cs (x : Value × Nat) => cs.setIfInBounds (off + x.2) x.1) cells' = (v'.cells.toList.zipIdx).foldl (fun cs (x : Value × Nat) => cs.setIfInBounds (off + x.2) x.1) cells' := by
            rw [← Array.foldl_toList]; simp
          rw [hz, hfold]
          exact hv.wr hcv (by omega)) h
      refine ⟨out', ?_, hvo⟩
      simp only [Instr.fill, hpl]
      rw [if_neg (by simp [hs1]; omega)]
      exact ho
    · cases h
  | [], q :: qs, _, _, _, hl, _, _, _ => by simp at hl
  | p :: ps, [], _, _, _, hl, _, _, _ => by simp at hl


/-- the parts of a struct's literal: where each lies, its cells. -/
def placesS (P : Program) (fs : Array Field) (j : Nat) : Option (Nat × Nat) := (fs[j]?).bind fun f => (P.info? f.type).map fun i => (f.offset, i.size)

theorem run_placesL : ∀ (fs : List Field), (∀ f ∈ fs, (P.info? f.type).isSome = true) → ∃ pl : List (Nat × Nat), (∀ w : World, (fs.mapM fun f => (Prod.mk f.offset <$> sizeOf f.type : Sem (Nat × Nat))).run P w = .ok pl w) ∧ ∀ (j : Nat), pl[j]? = (fs[j]?).bind fun (f : Field) => (P.info? f.type).map fun i => (f.offset, i.size)
  | [], _ => ⟨[], by simp, fun j => by simp⟩
  | f :: fs, h => by
    obtain ⟨pl, h1, h2⟩ := run_placesL fs (fun g hg => h g (List.mem_cons_of_mem _ hg))
    obtain ⟨i, hi⟩ := Option.isSome_iff_exists.1 (h f (List.mem_cons_self ..))
    refine ⟨(f.offset, i.size) :: pl, fun w => by simp [List.mapM_cons, run_sizeOf hi, h1], fun j => ?_⟩
    cases j with
    | zero => simp [hi]
    | succ j => simpa using h2 j

theorem run_places {fs : Array Field} (hall : ∀ f ∈ fs.toList, (P.info? f.type).isSome = true) :
    ∃ pl : Array (Nat × Nat), (∀ w : World, (fs.mapM fun f => (Prod.mk f.offset <$> sizeOf f.type : Sem (Nat × Nat))).run P w = .ok pl w) ∧ ∀ (j : Nat), pl[j]? = placesS P fs j := by
  obtain ⟨pl, h1, h2⟩ := run_placesL (P := P) fs.toList hall
  refine ⟨pl.toArray, fun w => by rw [Array.mapM_eq_mapM_toList]; simp [h1], fun j => ?_⟩
  have := h2 j
  simpa [placesS] using this

theorem ok_buildS {t : TypeId} {fs : Array Field} {it : TypeInfo} {z : Value} {parts : Array (Nat × Operand)} {qs : List (Nat × Nat × Ref)} (hop : o.op = .build t parts) (ht : P.underlying t = some (.struct fs)) (hit : P.info? t = some it) (hz : it.zero = some z) (hzc : (cellsL z).all closedV = true)
    (hall : ∀ f ∈ fs.toList, (P.info? f.type).isSome = true) (hl : parts.toList.length = qs.length)
    (hq : ∀ (j : Nat) (p : Nat × Operand) (q : Nat × Nat × Ref), parts.toList[j]? = some p → qs[j]? = some q → placesS P fs p.1 = some (q.1, q.2.1) ∧ compRef N p.2 = some q.2.2) : ReadOK P N o (.build (cellsL z) qs) := by
  intro B w0 m h w s a v h' S hs hp
  simp only [pstep, Option.map_eq_some_iff, Prod.mk.injEq] at hp
  obtain ⟨cs, hcs, rfl, rfl⟩ := hp
  obtain ⟨pl, hpl, hplj⟩ := run_places (P := P) hall
  obtain ⟨out', ho, hv⟩ := fill_ok (m := m) (place := (pl[·]?)) (parts.toList.map fun p => (p.1, a.eval p.2)) (qs.map fun (o, n, r) => (o, n, ev s r)) (cellsL z) z.cells cs (by simpa using hl)
    (fun j p q h1 h2 => by
      simp only [List.getElem?_map, Option.map_eq_some_iff] at h1 h2
      obtain ⟨p0, hp0, rfl⟩ := h1
      obtain ⟨q0, hq0, rfl⟩ := h2
      obtain ⟨e1, e2⟩ := hq j p0 q0 hp0 hq0
      exact ⟨by rw [hplj]; exact e1, compRef_ok e2 hs⟩) (VRL.closed m hzc) hcs
  refine plain_ok S (v' := .agg out') ?_ (by simpa using hv.agg)
  intro w1 hw1
  simp [execOp, hop, Instr.build, run_zeroValue hit hz, run_underlying ht, hpl, ho]


theorem ok_buildA {t e : TypeId} {len : Nat} {ie it : TypeInfo} {z : Value} {parts : Array (Nat × Operand)} {qs : List (Nat × Nat × Ref)} (hop : o.op = .build t parts) (ht : P.underlying t = some (.array len e)) (hie : P.info? e = some ie) (hit : P.info? t = some it) (hz : it.zero = some z) (hzc : (cellsL z).all closedV = true)
    (hl : parts.toList.length = qs.length)
    (hq : ∀ (j : Nat) (p : Nat × Operand) (q : Nat × Nat × Ref), parts.toList[j]? = some p → qs[j]? = some q → (p.1 * ie.size, ie.size) = (q.1, q.2.1) ∧ compRef N p.2 = some q.2.2) : ReadOK P N o (.build (cellsL z) qs) := by
  intro B w0 m h w s a v h' S hs hp
  simp only [pstep, Option.map_eq_some_iff, Prod.mk.injEq] at hp
  obtain ⟨cs, hcs, rfl, rfl⟩ := hp
  obtain ⟨out', ho, hv⟩ := fill_ok (m := m) (place := fun i => some (i * ie.size, ie.size)) (parts.toList.map fun p => (p.1, a.eval p.2)) (qs.map fun (o, n, r) => (o, n, ev s r)) (cellsL z) z.cells cs (by simpa using hl)
    (fun j p q h1 h2 => by
      simp only [List.getElem?_map, Option.map_eq_some_iff] at h1 h2
      obtain ⟨p0, hp0, rfl⟩ := h1
      obtain ⟨q0, hq0, rfl⟩ := h2
      obtain ⟨e1, e2⟩ := hq j p0 q0 hp0 hq0
      exact ⟨by rw [e1], compRef_ok e2 hs⟩) (VRL.closed m hzc) hcs
  refine plain_ok S (v' := .agg out') ?_ (by simpa using hv.agg)
  intro w1 hw1
  simp [execOp, hop, Instr.build, run_zeroValue hit hz, run_underlying ht, run_sizeOf hie, ho]

end Go.Proofs.Ytdnkpgbggpbgaaa.Pm
