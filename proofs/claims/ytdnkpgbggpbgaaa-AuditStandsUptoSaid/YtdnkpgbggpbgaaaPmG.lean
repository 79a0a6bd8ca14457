/- The pure machine, part G: append, bytes and strings, built values. -/
import Derived.Test.YtdnkpgbggpbgaaaPmF
set_option linter.unusedVariables false
set_option linter.unusedSimpArgs false
namespace Go.Proofs.Ytdnkpgbggpbgaaa.Pm
open Go.RowKit
variable {P : Program} {N : Nat} {o : Oper}

theorem nextcap_le (need old : Nat) (h : old < need) : Builtin.nextslicecap need old ≤ 2 * need := by
  unfold Builtin.nextslicecap
  split
  · omega
  · split
    · omega
    · have g : ∀ (k c : Nat), c ≤ 2 * need → 256 ≤ c → c ≤ need + need → Builtin.growBy need k c ≤ 2 * need := by
        intro k
        induction k with
        | zero => intro c h1 _ _; exact h1
        | succ k ih =>
          intro c h1 h2 h3
          unfold Builtin.growBy
          split
          · exact h1
          · refine ih _ ?_ (by omega) ?_ <;> omega
      exact g 4 old (by omega) (by omega) (by omega)

theorem run_choose_cap (w : World) (need old : Nat) (e : TypeId) : ∃ c, need ≤ c ∧ (choose (.appendCap need old e)).run P w = .ok c w.drew := by
  refine ⟨_, ?_, rfl⟩
  simp only [Question.cut]
  omega

theorem zeroCells_len (z : Array Value) (n : Nat) : (Builtin.zeroCells z n).size = n * z.size := by simp [Builtin.zeroCells]

theorem run_append_room' {t t' e : TypeId} {ie : TypeInfo} (ht : P.underlying t = some (.slice e)) (hie : P.info? e = some ie) {d' : TypeDesc} (ht' : P.underlying t' = some d') (hd' : d' = .string ∨ ∃ e', d' = .slice e')
    {w w' : World} {y' : Value} {k n c : Nat} {a : Addr} {ys' : List Value} (hlen : (Builtin.lenOf y').run P w = .ok k w) (hfc : (Builtin.firstCells ie.size k y').run P w = .ok ys'.toArray w) (hr : n + k ≤ c) (hst : (storeCells (a.add (n * ie.size)) ys').run P w = .ok () w') (ty : TypeId) :
    (Builtin.append_ #[t, t'] ty #[.slice (some a) n c, y']).run P w = .ok (.slice (some a) (n + k) c) w' := by
  rcases hd' with rfl | ⟨e', rfl⟩ <;> simp [Builtin.append_, run_underlying ht, run_underlying ht', run_sizeOf hie, hlen, hfc, hr, hst]

theorem run_append_grow' {t t' e : TypeId} {ie : TypeInfo} {z : Value} (ht : P.underlying t = some (.slice e)) (hie : P.info? e = some ie) (hz : ie.zero = some z) (hb0 : 0 < ie.bytes) {d' : TypeDesc} (ht' : P.underlying t' = some d') (hd' : d' = .string ∨ ∃ e', d' = .slice e')
    {w : World} {y' : Value} {k n c : Nat} {base : Option Addr} {xs' ys' : List Value} (hlen : (Builtin.lenOf y').run P w = .ok k w) (hfx : ∀ w1 : World, w1.heap = w.heap → (Builtin.firstCells ie.size n (.slice base n c)).run P w1 = .ok xs'.toArray w1)
    (hfc : ∀ w1 : World, w1.heap = w.heap → (Builtin.firstCells ie.size k y').run P w1 = .ok ys'.toArray w1) (hr : ¬ n + k ≤ c) (hfit : (n + k) * ie.bytes ≤ 140737488355328) (ty : TypeId) :
    ∃ cap, n + k ≤ cap ∧ cap ≤ 9223372036854775807 ∧ (Builtin.append_ #[t, t'] ty #[.slice base n c, y']).run P w = .ok (.slice (some ⟨w.heap.size, 0, none⟩) (n + k) cap)
      (w.drew.alloc (.cells (xs'.toArray ++ (ys'.toArray ++ Builtin.zeroCells z.cells (cap - (n + k)))) e)) := by
  have hfo : (Question.appendCap (n + k) c e).forced = false := rfl
  have h1 := nextcap_le (n + k) c (by omega)
  have h2 : ¬ Builtin.nextslicecap (n + k) c * ie.bytes > 281474976710656 := by
    have := Nat.mul_le_mul_right ie.bytes h1
    rw [Nat.mul_assoc] at this
    omega
  have h3 : ¬ ie.bytes = 0 := by omega
  refine ⟨(Question.appendCap (n + k) c e).cut (w.tape w.drawn (Question.appendCap (n + k) c e)), by simp only [Question.cut]; omega, ?_, ?_⟩
  · simp only [Question.cut]
    have hb1 : n + k ≤ (n + k) * ie.bytes := Nat.le_mul_of_pos_right _ hb0
    have hlt := Nat.mod_lt (w.tape w.drawn (Question.appendCap (n + k) c e)) (show 0 < 2 ^ 63 - (n + k) by omega)
    omega
  have hfx' := hfx w.drew rfl
  have hfc' := hfc w.drew rfl
  rcases hd' with rfl | ⟨e', rfl⟩ <;>
    simp [hfo, Builtin.append_, run_underlying ht, run_underlying ht', run_sizeOf hie, run_typeInfo hie, hlen, hr, h2, h3, hfx', hfc', run_zeroValue hie hz, newRow]

/-- an append that the pure machine allows, in the model: whatever is appended, by the three runs. -/
theorem append_gen {t t' e : TypeId} {ie : TypeInfo} {z : Value} (hzc : z.cells.size = ie.size)
    {B : Nat} {w0 : World} {m : Mp} {h : VH} {w : World} (S : Sim B w0 m h w) {x x' y' : Value} (hx : VR m x x') {ys ys' : List Value} {k : Nat} (hys : VRL m ys ys') (hyl : ys.length = k * ie.size) (hone : ys.all Value.oneCell' = true) (ty : TypeId)
    (hzero : k = 0 → ∀ (ad : Option Addr) (n c : Nat), n ≤ c → (Builtin.append_ #[t, t'] ty #[.slice ad n c, y']).run P w = .ok (.slice ad n c) w)
    (hroomR : k ≠ 0 → ∀ (a : Addr) (n c : Nat) (w' : World), n + k ≤ c → (storeCells (a.add (n * ie.size)) ys').run P w = .ok () w' → (Builtin.append_ #[t, t'] ty #[.slice (some a) n c, y']).run P w = .ok (.slice (some a) (n + k) c) w')
    (hgrowR : k ≠ 0 → ∀ (base : Option Addr) (n c : Nat) (xs' : List Value), (∀ w1 : World, w1.heap = w.heap → (Builtin.firstCells ie.size n (.slice base n c)).run P w1 = .ok xs'.toArray w1) → ¬ n + k ≤ c → (n + k) * ie.bytes ≤ 140737488355328 →
      ∃ cap, n + k ≤ cap ∧ cap ≤ 9223372036854775807 ∧ (Builtin.append_ #[t, t'] ty #[.slice base n c, y']).run P w = .ok (.slice (some ⟨w.heap.size, 0, none⟩) (n + k) cap)
        (w.drew.alloc (.cells (xs'.toArray ++ (ys'.toArray ++ Builtin.zeroCells z.cells (cap - (n + k)))) e)))
    {v : Value} {h' : VH} (hp : appendV h ie.size ie.bytes x ys k = some (v, h')) :
    ∃ m' v' w', (Builtin.append_ #[t, t'] ty #[x', y']).run P w = .ok v' w' ∧ m.le m' ∧ Sim B w0 m' h' w' ∧ VR m' v v' := by
  unfold appendV at hp
  have hyl' : ys'.length = k * ie.size := by rw [← hys.1]; exact hyl
  have hzl : ∀ n, (Builtin.zeroCells z.cells n).toList.length = n * ie.size := fun n => by simp [zeroCells_len, hzc]
  split at hp
  · rename_i hk
    subst hk
    have hys0 : ys' = [] := List.eq_nil_of_length_eq_zero (by simpa using hyl')
    subst hys0
    split at hp
    · rename_i x0 ad n c
      injection hp with hp
      simp only [Prod.mk.injEq] at hp
      obtain ⟨rfl, rfl⟩ := hp
      have hform : ∃ ad' c', x' = .slice ad' n c' ∧ n ≤ c' := by
        cases hx with
        | sl0 => exact ⟨_, _, rfl, Nat.le_refl _⟩
        | sl hi h1 h2 h3 h4 => exact ⟨_, _, rfl, by omega⟩
        | slE a hi => exact ⟨_, _, rfl, Nat.le_refl _⟩
        | slT hi => exact ⟨_, _, rfl, Nat.le_refl _⟩
      obtain ⟨ad', c', rfl, hle⟩ := hform
      refine ⟨m, _, w, ?_, m.le_refl, S, hx⟩
      exact hzero rfl _ _ _ hle
    · cases hp
  · rename_i hk
    split at hp
    · rename_i n c
      obtain ⟨rfl, rfl, rfl⟩ := slice_nil_inv hx
      split at hp
      · rename_i hfit
        injection hp with hp
        simp only [Prod.mk.injEq] at hp
        obtain ⟨rfl, rfl⟩ := hp
        obtain ⟨cap, hcap, hcap4, hr⟩ := hgrowR hk none 0 0 [] (fun w1 _ => by simp [Builtin.firstCells]) (by omega) (by simpa using hfit)
        simp only [Nat.zero_add] at hcap hr
        have S1 := push_row S.drew hys hone (Builtin.zeroCells z.cells (cap - k)).toList e ie.size (cap * ie.size) (by rw [hyl]; exact Nat.mul_le_mul_right _ hcap)
          (by rw [hyl', hzl, ← Nat.add_mul]; exact Nat.mul_le_mul_right _ (by omega)) (0, 0) (.inl rfl)
        refine ⟨m.push ⟨w.drew.heap.size, 0, cap * ie.size, ie.size⟩, _, _, hr, m.push_le _, ?_, ?_⟩
        · have e1 : (([] : List Value).toArray ++ (ys'.toArray ++ Builtin.zeroCells z.cells (cap - k))) = (ys' ++ (Builtin.zeroCells z.cells (cap - k)).toList).toArray := by apply Array.ext'; simp
          rw [e1]
          exact S1
        · have := VR.sl (m := m.push ⟨w.drew.heap.size, 0, cap * ie.size, ie.size⟩) (i := m.n) (o := 0) (n := k) (c := k) (c' := cap) (by simp) (Nat.le_refl _) hcap (by rw [Mp.at_push_new]; simp) hcap4
          rw [Mp.at_push_new] at this
          rw [← S.n]
          exact this
      · cases hp
    · rename_i i off n c
      split at hp
      · rename_i cs ez hg
        have gen : ez = ie.size → off + n * ie.size ≤ cs.length → (n + k) * ie.bytes ≤ 140737488355328 →
            ∃ m' v' w', (Builtin.append_ #[t, t'] ty #[x', y']).run P w = .ok v' w' ∧ m.le m' ∧ Sim B w0 m' ((h.set i .dead).push (.cells ((cs.drop off).take (n * ie.size) ++ ys) true ie.size)) w' ∧ VR m' (.slice (some ⟨h.n, 0, none⟩) (n + k) (n + k)) v' := by
          intro hez0 htip hfit
          subst hez0
          have hne : (n + k) * ie.size = n * ie.size + k * ie.size := Nat.add_mul ..
          -- the model's slice has no room: all goes to a new block
          have grow : ∀ (ad : Addr) (c' : Nat) (hi : i < m.n), x' = .slice (some ad) n c' → ¬ n + k ≤ c' → (∀ ys0 : List Value, ys0.length = n * ie.size → (∀ j y, ys0[j]? = some y → w.cell? ⟨(m.at_ i).blk, (m.at_ i).base + off + j, none⟩ = some y) →
              ∀ w1 : World, w1.heap = w.heap → (Builtin.firstCells ie.size n (.slice (some ad) n c')).run P w1 = .ok ys0.toArray w1) →
              ∃ m' v' w', (Builtin.append_ #[t, t'] ty #[x', y']).run P w = .ok v' w' ∧ m.le m' ∧ Sim B w0 m' ((h.set i .dead).push (.cells ((cs.drop off).take (n * ie.size) ++ ys) true ie.size)) w' ∧ VR m' (.slice (some ⟨h.n, 0, none⟩) (n + k) (n + k)) v' := by
            intro ad c' hi hx' hroom hld
            subst hx'
            obtain ⟨ys0, hl0, hc0, hv0⟩ := row_of S hi hg (o := off) (n := n * ie.size) (by omega)
            obtain ⟨cap, hcap, hcap4, hr⟩ := hgrowR hk _ _ _ _ (hld ys0 hl0 hc0) hroom hfit
            have hv1 : VRL m ((cs.drop off).take (n * ie.size) ++ ys) (ys0 ++ ys') := by
              refine ⟨by simp only [List.length_append, hv0.1, hys.1], fun j x y hx hy => ?_⟩
              rw [List.getElem?_append] at hx hy
              rw [hv0.1] at hx
              split at hx
              · rename_i hj
                rw [if_pos hj] at hy
                exact hv0.2 _ _ _ hx hy
              · rename_i hj
                rw [if_neg hj] at hy
                exact hys.2 _ _ _ hx hy
            have hone1 : ((cs.drop off).take (n * ie.size) ++ ys).all Value.oneCell' = true := by
              rw [List.all_append, hone, Bool.and_true]
              exact List.all_eq_true.2 fun x hx => List.all_eq_true.1 (cellC_of S hi hg) x (List.mem_of_mem_drop (List.mem_of_mem_take hx))
            have S1 := push_row (S.kill i).drew hv1 hone1 (Builtin.zeroCells z.cells (cap - (n + k))).toList e ie.size (cap * ie.size) (by rw [hv1.1, List.length_append, hl0, hyl', ← Nat.add_mul]; exact Nat.mul_le_mul_right _ hcap)
              (by rw [List.length_append, hl0, hyl', hzl, ← Nat.add_mul, ← Nat.add_mul]; exact Nat.mul_le_mul_right _ (by omega)) (0, 0) (.inl rfl)
            refine ⟨m.push ⟨w.drew.heap.size, 0, cap * ie.size, ie.size⟩, _, _, hr, m.push_le _, ?_, ?_⟩
            · have e1 : (ys0.toArray ++ (ys'.toArray ++ Builtin.zeroCells z.cells (cap - (n + k)))) = ((ys0 ++ ys') ++ (Builtin.zeroCells z.cells (cap - (n + k))).toList).toArray := by apply Array.ext'; simp
              rw [e1]
              exact S1
            · have := VR.sl (m := m.push ⟨w.drew.heap.size, 0, cap * ie.size, ie.size⟩) (i := m.n) (o := 0) (n := n + k) (c := n + k) (c' := cap) (by simp) (Nat.le_refl _) hcap (by rw [Mp.at_push_new]; simp) hcap4
              rw [Mp.at_push_new] at this
              rw [← S.n]
              exact this
          rcases slice_inv4 hx with ⟨c', hc4, hi, hnc, hcc, hlim, rfl⟩ | ⟨ad, hi, rfl, rfl, rfl⟩
          · have hob := S.obj i hi
            rw [hg] at hob
            obtain ⟨hez, hlen0, hblt, hcells, hown⟩ := hob
            rw [← hez] at hlim
            by_cases hroom : n + k ≤ c'
            · obtain ⟨c0, e0, fr, hb, hsz, hfr⟩ := hown rfl
              have hck : (n + k) * ie.size ≤ c' * ie.size := Nat.mul_le_mul_right _ hroom
              have hone' : ∀ y ∈ ys', y.oneCell' = true := by
                intro y hy
                obtain ⟨j, hj, rfl⟩ := List.mem_iff_getElem.1 hy
                have hjx : j < ys.length := by rw [hys.1]; exact hj
                rw [oneCell_VR (hys.2 j _ _ (List.getElem?_eq_getElem hjx) (List.getElem?_eq_getElem hj))]
                exact List.all_eq_true.1 hone _ (List.getElem_mem hjx)
              obtain ⟨w', c'', hst, hgr, hs, hb', hsz', hin, hout⟩ := run_storeCells_own (P := P) ys' w c0 ((m.at_ i).base + off + n * ie.size) 0 hb hone' (by omega) (fun j hj => by
                exact hfr.free (by omega))
              simp only [Nat.add_zero] at hin hout
              have hr := hroomR hk ⟨(m.at_ i).blk, (m.at_ i).base + off, none⟩ _ _ _ hroom (by rw [addr_add]; exact hst)
              have inf : ∃ inf : Info, inf = ⟨(m.at_ i).blk, (m.at_ i).base + off, (m.at_ i).lim - off, ie.size⟩ := ⟨_, rfl⟩
              obtain ⟨inf, hinf⟩ := inf
              have e1 : inf.blk = (m.at_ i).blk := by rw [hinf]
              have e2 : inf.base = (m.at_ i).base + off := by rw [hinf]
              have e3 : inf.lim = (m.at_ i).lim - off := by rw [hinf]
              have e4 : inf.esz = ie.size := by rw [hinf]
              have hcell : ∀ j, w'.cell? ⟨(m.at_ i).blk, (m.at_ i).base + off + j, none⟩ = c''[(m.at_ i).base + off + j]? := fun j => by simp [World.cell?, hb']
              have S1 := S.move hi (by rw [hg]; rfl) (.cells ((cs.drop off).take (n * ie.size) ++ ys) true ie.size) inf e1 hgr ⟨e4.symm, by rw [e3]; simp; omega, by rw [e1, hs]; exact hblt, fun j v hj => by
                rw [e1, e2, hcell]
                rw [List.getElem?_append] at hj
                have hdl : ((cs.drop off).take (n * ie.size)).length = n * ie.size := by simp; omega
                rw [hdl] at hj
                split at hj
                · rename_i hjl
                  rw [List.getElem?_take, if_pos hjl, List.getElem?_drop] at hj
                  obtain ⟨v', h2, h3⟩ := hcells _ v hj
                  refine ⟨v', ?_, h3.mono (m.push_le inf)⟩
                  rw [hout _ (by omega)]
                  rw [← Nat.add_assoc] at h2
                  simpa [World.cell?, hb] using h2
                · rename_i hjl
                  have hjx : j - n * ie.size < ys.length := (List.getElem?_eq_some_iff.1 hj).1
                  have hjy : j - n * ie.size < ys'.length := by rw [← hys.1]; exact hjx
                  refine ⟨ys'[j - n * ie.size], ?_, (hys.2 _ _ _ hj (List.getElem?_eq_getElem hjy)).mono (m.push_le inf), List.all_eq_true.1 hone _ (List.mem_of_getElem? hj)⟩
                  rw [hin _ (by omega) (by omega), show (m.at_ i).base + off + j - ((m.at_ i).base + off + n * ie.size) = j - n * ie.size by omega]
                  exact List.getElem?_eq_getElem hjy, fun _ => ⟨c'', e0, fr, by rw [e1]; exact hb', by rw [e2, e3, hsz']; omega, (by rw [e2, e3]; rcases hfr with hfr | hfr; exact .inl hfr; exact .inr ⟨by omega, hfr.2⟩)⟩⟩
              refine ⟨m.push inf, _, w', hr, m.push_le inf, S1, ?_⟩
              have := VR.sl (m := m.push inf) (i := m.n) (o := 0) (n := n + k) (c := n + k) (c' := c') (by simp) (Nat.le_refl _) hroom (by rw [Mp.at_push_new, e3, e4]; omega) hc4
              rw [Mp.at_push_new, e1, e2] at this
              rw [← S.n]
              exact this
            · exact grow _ _ hi rfl hroom (fun ys0 hl0 hc0 w1 hw1 => by
                simp only [Builtin.firstCells]
                exact run_loadCells' hl0 (fun j y hj => by rw [World.cell?_of_block (w := w) (by rw [hw1])]; exact hc0 j y hj))
          · refine grow _ _ hi rfl (by omega) (fun ys0 hl0 hc0 w1 hw1 => ?_)
            have : ys0 = [] := List.eq_nil_of_length_eq_zero (by simpa using hl0)
            subst this
            simp [Builtin.firstCells, loadCells, loadCellsFrom]
        split at hp
        · rename_i hc
          obtain ⟨h1, htip, hfit⟩ := hc
          injection hp with hp
          simp only [Prod.mk.injEq] at hp
          obtain ⟨rfl, rfl⟩ := hp
          have := gen h1 (Nat.le_of_eq htip) hfit
          rw [List.take_of_length_le (by simp; omega)] at this
          exact this
        · split at hp
          · rename_i hc
            obtain ⟨rfl, hroom, hfit⟩ := hc
            injection hp with hp
            simp only [Prod.mk.injEq] at hp
            obtain ⟨rfl, rfl⟩ := hp
            rcases slice_inv4 hx with ⟨c', hc4, hi, hnc, hcc, hlim, rfl⟩ | ⟨ad, hi, rfl, rfl, rfl⟩
            · obtain ⟨w', hst, S'⟩ := store_own (P := P) S hi hg hys hfit hone
              have hr := hroomR hk ⟨(m.at_ i).blk, (m.at_ i).base + off, none⟩ n c' w' (by omega) (by rw [addr_add, Nat.add_assoc]; exact hst)
              exact ⟨m, _, w', hr, m.le_refl, S', .sl hi hroom hcc hlim hc4⟩
            · omega
          · split at hp
            · rename_i hc
              injection hp with hp
              simp only [Prod.mk.injEq] at hp
              obtain ⟨rfl, rfl⟩ := hp
              exact gen hc.1 hc.2.1 hc.2.2
            · cases hp
      · cases hp
    · cases hp

/-- an append that the pure machine allows, in the model. -/
theorem append_ok {t t' e : TypeId} {ie : TypeInfo} {z : Value} (ht : P.underlying t = some (.slice e)) (hie : P.info? e = some ie) (hz : ie.zero = some z) (hzc : z.cells.size = ie.size) (hb0 : 0 < ie.bytes) {d' : TypeDesc} (ht' : P.underlying t' = some d') (hd' : d' = .string ∨ ∃ e', d' = .slice e')
    {B : Nat} {w0 : World} {m : Mp} {h : VH} {w : World} (S : Sim B w0 m h w) {x x' y' : Value} (hx : VR m x x') {ys ys' : List Value} {k : Nat} (hys : VRL m ys ys') (hyl : ys.length = k * ie.size) (hone : ys.all Value.oneCell' = true)
    (hlen : (Builtin.lenOf y').run P w = .ok k w) (hfc : ∀ w1 : World, w1.heap = w.heap → (Builtin.firstCells ie.size k y').run P w1 = .ok ys'.toArray w1) {v : Value} {h' : VH} (hp : appendV h ie.size ie.bytes x ys k = some (v, h')) (ty : TypeId) :
    ∃ m' v' w', (Builtin.append_ #[t, t'] ty #[x', y']).run P w = .ok v' w' ∧ m.le m' ∧ Sim B w0 m' h' w' ∧ VR m' v v' := by
  refine append_gen (e := e) hzc S hx hys hyl hone ty ?_ ?_ ?_ hp
  · intro hk ad n c hle
    subst hk
    have hys0 : ys' = [] := List.eq_nil_of_length_eq_zero (by rw [← hys.1, hyl]; simp)
    subst hys0
    have hfc' := hfc w rfl
    rcases hd' with rfl | ⟨e', rfl⟩ <;> cases ad <;> simp [Builtin.append_, run_underlying ht, run_underlying ht', run_sizeOf hie, hlen, hfc', hle, storeCells]
  · intro _ a n c w' hr hst
    exact run_append_room' ht hie ht' hd' hlen (hfc w rfl) hr hst ty
  · intro _ base n c xs' hfx hr hfit
    exact run_append_grow' ht hie hz hb0 ht' hd' hlen hfx hfc hr hfit ty

end Go.Proofs.Ytdnkpgbggpbgaaa.Pm
