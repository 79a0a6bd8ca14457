/- The pure machine, part In: the library's slices.Insert at texts, out of the shelf's contract. -/
import Derived.Test.YtoenamablkkocaaPmSt
import Derived.Test.YtoenamablkkocaaPmZ
import Derived.Shelf.Spec.SlicesInsertGrow
import Derived.Shelf.Spec.SlicesInsert
set_option linter.unusedVariables false
set_option linter.unusedSimpArgs false
namespace Go.Proofs.Ytoenamablkkocaa.Pm
open Go.RowKit Go.Shelf

theorem setCells_own {b : Nat} {e : TypeId} {fr : Nat × Nat} : ∀ (vs : List Value) (o : Nat) (w : World) (c' : Array Value), w.heap[b]? = some (.cells c' e fr) → o + vs.length ≤ c'.size →
    ∃ c'', (w.setCells b o vs).heap[b]? = some (.cells c'' e fr) ∧ c''.size = c'.size ∧ w.grownBy (w.setCells b o vs) (some b) ∧ (w.setCells b o vs).heap.size = w.heap.size ∧
      (∀ j, ¬ (o ≤ j ∧ j < o + vs.length) → c''[j]? = c'[j]?) ∧ (∀ j, j < vs.length → c''[o + j]? = vs[j]?)
  | [], o, w, c', hb, _ => ⟨c', hb, rfl, ⟨rfl, rfl, rfl, Nat.le_refl _, fun _ _ _ => rfl⟩, rfl, fun _ _ => rfl, fun j hj => by simp at hj⟩
  | v :: vs, o, w, c', hb, hl => by
    rw [List.length_cons] at hl
    have hb1 : (w.setCell ⟨b, o, none⟩ v).heap[b]? = some (.cells (c'.setIfInBounds o v) e fr) := by
      simp [World.setCell, Array.getElem?_modify, hb]
    obtain ⟨c'', h1, h2, h3, h4, h5, h6⟩ := setCells_own vs (o + 1) (w.setCell ⟨b, o, none⟩ v) _ hb1 (by simp; omega)
    have hsz : (w.setCell ⟨b, o, none⟩ v).heap.size = w.heap.size := by simp [World.setCell]
    refine ⟨c'', h1, by rw [h2]; simp, ?_, by rw [← hsz]; exact h4, fun j hj => ?_, fun j hj => ?_⟩
    · refine ⟨h3.os, h3.tape, h3.output, by have := h3.size; rw [hsz] at this; exact this, fun k hk hne => ?_⟩
      have hne' : k ≠ b := fun e => hne (by rw [e])
      refine (h3.block k (by rw [hsz]; exact hk) hne).trans ?_
      simp only [World.setCell, Array.getElem?_modify]
      rw [if_neg (fun e => hne' e.symm)]
    · rw [List.length_cons] at hj
      rw [h5 j (by omega), Array.getElem?_setIfInBounds_ne (by omega)]
    · cases j with
      | zero =>
        rw [Nat.add_zero, h5 o (by omega), Array.getElem?_setIfInBounds_self_of_lt (by omega)]
        rfl
      | succ j =>
        rw [List.length_cons] at hj
        have := h6 j (by omega)
        rw [show o + 1 + j = o + (j + 1) by omega] at this
        simpa using this
def insS (k : Nat) (x : List UInt8) (ss : List (List UInt8)) : List (List UInt8) := ss.take k ++ x :: ss.drop k
theorem insS_len {k : Nat} {x : List UInt8} {ss : List (List UInt8)} (hk : k ≤ ss.length) : (insS k x ss).length = ss.length + 1 := by simp [insS]; omega
theorem strs_one (ss : List (List UInt8)) : ∀ v ∈ strsV ss, v.oneCell' = true := by
  intro v hv
  obtain ⟨l, _, rfl⟩ := List.mem_map.1 hv
  rfl
theorem strs_VR (m : Mp) (ss : List (List UInt8)) : VRL m (strsV ss) (strsV ss) := VRL.closed m (by
  rw [List.all_eq_true]
  intro v hv
  obtain ⟨l, _, rfl⟩ := List.mem_map.1 hv
  rfl)
theorem strs_at {m : Mp} {ss : List (List UInt8)} {j : Nat} {v v' : Value} (h : (strsV ss)[j]? = some v) (hv : VR m v v') : v' = v := by
  have hm := List.mem_of_getElem? h
  obtain ⟨l, _, rfl⟩ := List.mem_map.1 hm
  exact hv.string_inv
/-- what the cells are behind an insertion. -/
theorem insS_at {k : Nat} {x : List UInt8} {ss : List (List UInt8)} (hk : k ≤ ss.length) (j : Nat) : (strsV (insS k x ss))[j]? = if j < k then (strsV ss)[j]? else if j = k then some (.string (strB x)) else (strsV ss)[j - 1]? := by
  unfold strsV insS
  rw [List.getElem?_map, List.getElem?_map, List.getElem?_map]
  split
  · rename_i h
    rw [List.getElem?_append_left (by simp; omega), List.getElem?_take, if_pos h]
  · rename_i h
    rw [List.getElem?_append_right (by simp; omega), List.length_take, Nat.min_eq_left hk]
    split
    · rename_i h2; subst h2; simp
    · rename_i h2
      rw [show j - k = (j - k - 1) + 1 by omega, List.getElem?_cons_succ, List.getElem?_drop, show k + (j - k - 1) = j - 1 by omega]

set_option maxHeartbeats 4000000 in
theorem insertS_ok {P : Program} {ρ : Ren} (L : Lays2.n22 P ρ) {h : VH} {v : Value} {ss : List (List UInt8)} (hs : OwnSl h 1 v (strsV ss) ss.length) {j c : Nat} {x : List UInt8} (hj : j < h.n) (hg : h.get j = .cells [.string (strB x)] true 0)
    {k : Nat} (hk : k ≤ ss.length) (hb : ss.length < 1000000) (hc : 1 ≤ c) :
    PCalls P (ρ.f 22) [v, .int .i64 (k : Int), .slice (some ⟨j, 0, none⟩) 1 c] h (fun u h' => OwnSl h' 1 u (strsV (insS k x ss)) (ss.length + 1) ∧ Fr h h' (idOf v) ∧ ∀ i ∈ idOf u, h.n ≤ i) := by
  intro B w0 m w args' S ha
  obtain ⟨N, hN⟩ : ∃ N, N = ss.length := ⟨_, rfl⟩
  have hIl := insS_len (x := x) hk
  have hIa := @insS_at k x ss hk
  rw [← hN] at hs hk hb hIl ⊢
  match hargs : args'.toList, ha with
  | [v', kv, s'], ha =>
    have hv := ha.2 0 _ v' rfl rfl
    have hkv := ha.2 1 _ kv rfl rfl
    have hsv := ha.2 2 _ s' rfl rfl
    obtain rfl := hkv.int_inv
    have hjm : j < m.n := by rw [S.n]; exact hj
    obtain ⟨c1, rfl⟩ : ∃ c1, s' = .slice (some ⟨(m.at_ j).blk, (m.at_ j).base, none⟩) 1 c1 := by
      rcases slice_inv hsv with ⟨c1, _, _, _, _, e⟩ | ⟨_, _, h0, _, _⟩
      · exact ⟨c1, by rw [e]; rfl⟩
      · omega
    have hob := S.obj j hjm
    rw [hg] at hob
    obtain ⟨q1, q2, q3, q4, q5⟩ := hob
    obtain ⟨cj, ej, frj, hbj, hsj, hfrj⟩ := q5 rfl
    have hfrj : frj.1 = frj.2 := hfrj.elim id (fun h => absurd rfl h.2)
    simp only [List.length_singleton] at q2
    have hxc : w.cell? ⟨(m.at_ j).blk, (m.at_ j).base + 0, none⟩ = some (.string (strB x)) := by
      obtain ⟨v0, h1, h2⟩ := q4 0 _ rfl
      rw [h2.1.string_inv] at h1
      exact h1
    have hvs : ∀ (i : Nat) (y : Value), ([Value.string (strB x)] : List Value)[i]? = some y → w.cell? ⟨(m.at_ j).blk, (m.at_ j).base + i, none⟩ = some y := by
      intro i y hy
      cases i with
      | zero => simp at hy; subst hy; exact hxc
      | succ i => simp at hy
    have h1v : ∀ y ∈ ([Value.string (strB x)] : List Value), y.oneCell' = true := by intro y hy; simp at hy; subst hy; rfl
    have hae : ∀ v', args'.toList = [v', .int .i64 (k : Int), .slice (some ⟨(m.at_ j).blk, (m.at_ j).base, none⟩) 1 c1] → args' = #[v', .int .i64 (k : Int), .slice (some ⟨(m.at_ j).blk, (m.at_ j).base, none⟩) 1 c1] := fun v' e => by
      apply Array.toList_inj.1
      rw [e]
    rw [hae v' hargs]
    have hz1 : ∀ n, (Builtin.zeroCells (Value.string ⟨#[]⟩).cells n).size = n := fun n => by rw [size_zeroCells]; exact Nat.mul_one n
    -- all goes to a new block, at the end
    have growE : ∀ (base : Option Addr) (c0 : Nat), k = N → N ≤ c0 → c0 < N + 1 → (base = none → N = 0) → (∀ a, base = some a → ∀ i y, (strsV ss)[i]? = some y → w.cell? (a.add i) = some y) → ∀ (h1 : VH), Sim B w0 m h1 w → h1.n = h.n → Fr h h1 (idOf v) →
        Calls P (ρ.f 22) #[.slice base N c0, .int .i64 (k : Int), .slice (some ⟨(m.at_ j).blk, (m.at_ j).base, none⟩) 1 c1] w fun e w' => ∃ m' u v1 h', e = .returned v1 ∧ (OwnSl h' 1 u (strsV (insS k x ss)) (N + 1) ∧ Fr h h' (idOf v) ∧ ∀ i ∈ idOf u, h.n ≤ i) ∧ m.le m' ∧ Sim B w0 m' h' w' ∧ VR m' u v1 := by
      intro base c0 hkN hnc hroom hnil hcs h1 S1 hn1 F1
      subst hkN
      refine (Any2.slices_Insert_string_end_grow L base k c0 (m.at_ j).blk (m.at_ j).base 1 c1 (strsV ss) [Value.string (strB x)] w (by decide) hnc hroom (by omega) (by simp [hN]) rfl hnil hcs hvs h1v).mono ?_
      rintro e w' ⟨rfl, rfl⟩
      obtain ⟨cap, hcap⟩ : ∃ cap, cap = grownCap w (k + 1) c0 (ρ.t 9) := ⟨_, rfl⟩
      have hge : k + 1 ≤ cap := by rw [hcap]; exact grownCap_ge _ _ _ _
      have hge4 : cap ≤ 9223372036854775807 := by rw [hcap]; exact grownCap_le_maxLen _ _ _ _ (by simp only [maxLen]; omega)
      rw [← hcap]
      have hins : strsV (insS k x ss) = strsV ss ++ [Value.string (strB x)] := by
        unfold insS
        rw [List.take_of_length_le (by omega), List.drop_of_length_le (by omega)]
        simp [strsV]
      have hone : (strsV ss ++ [Value.string (strB x)]).all Value.oneCell' = true := by
        rw [List.all_eq_true]
        intro y hy
        rcases List.mem_append.1 hy with hy | hy
        · exact strs_one ss y hy
        · exact h1v y hy
      have S2 := push_row S1.drew (hins ▸ strs_VR m (insS k x ss)) hone (Builtin.zeroCells (Value.string ⟨#[]⟩).cells (cap - (k + 1))).toList (ρ.t 9) 1 cap (by simp; omega) (by rw [List.length_append, strsV_length, show (Builtin.zeroCells (Value.string ⟨#[]⟩).cells (cap - (k + 1))).toList.length = cap - (k + 1) from (Array.length_toList ..).trans (hz1 _), List.length_singleton]; omega) (0, 0) (.inl rfl)
      have e1 : ((strsV ss ++ [Value.string (strB x)]).toArray ++ Builtin.zeroCells (Value.string ⟨#[]⟩).cells (cap - (k + 1))) = ((strsV ss ++ [Value.string (strB x)]) ++ (Builtin.zeroCells (Value.string ⟨#[]⟩).cells (cap - (k + 1))).toList).toArray := by apply Array.ext'; simp
      rw [e1]
      refine ⟨m.push ⟨w.drew.heap.size, 0, cap, 1⟩, .slice (some ⟨h1.n, 0, none⟩) (k + 1) (k + 1), _, _, rfl, ⟨?_, ?_, ?_⟩, m.push_le _, S2, ?_⟩
      · exact .inr ⟨h1.n, 0, k + 1, strsV ss ++ [Value.string (strB x)], by simp, Nat.le_refl _, rfl, VH.get_push_new _ _, by rw [hins]; rfl, by rw [strsV_length, hIl]; omega, Nat.zero_le _⟩
      · exact F1.trans (Fr.push _ _ _)
      · intro i hi
        simp [idOf] at hi
        omega
      · have := VR.sl (m := m.push ⟨w.drew.heap.size, 0, cap, 1⟩) (i := m.n) (o := 0) (n := k + 1) (c := k + 1) (c' := cap) (by simp) (Nat.le_refl _) hge (by rw [Mp.at_push_new]; simp) hge4
        rw [Mp.at_push_new] at this
        rw [← S1.n]
        exact this
    rcases hs with ⟨rfl, h0, rfl⟩ | ⟨i, o, cc, ds, hi, hncc, rfl, hgi, hds, hdl, hod⟩
    · obtain rfl : k = 0 := by omega
      cases hv
      exact growE none 0 rfl (Nat.le_refl _) (by omega) (fun _ => rfl) (fun a e => by cases e) h S rfl (Fr.refl _ _)
    have him : i < m.n := by rw [S.n]; exact hi
    rcases slice_inv4 hv with ⟨c', hc4, _, hnc, hcc, hlim, rfl⟩ | ⟨ad, _, hN0, hc0, rfl⟩
    case inr =>
      subst hN0
      obtain rfl : k = 0 := by omega
      have hss : ss = [] := List.eq_nil_of_length_eq_zero hN.symm
      exact growE (some ad) 0 rfl (Nat.le_refl _) (by omega) (fun e => by cases e) (fun a e q y hy => by rw [hss] at hy; simp [strsV] at hy) (h.set i .dead) (S.kill i) rfl (Fr.set _ _ (by simp [idOf]))
    have hobi := S.obj i him
    rw [hgi] at hobi
    obtain ⟨p1, p2, p3, p4, p5⟩ := hobi
    obtain ⟨ci, ei, fri, hbi, hsi, hfri⟩ := p5 rfl
    obtain ⟨b, hbe⟩ : ∃ b, b = (m.at_ i).blk := ⟨_, rfl⟩
    obtain ⟨off, hoff⟩ : ∃ off, off = (m.at_ i).base + o := ⟨_, rfl⟩
    rw [← p1, Nat.mul_one] at hlim
    rw [← hbe, ← hoff]
    rw [← hbe] at hbi p4
    have hji : j ≠ i := by rintro rfl; rw [hg] at hgi; injection hgi with _ _ e3; exact absurd e3 (by decide)
    have hvb : (m.at_ j).blk ≠ b := by
      rw [hbe]
      exact S.sep j i hjm him hji (by rw [hg]; rfl) (VObj.live_of_own (by rw [hgi]; rfl))
    have hblt : b < w.heap.size := (Array.getElem?_eq_some_iff.1 hbi).1
    have hcs : ∀ (q : Nat) (y : Value), (strsV ss)[q]? = some y → w.cell? ⟨b, off + q, none⟩ = some y := by
      intro q y hy
      have h1 : ds[o + q]? = some y := by rw [← List.getElem?_drop, hds]; exact hy
      obtain ⟨v0, h2, h3⟩ := p4 (o + q) y h1
      rw [strs_at hy h3.1] at h2
      rw [hoff, Nat.add_assoc]
      exact h2
    have hcq : ∀ q, off + q < ci.size → w.cell? ⟨b, off + q, none⟩ = ci[off + q]? := fun q hq => by simp [World.cell?, hbi]
    have hfit : off + c' ≤ ci.size := by omega
    have hfz : ∀ q, q < c' → w.frozen? ⟨b, off + q, none⟩ = false := by
      intro q hq
      have := hfri.free (j := off + q) (by omega)
      simp only [World.frozen?, hbi]
      simpa using this
    have hsp : ∀ q, q < c' → (w.cell? ⟨b, off + q, none⟩).isSome = true := by
      intro q hq
      rw [hcq q (by omega)]
      simp
      omega
    have hssc : ∀ q, q < N → ci[off + q]? = (strsV ss)[q]? := by
      intro q hq
      have hy : (strsV ss)[q]? = some ((strsV ss)[q]'(by simp; omega)) := List.getElem?_eq_getElem _
      rw [hy, ← hcq q (by omega)]
      exact hcs q _ hy
    -- in place
    have inP : ∀ (W : World) (c'' : Array Value), w.grownBy W (some b) → W.heap.size = w.heap.size → W.heap[b]? = some (.cells c'' ei fri) → c''.size = ci.size → N + 1 ≤ c' → (∀ q, q < N + 1 → c''[off + q]? = (strsV (insS k x ss))[q]?) →
        ∃ m' u v1 h', Ending.returned (.slice (some ⟨b, off, none⟩) (N + 1) c') = .returned v1 ∧ (OwnSl h' 1 u (strsV (insS k x ss)) (N + 1) ∧ Fr h h' (idOf (.slice (some ⟨i, o, none⟩) N cc)) ∧ ∀ i ∈ idOf u, h.n ≤ i) ∧ m.le m' ∧ Sim B w0 m' h' W ∧ VR m' u v1 := by
      intro W c'' hgr hsz hbW hcz hroom hcell
      obtain ⟨inf, hinf⟩ : ∃ inf : Info, inf = ⟨b, off, (m.at_ i).lim - o, 1⟩ := ⟨_, rfl⟩
      have e1 : inf.blk = b := by rw [hinf]
      have e2 : inf.base = off := by rw [hinf]
      have e3 : inf.lim = (m.at_ i).lim - o := by rw [hinf]
      have e4 : inf.esz = 1 := by rw [hinf]
      have S1 := S.move him (by rw [hgi]; rfl) (.cells (strsV (insS k x ss)) true 1) inf (e1.trans hbe) (by rw [← hbe]; exact hgr) ⟨e4.symm, by rw [e3, strsV_length, hIl]; omega, fun _ => by rw [e1, hsz]; exact hblt, fun q y hy => by
        have hq : q < N + 1 := by
          have := (List.getElem?_eq_some_iff.1 hy).1
          rw [strsV_length, hIl] at this
          exact this
        refine ⟨y, ?_, ?_, strs_one _ _ (List.mem_of_getElem? hy)⟩
        · rw [e1, e2]
          simp only [World.cell?, hbW]
          simp only [hcell q hq, hy]
          simp
        · exact (strs_VR _ (insS k x ss)).2 q y y hy hy, fun _ => ⟨c'', ei, fri, by rw [e1]; exact hbW, by rw [e2, e3, hcz]; omega, by
          rcases hfri with hf | hf
          · exact .inl hf
          · exact .inr ⟨by rw [e2, e3]; omega, by decide⟩⟩⟩
      refine ⟨m.push inf, .slice (some ⟨h.n, 0, none⟩) (N + 1) (N + 1), _, _, rfl, ⟨?_, ?_, ?_⟩, m.push_le inf, S1, ?_⟩
      · exact .inr ⟨h.n, 0, N + 1, strsV (insS k x ss), by simp, Nat.le_refl _, rfl, VH.get_push_new (h.set i .dead) _, rfl, by rw [strsV_length, hIl]; omega, Nat.zero_le _⟩
      · exact (Fr.set h .dead (X := [i]) (List.mem_singleton.2 rfl)).trans (Fr.push _ _ _)
      · intro q hq
        simp [idOf] at hq
        omega
      · have := VR.sl (m := m.push inf) (i := m.n) (o := 0) (n := N + 1) (c := N + 1) (c' := c') (by simp) (Nat.le_refl _) hroom (by rw [Mp.at_push_new, e3, e4]; omega) hc4
        rw [Mp.at_push_new, e1, e2] at this
        rw [← S.n]
        exact this
    by_cases hroom : N + 1 ≤ c'
    · by_cases hkN : k = N
      · subst hkN
        refine (Any2.slices_Insert_string_end_room L b off k c' (m.at_ j).blk (m.at_ j).base 1 c1 [Value.string (strB x)] w (by decide) hroom hc4 rfl (fun q hq => by rw [Nat.add_assoc]; exact hsp _ (by omega)) (fun q hq => by rw [Nat.add_assoc]; exact hfz _ (by omega)) hvs h1v).mono ?_
        rintro e W ⟨rfl, rfl⟩
        obtain ⟨c'', d1, d2, d3, d4, d5, d6⟩ := setCells_own [Value.string (strB x)] (off + k) w ci hbi (by simp; omega)
        refine inP _ c'' d3 d4 d1 d2 hroom (fun q hq => ?_)
        rw [hIa]
        by_cases hqk : q < k
        · rw [if_pos hqk, d5 _ (by simp; omega), hssc q hqk]
        · obtain rfl : q = k := by omega
          rw [if_neg (by omega), if_pos rfl]
          have := d6 0 (by simp)
          simpa using this
      · have hkl : k < N := by omega
        refine (Any2.slices_Insert_string_shift L b off N c' k (m.at_ j).blk (m.at_ j).base 1 c1 (strsV ss) [Value.string (strB x)] w hkl (by decide) hroom hc4 hvb (by simp [hN]) rfl hcs (fun q hq => hsp q (by omega)) (fun q hq => hfz q (by omega)) hvs (strs_one ss) h1v
          ej ei cj.size ci.size (by simp [World.shape?, hbj]) (by simp [World.shape?, hbi]) (by omega) (by simp [World.frozen?, hbj, hfrj]) (by simp [World.frozen?, hbj, hfrj])).mono ?_
        rintro e W ⟨rfl, rfl⟩
        obtain ⟨c2, d1, d2, d3, d4, d5, d6⟩ := setCells_own ((strsV ss).drop k) (off + (k + 1)) w.drew ci hbi (by simp; omega)
        obtain ⟨c3, f1, f2, f3, f4, f5, f6⟩ := setCells_own [Value.string (strB x)] (off + k) _ c2 d1 (by simp; omega)
        have hgr : w.grownBy ((w.drew.setCells b (off + (k + 1)) ((strsV ss).drop k)).setCells b (off + k) [Value.string (strB x)]) (some b) :=
          ⟨f3.os.trans d3.os, f3.tape.trans d3.tape, f3.output.trans d3.output, Nat.le_trans d3.size f3.size, fun q hq hne => (f3.block q (by rw [d4]; exact hq) hne).trans (d3.block q hq hne)⟩
        refine inP _ c3 hgr (f4.trans d4) f1 (f2.trans d2) hroom (fun q hq => ?_)
        rw [hIa]
        by_cases hqk : q < k
        · rw [if_pos hqk, f5 _ (by simp; omega), d5 _ (by simp; omega), hssc q (by omega)]
        · rw [if_neg hqk]
          by_cases hqe : q = k
          · subst hqe
            rw [if_pos rfl]
            have := f6 0 (by simp)
            simpa using this
          · rw [if_neg hqe, f5 _ (by simp; omega)]
            have := d6 (q - k - 1) (by simp; omega)
            rw [show off + (k + 1) + (q - k - 1) = off + q by omega, List.getElem?_drop, show k + (q - k - 1) = q - 1 by omega] at this
            exact this
    · by_cases hkN : k = N
      · exact growE _ c' hkN (by omega) (by omega) (fun e => by cases e) (fun a e q y hy => by injection e with e; subst e; rw [addr_add]; exact hcs q y hy) (h.set i .dead) (S.kill i) rfl (Fr.set _ _ (by simp [idOf]))
      have hkl : k < N := by omega
      refine (Any2.slices_Insert_string_grow L b off N c' k (m.at_ j).blk (m.at_ j).base 1 c1 (strsV ss) [Value.string (strB x)] w hkl (by decide) (by omega) (by omega) (by omega) (by simp [hN]) rfl hcs hvs (strs_one ss) h1v).mono ?_
      rintro e W ⟨rfl, hW⟩
      obtain ⟨cap, hcap⟩ : ∃ cap, cap = grownCap w (N + 1) c' (ρ.t 9) := ⟨_, rfl⟩
      have hge : N + 1 ≤ cap := by rw [hcap]; exact grownCap_ge _ _ _ _
      have hge4 : cap ≤ 9223372036854775807 := by rw [hcap]; exact grownCap_le_maxLen _ _ _ _ (by simp only [maxLen]; omega)
      rw [← hcap] at hW ⊢
      have hone : (strsV (ss.take k)).all Value.oneCell' = true := List.all_eq_true.2 (strs_one _)
      obtain ⟨rest, hrest⟩ : ∃ rest, rest = (Builtin.zeroCells (Value.string ⟨#[]⟩).cells (N + 1 - k)).toList ++ (Builtin.zeroCells (Value.string ⟨#[]⟩).cells (cap - (N + 1))).toList := ⟨_, rfl⟩
      have hrl : rest.length = cap - k := by rw [hrest, List.length_append, Array.length_toList, Array.length_toList, hz1, hz1]; omega
      have S2 := push_row (S.kill i) (strs_VR m (ss.take k)) hone rest (ρ.t 9) 1 cap (by simp; omega) (by rw [hrl, strsV_length, List.length_take]; omega) (0, 0) (.inl rfl)
      have e1 : (((strsV ss).take k).toArray ++ Builtin.zeroCells (Value.string ⟨#[]⟩).cells (N + 1 - k) ++ Builtin.zeroCells (Value.string ⟨#[]⟩).cells (cap - (N + 1))) = (strsV (ss.take k) ++ rest).toArray := by
        apply Array.ext'
        rw [hrest]
        simp [strsV, List.map_take]
      rw [e1] at hW
      obtain ⟨W0, hW0⟩ : ∃ W0, W0 = w.alloc (.cells (strsV (ss.take k) ++ rest).toArray (ρ.t 9)) := ⟨_, rfl⟩
      rw [← hW0] at hW S2
      have hnb : W0.heap[w.heap.size]? = some (.cells (strsV (ss.take k) ++ rest).toArray (ρ.t 9) (0, 0)) := by rw [hW0]; exact heap_alloc_new' _ _
      have hsz0 : (strsV (ss.take k) ++ rest).toArray.size = cap := by simp [hrl]; omega
      obtain ⟨c2, d1, d2, d3, d4, d5, d6⟩ := setCells_own [Value.string (strB x)] k W0.drew _ hnb (by rw [hsz0]; simp; omega)
      obtain ⟨c3, f1, f2, f3, f4, f5, f6⟩ := setCells_own ((strsV ss).drop k) (k + 1) (W0.drew.setCells w.heap.size k [Value.string (strB x)]).drew c2 d1 (by rw [d2, hsz0]; simp; omega)
      rw [← hW] at f1 f3 f4
      have hgr : W0.grownBy W (some w.heap.size) :=
        ⟨f3.os.trans d3.os, f3.tape.trans d3.tape, f3.output.trans d3.output, Nat.le_trans d3.size f3.size, fun q hq hne => (f3.block q (by show q < (W0.drew.setCells _ _ _).heap.size; rw [d4]; exact hq) hne).trans (d3.block q hq hne)⟩
      have hcell : ∀ q, q < N + 1 → c3[q]? = (strsV (insS k x ss))[q]? := by
        intro q hq
        rw [hIa]
        by_cases hqk : q < k
        · rw [if_pos hqk, f5 _ (by simp; omega), d5 _ (by simp; omega)]
          rw [List.getElem?_toArray, List.getElem?_append_left (by simp; omega)]
          simp [strsV, hqk]
        · rw [if_neg hqk]
          by_cases hqe : q = k
          · subst hqe
            rw [if_pos rfl, f5 _ (by simp; omega)]
            have := d6 0 (by simp)
            simpa using this
          · rw [if_neg hqe]
            have := f6 (q - k - 1) (by simp; omega)
            rw [show k + 1 + (q - k - 1) = q by omega, List.getElem?_drop, show k + (q - k - 1) = q - 1 by omega] at this
            exact this
      have hmn : ((m.push ⟨w.heap.size, 0, cap, 1⟩).at_ m.n) = ⟨w.heap.size, 0, cap, 1⟩ := Mp.at_push_new _ _
      have hWs : w.heap.size < W.heap.size := (Array.getElem?_eq_some_iff.1 f1).1
      have S3 := S2.upd (i := m.n) (by simp) (by rw [S.n]; rw [show h.n = (h.set i .dead).n from rfl, VH.get_push_new]; rfl) (.cells (strsV (insS k x ss)) true 1) (by rw [hmn]; exact hgr) (by
        rw [hmn]
        refine ⟨rfl, by rw [strsV_length, hIl]; exact hge, fun _ => hWs, fun q y hy => ?_, fun _ => ⟨c3, ρ.t 9, (0, 0), f1, by rw [f2, d2, hsz0]; simp, .inl rfl⟩⟩
        have hq : q < N + 1 := by
          have := (List.getElem?_eq_some_iff.1 hy).1
          rw [strsV_length, hIl] at this
          exact this
        refine ⟨y, ?_, (strs_VR _ (insS k x ss)).2 q y y hy hy, strs_one _ _ (List.mem_of_getElem? hy)⟩
        simp only [World.cell?, f1, Nat.zero_add]
        simp only [hcell q hq, hy]
        simp)
      refine ⟨m.push ⟨w.heap.size, 0, cap, 1⟩, .slice (some ⟨h.n, 0, none⟩) (N + 1) (N + 1), _, _, rfl, ⟨?_, ?_, ?_⟩, m.push_le _, S3, ?_⟩
      · exact .inr ⟨h.n, 0, N + 1, strsV (insS k x ss), by simp, Nat.le_refl _, rfl, by rw [S.n, VH.get_set_same], rfl, by rw [strsV_length, hIl]; omega, Nat.zero_le _⟩
      · refine ((Fr.set h .dead (X := [i]) (List.mem_singleton.2 rfl)).trans (Fr.push _ _ _)).trans' (Fr.set _ _ (X := [m.n]) (by simp)) (fun y hy => .inr ?_)
        simp at hy
        rw [hy, S.n]
        exact Nat.le_refl _
      · intro q hq
        simp [idOf] at hq
        omega
      · have := VR.sl (m := m.push ⟨w.heap.size, 0, cap, 1⟩) (i := m.n) (o := 0) (n := N + 1) (c := N + 1) (c' := cap) (by simp) (Nat.le_refl _) hge (by rw [Mp.at_push_new]; simp) hge4
        rw [Mp.at_push_new] at this
        rw [← S.n]
        exact this
  | [], ha => exact absurd ha.1 (by simp)
  | [_], ha => exact absurd ha.1 (by simp)
  | [_, _], ha => exact absurd ha.1 (by simp)
  | _ :: _ :: _ :: _ :: _, ha => exact absurd ha.1 (by simp)
end Go.Proofs.Ytoenamablkkocaa.Pm
