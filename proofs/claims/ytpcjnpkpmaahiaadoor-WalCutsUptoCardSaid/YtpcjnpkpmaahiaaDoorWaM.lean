/- wal, part M: WalCuts. -/
import Derived.Test.YtpcjnpkpmaahiaaDoorWaL
set_option linter.unusedVariables false
set_option linter.unusedSimpArgs false
set_option maxRecDepth 100000
namespace Go.Proofs.YtpcjnpkpmaahiaaDoor.Wa
open Go Go.RowKit Go.Proofs.YtpcjnpkpmaahiaaDoor.Pm Go.Proofs.YtpcjnpkpmaahiaaDoor.Fs Go.Proofs.YtpcjnpkpmaahiaaDoor.Dk
attribute [-simp] BitVec.toNat_or BitVec.toNat_xor BitVec.toNat_add BitVec.toNat_and BitVec.toNat_not BitVec.toNat_shiftLeft BitVec.toNat_ushiftRight

theorem frames_append : ∀ (l : List (List UInt8)) (q : Nat) (m : List (List UInt8)), framesS q (l ++ m) = framesS q l ++ framesS (q + l.length) m
  | [], q, m => by simp [framesS]
  | b :: l, q, m => by
    have := frames_append l (q + 1) m
    simp only [List.cons_append, framesS, this, List.append_assoc, List.length_cons]
    rw [show q + 1 + l.length = q + (l.length + 1) by omega]
theorem frames_snoc (q : Nat) (l : List (List UInt8)) (b : List UInt8) : framesS q (l ++ [b]) = framesS q l ++ frameS (q + l.length) b := by
  rw [frames_append]; simp [framesS]
/-- where the frames end. -/
def endL (q : Nat) (bs : List (List UInt8)) : List Nat := (List.range bs.length).map fun k => (framesS q (bs.take (k + 1))).length
theorem endL_len (q : Nat) (bs : List (List UInt8)) : (endL q bs).length = bs.length := by simp [endL]
theorem endL_snoc (q : Nat) (bs : List (List UInt8)) (b : List UInt8) : endL q (bs ++ [b]) = endL q bs ++ [(framesS q (bs ++ [b])).length] := by
  unfold endL
  rw [List.length_append, List.length_singleton, List.range_succ, List.map_append]
  congr 1
  · apply List.map_congr_left
    intro k hk
    rw [List.mem_range] at hk
    rw [List.take_append_of_le_length (by omega)]
  · simp [List.take_of_length_le]
theorem endL_at (q : Nat) (bs : List (List UInt8)) {w : Nat} (hw : w < bs.length) : (endL q bs)[w]'(by rw [endL_len]; exact hw) = (framesS q (bs.take (w + 1))).length := by simp [endL]
theorem cuts_plain {q : Nat} {bs : List (List UInt8)} {n w : Nat} (h1 : 1 ≤ q) (h2 : q + bs.length ≤ 18446744073709551616) (hb : ∀ b ∈ bs, b.length ≤ 65536) (hw : w ≤ bs.length) (hn : n ≤ (framesS q bs).length) (ha : (framesS q (bs.take w)).length ≤ n) (hc : ∀ (h : w < bs.length), n < (framesS q (bs.take (w + 1))).length) :
    goodS ((framesS q bs).take n) = (numS q (bs.take w), (framesS q (bs.take w)).length) := by
  have e : framesS q bs = framesS q (bs.take w) ++ framesS (q + w) (bs.drop w) := by
    have := frames_append (bs.take w) q (bs.drop w)
    rw [List.take_append_drop, List.length_take, Nat.min_eq_left hw] at this
    exact this
  obtain ⟨m, hm⟩ : ∃ m, n = (framesS q (bs.take w)).length + m := ⟨n - (framesS q (bs.take w)).length, by omega⟩
  rw [e, hm, List.take_length_add_append]
  refine good_frames h1 (by rw [List.length_take]; omega) (fun b hbm => hb b (List.mem_of_mem_take hbm)) ?_
  by_cases hlt : w < bs.length
  · have h3 := hc hlt
    rw [List.take_succ_eq_append_getElem hlt, frames_snoc, List.length_append, List.length_take, Nat.min_eq_left hw] at h3
    rw [List.drop_eq_getElem_cons hlt]
    simp only [framesS]
    rw [List.take_append_of_le_length (by omega)]
    exact cut_short (by omega) (by omega) (hb _ (List.getElem_mem _)) (by omega)
  · rw [List.drop_eq_nil_of_le (by omega)]
    simp only [framesS, List.take_nil]
    exact cut_nil
theorem rows_take {h : VH} {a : Option Addr} {n c : Nat} {l : List (List Value)} {w : Nat} (k : RowsAt h 1 (.slice a n c) l) (hw : w ≤ l.length) : RowsAt h 1 (.slice a w c) (l.take w) := by
  obtain ⟨a', c', e, hr⟩ := k
  injection e with e1 e2 e3
  subst e1; subst e3
  have hl : (l.take w).length = w := by rw [List.length_take]; omega
  refine ⟨a, c, by rw [hl], fun h0 => ?_⟩
  obtain ⟨i, o, cs, ow, h1, h2, h3, h4, h5⟩ := hr (by omega)
  refine ⟨i, o, cs, ow, h1, h2, by omega, h4, fun k hk => ?_⟩
  obtain ⟨h6, h7⟩ := h5 k (by omega)
  exact ⟨h6, by rw [h7]; simp⟩
abbrev Sl := List UInt8 × Value
structure CuB (h g : VH) (q : Nat) (ins : List Sl) (bv ev iv : Value) : Prop where
  b : BufP h g bv (framesS q (ins.map (·.1)))
  e : OwnSl g 1 ev ((endL q (ins.map (·.1))).map fun n : Nat => Value.int .i64 (n : Int)) ins.length
  i : OwnSl g 1 iv (ins.map (·.2)) ins.length
  en : ∀ x ∈ idOf ev, h.n ≤ x
  in_ : ∀ x ∈ idOf iv, h.n ≤ x
  be : ∀ x ∈ idOf bv, x ∉ idOf ev ∧ x ∉ idOf iv
  ei : ∀ x ∈ idOf ev, x ∉ idOf iv
theorem CuB.fr0 {h g g' : VH} {q : Nat} {ins : List Sl} {bv ev iv : Value} (k : CuB h g q ins bv ev iv) (F : Fr g g' []) : CuB h g' q ins bv ev iv :=
  ⟨k.b.step F, k.e.fr F (fun _ _ => by simp), k.i.fr F (fun _ _ => by simp), k.en, k.in_, k.be, k.ei⟩
theorem CuB.add {h g1 : VH} {q : Nat} {ins : List Sl} {bv ev iv : Value} (K : CuB h g1 q ins bv ev iv) {x : Sl} {NB : Nat} (hNB : NB = (framesS q ((ins ++ [x]).map (·.1))).length) (hb : NB ≤ 100000000) (hl : ins.length ≤ 1000) :
    ∃ bv' g2, appendV g1 1 1 bv (u8s (frameS (q + ins.length) x.1)) (frameS (q + ins.length) x.1).length = some (bv', g2) ∧ (∃ a c, bv' = .slice a NB c) ∧
      ∃ ev' g4, appendV (g2.push (.cells [.int .i64 (NB : Int)] true 1)) 1 8 ev [.int .i64 (NB : Int)] 1 = some (ev', g4) ∧ Fr h g4 [] ∧
      ∃ iv' g6, appendV (g4.push (.cells [x.2] true 1)) 1 24 iv [x.2] 1 = some (iv', g6) ∧ CuB h g6 q (ins ++ [x]) bv' ev' iv' := by
  have hfs : framesS q ((ins ++ [x]).map (·.1)) = framesS q (ins.map (·.1)) ++ frameS (q + ins.length) x.1 := by
    rw [List.map_append, List.map_cons, List.map_nil, frames_snoc, List.length_map]
  have hfl := congrArg List.length hfs
  rw [List.length_append, ← hNB] at hfl
  have hn := K.b.fr.n
  obtain ⟨bv', g2, hap, ho, hf, hid⟩ := K.b.own.append (bytes := 1) (ys := u8s (frameS (q + ins.length) x.1)) (k := (frameS (q + ins.length) x.1).length) (by simp) (by omega)
  rw [← u8s_append, ← hfs, ← List.length_append, ← hfs] at ho
  obtain ⟨ba, bc, hbs⟩ := ho.shape
  have hn2 := hf.n
  have e2 := K.e.fr hf (fun j hj hjb => (K.be j hjb).1 hj)
  have i2 := K.i.fr hf (fun j hj hjb => (K.be j hjb).2 hj)
  have bne : ∀ j ∈ idOf bv', j ∉ idOf ev ∧ j ∉ idOf iv := fun j hj => by
    rcases hid j hj with h1 | h1
    · exact K.be j h1
    · exact ⟨fun h => by have := K.e.lt j h; omega, fun h => by have := K.i.lt j h; omega⟩
  refine ⟨bv', g2, hap, ⟨ba, bc, by rw [hNB]; exact hbs⟩, ?_⟩
  obtain ⟨g3, hg3⟩ : ∃ g3, g3 = g2.push (.cells [.int .i64 (NB : Int)] true 1) := ⟨_, rfl⟩
  have F3 : Fr g2 g3 [] := by rw [hg3]; exact Fr_push (Fr.refl _ _)
  have n3 := F3.n
  rw [← hg3]
  have e3 := e2.fr F3 (fun _ _ => by simp)
  obtain ⟨ev', g4, hape, hoe, hfe, hide⟩ := e3.append (bytes := 8) (ys := [.int .i64 (NB : Int)]) (k := 1) rfl (by omega)
  have n4 := hfe.n
  have F1b : Fr h g2 [] := K.b.fr.trans' hf (fun y hy => .inr (K.b.ids y hy))
  have F4 : Fr h g4 [] := (F1b.trans F3).trans' hfe (fun y hy => .inr (K.en y hy))
  refine ⟨ev', g4, hape, F4, ?_⟩
  have i4 := (i2.fr F3 (fun _ _ => by simp)).fr hfe (fun j hj hje => K.ei j hje hj)
  have b4 := (ho.fr F3 (fun _ _ => by simp)).fr hfe (fun j hj hje => (bne j hj).1 hje)
  obtain ⟨g5, hg5⟩ : ∃ g5, g5 = g4.push (.cells [x.2] true 1) := ⟨_, rfl⟩
  have F5 : Fr g4 g5 [] := by rw [hg5]; exact Fr_push (Fr.refl _ _)
  have n5 := F5.n
  rw [← hg5]
  have i5 := i4.fr F5 (fun _ _ => by simp)
  obtain ⟨iv', g6, hapi, hoi, hfi, hidi⟩ := i5.append (bytes := 24) (ys := [x.2]) (k := 1) rfl (by omega)
  have n6 := hfi.n
  have elt := hoe.lt
  have blt := ho.lt
  have ene : ∀ j ∈ idOf ev', j ∉ idOf iv := fun j hj => by
    rcases hide j hj with h1 | h1
    · exact K.ei j h1
    · exact fun h => by have := K.i.lt j h; omega
  refine ⟨iv', g6, hapi, ⟨⟨(b4.fr F5 (fun _ _ => by simp)).fr hfi (fun j hj hji => (bne j hj).2 hji), (F4.trans F5).trans' hfi (fun y hy => .inr (K.in_ y hy)), fun j hj => ?_⟩, ?_, ?_, fun j hj => ?_, fun j hj => ?_, fun j hj => ?_, fun j hj => ?_⟩⟩
  · rcases hid j hj with h1 | h1
    · exact K.b.ids j h1
    · omega
  · rw [List.map_append, List.map_cons, List.map_nil, endL_snoc, List.map_append, List.length_append]
    have := (hoe.fr F5 (fun _ _ => by simp)).fr hfi (fun j hj hji => ene j hj hji)
    rw [hNB] at this
    simpa using this
  · rw [List.map_append, List.length_append]; exact hoi
  · rcases hide j hj with h1 | h1
    · exact K.en j h1
    · omega
  · rcases hidi j hj with h1 | h1
    · exact K.in_ j h1
    · omega
  · refine ⟨fun h => ?_, fun h => ?_⟩
    · rcases hide j h with h1 | h1
      · exact (bne j hj).1 h1
      · have := blt j hj; omega
    · rcases hidi j h with h1 | h1
      · exact (bne j hj).2 h1
      · have := blt j hj; omega
  · intro h
    rcases hidi j h with h1 | h1
    · exact ene j hj h1
    · have := elt j hj; omega
def CuJ (h : VH) (q : Nat) (l0 : List Sl) (vl : Value) (cut : Int) (n : Nat) (s : Slots) (g : VH) : Prop := ∃ ins bv ev iv, CuB h g q ins bv ev iv ∧ ins.length ≤ n ∧ (∀ x ∈ ins, x ∈ l0 ∧ x.1.length ≤ 65536) ∧ (∃ a k c, bv = .slice a k c) ∧
  s 0 = .int .u64 (q : Int) ∧ s 1 = vl ∧ s 2 = .int .i64 cut ∧ s 7 = bv ∧ s 8 = ev ∧ s 9 = iv ∧ s 10 = .int .i64 (n : Int)
theorem frames_bound : ∀ (bs : List (List UInt8)) (q : Nat), q + bs.length < 18446744073709551616 → (∀ b ∈ bs, b.length ≤ 65536) → (framesS q bs).length ≤ bs.length * 70000
  | [], q, _, _ => by simp [framesS]
  | b :: bs, q, h1, h2 => by
    simp only [List.length_cons] at h1
    have ih := frames_bound bs (q + 1) (by omega) (fun x hx => h2 x (List.mem_cons_of_mem _ hx))
    have h3 := frame_len q b
    have h4 := varint_len10 (n := q) (by omega)
    have h5 := h2 b (List.mem_cons_self ..)
    have h6 := varint_len10 (n := b.length) (by omega)
    simp only [framesS, List.length_append, List.length_cons, Nat.succ_mul]
    omega
set_option maxHeartbeats 16000000 in
theorem walcuts_ok' {h : VH} {vl : Value} {l0 : List Sl} {q0 : Nat} {cut : Int} (G : GOK h) (hl : SlsAt h vl l0) (hq0 : q0 < 18446744073709551616) (hcut : -9223372036854775808 ≤ cut ∧ cut < 9223372036854775808) (l1 : l0.length ≤ 1048576) (l2 : ∀ x ∈ l0, x.1.length ≤ 1048576) :
    PCalls Tryd.prog f_law07_WalCuts [.int .u64 (q0 : Int), vl, .int .i64 cut] h (fun u _ => u = .bool true) := by
  refine PCalls_of_pw st_law07_WalCuts (by simp [n_law07_WalCuts]) ?_
  rw [b_law07_WalCuts]
  unfold B_law07_WalCuts
  generalize hTL : PC.seq (PC.ops (gI 7 _ :: _)) _ = TL
  have hTL' := hTL
  obtain ⟨la, lc, hvl⟩ := hl.shape
  obtain ⟨L, hL⟩ : ∃ L, L = l0.length := ⟨_, rfl⟩
  rw [← hL] at hvl
  have main : ∀ (s0' : Slots) (q : Nat), 1 ≤ q → q ≤ 1152921504606846976 → s0' 0 = .int .u64 (q : Int) → s0' 1 = vl → s0' 2 = .int .i64 cut → pw Tryd.prog TL s0' h (F_law07_WalCuts.ret fun u _ => u = .bool true) := by
    intro s0' q q1 q2 f0 f1 f2
    rw [← hTL]
    generalize hTM : PC.seq (PC.ops (gM 66 2 :: _)) _ = TM
    -- the rest, behind the frames
    have tail : ∀ (s' : Slots) (g : VH) (n : Nat), CuJ h q l0 vl cut n s' g → n ≤ 20 → pw Tryd.prog TM s' g (F_law07_WalCuts.ret fun u _ => u = .bool true) := by
      rintro s' g n ⟨ins, bv, ev, iv, K, hin, hins, _, e0, e1, e2, e7, e8, e9, e10⟩ hn20
      rw [← hTM]
      generalize hTF : PC.seq (PC.ops (gM 90 7 :: _)) _ = TF
      obtain ⟨bs, hbs⟩ : ∃ bs, bs = ins.map (·.1) := ⟨_, rfl⟩
      obtain ⟨k, hk⟩ : ∃ k, k = ins.length := ⟨_, rfl⟩
      have hbk : bs.length = k := by rw [hbs, hk]; simp
      have hb65 : ∀ b ∈ bs, b.length ≤ 65536 := fun b hb => by
        rw [hbs] at hb
        obtain ⟨y, hy, rfl⟩ := List.mem_map.1 hb
        exact (hins y hy).2
      have hfb := frames_bound bs q (by omega) hb65
      obtain ⟨NB, hNB⟩ : ∃ NB, NB = (framesS q bs).length := ⟨_, rfl⟩
      have Kb := K.b
      have Ke := K.e
      have Ki := K.i
      rw [← hbs] at Kb Ke
      rw [← hk] at Ke Ki
      obtain ⟨ba, bc, hbv'⟩ := Kb.shape
      rw [← hNB] at hbv'
      obtain ⟨ea, ec, hev⟩ := Ke.shapeN
      obtain ⟨ia, ic, hiv⟩ := Ki.shapeN
      rw [hbv'] at e7
      rw [hev] at e8
      rw [hiv] at e9
      have eN : IntKind.i64.wrap ((NB : Int) + 1) = (NB : Int) + 1 := i64_small (by omega) (by omega)
      simp (disch := first|omega|(simp only [np,ns];try omega)) [e2, e7, eN]
      refine (count_ok hcut (by omega)).mono ?_
      rintro u g1 ⟨kk, hkk, rfl, hg1⟩
      rw [hg1]
      have hkN : kk ≤ NB := by omega
      -- behind the count
      have fin : ∀ (s' : Slots) (w : Nat), w ≤ k → (framesS q (bs.take w)).length ≤ kk → (∀ h : w < bs.length, kk < (framesS q (bs.take (w + 1))).length) → s' 0 = .int .u64 (q : Int) → s' 7 = .slice ba NB bc → s' 9 = .slice ia k ic → s' 13 = .int .i64 (kk : Int) → s' 14 = .int .i64 (w : Int) → s' 15 = .int .i64 ((framesS q (bs.take w)).length : Int) →
          pw Tryd.prog TF s' g (F_law07_WalCuts.ret fun u _ => u = .bool true) := by
        intro s' w hw ha hc f0 f7 f9 f13 f14 f15
        rw [← hTF]
        have hgood := cuts_plain (n := kk) (w := w) q1 (by omega) hb65 (by omega) (by omega) ha hc
        generalize hTG : PC.seq (PC.ops (gI 19 _ :: _)) _ = TG
        obtain ⟨W, hW⟩ : ∃ W, W = (framesS q (bs.take w)).length := ⟨_, rfl⟩
        rw [← hW] at f15 hgood
        have rest : ∀ (s2 : Slots) (g7 : VH) (ov3 : Value) (l3 : List Nm), OutO g g7 ov3 l3 → l3.map (·.1) = numS q (bs.take w) → s2 0 = .int .u64 (q : Int) → s2 9 = .slice ia k ic → s2 14 = .int .i64 (w : Int) → s2 15 = .int .i64 (W : Int) → s2 16 = ov3 → s2 17 = .int .u64 (lastS (numS q (bs.take w)) : Int) → s2 18 = .int .i64 (W : Int) →
            pw Tryd.prog TG s2 g7 (F_law07_WalCuts.ret fun u _ => u = .bool true) := by
          intro s2 g7 ov3 l3 O3 h3 a0 a9 a14 a15 a16 a17 a18
          rw [← hTG]
          have F07 : Fr h g7 [] := K.b.fr.trans O3.fr
          have G7 : GOK g7 := gok_fr G F07
          have Ki7 := Ki.fr O3.fr (fun _ _ => by simp)
          have hrow := own_rows Ki7
          rw [hiv] at hrow
          have hrw := rows_take (w := w) hrow (by simp; omega)
          have hS : SlsAt g7 (.slice ia w ic) (ins.take w) := by
            refine ⟨?_, fun x hx => (hl.byt x (hins x (List.mem_of_mem_take hx)).1).fr F07 (fun _ _ => by simp)⟩
            rw [List.map_map, ← List.map_take] at hrw
            exact hrw
          have hdec : (List.map (·.1) (l3.map fun x => (x.1.2, x.2))) = List.map (·.1) (ins.take w) := by
            have h1 : List.map (·.1) (l3.map fun x => (x.1.2, x.2)) = ((l3.map (·.1)).map (·.2)) := by simp
            rw [h1, h3, numS_what, hbs, List.map_take]
          have hl3 : l3.length ≤ 20 := by
            have := congrArg List.length h3
            rw [List.length_map, numS_length, List.length_take] at this
            omega
          obtain ⟨V, hV⟩ : ∃ V, V = lastS (numS q (bs.take w)) := ⟨_, rfl⟩
          rw [← hV] at a17
          have same3 := same_ok O3.sls hS (by simp; omega) (by rw [List.length_take]; omega)
          have ew : IntKind.u64.wrap (w : Int) = (w : Int) := u64_small (by omega) (by omega)
          have eqw : IntKind.u64.wrap ((q : Int) + (w : Int)) = (q : Int) + (w : Int) := u64_small (by omega) (by omega)
          by_cases hw0 : w = 0
          · have hwI : ¬ (0 : Int) < (w : Int) := by omega
            have hwN : ¬ 0 < w := by omega
            have hV0 : V = 0 := by rw [hV, hw0]; rfl
            have hVI : (V : Int) = 0 := by omega
            rcases Ki7 with ⟨h1, h2, h4⟩ | ⟨i, o, c, ds, h1, h2, h4, h5, h6, h7, h8⟩
            · rw [hiv] at h1
              injection h1 with h1 h5 h6
              subst h1
              subst h6
              rw [h5] at a9
              rw [hw0] at a14
              rw [hw0] at same3
              simp (disch := first|omega|(simp only [np,ns];try omega)) [a0, a9, a14, a16]
              refine same3.mono ?_
              rintro u g8 ⟨rfl, hg8⟩
              rw [hw0] at hdec
              rw [hg8, decide_eq_true hdec]
              simp (disch := first|omega|(simp only [np,ns];try omega)) [a15, a17, a18, hVI]
              refine (known_ok G7).mono ?_
              rintro u g9 ⟨rfl, hg9⟩
              simp (disch := first|omega|(simp only [np,ns];try omega)) [r_law07_WalCuts]
            · rw [hiv] at h4
              injection h4 with h4 _ h9
              subst h4
              subst h9
              have hez : eszObj (g7.get i) 1 = true := by rw [h5]; rfl
              rw [hw0] at a14 same3 hdec
              simp (disch := first|omega|(simp only [np,ns];try omega)) [a0, a9, a14, a16, hez]
              refine same3.mono ?_
              rintro u g8 ⟨rfl, hg8⟩
              rw [hg8, decide_eq_true hdec]
              simp (disch := first|omega|(simp only [np,ns];try omega)) [a15, a17, a18, hVI]
              refine (known_ok G7).mono ?_
              rintro u g9 ⟨rfl, hg9⟩
              simp (disch := first|omega|(simp only [np,ns];try omega)) [r_law07_WalCuts]
          · have hwI : (0 : Int) < (w : Int) := by omega
            have hwN : 0 < w := by omega
            have hVw : V = q + w - 1 := by
              have hne : bs.take w ≠ [] := fun h => by
                have := congrArg List.length h
                rw [List.length_take, List.length_nil] at this
                omega
              have := numS_last q (bs.take w) hne
              rw [hV]
              unfold lastS
              rw [this, List.length_take, Nat.min_eq_left (by omega)]
              rfl
            have eV : IntKind.u64.wrap ((q : Int) + (w : Int) - 1) = (V : Int) := by rw [u64_small (by omega) (by omega)]; omega
            rcases Ki7 with ⟨h1, h2, h4⟩ | ⟨i, o, c, ds, h1, h2, h4, h5, h6, h7, h8⟩
            · omega
            · rw [hiv] at h4
              injection h4 with h4 _ h9
              subst h4
              subst h9
              have hez : eszObj (g7.get i) 1 = true := by rw [h5]; rfl
              have hwc : w ≤ ic := by omega
              simp (disch := first|omega|(simp only [np,ns];try omega)) [a0, a9, a14, a16, hwI, hwN, ew, eqw, eV, hez, hwc]
              refine same3.mono ?_
              rintro u g8 ⟨rfl, hg8⟩
              rw [hg8, decide_eq_true hdec]
              simp (disch := first|omega|(simp only [np,ns];try omega)) [a15, a17, a18]
              refine (known_ok G7).mono ?_
              rintro u g9 ⟨rfl, hg9⟩
              simp (disch := first|omega|(simp only [np,ns];try omega)) [r_law07_WalCuts]
        have go : ∀ (u : Value) (g7 : VH), FramesP g ((framesS q bs).take kk) u g7 → ∃ ov3 l3, u = .tuple #[ov3, .int .u64 (lastS (numS q (bs.take w)) : Int), .int .i64 (W : Int)] ∧ OutO g g7 ov3 l3 ∧ l3.map (·.1) = numS q (bs.take w) := by
          rintro u g7 ⟨ov3, l3, rfl, _, h3, O3⟩
          rw [hgood] at h3 ⊢
          exact ⟨ov3, l3, rfl, O3, h3⟩
        rw [hbv'] at Kb
        have hbb := Kb.is
        have hlen : ((framesS q bs).take kk).length ≤ 100000000 := by rw [List.length_take]; omega
        rcases hbb.cases with ⟨h1, h2⟩ | ⟨i, o, c, h1, h2, h3, h4⟩
        · injection h1 with h1 h5 h6
          have hk0 : kk = 0 := by rw [h2] at hNB; simp at hNB; omega
          have hkI : (kk : Int) = 0 := by omega
          have hb0 : IsBytes g (.slice none 0 0) ((framesS q bs).take kk) := .inl ⟨rfl, by rw [h2]; simp⟩
          subst h1
          subst h6
          rw [h5] at f7
          simp (disch := first|omega|(simp only [np,ns];try omega)) [f7, f13, hkI]
          refine (frames_ok hb0 hlen).mono ?_
          intro u g7 hP
          obtain ⟨ov3, l3, rfl, O3, h3⟩ := go u g7 hP
          simp (disch := first|omega|(simp only [np,ns];try omega)) []
          exact rest _ g7 ov3 l3 O3 h3 (by simp [upd_apply, f0]) (by simp [upd_apply, f9]) (by simp [upd_apply, f14]) (by simp [upd_apply, f15]) (by simp [upd_apply]) (by simp [upd_apply]) (by simp [upd_apply])
        · injection h3 with h5 h6 h7
          subst h5
          subst h7
          have hez := h4.esz
          have hkc : kk ≤ bc := by omega
          have hsb : IsBytes g (.slice (some ⟨i, o, none⟩) kk bc) ((framesS q bs).take kk) := by
            have := isB_sub (a := 0) (n := kk) (c := bc) h1 h4 (by omega) (by omega)
            simpa using this
          simp (disch := first|omega|(simp only [np,ns];try omega)) [f7, f13, hez, hkc]
          refine (frames_ok hsb hlen).mono ?_
          intro u g7 hP
          obtain ⟨ov3, l3, rfl, O3, h3⟩ := go u g7 hP
          simp (disch := first|omega|(simp only [np,ns];try omega)) []
          exact rest _ g7 ov3 l3 O3 h3 (by simp [upd_apply, f0]) (by simp [upd_apply, f9]) (by simp [upd_apply, f14]) (by simp [upd_apply, f15]) (by simp [upd_apply]) (by simp [upd_apply]) (by simp [upd_apply])
      refine pw_loopN (fun w s g' => g' = g ∧ (framesS q (bs.take w)).length ≤ kk ∧ s 0 = .int .u64 (q : Int) ∧ s 7 = .slice ba NB bc ∧ s 8 = .slice ea k ec ∧ s 9 = .slice ia k ic ∧ s 13 = .int .i64 (kk : Int) ∧ s 14 = .int .i64 (w : Int) ∧ s 15 = .int .i64 ((framesS q (bs.take w)).length : Int)) k ?_ ?_
      · exact ⟨rfl, by simp [framesS], by simp [upd_apply, e0], by simp [upd_apply, e7], by simp [upd_apply, e8], by simp [upd_apply, e9], by simp [upd_apply], by simp [upd_apply], by simp [upd_apply, framesS]⟩
      rintro w s g' hw ⟨hg', ha, f0, f7, f8, f9, f13, f14, f15⟩
      rw [hg']
      by_cases hlt : w < k
      case neg =>
        have hltI : ¬ (w : Int) < (k : Int) := by omega
        simp (disch := first|omega|(simp only [np,ns];try omega)) [f8, f14, hlt, hltI]
        exact fin _ w hw ha (fun h => by omega) (by simp [upd_apply, f0]) (by simp [upd_apply, f7]) (by simp [upd_apply, f9]) (by simp [upd_apply, f13]) (by simp [upd_apply, f14]) (by simp [upd_apply, f15])
      have hltI : (w : Int) < (k : Int) := by omega
      have hrow := own_rows Ke
      rw [hev] at hrow
      obtain ⟨ri, ro, hra, _, hez, _, hld⟩ := hrow.at_ (k := w) (by simp [endL_len]; omega)
      subst hra
      obtain ⟨EW, hEW⟩ : ∃ EW, EW = (framesS q (bs.take (w + 1))).length := ⟨_, rfl⟩
      have hld := hld (.int .i64 (EW : Int)) (by simp only [List.getElem_map]; rw [endL_at q bs (by omega), hEW])
      rw [Nat.mul_one] at hld
      by_cases hle : EW ≤ kk
      · have hleI : (EW : Int) ≤ (kk : Int) := by omega
        have eW : IntKind.i64.wrap ((w : Int) + 1) = ((w + 1 : Nat) : Int) := by rw [i64_small (by omega) (by omega)]; omega
        simp (disch := first|omega|(simp only [np,ns];try omega)) [f8, f13, f14, hlt, hltI, hez, hld, hle, hleI, eW]
        rw [← hEW]
        simp [upd_apply, f0, f7, f8, f9, f13, hle]
      · have hleI : ¬ (EW : Int) ≤ (kk : Int) := by omega
        simp (disch := first|omega|(simp only [np,ns];try omega)) [f8, f13, f14, hlt, hltI, hez, hld, hle, hleI]
        exact fin _ w hw ha (fun h => by omega) (by simp [upd_apply, f0]) (by simp [upd_apply, f7]) (by simp [upd_apply, f9]) (by simp [upd_apply, f13]) (by simp [upd_apply, f14]) (by simp [upd_apply, f15])
    simp (disch := first|omega|(simp only [np,ns];try omega)) []
    refine pw_loopN (CuJ h q l0 vl cut) (min 20 L) ?_ ?_
    · refine ⟨[], .slice none 0 0, .slice none 0 0, .slice none 0 0, ⟨bufP_nil h, OwnSl.nil _ _, OwnSl.nil _ _, by simp [idOf], by simp [idOf], by simp [idOf], by simp [idOf]⟩, Nat.le_refl _, by simp, ⟨_, _, _, rfl⟩, by simp [upd_apply, f0], by simp [upd_apply, f1], by simp [upd_apply, f2], by simp [upd_apply], by simp [upd_apply], by simp [upd_apply], by simp [upd_apply]⟩
    rintro n s g hn ⟨ins, bv, ev, iv, K, hin, hins, ⟨ba, bk, bc, hbv⟩, e0, e1, e2, e7, e8, e9, e10⟩
    have hJ : ∀ s' : Slots, s' 0 = .int .u64 (q : Int) → s' 1 = vl → s' 2 = .int .i64 cut → s' 7 = bv → s' 8 = ev → s' 9 = iv → s' 10 = .int .i64 (n : Int) → CuJ h q l0 vl cut n s' g := fun s' a0 a1 a2 a7 a8 a9 a10 => ⟨ins, bv, ev, iv, K, hin, hins, ⟨ba, bk, bc, hbv⟩, a0, a1, a2, a7, a8, a9, a10⟩
    rw [hvl] at e1
    by_cases hlt : n < L ∧ n < 20
    case neg =>
      by_cases hL2 : n < L
      · have h20 : ¬ n < 20 := fun h => hlt ⟨hL2, h⟩
        have hLI : (n : Int) < (L : Int) := by omega
        have h20I : ¬ (n : Int) < 20 := by omega
        simp (disch := first|omega|(simp only [np,ns];try omega)) [e1, e10, hL2, hLI, h20, h20I]
        exact tail _ g n (hJ _ (by simp [upd_apply, e0]) (by simp [upd_apply, e1, hvl]) (by simp [upd_apply, e2]) (by simp [upd_apply, e7]) (by simp [upd_apply, e8]) (by simp [upd_apply, e9]) (by simp [upd_apply, e10])) (by omega)
      · have hLI : ¬ (n : Int) < (L : Int) := by omega
        simp (disch := first|omega|(simp only [np,ns];try omega)) [e1, e10, hL2, hLI]
        exact tail _ g n (hJ _ (by simp [upd_apply, e0]) (by simp [upd_apply, e1, hvl]) (by simp [upd_apply, e2]) (by simp [upd_apply, e7]) (by simp [upd_apply, e8]) (by simp [upd_apply, e9]) (by simp [upd_apply, e10])) (by omega)
    obtain ⟨hL2, h20⟩ := hlt
    have hLI : (n : Int) < (L : Int) := by omega
    have h20I : (n : Int) < 20 := by omega
    have hlg : SlsAt g vl l0 := ⟨hl.rows.fr0 K.b.fr, fun x hx => (hl.byt x hx).fr K.b.fr (fun _ _ => by simp)⟩
    obtain ⟨vi, vo, hva, hvez, hvld, hvb⟩ := isB_elt hlg hvl (n := n) (by omega)
    subst hva
    obtain ⟨x, hx⟩ : ∃ x, x = l0[n]'(by omega) := ⟨_, rfl⟩
    rw [← hx] at hvld hvb
    have hxl : x ∈ l0 := by rw [hx]; exact List.getElem_mem _
    obtain ⟨k, hk⟩ : ∃ k, k = ins.length := ⟨_, rfl⟩
    obtain ⟨ia, ic, hiv⟩ := K.i.shapeN
    rw [← hk] at hiv hin
    obtain ⟨ea, ec, hev⟩ := K.e.shapeN
    rw [← hk] at hev
    rw [hiv] at e9
    rw [hev] at e8
    rw [hbv] at e7
    have ek : IntKind.u64.wrap (k : Int) = (k : Int) := u64_small (by omega) (by omega)
    have eqk : IntKind.u64.wrap ((q : Int) + (k : Int)) = ((q + k : Nat) : Int) := by rw [u64_small (by omega) (by omega)]; omega
    have eW : IntKind.i64.wrap ((n : Int) + 1) = ((n + 1 : Nat) : Int) := by rw [i64_small (by omega) (by omega)]; omega
    obtain ⟨QK, hQK⟩ : ∃ QK, QK = q + k := ⟨_, rfl⟩
    rw [← hQK] at eqk
    simp (disch := first|omega|(simp only [np,ns];try omega)) [e0, e1, e9, e10, hL2, hLI, h20, h20I, ek, eqk, hvez, hvld]
    refine (ff_ok hvb (q := QK) (by omega)).mono ?_
    rintro u g1 ⟨w, rfl, ⟨wa, wk', wc, hw⟩, B1⟩
    obtain ⟨E1, hE1⟩ : ∃ E1, E1 = (frS QK x.1).2 := ⟨_, rfl⟩
    rw [← hE1]
    have K1 := K.fr0 B1.fr
    by_cases z1 : E1 = 0
    case neg =>
      have z1I : ((E1 : Int) != 0) = true := by simpa using z1
      simp (disch := first|omega|(simp only [np,ns];try omega)) [z1, z1I, e10, eW]
      refine ⟨by omega, ins, bv, ev, iv, K1, by omega, hins, ⟨ba, bk, bc, hbv⟩, by simp [upd_apply, e0], by simp [upd_apply, e1, hvl], by simp [upd_apply, e2], by simp [upd_apply, e7, hbv], by simp [upd_apply, e8, hev], by simp [upd_apply, e9, hiv], by simp [upd_apply]⟩
    have z1I : ((E1 : Int) != 0) = false := by simpa using z1
    have hfr1 : x.1.length ≤ 65536 ∧ (frS QK x.1).1 = frameS QK x.1 := by
      rw [z1] at hE1
      unfold frS at hE1 ⊢
      by_cases a1 : QK = 0
      · rw [if_pos a1] at hE1; simp at hE1
      by_cases a2 : 65536 < x.1.length
      · rw [if_neg a1, if_pos a2] at hE1; simp at hE1
      exact ⟨by omega, by rw [if_neg a1, if_neg a2]⟩
    obtain ⟨hx65, hfr⟩ := hfr1
    rw [hfr] at B1
    have hsrc := B1.is.src
    obtain ⟨wa', wc', hw'⟩ := B1.shape
    obtain ⟨FL, hFL⟩ : ∃ FL, FL = (frameS QK x.1).length := ⟨_, rfl⟩
    rw [← hFL] at hw'
    rw [hw'] at hw
    injection hw with h1 h2 h3
    subst h1; subst h2; subst h3
    rw [hw'] at hsrc
    have hfb : (framesS q (ins.map (·.1))).length ≤ k * 70000 := by
      have := frames_bound (ins.map (·.1)) q (by simp; omega) (fun b hb => by
        obtain ⟨y, hy, rfl⟩ := List.mem_map.1 hb
        exact (hins y hy).2)
      simpa [← hk] using this
    have hfl := frame_len QK x.1
    have hv1 := varint_len10 (n := QK) (by omega)
    have hv2 := varint_len10 (n := x.1.length) (by omega)
    obtain ⟨NB, hNB⟩ : ∃ NB, NB = (framesS q ((ins ++ [x]).map (·.1))).length := ⟨_, rfl⟩
    have hNBb : NB ≤ 100000000 := by
      rw [hNB, List.map_append, List.map_cons, List.map_nil, frames_snoc, List.length_append, List.length_map, ← hk, ← hQK]
      omega
    obtain ⟨bv', g2, hap, ⟨ba', bc', hbv'⟩, ev', g4, hape, F4, iv', g6, hapi, K6⟩ := K1.add hNB hNBb (by omega)
    rw [← hk, ← hQK, ← hFL, hbv] at hap
    rw [hev] at hape
    rw [hiv] at hapi
    have hf1 : fillC [.int .i64 0] [(0, 1, .int .i64 (NB : Int))] = some [.int .i64 (NB : Int)] := rfl
    have ho1 : [Value.int .i64 (NB : Int)].all Value.oneCell' = true := rfl
    have hr1 : rowObj (.cells [Value.int .i64 (NB : Int)] true 1) 0 1 = some [.int .i64 (NB : Int)] := rfl
    obtain ⟨g3, hg3⟩ : ∃ g3, g3 = g2.push (.cells [.int .i64 (NB : Int)] true 1) := ⟨_, rfl⟩
    have x3 : g3.get g2.n = .cells [.int .i64 (NB : Int)] true 1 := by rw [hg3, VH.get_push_new]
    rw [← hg3] at hape
    have hlg4 : SlsAt g4 vl l0 := ⟨hl.rows.fr0 F4, fun x hx => (hl.byt x hx).fr F4 (fun _ _ => by simp)⟩
    obtain ⟨vi', vo', hva', hvez4, hvld4, _⟩ := isB_elt hlg4 hvl (n := n) (by omega)
    injection hva' with hva'
    injection hva' with hv1' hv2'
    subst hv1'
    subst hv2'
    rw [← hx] at hvld4
    obtain ⟨xa, xc, hxs⟩ := hvb.shape
    have hf2 : fillC [.slice none 0 0] [(0, 1, x.2)] = some [x.2] := by rw [hxs]; rfl
    have ho2 : [x.2].all Value.oneCell' = true := by rw [hxs]; rfl
    have hr2 : rowObj (.cells [x.2] true 1) 0 1 = some [x.2] := rfl
    obtain ⟨g5, hg5⟩ : ∃ g5, g5 = g4.push (.cells [x.2] true 1) := ⟨_, rfl⟩
    have x5 : g5.get g4.n = .cells [x.2] true 1 := by rw [hg5, VH.get_push_new]
    rw [← hg5] at hapi
    simp (disch := first|omega|(simp only [np,ns];try omega)) [z1, z1I, e1, e7, e8, e9, e10, hw', hsrc, hap, hbv', hf1, ho1, ← hg3, x3, hr1, hape, hL2, hLI, hvez4, hvld4, hf2, ho2, ← hg5, x5, hr2, hapi, eW]
    refine ⟨by omega, ins ++ [x], bv', ev', iv', K6, by simp; omega, fun y hy => ?_, ⟨_, _, _, hbv'⟩, by simp [upd_apply, e0], by simp [upd_apply, e1, hvl], by simp [upd_apply, e2], by simp [upd_apply, hbv'], by simp [upd_apply], by simp [upd_apply], by simp [upd_apply]⟩
    rcases List.mem_append.1 hy with hy | hy
    · exact hins y hy
    · rw [List.mem_singleton.1 hy]; exact ⟨hxl, hx65⟩
  by_cases hz : q0 = 0
  · have hzI : ((q0 : Int) == 0) = true := by simp [hz]
    simp (disch := first|omega|(simp only [np,ns];try omega)) [hz, hzI]
    exact main _ 1 (by omega) (by omega) (by simp [upd_apply]) (by simp [upd_apply, s0_apply]) (by simp [upd_apply, s0_apply])
  have hzI : ((q0 : Int) == 0) = false := by simpa using hz
  by_cases hbig : 1152921504606846976 < q0
  · have hbI : (1152921504606846976 : Int) < (q0 : Int) := by omega
    simp (disch := first|omega|(simp only [np,ns];try omega)) [hz, hzI, hbig, hbI]
    exact main _ 1 (by omega) (by omega) (by simp [upd_apply]) (by simp [upd_apply, s0_apply]) (by simp [upd_apply, s0_apply])
  have hbI : ¬ (1152921504606846976 : Int) < (q0 : Int) := by omega
  simp (disch := first|omega|(simp only [np,ns];try omega)) [hz, hzI, hbig, hbI]
  exact main _ q0 (by omega) (by omega) (by simp [upd_apply, s0_apply]) (by simp [upd_apply, s0_apply]) (by simp [upd_apply, s0_apply])
theorem walcuts_law {h : VH} {us : List Value} {k : Nat} (G : GOK h) (H : ShA h [.int .u64, .sl 1 (.sl 1 (.int .u8)), .int .i64] us k) (hk : k ≤ 1048576) :
    PCalls Tryd.prog f_law07_WalCuts us h (fun u h' => u = .bool true ∧ h' = h) := by
  obtain ⟨v0, r0, k0, k0', rfl, h0, ⟨v1, r1, k1, k1', rfl, h1, ⟨v2, r2, k2, k2', rfl, h2, ⟨rfl, _⟩, _⟩, _⟩, _⟩ := H
  obtain ⟨q, hq, hq64, _⟩ := Sh.u64 (h := h) h0
  injection hq with hq _
  subst hq
  obtain ⟨c, hc, hc1, hc2, _⟩ := Sh.i64 (h := h) h2
  injection hc with hc _
  subst hc
  obtain ⟨l, hl, hlb, hll⟩ := Sh.decoded (fun x : Sl => [x.2]) (fun x => IsBytes h x.2 x.1 ∧ x.1.length ≤ k1) (h := h) h1 (fun vs k' hs hk' => by
    have hs' : Sh h (.sl 1 (.int .u8)) vs k' := hs
    obtain ⟨v, rfl⟩ : ∃ v, vs = [v] := by
      rcases hs' with ⟨h1, _⟩ | ⟨_, _, _, _, _, _, h1, _⟩
      · exact ⟨_, h1⟩
      · exact ⟨_, h1⟩
    obtain ⟨bs, hb, hbl⟩ := Sh.bytes hs'
    exact ⟨(bs, v), rfl, ⟨hb, by show bs.length ≤ k1; omega⟩, by omega⟩)
  have hS : SlsAt h v1 l := ⟨hl, fun x hx => (hlb x hx).1⟩
  exact ((walcuts_ok' (h := h.ro) G.ro hS.ro hq64 ⟨hc1, hc2⟩ (by omega) (fun x hx => by have := (hlb x hx).2; omega)).mono fun u _ e => by subst e; exact ⟨rfl, rfl⟩).drop
end Go.Proofs.YtpcjnpkpmaahiaaDoor.Wa
