/- The pure machine, part R: a walk's first world: what came in is looked at, never written. -/
import Derived.Test.YtdnkpgbggpbgaaaPmQ
set_option linter.unusedVariables false
set_option linter.unusedSimpArgs false
namespace Go.Proofs.Ytdnkpgbggpbgaaa.Pm
open Go.RowKit

/-- what a walk is told of a slice of integers that came in. -/
def IsRow (k : IntKind) (w : World) (a : Option Addr) (len cap : Nat) (zs : List Int) : Prop :=
  (a = none ∧ len = 0 ∧ cap = 0 ∧ zs = []) ∨
  ∃ x, a = some x ∧ len ≤ cap ∧ cap ≤ maxLen ∧ zs.length = cap ∧ (∀ i, i < zs.length → w.cell? (x.add i) = some (.int k (zs.getD i 0))) ∧ ∀ n ∈ zs, (Lit.int k n).wf = true

/-- the world as it came in: of it the ids of h tell what may be looked at. -/
structure In0 (w : World) (m : Mp) (h : VH) : Prop where
  sim : Sim w.heap.size w m h w
  ro : ∀ i, (h.get i).own = false
structure VH.le (h h' : VH) : Prop where
  n : h.n ≤ h'.n
  get : ∀ i, i < h.n → h'.get i = h.get i
theorem VH.le_refl (h : VH) : h.le h := ⟨Nat.le_refl _, fun _ _ => rfl⟩
theorem VH.le_trans {a b c : VH} (h : a.le b) (k : b.le c) : a.le c := ⟨Nat.le_trans h.n k.n, fun i hi => (k.get i (Nat.lt_of_lt_of_le hi h.n)).trans (h.get i hi)⟩
theorem VH.push_le (h : VH) (o : VObj) : h.le (h.push o) := ⟨by simp, fun i hi => VH.get_push_lt h o hi⟩

theorem In0.empty (w : World) (hg : glb = [] := by rfl) : In0 w ⟨0, fun _ => ⟨0, 0, 0, 0⟩, [], fun k g hk => by rw [hg] at hk; cases hk⟩ VH.empty :=
  ⟨⟨(show (0 : Nat) = glb.length by simp [hg]), Below.refl _ _, Nat.le_refl _, fun i hi => absurd hi (Nat.not_lt_zero _), fun i j hi => absurd hi (Nat.not_lt_zero _), fun i hi => absurd hi (Nat.not_lt_zero _), fun D hD => absurd hD (by simp)⟩, fun i => rfl⟩

theorem In0.look {w : World} {m : Mp} {h : VH} (S : In0 w m h) {cs : List Value} {esz : Nat} {inf : Info} (ho : ORel (m.push inf) inf w (.cells cs false esz)) :
    In0 w (m.push inf) (h.push (.cells cs false esz)) := by
  have hn := S.sim.n
  have hro : ∀ i, ((h.push (.cells cs false esz)).get i).own = false := fun i => by
    rw [VH.get_push]
    split
    · rfl
    · exact S.ro i
  refine ⟨⟨by simp [hn], Below.refl _ _, Nat.le_refl _, fun j hj => ?_, fun i j hi hj hne ho' => ?_, fun i hi ho' => ?_, fun D hD => ⟨(S.sim.fx D hD).1, (S.sim.fx D hD).2.1, fun i hi ho' => by rw [hro] at ho'; cases ho'⟩⟩, hro⟩
  · by_cases hj' : j = m.n
    · subst hj'
      rw [Mp.at_push_new, hn, VH.get_push_new]
      exact ho
    · have hlt : j < m.n := by simp at hj; omega
      rw [Mp.at_push_lt _ _ hlt, VH.get_push_lt _ _ (by omega)]
      exact (S.sim.obj j hlt).mono (m.push_le inf)
  · rw [hro] at ho'; cases ho'
  · rw [hro] at ho'; cases ho'

theorem IsBytes.mono {h h' : VH} (hl : h.le h') {v : Value} {bs : List UInt8} (hb : IsBytes h v bs) : IsBytes h' v bs := by
  rcases hb with hb | ⟨i, o, c, cs, own, hi, rfl, hcs, hfit, hrow⟩
  · exact .inl hb
  · exact .inr ⟨i, o, c, cs, own, ⟨Nat.lt_of_lt_of_le hi.1 hl.n, hi.2⟩, rfl, by rw [hl.get i hi.1]; exact hcs, hfit, hrow⟩

theorem wf_u8 {n : Int} (h : (Lit.int .u8 n).wf = true) : 0 ≤ n ∧ n < 256 := by
  simp [Lit.wf] at h
  have h1 : IntKind.u8.min = 0 := rfl
  have h2 : IntKind.u8.max = 255 := rfl
  omega

def bytesOf (zs : List Int) : List UInt8 := zs.map fun n => UInt8.ofNat n.toNat
theorem byteOf_toNat {n : Int} (h : 0 ≤ n ∧ n < 256) : (((UInt8.ofNat n.toNat).toNat : Nat) : Int) = n := by
  rw [UInt8.toNat_ofNat']
  have : n.toNat < 256 := by omega
  rw [Nat.mod_eq_of_lt (by simpa using this)]
  omega

theorem In0.bytes {w : World} {m : Mp} {h : VH} (S : In0 w m h) {a : Option Addr} {len cap : Nat} {zs : List Int} (hr : IsRow .u8 w a len cap zs) :
    ∃ m' h' v bs, m.le m' ∧ In0 w m' h' ∧ h.le h' ∧ VR m' v (.slice a len cap) ∧ IsBytes h' v bs ∧ bs.length = len ∧ len ≤ maxLen := by
  rcases hr with ⟨rfl, rfl, rfl, rfl⟩ | ⟨x, rfl, hl, hm, hz, hcell, hwf⟩
  · exact ⟨m, h, .slice none 0 0, [], m.le_refl, S, h.le_refl, .sl0, .inl ⟨rfl, rfl⟩, rfl, Nat.zero_le _⟩
  · have hcap : 0 < cap → x.spot = none ∧ x.block < w.heap.size := fun hc => by
      have := hcell 0 (by omega)
      unfold World.cell? at this
      split at this
      · rename_i c e f hb
        split at this
        · cases this
        · rename_i hs
          exact ⟨by simpa [Addr.add] using hs, (Array.getElem?_eq_some_iff.1 hb).1⟩
      · cases this
    let cs : List Value := zs.map (fun n => Value.int .u8 n)
    let inf : Info := ⟨x.block, x.off, cap, 1⟩
    have hn := S.sim.n
    have ho : ORel (m.push inf) inf w (.cells cs false 1) := by
      refine ⟨rfl, by simp [cs, inf, hz], fun hne => ?_, fun j v hj => ?_, fun h => by cases h⟩
      · refine (hcap ?_).2
        cases zs with
        | nil => simp [cs] at hne
        | cons _ _ => rw [← hz]; simp
      · have hjl : j < zs.length := by
          have := (List.getElem?_eq_some_iff.1 hj).1
          simpa [cs] using this
        have hc := hcell j hjl
        have hs := (hcap (by omega)).1
        have e : (⟨inf.blk, inf.base + j, none⟩ : Addr) = x.add j := by
          simp [inf, Addr.add, hs]
          rintro rfl
          cases x
          simp at hs ⊢
          exact hs.symm
        refine ⟨.int .u8 (zs.getD j 0), by rw [e]; exact hc, ?_⟩
        have : v = .int .u8 (zs.getD j 0) := by
          simp only [cs, List.getElem?_map] at hj
          rw [List.getD_eq_getElem?_getD]
          cases hq : zs[j]? with
          | none => rw [hq] at hj; cases hj
          | some q => rw [hq] at hj; injection hj with hj; exact hj.symm
        subst this
        exact ⟨.int _ _, rfl⟩
    have S' := S.look ho
    have hle : m.le (m.push inf) := m.push_le inf
    have hval : VR (m.push inf) (.slice (some ⟨m.n, 0, none⟩) len cap) (.slice (some x) len cap) := by
      by_cases hc : 0 < cap
      · have hs := (hcap hc).1
        have e : x = ⟨((m.push inf).at_ m.n).blk, ((m.push inf).at_ m.n).base + 0, none⟩ := by
          rw [Mp.at_push_new]
          cases x
          simp [inf] at hs ⊢
          exact hs
        conv => rhs; rw [e]
        exact .sl (by simp) hl (Nat.le_refl _) (by rw [Mp.at_push_new]; simp [inf]) (by simp only [maxLen] at hm; omega)
      · obtain rfl : cap = 0 := by omega
        obtain rfl : len = 0 := by omega
        exact .slE x (by simp)
    refine ⟨_, _, .slice (some ⟨m.n, 0, none⟩) len cap, bytesOf (zs.take len), hle, S', h.push_le _, hval, ?_, by simp [bytesOf]; omega, Nat.le_trans hl hm⟩
    have hlen : (bytesOf (zs.take len)).length = len := by simp [bytesOf]; omega
    refine .inr ⟨m.n, 0, cap, cs, false, ⟨by simp [hn], by rw [hlen]; exact hl⟩, by rw [hlen], by rw [hn]; exact VH.get_push_new _ _, by rw [hlen]; simp [cs]; omega, ?_⟩
    rw [hlen]
    simp only [List.drop_zero, cs, u8s, bytesOf, List.map_map, ← List.map_take]
    apply List.map_congr_left
    intro n hn'
    have := wf_u8 (hwf n (List.mem_of_mem_take hn'))
    simp
    omega

/-- a walk, out of a call of the pure machine. -/
theorem calls_of {P : Program} {f : FuncId} {args : List Value} {args' : Array Value} {w : World} {m : Mp} {h : VH} (S : In0 w m h) (ha : VRL m args args'.toList) {u : Value} (hu : closedD u = true) {R : VH → Prop} (hc : PCalls P f args h (fun v h' => v = u ∧ R h')) :
    Calls P f args' w fun e w' => e = .returned u ∧ Below w.heap.size w w' := by
  refine (hc _ _ m w args' S.sim ha).mono ?_
  rintro e w' ⟨m', v, v', h', rfl, ⟨rfl, _⟩, hle, S', hv⟩
  exact ⟨by rw [closedD_inv hu hv], S'.below⟩
end Go.Proofs.Ytdnkpgbggpbgaaa.Pm
