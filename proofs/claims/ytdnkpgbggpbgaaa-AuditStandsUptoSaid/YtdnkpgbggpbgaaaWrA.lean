/- wire, part A: fields, numbers as bytes, lists of fields in the pure heap. -/
import Derived.Test.YtdnkpgbggpbgaaaPmZa
import Derived.Test.YtdnkpgbggpbgaaaFsA
set_option linter.unusedVariables false
set_option linter.unusedSimpArgs false
set_option maxRecDepth 100000
namespace Go.Proofs.Ytdnkpgbggpbgaaa.Wr
open Go Go.RowKit Go.Proofs.Ytdnkpgbggpbgaaa.Pm Go.Proofs.Ytdnkpgbggpbgaaa.Fs

structure Fd where
  num : Int
  ty : Int
  n : Nat
  b : List UInt8
def Fd.wf (f : Fd) : Prop := -9223372036854775808 ≤ f.num ∧ f.num < 9223372036854775808 ∧ -9223372036854775808 ≤ f.ty ∧ f.ty < 9223372036854775808 ∧ f.n < 18446744073709551616
def fdL (f : Fd) (w : Value) : List Value := [.int .i64 f.num, .int .i64 f.ty, .int .u64 (f.n : Int), w]
def fdV (f : Fd) (w : Value) : Value := .agg #[.int .i64 f.num, .int .i64 f.ty, .int .u64 (f.n : Int), w]

/-- the cells of a list of fields. -/
def FdL (h : VH) : List Value → List Fd → Prop
  | [], [] => True
  | a :: b :: c :: w :: r, f :: fs => a = .int .i64 f.num ∧ b = .int .i64 f.ty ∧ c = .int .u64 (f.n : Int) ∧ IsBytes h w f.b ∧ FdL h r fs
  | _, _ => False
theorem FdL.length {h : VH} : ∀ {cs : List Value} {fs : List Fd}, FdL h cs fs → cs.length = 4 * fs.length
  | [], [], _ => rfl
  | _ :: _ :: _ :: _ :: r, f :: fs, hf => by have := hf.2.2.2.2.length; simp; omega
  | [], _ :: _, h => h.elim
  | [_], [], h => h.elim
  | [_], _ :: _, h => h.elim
  | [_, _], [], h => h.elim
  | [_, _], _ :: _, h => h.elim
  | [_, _, _], [], h => h.elim
  | [_, _, _], _ :: _, h => h.elim
  | _ :: _ :: _ :: _ :: _, [], h => h.elim
theorem FdL.at_ {h : VH} : ∀ {cs : List Value} {fs : List Fd}, FdL h cs fs → ∀ (k : Nat) (hk : k < fs.length), ∃ w, (cs.drop (4 * k)).take 4 = fdL fs[k] w ∧ IsBytes h w fs[k].b
  | a :: b :: c :: w :: r, f :: fs, hf, 0, _ => ⟨w, by obtain ⟨rfl, rfl, rfl, _, _⟩ := hf; rfl, hf.2.2.2.1⟩
  | a :: b :: c :: w :: r, f :: fs, hf, k + 1, hk => by
    obtain ⟨w', h1, h2⟩ := hf.2.2.2.2.at_ k (by simpa using hk)
    exact ⟨w', by rw [show 4 * (k + 1) = 4 * k + 4 by omega]; exact h1, h2⟩
  | [], [], _, _, hk => by simp at hk
  | [], _ :: _, h, _, _ => h.elim
  | [_], [], h, _, _ => h.elim
  | [_], _ :: _, h, _, _ => h.elim
  | [_, _], [], h, _, _ => h.elim
  | [_, _], _ :: _, h, _, _ => h.elim
  | [_, _, _], [], h, _, _ => h.elim
  | [_, _, _], _ :: _, h, _, _ => h.elim
  | _ :: _ :: _ :: _ :: _, [], h, _, _ => h.elim
theorem FdL.mono {h h' : VH} (hb : ∀ v bs, IsBytes h v bs → IsBytes h' v bs) : ∀ {cs : List Value} {fs : List Fd}, FdL h cs fs → FdL h' cs fs
  | [], [], _ => trivial
  | _ :: _ :: _ :: _ :: r, f :: fs, ⟨h1, h2, h3, h4, h5⟩ => ⟨h1, h2, h3, hb _ _ h4, h5.mono hb⟩
  | [], _ :: _, h => h.elim
  | [_], [], h => h.elim
  | [_], _ :: _, h => h.elim
  | [_, _], [], h => h.elim
  | [_, _], _ :: _, h => h.elim
  | [_, _, _], [], h => h.elim
  | [_, _, _], _ :: _, h => h.elim
  | _ :: _ :: _ :: _ :: _, [], h => h.elim
theorem FdL.append {h : VH} : ∀ {cs : List Value} {fs : List Fd}, FdL h cs fs → ∀ {ds : List Value} {gs : List Fd}, FdL h ds gs → FdL h (cs ++ ds) (fs ++ gs)
  | [], [], _, _, _, k => k
  | _ :: _ :: _ :: _ :: r, f :: fs, ⟨h1, h2, h3, h4, h5⟩, _, _, k => ⟨h1, h2, h3, h4, h5.append k⟩
  | [], _ :: _, h, _, _, _ => h.elim
  | [_], [], h, _, _, _ => h.elim
  | [_], _ :: _, h, _, _, _ => h.elim
  | [_, _], [], h, _, _, _ => h.elim
  | [_, _], _ :: _, h, _, _, _ => h.elim
  | [_, _, _], [], h, _, _, _ => h.elim
  | [_, _, _], _ :: _, h, _, _, _ => h.elim
  | _ :: _ :: _ :: _ :: _, [], h, _, _, _ => h.elim
theorem FdL.one {h : VH} {f : Fd} {w : Value} (hw : IsBytes h w f.b) : FdL h (fdL f w) [f] := ⟨rfl, rfl, rfl, hw, trivial⟩

theorem isB_fr {h h' : VH} (hf : Fr h h' []) {v : Value} {bs : List UInt8} (hb : IsBytes h v bs) : IsBytes h' v bs := hb.fr hf (fun _ _ => by simp)

/-- a slice of fields. -/
def IsFds (h : VH) (v : Value) (fs : List Fd) : Prop :=
  (v = .slice none 0 0 ∧ fs = []) ∨ ∃ i o c cs own, i < h.n ∧ fs.length ≤ c ∧ v = .slice (some ⟨i, o, none⟩) fs.length c ∧ h.get i = .cells cs own 4 ∧ o + 4 * fs.length ≤ cs.length ∧ FdL h ((cs.drop o).take (4 * fs.length)) fs
theorem IsFds.fr {h h' : VH} (hf : Fr h h' []) {v : Value} {fs : List Fd} (hb : IsFds h v fs) : IsFds h' v fs := by
  rcases hb with hb | ⟨i, o, c, cs, own, hi, hc, rfl, hg, hl, hr⟩
  · exact .inl hb
  · exact .inr ⟨i, o, c, cs, own, Nat.lt_of_lt_of_le hi hf.n, hc, rfl, (hf.get i hi (by simp)).trans hg, hl, hr.mono fun _ _ => isB_fr hf⟩
theorem IsFds.shape {h : VH} {v : Value} {fs : List Fd} (hb : IsFds h v fs) : ∃ a c, v = .slice a fs.length c := by
  rcases hb with ⟨rfl, rfl⟩ | ⟨i, o, c, cs, own, hi, hc, rfl, hg, hl, hr⟩
  · exact ⟨none, 0, rfl⟩
  · exact ⟨_, _, rfl⟩
theorem IsFds.lt {h : VH} {v : Value} {fs : List Fd} (hb : IsFds h v fs) : ∀ i ∈ idOf v, i < h.n := by
  rcases hb with ⟨rfl, rfl⟩ | ⟨i, o, c, cs, own, hi, hc, rfl, hg, hl, hr⟩
  · intro i hi; simp [idOf] at hi
  · intro j hj; simp [idOf] at hj; subst hj; exact hi
theorem IsFds.src {h : VH} {v : Value} {fs : List Fd} (hb : IsFds h v fs) : ∃ cs, srcCells h 4 v = some cs ∧ FdL h cs fs ∧ cs.length = fs.length * 4 := by
  rcases hb with ⟨rfl, rfl⟩ | ⟨i, o, c, cs, own, hi, hc, rfl, hg, hl, hr⟩
  · exact ⟨[], rfl, trivial, rfl⟩
  · refine ⟨_, ?_, hr, by have := hr.length; omega⟩
    rw [srcCells_at, hg]
    simp only [rowObj]
    rw [if_pos (by omega), Nat.mul_comm]
theorem take_drop4 {cs : List Value} {o n k : Nat} (hk : k < n) : (((cs.drop o).take (4 * n)).drop (4 * k)).take 4 = (cs.drop (o + 4 * k)).take 4 := by
  rw [List.drop_take, List.drop_drop, List.take_take, show min 4 (4 * n - 4 * k) = 4 by omega]
/-- what a walk looks at. -/
structure FdAt (h : VH) (i o : Nat) (f : Fd) (w : Value) : Prop where
  all : loadObj (h.get i) o (some 4) = some (fdV f w)
  l0 : loadObj (h.get i) o none = some (.int .i64 f.num)
  l1 : loadObj (h.get i) (o + 1) none = some (.int .i64 f.ty)
  l2 : loadObj (h.get i) (o + 2) none = some (.int .u64 (f.n : Int))
  l3 : loadObj (h.get i) (o + 3) none = some w
  bytes : IsBytes h w f.b
theorem getElem_of_take4 {cs : List Value} {o : Nat} {a b c d : Value} (h : (cs.drop o).take 4 = [a, b, c, d]) : cs[o]? = some a ∧ cs[o + 1]? = some b ∧ cs[o + 2]? = some c ∧ cs[o + 3]? = some d := by
  have g : ∀ j, j < 4 → cs[o + j]? = [a, b, c, d][j]? := fun j hj => by
    rw [← h, List.getElem?_take, if_pos hj, List.getElem?_drop]
  exact ⟨g 0 (by omega), g 1 (by omega), g 2 (by omega), g 3 (by omega)⟩
theorem IsFds.at_ {h : VH} {v : Value} {fs : List Fd} (hb : IsFds h v fs) (hne : 0 < fs.length) : ∃ i o c, i < h.n ∧ fs.length ≤ c ∧ v = .slice (some ⟨i, o, none⟩) fs.length c ∧ eszObj (h.get i) 4 = true ∧ ∀ k (hk : k < fs.length), ∃ w, FdAt h i (o + k * 4) fs[k] w := by
  rcases hb with ⟨rfl, rfl⟩ | ⟨i, o, c, cs, own, hi, hc, rfl, hg, hl, hr⟩
  · simp at hne
  · refine ⟨i, o, c, hi, hc, rfl, by rw [hg]; rfl, fun k hk => ?_⟩
    obtain ⟨w, h1, h2⟩ := hr.at_ k hk
    rw [take_drop4 hk, Nat.mul_comm 4 k] at h1
    obtain ⟨e0, e1, e2, e3⟩ := getElem_of_take4 h1
    refine ⟨w, ?_, by rw [hg]; exact e0, by rw [hg]; exact e1, by rw [hg]; exact e2, by rw [hg]; exact e3, h2⟩
    rw [hg]
    simp only [loadObj]
    rw [if_pos (by omega), h1]
    rfl

/-- a list of fields, gathered in a row that is owned. -/
structure FBuf (h0 g : VH) (w : Value) (fs : List Fd) : Prop where
  own : ∃ cs, OwnSl g 4 w cs fs.length ∧ FdL g cs fs
  fr : Fr h0 g []
  ids : ∀ i ∈ idOf w, h0.n ≤ i
theorem FBuf.nil (h : VH) : FBuf h h (.slice none 0 0) [] := ⟨⟨[], OwnSl.nil _ _, trivial⟩, Fr.refl _ _, fun i hi => by simp [idOf] at hi⟩
theorem FBuf.shape {h0 g : VH} {w : Value} {fs : List Fd} (hb : FBuf h0 g w fs) : ∃ a c, w = .slice a fs.length c := by
  obtain ⟨cs, ho, _⟩ := hb.own
  exact ho.shapeN
theorem FBuf.is {h0 g : VH} {w : Value} {fs : List Fd} (hb : FBuf h0 g w fs) : IsFds g w fs := by
  obtain ⟨cs, ho, hl⟩ := hb.own
  rcases ho with ⟨rfl, rfl, h0⟩ | ⟨i, o, c, ds, hi, hc, rfl, hg, hd, hln, ho⟩
  · exact .inl ⟨rfl, List.eq_nil_of_length_eq_zero h0⟩
  · have h1 : ds.length = o + 4 * fs.length := by
      have := congrArg List.length hd
      simp at this
      omega
    exact .inr ⟨i, o, c, ds, true, hi, hc, rfl, hg, by omega, by rw [hd, List.take_of_length_le (by omega)]; exact hl⟩
theorem FBuf.old {h0 g : VH} {w : Value} {fs : List Fd} (hb : FBuf h0 g w fs) {j : Nat} (hj : j < h0.n) : g.get j = h0.get j := hb.fr.get j hj (by simp)
theorem FBuf.step {h0 g g' : VH} {w : Value} {fs : List Fd} (hb : FBuf h0 g w fs) (hf : Fr g g' []) : FBuf h0 g' w fs := by
  obtain ⟨cs, ho, hl⟩ := hb.own
  exact ⟨⟨cs, ho.fr hf (fun i _ => by simp), hl.mono fun _ _ => isB_fr hf⟩, hb.fr.trans hf, hb.ids⟩
/-- the bytes of a list lie not in the rows X. -/
def FdOut (X : List Nat) : List Value → Prop
  | _ :: _ :: _ :: w :: r => (∀ i ∈ idOf w, i ∉ X) ∧ FdOut X r
  | _ => True
theorem FdL.fr {h h' : VH} {X : List Nat} (hf : Fr h h' X) : ∀ {cs : List Value} {fs : List Fd}, FdL h cs fs → FdOut X cs → FdL h' cs fs
  | [], [], _, _ => trivial
  | _ :: _ :: _ :: _ :: r, f :: fs, ⟨h1, h2, h3, h4, h5⟩, ⟨k1, k2⟩ => ⟨h1, h2, h3, h4.fr hf k1, h5.fr hf k2⟩
  | [], _ :: _, h, _ => h.elim
  | [_], [], h, _ => h.elim
  | [_], _ :: _, h, _ => h.elim
  | [_, _], [], h, _ => h.elim
  | [_, _], _ :: _, h, _ => h.elim
  | [_, _, _], [], h, _ => h.elim
  | [_, _, _], _ :: _, h, _ => h.elim
  | _ :: _ :: _ :: _ :: _, [], h, _ => h.elim
theorem isB_esz {h : VH} {v : Value} {bs : List UInt8} (hb : IsBytes h v bs) : ∀ i ∈ idOf v, ∃ cs ow, h.get i = .cells cs ow 1 := by
  rcases hb with ⟨rfl, _⟩ | ⟨i, o, c, cs, own, h0, rfl, h2, _⟩
  · intro i hi; simp [idOf] at hi
  · intro j hj; simp [idOf] at hj; subst hj; exact ⟨cs, own, h2⟩
theorem FdL.out {h : VH} {X : List Nat} (hx : ∀ i ∈ X, ∃ cs, h.get i = .cells cs true 4) : ∀ {cs : List Value} {fs : List Fd}, FdL h cs fs → FdOut X cs
  | [], [], _ => trivial
  | _ :: _ :: _ :: w :: r, f :: fs, ⟨_, _, _, h4, h5⟩ => ⟨fun i hi hX => by
      obtain ⟨c1, ow, e1⟩ := isB_esz h4 i hi
      obtain ⟨c2, e2⟩ := hx i hX
      rw [e1] at e2
      injection e2 with _ _ e3
      exact absurd e3 (by decide), h5.out hx⟩
  | [], _ :: _, h => h.elim
  | [_], [], h => h.elim
  | [_], _ :: _, h => h.elim
  | [_, _], [], h => h.elim
  | [_, _], _ :: _, h => h.elim
  | [_, _, _], [], h => h.elim
  | [_, _, _], _ :: _, h => h.elim
  | _ :: _ :: _ :: _ :: _, [], h => h.elim
theorem OwnSl.cells {h : VH} {e : Nat} {v : Value} {cs : List Value} {n : Nat} (hs : OwnSl h e v cs n) : ∀ i ∈ idOf v, ∃ ds, h.get i = .cells ds true e := by
  rcases hs with ⟨rfl, _, _⟩ | ⟨i, _, _, ds, hi, _, rfl, hg, _⟩
  · intro i hi; simp [idOf] at hi
  · intro j hj; simp [idOf] at hj; subst hj; exact ⟨ds, hg⟩
/-- a list of fields is appended. -/
theorem FBuf.appendL {h0 g : VH} {w : Value} {fs : List Fd} (hb : FBuf h0 g w fs) {ys : List Value} {gs : List Fd} (hy : FdL g ys gs) (hl : fs.length + gs.length ≤ 1000000000000) :
    ∃ a n c g', appendV g 4 48 w ys gs.length = some (.slice a n c, g') ∧ FBuf h0 g' (.slice a n c) (fs ++ gs) := by
  obtain ⟨cs, ho, hc⟩ := hb.own
  have hyl : ys.length = gs.length * 4 := by have := hy.length; omega
  obtain ⟨w', g', hap, ho', hf, hid⟩ := ho.append (bytes := 48) hyl (by omega)
  obtain ⟨a, c, rfl⟩ := ho'.shapeN
  refine ⟨_, _, _, g', hap, ⟨⟨cs ++ ys, by rw [List.length_append]; exact ho', ?_⟩, hb.fr.trans' hf (fun y hy => .inr (hb.ids y hy)), fun i hi => ?_⟩⟩
  · have hx := OwnSl.cells ho
    exact (hc.fr hf (hc.out hx)).append (hy.fr hf (hy.out hx))
  · rcases hid i hi with h1 | h1
    · exact hb.ids i h1
    · exact Nat.le_trans hb.fr.n h1
/-- a field is appended. -/
theorem FBuf.append {h0 g : VH} {w : Value} {fs : List Fd} (hb : FBuf h0 g w fs) {f : Fd} {u : Value} (hu : IsBytes g u f.b) (hl : fs.length < 1000000000000) :
    ∃ a n c g', appendV (g.push (.cells (fdL f u) true 4)) 4 48 w (fdL f u) 1 = some (.slice a n c, g') ∧ FBuf h0 g' (.slice a n c) (fs ++ [f]) :=
  (hb.step (Fr.push g _ [])).appendL (gs := [f]) (FdL.one (isB_fr (Fr.push g _ []) hu)) (by simp; omega)

/-! ### four cells -/
section
variable {a b c d a' b' c' d' : Value} {ow : Bool} {e : Nat}
theorem ld4_all : loadObj (.cells [a, b, c, d] ow e) 0 (some 4) = some (.agg #[a, b, c, d]) := rfl
theorem ld4_0 : loadObj (.cells [a, b, c, d] ow e) 0 none = some a := rfl
theorem ld4_1 : loadObj (.cells [a, b, c, d] ow e) 1 none = some b := rfl
theorem ld4_2 : loadObj (.cells [a, b, c, d] ow e) 2 none = some c := rfl
theorem ld4_3 : loadObj (.cells [a, b, c, d] ow e) 3 none = some d := rfl
theorem st4_all {x y : Int} {k l : IntKind} {z : Int} {m : IntKind} {p : Option Addr} {q r : Nat} : storeObj (.cells [a, b, c, d] true e) 0 4 (.agg #[.int k x, .int l y, .int m z, .slice p q r]) = some (.cells [.int k x, .int l y, .int m z, .slice p q r] true e) := rfl
theorem st4_2 {x : Int} {k : IntKind} : storeObj (.cells [a, b, c, d] true e) 2 1 (.int k x) = some (.cells [a, b, .int k x, d] true e) := rfl
theorem st4_3 {p : Option Addr} {q r : Nat} : storeObj (.cells [a, b, c, d] true e) 3 1 (.slice p q r) = some (.cells [a, b, c, .slice p q r] true e) := rfl
theorem fill4 {x y : Int} {k l : IntKind} {z : Int} {m : IntKind} {p : Option Addr} {q r : Nat} : fillC [a, b, c, d] [(0, 4, .agg #[.int k x, .int l y, .int m z, .slice p q r])] = some [.int k x, .int l y, .int m z, .slice p q r] := rfl
theorem fill4_3 {x y : Int} {k l : IntKind} {z : Int} {m : IntKind} : fillC [a, b, c, d] [(0, 1, .int k x), (1, 1, .int l y), (2, 1, .int m z)] = some [.int k x, .int l y, .int m z, d] := rfl
theorem fill4_2 {x y : Int} {k l : IntKind} : fillC [a, b, c, d] [(0, 1, .int k x), (1, 1, .int l y)] = some [.int k x, .int l y, c, d] := rfl
theorem fill4_4 {x y : Int} {k l : IntKind} {z : Int} {m : IntKind} {p : Option Addr} {q r : Nat} : fillC [a, b, c, d] [(0, 1, .int k x), (1, 1, .int l y), (2, 1, .int m z), (3, 1, .slice p q r)] = some [.int k x, .int l y, .int m z, .slice p q r] := rfl
theorem fill4_0 : fillC [a, b, c, d] [] = some [a, b, c, d] := rfl
end
theorem fill1 {v : Value} {z : Value} (hv : cellsL v = [v]) : fillC [z] [(0, 1, v)] = some [v] := by
  simp only [fillC, hv]
  rfl

/-! ### numbers as bytes -/
def varint (n : Nat) : List UInt8 := if h : n < 128 then [UInt8.ofNat n] else UInt8.ofNat (n % 128 + 128) :: varint (n / 128)
termination_by n
decreasing_by omega
theorem varint_lt {n : Nat} (h : n < 128) : varint n = [UInt8.ofNat n] := by rw [varint, dif_pos h]
theorem varint_ge {n : Nat} (h : ¬ n < 128) : varint n = UInt8.ofNat (n % 128 + 128) :: varint (n / 128) := by rw [varint, dif_neg h]
theorem varint_len : ∀ (k n : Nat), n < 2 ^ (7 * k) → (varint n).length ≤ max k 1
  | 0, n, h => by rw [varint_lt (by simp at h; omega)]; simp
  | k + 1, n, h => by
    by_cases hn : n < 128
    · rw [varint_lt hn]; simp
    · rw [varint_ge hn]
      have h1 : n / 128 < 2 ^ (7 * k) := by
        rw [Nat.mul_add, Nat.pow_add] at h
        exact Nat.div_lt_of_lt_mul (by omega)
      have := varint_len k (n / 128) h1
      have hk : 1 ≤ k := by
        rcases Nat.eq_zero_or_pos k with rfl | hk
        · simp at h; omega
        · exact hk
      simp
      omega
theorem varint_len10 {n : Nat} (h : n < 18446744073709551616) : (varint n).length ≤ 10 := varint_len 10 n (by omega)
theorem varint_ne (n : Nat) : varint n ≠ [] := by
  by_cases hn : n < 128
  · rw [varint_lt hn]; simp
  · rw [varint_ge hn]; simp
/-- the lowest k bytes, the lowest first. -/
def lowB : Nat → Nat → List UInt8
  | 0, _ => []
  | k + 1, n => UInt8.ofNat (n % 256) :: lowB k (n / 256)
theorem lowB_length (k n : Nat) : (lowB k n).length = k := by
  induction k generalizing n with
  | zero => rfl
  | succ k ih => simp [lowB, ih]
theorem lowB_at : ∀ (k n j : Nat), j < k → (lowB k n)[j]? = some (UInt8.ofNat (n / 256 ^ j % 256))
  | k + 1, n, 0, _ => by simp [lowB]
  | k + 1, n, j + 1, h => by
    simp only [lowB, List.getElem?_cons_succ]
    rw [lowB_at k (n / 256) j (by omega), Nat.div_div_eq_div_mul, Nat.pow_succ, Nat.mul_comm]
theorem lowB_take {k n j : Nat} (h : j < k) : (lowB k n).take (j + 1) = (lowB k n).take j ++ [UInt8.ofNat (n / 256 ^ j % 256)] := by
  rw [List.take_add_one, lowB_at k n j h]
  rfl
end Go.Proofs.Ytdnkpgbggpbgaaa.Wr
