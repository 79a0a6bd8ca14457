/- audit, part S: logs that the chain made; entries that came in; lists of entries held against each other (out of AuL, AuM, AuN, AuR by pick.py: what AuditStands needs of them). -/
import Derived.Test.YtdnkpgbggpbgaaaAuI
set_option linter.unusedVariables false
set_option linter.unusedSimpArgs false
set_option maxRecDepth 100000
namespace Go.Proofs.Ytdnkpgbggpbgaaa.Au
open Go Go.RowKit Go.Proofs.Ytdnkpgbggpbgaaa.Pm Go.Proofs.Ytdnkpgbggpbgaaa.Fs Go.Proofs.Ytdnkpgbggpbgaaa.Wr Go.Proofs.Ytdnkpgbggpbgaaa.Sha


structure AS where
  fr : List UInt8
  w : Int
  n : Nat
  l : List UInt8
  subs : Sbs
def addS (n : Nat) (l : List UInt8) (subs : Sbs) (e : En) : AS :=
  if wrongS e ≠ 0 then ⟨[], wrongS e, n, l, subs⟩ else
  ⟨frameS (bytesS e (aheadS subs e.t)), 0, n + 1, shaS (l ++ bytesS e (aheadS subs e.t)), sput e.t (shaS (bytesS e (aheadS subs e.t))) subs⟩
theorem add_out {h h' : VH} {i j n : Nat} {l : List UInt8} {subs : Sbs} {e : En} {u : Value} (K : Chain h i j n l subs) (H : AddP h i j n l subs e u h') :
    ∃ a m c, u = .tuple #[.slice a m c, .int .i64 (addS n l subs e).w] ∧ OwnSl h' 1 (.slice a m c) (u8s (addS n l subs e).fr) (addS n l subs e).fr.length ∧ (∀ x ∈ idOf (.slice a m c), h.n ≤ x) ∧ Chain h' i j (addS n l subs e).n (addS n l subs e).l (addS n l subs e).subs ∧ Fr h h' [i, j] := by
  unfold AddP at H
  unfold addS
  by_cases h0 : wrongS e ≠ 0
  · rw [if_pos h0] at H ⊢
    obtain ⟨rfl, hf⟩ := H
    exact ⟨none, 0, 0, rfl, OwnSl.nil _ _, by simp [idOf], K.fr hf, hf.sub (by simp)⟩
  · rw [if_neg h0] at H ⊢
    obtain ⟨a, m, c, rfl, h1, h2, h3, h4⟩ := H
    exact ⟨a, m, c, rfl, h1, h2, h3, h4⟩
/-- a slice of entries. -/
def IsEns (h : VH) (v : Value) (es : List En) : Prop :=
  ∃ a c, v = .slice a es.length c ∧ (0 < es.length → ∃ i o, a = some ⟨i, o, none⟩ ∧ i < h.n ∧ eszObj (h.get i) 4 = true ∧ ∀ k (hk : k < es.length), ∃ p m d, loadObj (h.get i) (o + k * 4) (some 4) = some (enV es[k] (.slice p m d)) ∧ loadObj (h.get i) (o + k * 4 + 3) none = some (.slice p m d) ∧ IsBytes h (.slice p m d) es[k].b)
theorem flat_chunk {sz : Nat} : ∀ {l : List (List Value)}, (∀ x ∈ l, x.length = sz) → ∀ {k : Nat} (hk : k < l.length), (l.flatten.drop (k * sz)).take sz = l[k]
  | [], _, k, hk => by simp at hk
  | x :: l, h, 0, hk => by
    have := h x (List.mem_cons_self ..)
    simp [← this]
  | x :: l, h, k + 1, hk => by
    have h1 := h x (List.mem_cons_self ..)
    have := flat_chunk (l := l) (fun y hy => h y (List.mem_cons_of_mem _ hy)) (k := k) (by simpa using hk)
    rw [List.flatten_cons, show (k + 1) * sz = x.length + k * sz by rw [Nat.succ_mul]; omega, ← List.drop_drop, List.drop_left']
    · simpa using this
    · rfl
theorem flat_len {sz : Nat} : ∀ {l : List (List Value)}, (∀ x ∈ l, x.length = sz) → l.flatten.length = l.length * sz
  | [], _ => by simp
  | x :: l, h => by
    have h1 := h x (List.mem_cons_self ..)
    have h2 := flat_len (l := l) (fun y hy => h y (List.mem_cons_of_mem _ hy))
    rw [List.flatten_cons, List.length_append, List.length_cons, h2, h1, Nat.succ_mul]
    omega
theorem ens_rows {h : VH} : ∀ {es : List (List Value × Nat)}, (∀ x ∈ es, x.1.length = 4 ∧ Sh h enT x.1 x.2) → ∃ ens : List En, ens.length = es.length ∧ (∀ k (hk : k < ens.length) (hk' : k < es.length), ∃ w, es[k].1 = enL ens[k] w ∧ IsBytes h w ens[k].b) ∧ (∀ e ∈ ens, e.t.length ≤ (es.map (·.2)).sum ∧ e.w.length ≤ (es.map (·.2)).sum ∧ e.b.length ≤ (es.map (·.2)).sum) ∧ es.length ≤ (es.map (·.2)).sum
  | [], _ => ⟨[], rfl, fun k hk => by simp at hk, fun e he => by simp at he, by simp⟩
  | x :: r, H => by
    obtain ⟨ens, h1, h2, h3, h4⟩ := ens_rows (es := r) (fun y hy => H y (List.mem_cons_of_mem _ hy))
    obtain ⟨e, w, he, hb, hl, _⟩ := Sh.en (H x (List.mem_cons_self ..)).2
    refine ⟨e :: ens, by simp [h1], fun k hk hk' => ?_, fun y hy => ?_, by simp only [List.length_cons, List.map_cons, List.sum_cons]; omega⟩
    · cases k with
      | zero => exact ⟨w, he, hb⟩
      | succ k => exact h2 k (by simpa using hk) (by simpa using hk')
    · simp only [List.map_cons, List.sum_cons]
      rcases List.mem_cons.1 hy with rfl | hy
      · omega
      · have := h3 y hy; omega
theorem Sh.ens {h : VH} {v : Value} {k : Nat} (H : Sh h (.sl 4 enT) [v] k) : ∃ es, IsEns h v es ∧ (∀ e ∈ es, e.t.length ≤ k ∧ e.w.length ≤ k ∧ e.b.length ≤ k) ∧ es.length ≤ k := by
  rcases H with ⟨h1, rfl⟩ | ⟨i, n, c, cs, ow, rows, h1, h2, h3, h4, h5, h6, h7, h8⟩
  · injection h1 with h1 _
    subst h1
    exact ⟨[], ⟨none, 0, rfl, fun h => by simp at h⟩, fun e he => by simp at he, by simp⟩
  · injection h1 with h1 _
    subst h1
    obtain ⟨ens, e1, e2, e3, e4⟩ := ens_rows h7
    have hn : n ≤ ens.length := by omega
    refine ⟨ens.take n, ⟨some ⟨i, 0, none⟩, c, by rw [List.length_take, Nat.min_eq_left hn], fun _ => ⟨i, 0, rfl, h3, by rw [h4]; rfl, fun k hk => ?_⟩⟩, fun e he => ?_, by rw [List.length_take]; omega⟩
    · have hk2 : k < ens.length := by rw [List.length_take] at hk; omega
      have hk3 : k < rows.length := by omega
      obtain ⟨w, w1, w2⟩ := e2 k hk2 hk3
      have hfl : ∀ x ∈ rows.map (·.1), x.length = 4 := fun x hx => by
        obtain ⟨y, hy, rfl⟩ := List.mem_map.1 hx
        exact (h7 y hy).1
      have hch := flat_chunk hfl (k := k) (by simpa using hk3)
      rw [← h6, List.getElem_map, w1] at hch
      obtain ⟨p, d, rfl⟩ := w2.shape
      have hcl : cs.length = rows.length * 4 := by
        rw [h6, flat_len hfl, List.length_map]
      have hge : (ens.take n)[k] = ens[k] := by simp
      obtain ⟨q0, q1, q2, q3⟩ := getElem_of_take4 hch
      refine ⟨p, _, d, ?_, ?_, by rw [hge]; exact w2⟩
      · rw [h4, hge, Nat.zero_add]
        simp only [loadObj]
        rw [if_pos (by omega), hch]
        rfl
      · rw [h4, Nat.zero_add]
        exact q3
    · have := e3 e (List.mem_of_mem_take he)
      omega
theorem IsEns.ro {h : VH} {v : Value} {es : List En} (H : IsEns h v es) : IsEns h.ro v es := by
  obtain ⟨a, c, rfl, hat⟩ := H
  refine ⟨a, c, rfl, fun h0 => ?_⟩
  obtain ⟨i, o, rfl, hi, he, hk⟩ := hat h0
  have hg : h.ro.get i = (h.get i).ro := rfl
  refine ⟨i, o, rfl, hi, ?_, fun k hk' => ?_⟩
  · rw [hg]
    cases hx : h.get i <;> rw [hx] at he <;> exact he
  · obtain ⟨p, m, d, l1, l2, l3⟩ := hk k hk'
    refine ⟨p, m, d, ?_, ?_, l3.ro⟩
    · rw [hg]
      cases hx : h.get i <;> rw [hx] at l1 <;> exact l1
    · rw [hg]
      cases hx : h.get i <;> rw [hx] at l2 <;> exact l2
structure MS where
  log : List UInt8
  n : Nat
  l : List UInt8
  subs : Sbs
  ins : List En
def stepM (s : MS) (e : En) : MS := ⟨if wrongS e = 0 then s.log ++ (addS s.n s.l s.subs e).fr else s.log, (addS s.n s.l s.subs e).n, (addS s.n s.l s.subs e).l, (addS s.n s.l s.subs e).subs, if wrongS e = 0 then s.ins ++ [e] else s.ins⟩
def ms0 : MS := ⟨[], 0, zero32, [], []⟩
def madeS (es : List En) : MS := (es.take 40).foldl stepM ms0
theorem addS_w (n : Nat) (l : List UInt8) (subs : Sbs) (e : En) : (addS n l subs e).w = wrongS e := by
  unfold addS
  split
  · rfl
  · rename_i h; simp at h; exact h.symm
def ResP (h : VH) (bs : List UInt8) (u : Value) (h' : VH) : Prop := ∃ i j, u = .tuple #[.pointer (some ⟨i, 0, none⟩), .int .i64 ((walkS bs).at_ : Int)] ∧ Chain h' i j (walkS bs).n (walkS bs).l (walkS bs).subs ∧ Fr h h' [] ∧ (∀ p ∈ (walkS bs).subs, p.2.length = 32) ∧ h.n ≤ i ∧ h.n ≤ j ∧ (walkS bs).n ≤ bs.length
set_option maxHeartbeats 4000000 in
theorem resume_ok {h : VH} {v : Value} {bs : List UInt8} (hb : IsBytes h v bs) (hlen : bs.length ≤ 1000000000) : PCalls Try.prog f_audit_Resume [v] h (ResP h bs) := by
  refine PCalls_of_pw st_audit_Resume (by simp [n_audit_Resume]) ?_
  rw [b_audit_Resume]
  simp (disch := first|omega|(simp only [np,ns];try omega)) [B_audit_Resume]
  refine (walk_ok hb hlen).mono ?_
  rintro u g ⟨F, ae, ne, ce, al, nl, cl, ab, nb, cb, i, j, rfl, K, hs, hi, hj, hn, _⟩
  have Fo : ∀ o o', Fr g ((g.push o).set g.n o') [] := fun o o' => Fr_set (Fr_push (Fr.refl _ _)) (Nat.le_refl _)
  simp (disch := first|omega|(simp only [np,ns];try omega)) [r_audit_Resume, st6_A, ld6_3, ld6_5]
  exact ⟨i, j, rfl, K.fr (Fo _ _), F.trans (Fo _ _), hs, hi, hj, hn⟩
theorem sput_le (t d : List UInt8) : ∀ (q : Sbs), (sput t d q).length ≤ q.length + 1
  | [] => by simp [sput]
  | x :: q => by
    have ih := sput_le t d q
    unfold sput
    split
    · simp
    · simp only [List.length_cons]; omega
theorem fr_le {n : Nat} {l : List UInt8} {subs : Sbs} {e : En} : (addS n l subs e).fr.length ≤ 1048586 := by
  unfold addS
  split
  · simp
  · show (frameS _).length ≤ _
    have h1 := bytesS_le e (aheadS subs e.t)
    have h2 := varint_len10 (n := (bytesS e (aheadS subs e.t)).length) (by omega)
    unfold frameS
    rw [List.length_append]
    omega
theorem items_frame {e : En} {l : List UInt8} {subs : Sbs} (h : wrongS e = 0) (hs : ∀ p ∈ subs, p.2.length = 32) (f : Nat) (r : List UInt8) :
    itemsR (f + 1) (frameS (bytesS e (aheadS subs e.t)) ++ r) l subs = ⟨e, bytesS e (aheadS subs e.t), l⟩ :: itemsR f r (shaS (l ++ bytesS e (aheadS subs e.t))) (sput e.t (shaS (bytesS e (aheadS subs e.t))) subs) := by
  have ha : (aheadS subs e.t).length = 32 := sget_len hs
  obtain ⟨h1, h2, h3⟩ := fds_enc h ha
  obtain ⟨b1, b2⟩ := en_back (a := aheadS subs e.t) h
  have hok := okS_back h ha
  have hbl : (bytesS e (aheadS subs e.t)).length ≤ 131072 := by rw [h2]; omega
  have hc := cutS_frame hbl r
  generalize hB : bytesS e (aheadS subs e.t) = B at *
  have hne : (frameS B ++ r).length ≠ 0 := by
    have := varint_ne B.length
    have hl : (varint B.length).length ≠ 0 := fun h0 => this (List.eq_nil_of_length_eq_zero h0)
    simp only [frameS, List.length_append]
    omega
  rw [itemsR_succ, if_neg hne, hc]
  simp only
  rw [if_neg (by simp), if_neg (by rw [hok]; simp), h3]
  simp only [b1, b2]
  rw [if_neg (by simp), List.drop_left]
/- audit, part P: what the reference made is accepted under its head, and its entries are those that went in. -/
structure Good (S : MS) : Prop where
  ls : ∀ p ∈ S.subs, p.2.length = 32
  ll : S.l.length = 32
  walk : ∀ f r, walkR (f + S.ins.length) (S.log ++ r) 0 zero32 [] = ⟨(walkR f r S.n S.l S.subs).n, (walkR f r S.n S.l S.subs).l, (walkR f r S.n S.l S.subs).subs, (walkR f r S.n S.l S.subs).err, S.log.length + (walkR f r S.n S.l S.subs).at_⟩
  items : ∃ ts : List It, ts.map (·.e) = S.ins ∧ ∀ f r, itemsR (f + S.ins.length) (S.log ++ r) zero32 [] = ts ++ itemsR f r S.l S.subs
  le : S.ins.length ≤ S.log.length
  n : S.n = S.ins.length
  oks : ∀ e ∈ S.ins, wrongS e = 0
theorem Good.zero : Good ms0 := ⟨by simp [ms0], rfl, fun f r => by simp [ms0], ⟨[], rfl, fun f r => by simp [ms0]⟩, by simp [ms0], rfl, by simp [ms0]⟩
theorem stepM_bad {S : MS} {e : En} (h : wrongS e ≠ 0) : stepM S e = S := by
  unfold stepM addS
  rw [if_neg h, if_pos h, if_neg h]
theorem stepM_ok {S : MS} {e : En} (h : wrongS e = 0) : stepM S e = ⟨S.log ++ frameS (bytesS e (aheadS S.subs e.t)), S.n + 1, shaS (S.l ++ bytesS e (aheadS S.subs e.t)), sput e.t (shaS (bytesS e (aheadS S.subs e.t))) S.subs, S.ins ++ [e]⟩ := by
  unfold stepM addS
  rw [if_pos h, if_neg (by simpa using h), if_pos h]
theorem frameS_pos (b : List UInt8) : 1 ≤ (frameS b).length := by
  have := List.length_pos_iff.2 (varint_ne b.length)
  unfold frameS
  rw [List.length_append]
  omega
theorem Good.step {S : MS} (G : Good S) (e : En) : Good (stepM S e) := by
  by_cases h : wrongS e = 0
  case neg => rw [stepM_bad h]; exact G
  rw [stepM_ok h]
  refine ⟨?_, shaS_len _, ?_, ?_, ?_, ?_, ?_⟩
  · exact sput_len (shaS_len _) G.ls
  · intro f r
    have h1 := G.walk (f + 1) (frameS (bytesS e (aheadS S.subs e.t)) ++ r)
    have h2 := walk_frame (n := S.n) (l := S.l) h G.ls f r
    simp only [List.append_assoc, List.length_append, List.length_singleton]
    rw [show f + (S.ins.length + 1) = f + 1 + S.ins.length by omega, h1, h2]
    simp only [Nat.add_assoc]
  · obtain ⟨ts, t1, t2⟩ := G.items
    refine ⟨ts ++ [⟨e, bytesS e (aheadS S.subs e.t), S.l⟩], by simp [t1], fun f r => ?_⟩
    have h1 := t2 (f + 1) (frameS (bytesS e (aheadS S.subs e.t)) ++ r)
    have h2 := items_frame (l := S.l) h G.ls f r
    simp only [List.append_assoc, List.length_append, List.length_singleton]
    rw [show f + (S.ins.length + 1) = f + 1 + S.ins.length by omega, h1, h2]
    simp
  · have := frameS_pos (bytesS e (aheadS S.subs e.t))
    have := G.le
    simp only [List.length_append, List.length_singleton]
    omega
  · simp only [List.length_append, List.length_singleton]; rw [G.n]
  · intro x hx
    rcases List.mem_append.1 hx with hx | hx
    · exact G.oks x hx
    · simp at hx; subst hx; exact h
theorem Good.fold : ∀ (es : List En) {S : MS}, Good S → Good (es.foldl stepM S)
  | [], _, G => G
  | e :: es, _, G => Good.fold es (G.step e)
theorem made_good (es : List En) : Good (madeS es) := Good.fold _ Good.zero
theorem Good.walkS {S : MS} (G : Good S) : walkS S.log = ⟨S.n, S.l, S.subs, 0, S.log.length⟩ := by
  have h1 := G.walk (S.log.length + 1 - S.ins.length) []
  have h2 := G.le
  rw [show S.log.length + 1 - S.ins.length + S.ins.length = S.log.length + 1 by omega, List.append_nil] at h1
  obtain ⟨q, hq⟩ : ∃ q, S.log.length + 1 - S.ins.length = q + 1 := ⟨S.log.length - S.ins.length, by omega⟩
  rw [hq] at h1
  have h3 : walkR (q + 1) [] S.n S.l S.subs = ⟨S.n, S.l, S.subs, 0, 0⟩ := by rw [walkR_succ]; rfl
  rw [h3] at h1
  exact h1
theorem Good.items_e {S : MS} (G : Good S) : (itemsS S.log).map (·.e) = S.ins := by
  obtain ⟨ts, t1, t2⟩ := G.items
  have h1 := t2 (S.log.length + 1 - S.ins.length) []
  have h2 := G.le
  rw [show S.log.length + 1 - S.ins.length + S.ins.length = S.log.length + 1 by omega, List.append_nil] at h1
  obtain ⟨q, hq⟩ : ∃ q, S.log.length + 1 - S.ins.length = q + 1 := ⟨S.log.length - S.ins.length, by omega⟩
  rw [hq] at h1
  have h3 : itemsR (q + 1) [] S.l S.subs = [] := by rw [itemsR_succ]; rfl
  rw [h3, List.append_nil] at h1
  unfold itemsS
  rw [h1, t1]
/-- the head of what was made. -/
def headS (S : MS) : List UInt8 := shaS (be8 S.n ++ S.l)
theorem headS_len (S : MS) : (headS S).length = 32 := shaS_len _
instance : DecidableEq En := fun x y => decidable_of_iff (x.t = y.t ∧ x.at_ = y.at_ ∧ x.w = y.w ∧ x.b = y.b) (by cases x; cases y; simp)
/-- entries as the reference keeps them: their bodies are those that came in. -/
def InsAt (h g : VH) (v : Value) (ins : List En) : Prop := ∃ rows : List (En × Value), rows.map Prod.fst = ins ∧ OwnSl g 4 v (rows.flatMap fun p => enL p.1 p.2) ins.length ∧ ∀ p ∈ rows, ∃ a n c, p.2 = .slice a n c ∧ IsBytes h p.2 p.1.b
/-- a list of entries, to be read. -/
def SameAt (g : VH) (v : Value) (xs : List En) : Prop := ∃ rows : List (En × Value), rows.map Prod.fst = xs ∧ OwnSl g 4 v (rows.flatMap fun p => enL p.1 p.2) xs.length ∧ ∀ p ∈ rows, IsBytes g p.2 p.1.b
theorem InsAt.same {h g : VH} {v : Value} {xs : List En} (H : InsAt h g v xs) (F : Fr h g []) : SameAt g v xs := by
  obtain ⟨rows, h1, h2, h3⟩ := H
  exact ⟨rows, h1, h2, fun p hp => let ⟨_, _, _, _, hb⟩ := h3 p hp; isB_fr F hb⟩
theorem SameAt.fr {g g' : VH} {v : Value} {xs : List En} (H : SameAt g v xs) (F : Fr g g' []) : SameAt g' v xs := by
  obtain ⟨rows, h1, h2, h3⟩ := H
  exact ⟨rows, h1, h2.fr F (by simp), fun p hp => isB_fr F (h3 p hp)⟩
theorem SameAt.shape {g : VH} {v : Value} {xs : List En} (H : SameAt g v xs) : ∃ a c, v = .slice a xs.length c := by
  obtain ⟨rows, h1, h2, h3⟩ := H
  exact h2.shapeN
theorem SameAt.at_ {g : VH} {v : Value} {xs : List En} (H : SameAt g v xs) {k : Nat} (hk : k < xs.length) :
    ∃ i o c ds p m d, v = .slice (some ⟨i, o, none⟩) xs.length c ∧ g.get i = .cells ds true 4 ∧ loadObj (.cells ds true 4) (o + k * 4) none = some (.string (strB xs[k].t)) ∧ loadObj (.cells ds true 4) (o + k * 4 + 1) none = some (.int .i64 xs[k].at_) ∧
      loadObj (.cells ds true 4) (o + k * 4 + 2) none = some (.string (strB xs[k].w)) ∧ loadObj (.cells ds true 4) (o + k * 4 + 3) none = some (.slice p m d) ∧ IsBytes g (.slice p m d) xs[k].b := by
  obtain ⟨rows, h1, h2, h3⟩ := H
  have hrl : rows.length = xs.length := by rw [← h1]; simp
  have hkr : k < rows.length := by omega
  rcases h2 with ⟨_, _, h0⟩ | ⟨i, o, c, ds, a1, a2, rfl, a3, a4, a5, a6⟩
  · omega
  have hfl : ∀ x ∈ rows.map (fun p : En × Value => enL p.1 p.2), x.length = 4 := fun x hx => by
    obtain ⟨t, ht, rfl⟩ := List.mem_map.1 hx
    rfl
  have hch := flat_chunk hfl (k := k) (by simpa using hkr)
  rw [← List.flatMap_def, ← a4, List.getElem_map, List.drop_drop] at hch
  obtain ⟨p, d, hs⟩ := (h3 rows[k] (List.getElem_mem hkr)).shape
  have hx : rows[k].1 = xs[k] := by subst h1; simp
  obtain ⟨q0, q1, q2, q3⟩ := getElem_of_take4 hch
  rw [hs] at q3
  rw [hx] at q0 q1 q2 hs q3
  have hb := h3 rows[k] (List.getElem_mem hkr)
  rw [hs, hx] at hb
  exact ⟨i, o, c, ds, p, _, d, rfl, a3, q0, q1, q2, q3, hb⟩
set_option maxHeartbeats 4000000 in
theorem same_ok {g : VH} {v w : Value} {xs ys : List En} (hx : SameAt g v xs) (hy : SameAt g w ys) (hl : xs.length ≤ 1000000 ∧ ys.length ≤ 1000000) : PCalls Try.prog f_ref09_Same [v, w] g (fun u g' => u = .bool (decide (xs = ys)) ∧ g' = g) := by
  refine PCalls_of_pw st_ref09_Same (by simp [n_ref09_Same]) ?_
  rw [b_ref09_Same]
  obtain ⟨va, vc, rfl⟩ := hx.shape
  obtain ⟨wa, wc, rfl⟩ := hy.shape
  obtain ⟨N, hN⟩ : ∃ N, N = xs.length := ⟨_, rfl⟩
  obtain ⟨M, hM⟩ : ∃ M, M = ys.length := ⟨_, rfl⟩
  obtain ⟨D, hD⟩ : ∃ D, D = decide (xs = ys) := ⟨_, rfl⟩
  rw [← hN] at hx ⊢
  rw [← hM] at hy ⊢
  rw [← hD]
  by_cases hNM : N = M
  case neg =>
    have hb : ((N : Int) == (M : Int)) = false := by rw [beq_eq_false_iff_ne]; omega
    have hbn : ((N : Int) != (M : Int)) = true := by rw [bne, hb]; rfl
    have hres : D = false := by
      rw [hD, decide_eq_false_iff_not]
      rintro rfl
      omega
    simp (disch := first|omega|(simp only [np,ns];try omega)) [r_ref09_Same, B_ref09_Same, hbn, hres]
  subst hNM
  have hbn : ((N : Int) != (N : Int)) = false := by simp
  simp (disch := first|omega|(simp only [np,ns];try omega)) [B_ref09_Same, hbn]
  refine pw_loopN (fun k s g' => g' = g ∧ xs.take k = ys.take k ∧ s 0 = .slice va N vc ∧ s 1 = .slice wa N wc ∧ s 5 = .int .i64 (k : Int)) N ?_ ?_
  · exact ⟨rfl, rfl, by simp [upd_apply, s0_apply], by simp [upd_apply, s0_apply], by simp [upd_apply]⟩
  rintro k s g' hk ⟨rfl, htk, e0, e1, e5⟩
  by_cases hlt : k < N
  case neg =>
    have hltI : ¬ (k : Int) < (N : Int) := by omega
    have hres : D = true := by
      rw [hD, decide_eq_true_eq]
      rw [List.take_of_length_le (by omega), List.take_of_length_le (by omega)] at htk
      exact htk
    simp (disch := first|omega|(simp only [np,ns];try omega)) [r_ref09_Same, e0, e1, e5, hlt, hltI, hres]
  have hltI : (k : Int) < (N : Int) := by omega
  obtain ⟨i, o, c, ds, p, m, d, hv, hg, l0, l1, l2, l3, hb⟩ := hx.at_ (k := k) (by omega)
  obtain ⟨i', o', c', ds', p', m', d', hv', hg', l0', l1', l2', l3', hb'⟩ := hy.at_ (k := k) (by omega)
  injection hv with h1 h2 h3
  injection hv' with h1' h2' h3'
  subst h1 h1'
  have o1 := ofB_eq hb
  have o2 := ofB_eq hb'
  obtain ⟨x, hxe⟩ : ∃ x, x = xs[k]'(by omega) := ⟨_, rfl⟩
  obtain ⟨y, hye⟩ : ∃ y, y = ys[k]'(by omega) := ⟨_, rfl⟩
  rw [← hxe] at l0 l1 l2 o1
  rw [← hye] at l0' l1' l2' o2
  have hno : x ≠ y → D = false := by
    intro hne
    rw [hD, decide_eq_false_iff_not]
    rintro rfl
    exact hne (by rw [hxe, hye])
  have hkk : IntKind.i64.wrap ((k : Int) + 1) = ((k + 1 : Nat) : Int) := by rw [i64_small (by omega) (by omega)]; omega
  obtain ⟨xt, xa, xw, xb⟩ := x
  obtain ⟨yt, ya, yw, yb⟩ := y
  simp only at l0 l1 l2 o1 l0' l1' l2' o2
  by_cases ht : xt = yt
  case neg =>
    have hb : (xt == yt) = false := by simpa using ht
    have := hno (fun e => ht (by injection e))
    simp (disch := first|omega|(simp only [np,ns];try omega)) [r_ref09_Same, e0, e1, e5, hlt, hltI, hg, hg', l0, l0', strB_toList, hb, this]
  have hb1 : (xt == yt) = true := by simpa using ht
  by_cases ha : xa = ya
  case neg =>
    have hb : (xa == ya) = false := by simpa using ha
    have hbn : (xa != ya) = true := by rw [bne, hb]; rfl
    have := hno (fun e => ha (by injection e))
    simp (disch := first|omega|(simp only [np,ns];try omega)) [r_ref09_Same, e0, e1, e5, hlt, hltI, hg, hg', l0, l0', l1, l1', strB_toList, hb1, hbn, this]
  have hb2 : (xa != ya) = false := by simpa using ha
  by_cases hw : xw = yw
  case neg =>
    have hb : (xw == yw) = false := by simpa using hw
    have := hno (fun e => hw (by injection e))
    simp (disch := first|omega|(simp only [np,ns];try omega)) [r_ref09_Same, e0, e1, e5, hlt, hltI, hg, hg', l0, l0', l1, l1', l2, l2', strB_toList, hb1, hb2, hb, this]
  have hb3 : (xw == yw) = true := by simpa using hw
  by_cases hbb : xb = yb
  case neg =>
    have hb : (xb == yb) = false := by simpa using hbb
    have := hno (fun e => hbb (by injection e))
    simp (disch := first|omega|(simp only [np,ns];try omega)) [r_ref09_Same, e0, e1, e5, hlt, hltI, hg, hg', l0, l0', l1, l1', l2, l2', l3, l3', o1, o2, strB_toList, hb1, hb2, hb3, hb, this]
  have hb4 : (xb == yb) = true := by simpa using hbb
  simp (disch := first|omega|(simp only [np,ns];try omega)) [e0, e1, e5, hlt, hltI, hg, hg', l0, l0', l1, l1', l2, l2', l3, l3', o1, o2, strB_toList, hb1, hb2, hb3, hb4, hkk]
  rw [List.take_succ_eq_append_getElem (by omega), List.take_succ_eq_append_getElem (by omega), htk, ← hxe, ← hye, ht, ha, hw, hbb]
theorem IsEns.fr {h h' : VH} {v : Value} {es : List En} (F : Fr h h' []) (H : IsEns h v es) : IsEns h' v es := by
  obtain ⟨a, c, rfl, hat⟩ := H
  refine ⟨a, c, rfl, fun h0 => ?_⟩
  obtain ⟨i, o, rfl, hi, he, hk⟩ := hat h0
  have hg := F.get i hi (by simp)
  have hn := F.n
  refine ⟨i, o, rfl, by omega, by rw [hg]; exact he, fun k hk' => ?_⟩
  obtain ⟨p, m, d, l1, l2, l3⟩ := hk k hk'
  exact ⟨p, m, d, by rw [hg]; exact l1, by rw [hg]; exact l2, isB_fr F l3⟩
/-- a list of entries makes what those of it that are right make. -/
theorem fold_ins : ∀ (es : List En) (S : MS), es.foldl stepM S = (es.filter fun e => decide (wrongS e = 0)).foldl stepM S ∧ (es.foldl stepM S).ins = S.ins ++ es.filter fun e => decide (wrongS e = 0)
  | [], S => ⟨rfl, by simp⟩
  | e :: es, S => by
    obtain ⟨i1, i2⟩ := fold_ins es (stepM S e)
    by_cases h : wrongS e = 0
    · rw [List.filter_cons, if_pos (by simpa using h)]
      refine ⟨i1, ?_⟩
      rw [List.foldl_cons, i2, stepM_ok h]
      simp
    · rw [List.filter_cons, if_neg (by simpa using h), List.foldl_cons, stepM_bad h]
      exact fold_ins es S
theorem made_small (es : List En) : (madeS es).ins.length ≤ 40 := by
  have h := (fold_ins (es.take 40) ms0).2
  have e : madeS es = (es.take 40).foldl stepM ms0 := rfl
  rw [e, h]
  have h2 := List.length_filter_le (fun e => decide (wrongS e = 0)) (es.take 40)
  have h3 : (es.take 40).length ≤ 40 := by simp; omega
  simp [ms0]
  simp at h2 h3
  omega
theorem step_log (S : MS) (e : En) : (stepM S e).log.length ≤ S.log.length + 1048586 := by
  unfold stepM
  have := fr_le (n := S.n) (l := S.l) (subs := S.subs) (e := e)
  by_cases h : wrongS e = 0
  · simp only [if_pos h, List.length_append]; omega
  · simp only [if_neg h]; omega
theorem fold_log : ∀ (es : List En) (S : MS), (es.foldl stepM S).log.length ≤ S.log.length + es.length * 1048586
  | [], S => by simp
  | e :: es, S => by
    have h1 := fold_log es (stepM S e)
    have h2 := step_log S e
    rw [List.foldl_cons, List.length_cons, Nat.succ_mul]
    omega
theorem made_log (es : List En) : (madeS es).log.length ≤ 100000000 := by
  have h := fold_log (es.take 40) ms0
  have e : madeS es = (es.take 40).foldl stepM ms0 := rfl
  have h3 : (es.take 40).length ≤ 40 := by simp; omega
  have h4 : (es.take 40).length * 1048586 ≤ 40 * 1048586 := Nat.mul_le_mul_right _ h3
  rw [e]
  have h5 : ms0.log.length = 0 := rfl
  omega
end Go.Proofs.Ytdnkpgbggpbgaaa.Au
