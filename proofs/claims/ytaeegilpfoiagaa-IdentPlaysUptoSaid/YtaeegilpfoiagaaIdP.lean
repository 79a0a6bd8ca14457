/- ident, part P: a table whose sessions are a list: open, who, renew, close. -/
import Derived.Test.YtaeegilpfoiagaaIdO
import Derived.Test.YtaeegilpfoiagaaPmMd
import Derived.Test.YtaeegilpfoiagaaPmEl
import Derived.Test.YtaeegilpfoiagaaPmSa
set_option linter.unusedVariables false
set_option linter.unusedSimpArgs false
set_option maxRecDepth 100000
namespace Go.Proofs.Ytaeegilpfoiagaa.Id
open Go Go.RowKit Go.Proofs.Ytaeegilpfoiagaa.Pm Go.Proofs.Ytaeegilpfoiagaa.Fs


structure TabL (h : VH) (i j : Nat) (L : List Ss) (clk : Nat) (last : Int) : Prop where
  tab : Tab h i j (L.map entS) clk last
  ok : OkL L last clk
theorem TabL.fr {h h' : VH} {i j : Nat} {L : List Ss} {clk : Nat} {last : Int} (k : TabL h i j L clk last) (hf : Fr h h' []) : TabL h' i j L clk last := ⟨k.tab.fr hf, k.ok⟩
theorem Tab.frX {h h' : VH} {i j : Nat} {es : Ents} {clk : Nat} {last : Int} {X : List Nat} (ht : Tab h i j es clk last) (hf : Fr h h' X) (hi : i ∉ X) (hj : j ∉ X) : Tab h' i j es clk last :=
  ⟨by rw [hf.get i ht.lti hi]; exact ht.rec_, by rw [hf.get j ht.ltj hj]; exact ht.map_, ht.ne, Nat.lt_of_lt_of_le ht.lti hf.n, Nat.lt_of_lt_of_le ht.ltj hf.n, ht.ok⟩
theorem TabL.frX {h h' : VH} {i j : Nat} {L : List Ss} {clk : Nat} {last : Int} {X : List Nat} (k : TabL h i j L clk last) (hf : Fr h h' X) (hi : i ∉ X) (hj : j ∉ X) : TabL h' i j L clk last := ⟨k.tab.frX hf hi hj, k.ok⟩

def opens (e : Nat) (now span : Int) (L : List Ss) : Prop := e = 0 ∧ canP now span ∧ L.length < 64
def openE (e : Nat) (now span : Int) (L : List Ss) : Nat := if e ≠ 0 then e else if ¬ canP now span then 1 else if 64 ≤ L.length then 7 else 0
open Classical in
theorem openL_ok {h : VH} {i j : Nat} {L : List Ss} {clk : Nat} {last : Int} {s x y : List UInt8} {z : Bool} {e n : Nat} {now span : Int} (T : TabL h i j L clk last) (hs : s.length ≤ maxLen) (hp : parseS s = prV x y z e n)
    (hl0 : 0 ≤ last) (hl1 : last ≤ 1000000000000) : PCalls Try.prog f_ident_Table_Open [.pointer (some ⟨i, 0, none⟩), .string (strB s), .int .i64 now, .int .i64 span] h (fun u h' =>
      (¬ opens e now span L ∧ u = .tuple #[.int .i64 0, .int .i64 (openE e now span L : Nat)] ∧ TabL h' i j L clk last ∧ Fr h h' [i, j]) ∨
      (opens e now span L ∧ u = .tuple #[.int .i64 (last + 1), .int .i64 0] ∧ TabL h' i j (L ++ [⟨last + 1, x, y, z, endP now span, clk⟩]) (clk + 1) (last + 1) ∧ Fr h h' [i, j])) := by
  refine (open_ok T.tab hs hp hl0 hl1).mono ?_
  rintro u h' (⟨h1, rfl, h2, h3⟩ | ⟨h1, h0, rfl, h2, h3⟩ | ⟨h1, h0, hf, rfl, h2, h3⟩ | ⟨h1, h0, hf, rfl, h2, h3⟩)
  · exact .inl ⟨fun hc => h1 hc.1, by unfold openE; rw [if_pos h1], ⟨h2, T.ok⟩, h3.sub (by simp)⟩
  · exact .inl ⟨fun hc => h0 hc.2.1, by unfold openE; rw [if_neg (by omega), if_pos h0]; rfl, ⟨h2, T.ok⟩, h3.sub (by simp)⟩
  · rw [List.length_map] at hf
    exact .inl ⟨fun hc => by have := hc.2.2; omega, by unfold openE; rw [if_neg (by omega), if_neg (by simpa using h0), if_pos hf]; rfl, ⟨h2, T.ok⟩, h3.sub (by simp)⟩
  · rw [List.length_map] at hf
    have hne : ∀ s ∈ L, s.id ≠ last + 1 := fun s hs => by have := T.ok.le s hs; omega
    rw [mput_new' hne, mtick_new (find_none hne)] at h3
    exact .inr ⟨⟨h1, h0, hf⟩, rfl, ⟨h3, T.ok.open_ hl0 _ _ _ _⟩, h2⟩
theorem lenL_ok {h : VH} {i j : Nat} {L : List Ss} {clk : Nat} {last : Int} (T : TabL h i j L clk last) : PCalls Try.prog f_ident_Table_Len [.pointer (some ⟨i, 0, none⟩)] h (fun u h' => u = .int .i64 L.length ∧ h' = h) := by
  refine (len_ok T.tab).mono ?_
  rintro u h' ⟨rfl, rfl⟩
  exact ⟨by rw [List.length_map], rfl⟩

/-- what is told of a session. -/
structure WhoR where
  x : List UInt8
  y : List UInt8
  z : Bool
  e : Nat
def noneR : WhoR := ⟨[], [], false, 5⟩
def whoS (k now : Int) (L : List Ss) : WhoR := match findS k L with
  | none => noneR
  | some s => if now < s.o then ⟨s.x, s.y, s.z, 0⟩ else noneR
def whoV (w : WhoR) : Value := .tuple #[idV w.x w.y w.z, .int .i64 (w.e : Int)]

section
variable {a b c d f : Value} {ow : Bool} {e : Nat} {x y : ByteArray} {z : Bool} {o : Int}
theorem s4_3' : loadObj (.cells [a, b, c, d] ow e) 3 none = some d := rfl
theorem s4_A : loadObj (.cells [a, b, c, d] ow e) 0 (some 3) = some (.agg #[a, b, c]) := rfl
end

set_option maxHeartbeats 4000000 in
theorem who_none {h : VH} {i j : Nat} {L : List Ss} {clk : Nat} {last id now : Int} (T : TabL h i j L clk last) (hn : findS id L = none) :
    PCalls Try.prog f_ident_Table_Who [.pointer (some ⟨i, 0, none⟩), .int .i64 id, .int .i64 now] h (fun u h' => u = whoV noneR ∧ Fr h h' []) := by
  refine PCalls_of_pw st_ident_Table_Who (by simp [n_ident_Table_Who]) ?_
  rw [b_ident_Table_Who]
  have hri := T.tab.rec_
  have hmj := T.tab.map_
  have hk := T.tab.ok.fits
  have hli := T.tab.lti
  have hlj := T.tab.ltj
  have hfit : fitK (.i .i64) (.int .i64 id) = true := rfl
  have hg : mget (.int .i64 id) (L.map entS) = none := by rw [mget_S, hn]; rfl
  obtain ⟨es, hes⟩ : ∃ es, es = L.map entS := ⟨_, rfl⟩
  rw [← hes] at hmj hk hg
  have hmv : mval true (.agg #[.string ⟨#[]⟩, .string ⟨#[]⟩, .bool false, .int .i64 0]) none = .tuple #[.agg #[.string ⟨#[]⟩, .string ⟨#[]⟩, .bool false, .int .i64 0], .bool false] := rfl
  simp (disch := first|omega|(simp only [np,ns];try omega)) [r_ident_Table_Who, B_ident_Table_Who, hri, hmj, tb_ld0, hfit, hk, hg, hmv, s4_stA, s4_3', s4_A, id_stA, id_ldA, fillC_nil]
  refine ⟨rfl, ?_⟩
  repeat first | exact Fr.refl _ _ | refine Fr_push ?_ | refine Fr_set ?_ (by simp; try omega)
theorem whoL_ok {h : VH} {i j : Nat} {L : List Ss} {clk : Nat} {last id now : Int} (T : TabL h i j L clk last) :
    PCalls Try.prog f_ident_Table_Who [.pointer (some ⟨i, 0, none⟩), .int .i64 id, .int .i64 now] h (fun u h' => u = whoV (whoS id now L) ∧ Fr h h' []) := by
  cases hf : findS id L with
  | none => unfold whoS; rw [hf]; exact who_none T hf
  | some s =>
    have hg : mget (.int .i64 id) (L.map entS) = some (sesV s.x s.y s.z s.o) := by rw [mget_S, hf]; rfl
    refine (who_ok T.tab hg).mono ?_
    rintro u h' ⟨rfl, hfr⟩
    refine ⟨?_, hfr⟩
    unfold whoS
    rw [hf]
    show (if now < s.o then _ else _) = whoV (if now < s.o then _ else _)
    by_cases h1 : now < s.o
    · rw [if_pos h1, if_pos h1]; rfl
    · rw [if_neg h1, if_neg h1]; rfl

def renE (k now span : Int) (L : List Ss) : Nat := if canP now span then (whoS k now L).e else 1
def renL (k now span : Int) (L : List Ss) : List Ss := if canP now span ∧ (whoS k now L).e = 0 then renS k (endP now span) L else L
theorem who_yes {k now : Int} {L : List Ss} (h : (whoS k now L).e = 0) : ∃ s, findS k L = some s ∧ whoS k now L = ⟨s.x, s.y, s.z, 0⟩ ∧ now < s.o := by
  unfold whoS at h ⊢
  cases hf : findS k L with
  | none => rw [hf] at h; simp [noneR] at h
  | some s =>
    rw [hf] at h
    show ∃ _, _
    by_cases h1 : now < s.o
    · exact ⟨s, rfl, by simp [h1], h1⟩
    · simp [h1, noneR] at h
theorem renL_ok {k now span : Int} {L : List Ss} {last : Int} {clk : Nat} (h : OkL L last clk) : OkL (renL k now span L) last clk := by
  unfold renL; split
  · exact h.ren _ _
  · exact h
set_option maxHeartbeats 4000000 in
theorem renew_ok {h : VH} {i j : Nat} {L : List Ss} {clk : Nat} {last id now span : Int} (T : TabL h i j L clk last) :
    PCalls Try.prog f_ident_Table_Renew [.pointer (some ⟨i, 0, none⟩), .int .i64 id, .int .i64 now, .int .i64 span] h (fun u h' => u = .int .i64 (renE id now span L : Nat) ∧ TabL h' i j (renL id now span L) clk last ∧ Fr h h' [i, j]) := by
  refine PCalls_of_pw st_ident_Table_Renew (by simp [n_ident_Table_Renew]) ?_
  rw [b_ident_Table_Renew]
  simp (disch := first|omega|(simp only [np,ns];try omega)) [B_ident_Table_Renew]
  refine (can_ok now span _).mono ?_
  rintro u h1 ⟨rfl, rfl⟩
  by_cases hc : canP now span
  · rw [decide_eq_true hc]
    simp (disch := first|omega|(simp only [np,ns];try omega)) []
    refine (whoL_ok T).mono ?_
    rintro u h2 ⟨rfl, f2⟩
    obtain ⟨W, hW⟩ : ∃ W, W = whoS id now L := ⟨_, rfl⟩
    have hE : renE id now span L = W.e := by unfold renE; rw [if_pos hc, hW]
    rw [← hW, hE]
    unfold whoV idV
    by_cases he : W.e = 0
    · obtain ⟨s, hf, hws, hlt⟩ := who_yes (k := id) (now := now) (L := L) (by rw [← hW]; exact he)
      rw [← hW] at hws
      have hL : renL id now span L = renS id (endP now span) L := by unfold renL; rw [if_pos ⟨hc, by rw [← hW]; exact he⟩]
      have hmp : mput (.int .i64 id) (sesV s.x s.y s.z (endP now span)) clk (L.map entS) = (renS id (endP now span) L).map entS := mput_S T.ok hf
      have hmt := mtick_S (c := clk) hf
      subst hws
      have T2 := T.fr f2
      obtain ⟨g3, hg3⟩ : ∃ g3, g3 = (h2.push (.cells [.string ⟨#[]⟩, .string ⟨#[]⟩, .bool false] true 1)).set h2.n (.cells [.string (strB s.x), .string (strB s.y), .bool s.z] true 1) := ⟨_, rfl⟩
      have f3 : Fr h2 g3 [] := by rw [hg3]; exact Fr_set (Fr_push (Fr.refl _ _)) (Nat.le_refl _)
      have T3 := T2.fr f3
      have o3 : g3.get h2.n = .cells [.string (strB s.x), .string (strB s.y), .bool s.z] true 1 := by rw [hg3, VH.get_set_same]
      have n3 : g3.n = h2.n + 1 := by rw [hg3]; rfl
      have hz : (((0 : Nat) : Int) == 0) = true := rfl
      have hri := T3.tab.rec_
      have hmj := T3.tab.map_
      have hk := T3.tab.ok.fits
      have hne := T3.tab.ne
      have hfit : fitK (.i .i64) (.int .i64 id) = true := rfl
      obtain ⟨es, hes⟩ : ∃ es, es = L.map entS := ⟨_, rfl⟩
      obtain ⟨es', hes'⟩ : ∃ es', es' = (renS id (endP now span) L).map entS := ⟨_, rfl⟩
      rw [← hes] at hmj hk hmp hmt
      rw [← hes'] at hmp
      have hmp2 : mput (.int .i64 id) (.agg #[.string (strB s.x), .string (strB s.y), .bool s.z, .int .i64 (endP now span)]) clk es = es' := hmp
      have hsb : fillC [.string ⟨#[]⟩, .string ⟨#[]⟩, .bool false, .int .i64 0] [(0, 3, .agg #[.string (strB s.x), .string (strB s.y), .bool s.z]), (3, 1, .int .i64 (endP now span))] = some [.string (strB s.x), .string (strB s.y), .bool s.z, .int .i64 (endP now span)] := rfl
      simp (disch := first|omega|(simp only [np,ns];try omega)) [id_stA, ← hg3, hz, hri, tb_ld0, o3, id_ldA]
      refine (end_ok hc _).mono ?_
      rintro u h4 ⟨rfl, rfl⟩
      simp (disch := first|omega|(simp only [np,ns];try omega)) [r_ident_Table_Renew, hri, tb_ld0, o3, id_ldA, hsb, hmj, hfit, hk, hmp2, hmt]
      rw [hL]
      refine ⟨⟨⟨?_, ?_, hne, ?_, ?_, (T.ok.ren _ _).es⟩, T.ok.ren _ _⟩, ((f2.trans f3).sub (by simp)).trans (Fr.set _ _ (by simp))⟩
      · rw [VH.get_set_ne _ _ hne]; exact hri
      · rw [VH.get_set_same, hes']
      · exact T3.tab.lti
      · exact T3.tab.ltj
    · have hL : renL id now span L = L := by unfold renL; rw [if_neg (fun hx => he (by rw [hW]; exact hx.2))]
      have hz : ((W.e : Int) == 0) = false := by rw [beq_eq_false_iff_ne]; omega
      simp (disch := first|omega|(simp only [np,ns];try omega)) [r_ident_Table_Renew, id_stA, hz]
      rw [hL]
      have F : Fr _ ((h2.push (.cells [.string ⟨#[]⟩, .string ⟨#[]⟩, .bool false] true 1)).set h2.n (.cells [.string (strB W.x), .string (strB W.y), .bool W.z] true 1)) [] := f2.trans (Fr_set (Fr_push (Fr.refl _ _)) (Nat.le_refl _))
      exact ⟨T.fr F, F.sub (by simp)⟩
  · rw [decide_eq_false hc]
    have hE : renE id now span L = 1 := by unfold renE; rw [if_neg hc]
    have hL : renL id now span L = L := by unfold renL; rw [if_neg (fun hx => hc hx.1)]
    simp (disch := first|omega|(simp only [np,ns];try omega)) [r_ident_Table_Renew]
    rw [hL, hE]
    exact ⟨rfl, T, Fr.refl _ _⟩

def closeE (k : Int) (L : List Ss) : Nat := match findS k L with
  | none => 5
  | some _ => 0
set_option maxHeartbeats 4000000 in
theorem closeL_ok {h : VH} {i j : Nat} {L : List Ss} {clk : Nat} {last id : Int} (T : TabL h i j L clk last) :
    PCalls Try.prog f_ident_Table_Close [.pointer (some ⟨i, 0, none⟩), .int .i64 id] h (fun u h' => u = .int .i64 (closeE id L : Nat) ∧ TabL h' i j (delS id L) clk last ∧ Fr h h' [i, j]) := by
  refine PCalls_of_pw st_ident_Table_Close (by simp [n_ident_Table_Close]) ?_
  rw [b_ident_Table_Close]
  have hri := T.tab.rec_
  have hmj := T.tab.map_
  have hk := T.tab.ok.fits
  have hne := T.tab.ne
  have hli := T.tab.lti
  have hlj := T.tab.ltj
  have hfit : fitK (.i .i64) (.int .i64 id) = true := rfl
  have hg := mget_S id L
  have hdel := mdel_S (k := id) T.ok
  obtain ⟨es, hes⟩ : ∃ es, es = L.map entS := ⟨_, rfl⟩
  obtain ⟨es', hes'⟩ : ∃ es', es' = (delS id L).map entS := ⟨_, rfl⟩
  rw [← hes] at hmj hk hg hdel
  rw [← hes'] at hdel
  cases hf : findS id L with
  | none =>
    rw [hf] at hg
    have hgn : mget (.int .i64 id) es = none := hg
    have hmv : mval true (.agg #[.string ⟨#[]⟩, .string ⟨#[]⟩, .bool false, .int .i64 0]) none = .tuple #[.agg #[.string ⟨#[]⟩, .string ⟨#[]⟩, .bool false, .int .i64 0], .bool false] := rfl
    have hF : ∀ o o' : VObj, Fr h ((h.push o).set h.n o') [] := fun o o' => (Fr.push h _ []).trans' (Fr.set _ _ (X := [h.n]) (by simp)) (fun y hy => .inr (by simp at hy; omega))
    simp (disch := first|omega|(simp only [np,ns];try omega)) [r_ident_Table_Close, B_ident_Table_Close, hri, hmj, tb_ld0, hfit, hk, hgn, hmv, s4_stA]
    rw [del_none (find_not hf)]
    exact ⟨by unfold closeE; rw [hf]; rfl, T.fr (hF _ _), (hF _ _).sub (by simp)⟩
  | some s =>
    rw [hf] at hg
    have hgs : mget (.int .i64 id) es = some (sesV s.x s.y s.z s.o) := hg
    have hmv : mval true (.agg #[.string ⟨#[]⟩, .string ⟨#[]⟩, .bool false, .int .i64 0]) (some (sesV s.x s.y s.z s.o)) = .tuple #[.agg #[.string (strB s.x), .string (strB s.y), .bool s.z, .int .i64 s.o], .bool true] := rfl
    have hF : ∀ o o' : VObj, Fr h ((h.push o).set h.n o') [] := fun o o' => (Fr.push h _ []).trans' (Fr.set _ _ (X := [h.n]) (by simp)) (fun y hy => .inr (by simp at hy; omega))
    simp (disch := first|omega|(simp only [np,ns];try omega)) [r_ident_Table_Close, B_ident_Table_Close, hri, hmj, tb_ld0, hfit, hk, hgs, hmv, s4_stA, hne, hdel]
    refine ⟨by unfold closeE; rw [hf]; rfl, ⟨⟨?_, ?_, hne, ?_, ?_, (T.ok.filter _).es⟩, T.ok.filter _⟩, ((hF _ _).sub (by simp)).trans (Fr.set _ _ (by simp))⟩
    · rw [VH.get_set_ne _ _ hne]; exact (T.fr (hF _ _)).tab.rec_
    · rw [VH.get_set_same, hes']
    · show i < h.n + 1; omega
    · show j < h.n + 1; omega
end Go.Proofs.Ytaeegilpfoiagaa.Id
