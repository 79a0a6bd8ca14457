/- disk, part A: known; a disk that is not there. -/
import Derived.Test.YtgnmhonbcejnfaaGreatDoorFsA
import Derived.Test.YtgnmhonbcejnfaaGreatDoorPmS
import Derived.Test.YtgnmhonbcejnfaaGreatDoorPmMr
import Derived.Test.YtgnmhonbcejnfaaGreatDoorFsB
set_option linter.unusedVariables false
set_option linter.unusedSimpArgs false
set_option maxRecDepth 100000
namespace Go.Proofs.YtgnmhonbcejnfaaGreatDoor.Dk
open Go Go.RowKit Go.Proofs.YtgnmhonbcejnfaaGreatDoor.Pm Go.Proofs.YtgnmhonbcejnfaaGreatDoor.Fs
attribute [-simp] BitVec.toNat_or BitVec.toNat_xor BitVec.toNat_add BitVec.toNat_and BitVec.toNat_not BitVec.toNat_shiftLeft BitVec.toNat_ushiftRight


theorem known_run : runF GA 3000 f_law06_known [] VH.empty = some (.bool true) := by kernel_rfl
theorem known_ok (h : VH) : PCalls Tryz.prog f_law06_known [] h (fun u h' => u = .bool true ∧ h' = h) := run_alone GA_ok known_run rfl rfl h
theorem nRead_ok {h : VH} {a : Value} : PCalls Tryz.prog f_disk_Disk_Read [.pointer none, a] h (fun u h' => u = .tuple #[.slice none 0 0, .int .i64 2] ∧ h' = h) := by
  refine PCalls_of_pw st_disk_Disk_Read (by simp [n_disk_Disk_Read]) ?_
  rw [b_disk_Disk_Read]
  unfold B_disk_Disk_Read
  simp (disch := first|omega|(simp only [np,ns];try omega)) [r_disk_Disk_Read]
theorem nLen_ok {h : VH} {a : Value} : PCalls Tryz.prog f_disk_Disk_Len [.pointer none, a] h (fun u h' => u = .tuple #[.int .i64 0, .int .i64 2] ∧ h' = h) := by
  refine PCalls_of_pw st_disk_Disk_Len (by simp [n_disk_Disk_Len]) ?_
  rw [b_disk_Disk_Len]
  unfold B_disk_Disk_Len
  simp (disch := first|omega|(simp only [np,ns];try omega)) [r_disk_Disk_Len]
theorem nPending_ok {h : VH} : PCalls Tryz.prog f_disk_Disk_Pending [.pointer none] h (fun u h' => u = .int .i64 0 ∧ h' = h) := by
  refine PCalls_of_pw st_disk_Disk_Pending (by simp [n_disk_Disk_Pending]) ?_
  rw [b_disk_Disk_Pending]
  unfold B_disk_Disk_Pending
  simp (disch := first|omega|(simp only [np,ns];try omega)) [r_disk_Disk_Pending]
theorem nSyncs_ok {h : VH} : PCalls Tryz.prog f_disk_Disk_Syncs [.pointer none] h (fun u h' => u = .int .i64 0 ∧ h' = h) := by
  refine PCalls_of_pw st_disk_Disk_Syncs (by simp [n_disk_Disk_Syncs]) ?_
  rw [b_disk_Disk_Syncs]
  unfold B_disk_Disk_Syncs
  simp (disch := first|omega|(simp only [np,ns];try omega)) [r_disk_Disk_Syncs]
theorem nCopy_ok {h : VH} : PCalls Tryz.prog f_disk_Disk_Copy [.pointer none] h (fun u h' => u = .pointer none ∧ h' = h) := by
  refine PCalls_of_pw st_disk_Disk_Copy (by simp [n_disk_Disk_Copy]) ?_
  rw [b_disk_Disk_Copy]
  unfold B_disk_Disk_Copy
  simp (disch := first|omega|(simp only [np,ns];try omega)) [r_disk_Disk_Copy]
theorem nAppend_ok {h : VH} {a b : Value} : PCalls Tryz.prog f_disk_Disk_Append [.pointer none, a, b] h (fun u h' => u = .int .i64 2 ∧ h' = h) := by
  refine PCalls_of_pw st_disk_Disk_Append (by simp [n_disk_Disk_Append]) ?_
  rw [b_disk_Disk_Append]
  unfold B_disk_Disk_Append
  simp (disch := first|omega|(simp only [np,ns];try omega)) [r_disk_Disk_Append]
theorem nSync_ok {h : VH} {a : Value} : PCalls Tryz.prog f_disk_Disk_Sync [.pointer none, a] h (fun u h' => u = .int .i64 2 ∧ h' = h) := by
  refine PCalls_of_pw st_disk_Disk_Sync (by simp [n_disk_Disk_Sync]) ?_
  rw [b_disk_Disk_Sync]
  unfold B_disk_Disk_Sync
  simp (disch := first|omega|(simp only [np,ns];try omega)) [r_disk_Disk_Sync]
theorem nCut_ok {h : VH} {a b : Value} : PCalls Tryz.prog f_disk_Disk_Cut [.pointer none, a, b] h (fun u h' => u = .int .i64 2 ∧ h' = h) := by
  refine PCalls_of_pw st_disk_Disk_Cut (by simp [n_disk_Disk_Cut]) ?_
  rw [b_disk_Disk_Cut]
  unfold B_disk_Disk_Cut
  simp (disch := first|omega|(simp only [np,ns];try omega)) [r_disk_Disk_Cut]
theorem nRename_ok {h : VH} {a b : Value} : PCalls Tryz.prog f_disk_Disk_Rename [.pointer none, a, b] h (fun u h' => u = .int .i64 2 ∧ h' = h) := by
  refine PCalls_of_pw st_disk_Disk_Rename (by simp [n_disk_Disk_Rename]) ?_
  rw [b_disk_Disk_Rename]
  unfold B_disk_Disk_Rename
  simp (disch := first|omega|(simp only [np,ns];try omega)) [r_disk_Disk_Rename]
theorem nRemove_ok {h : VH} {a : Value} : PCalls Tryz.prog f_disk_Disk_Remove [.pointer none, a] h (fun u h' => u = .int .i64 2 ∧ h' = h) := by
  refine PCalls_of_pw st_disk_Disk_Remove (by simp [n_disk_Disk_Remove]) ?_
  rw [b_disk_Disk_Remove]
  unfold B_disk_Disk_Remove
  simp (disch := first|omega|(simp only [np,ns];try omega)) [r_disk_Disk_Remove]
theorem nCrash_ok {h : VH} {a : Value} : PCalls Tryz.prog f_disk_Disk_Crash [.pointer none, a] h (fun u h' => u = .int .i64 2 ∧ h' = h) := by
  refine PCalls_of_pw st_disk_Disk_Crash (by simp [n_disk_Disk_Crash]) ?_
  rw [b_disk_Disk_Crash]
  unfold B_disk_Disk_Crash
  simp (disch := first|omega|(simp only [np,ns];try omega)) [r_disk_Disk_Crash]
theorem nSame_ok {h : VH} {a : Value} : PCalls Tryz.prog f_disk_Disk_Same [.pointer none, a] h (fun u h' => u = .bool false ∧ h' = h) := by
  refine PCalls_of_pw st_disk_Disk_Same (by simp [n_disk_Disk_Same]) ?_
  rw [b_disk_Disk_Same]
  unfold B_disk_Disk_Same
  simp (disch := first|omega|(simp only [np,ns];try omega)) [r_disk_Disk_Same]

theorem new_ok {h : VH} : PCalls Tryz.prog f_disk_New [] h (fun u h' => ∃ i, u = .pointer (some ⟨i, 0, none⟩) ∧ Fr h h' []) := by
  refine PCalls_of_pw st_disk_New (by simp [n_disk_New]) ?_
  rw [b_disk_New]
  unfold B_disk_New
  have hf : fillC [.map none, .int .i64 0] [(0, 1, .map (some h.n))] = some [.map (some h.n), .int .i64 0] := rfl
  simp (disch := first|omega|(simp only [np,ns];try omega)) [r_disk_New, hf]
  exact Fr_push (Fr_push (Fr.refl _ _))
theorem files_ok {h : VH} : PCalls Tryz.prog f_disk_Disk_Files [.pointer none] h (fun u h' => u = .func (.func f_disk_Disk_Files_1) #[] #[.pointer (some ⟨h.n, 0, none⟩)] ∧ h' = h.push (.cells [.pointer none] true 1)) := by
  refine PCalls_of_pw st_disk_Disk_Files (by simp [n_disk_Disk_Files]) ?_
  rw [b_disk_Disk_Files]
  unfold B_disk_Disk_Files
  simp (disch := first|omega|(simp only [np,ns];try omega)) [r_disk_Disk_Files]
theorem seq_ok {h : VH} {y : Value} {i : Nat} (hi : h.get i = .cells [.pointer none] true 1) : PCalls Tryz.prog f_disk_Disk_Files_1 [y, .pointer (some ⟨i, 0, none⟩)] h (fun u h' => h' = h) := by
  refine PCalls_of_pw st_disk_Disk_Files_1 (by simp [n_disk_Disk_Files_1]) ?_
  rw [b_disk_Disk_Files_1]
  unfold B_disk_Disk_Files_1
  have hl : loadObj (.cells [.pointer none] true 1) 0 none = some (.pointer none) := rfl
  simp (disch := first|omega|(simp only [np,ns];try omega)) [r_disk_Disk_Files_1, hi, hl]
theorem pw_rangeF_of {P : Program} {fr : Ref} {ps : List Nat} {a b : PC} {s : Slots} {h : VH} {Q : Exit → Slots → VH → Prop} {g : FuncId} {first cap : Array Value} (hf : ev s fr = .func (.func g) first cap) (hi : isFn P g = true)
    (hc : ∀ L : LoopKey, L.s = s → L.ps = ps → PCalls P g (first.toList ++ [.func (.yield h.n) #[] #[]] ++ cap.toList) (h.push (.loop L .ready none)) (rngEnd h.n L s Q)) : pw P (.rangeF fr ps a b) s h Q :=
  ⟨g, first, cap, hf, hi, fun L h1 h2 _ => hc L h1 h2⟩

/-- a file: its name, its safe bytes, its writes that are not. -/
structure Fl where
  nm : List UInt8
  s : List UInt8
  ws : List (List UInt8)
def Fl.all (f : Fl) : List UInt8 := f.s ++ f.ws.flatten
/-- where writes stand, behind n bytes. -/
def atL (n : Nat) : List (List UInt8) → List Nat
  | [] => []
  | w :: r => n :: atL (n + w.length) r
structure Ds where
  fs : List Fl
  sy : Nat
def Ds0 : Ds := ⟨[], 0⟩
def nameC (c : UInt8) : Bool := (decide (97 ≤ c.toNat) && decide (c.toNat ≤ 122)) || (decide (48 ≤ c.toNat) && decide (c.toNat ≤ 57)) || decide (c.toNat = 46)
def nameS (s : List UInt8) : Bool := decide (1 ≤ s.length) && decide (s.length ≤ 32) && s.all nameC
def findF (nm : List UInt8) : List Fl → Option Fl
  | [] => none
  | f :: r => if f.nm = nm then some f else findF nm r
def insF (x : Fl) : List Fl → List Fl
  | [] => [x]
  | f :: r => if f.nm < x.nm then f :: insF x r else x :: f :: r
def setF (x : Fl) : List Fl → List Fl
  | [] => []
  | f :: r => if f.nm = x.nm then x :: r else f :: setF x r
def delF (nm : List UInt8) : List Fl → List Fl
  | [] => []
  | f :: r => if f.nm = nm then r else f :: delF nm r
def sizeF : Option Fl → Nat
  | none => 0
  | some f => f.all.length
def appD (S : Ds) (nm b : List UInt8) : Nat × Ds :=
  if nameS nm = false then (40, S) else
  if 1048576 < sizeF (findF nm S.fs) + b.length then (4, S) else
  match findF nm S.fs with
  | some f => (0, if b = [] then S else { S with fs := setF { f with ws := f.ws ++ [b] } S.fs })
  | none => if 64 ≤ S.fs.length then (7, S) else (0, { S with fs := insF ⟨nm, [], if b = [] then [] else [b]⟩ S.fs })
def synD (S : Ds) (nm : List UInt8) : Nat × Ds :=
  match findF nm S.fs with
  | none => (5, S)
  | some f => (0, ⟨setF ⟨nm, f.all, []⟩ S.fs, S.sy + 1⟩)
def readD (S : Ds) (nm : List UInt8) : List UInt8 × Nat :=
  match findF nm S.fs with
  | none => ([], 5)
  | some f => (f.all, 0)
def cutD (S : Ds) (nm : List UInt8) (n : Int) : Nat × Ds :=
  match findF nm S.fs with
  | none => (5, S)
  | some f => if n < 0 ∨ (f.all.length : Int) < n then (1, S) else (0, { S with fs := setF ⟨nm, f.all.take n.toNat, []⟩ S.fs })
def renD (S : Ds) (a b : List UInt8) : Nat × Ds :=
  match findF a S.fs with
  | none => (5, S)
  | some f => if nameS b = false then (40, S) else if a = b then (0, S) else (0, { S with fs := insF { f with nm := b } (delF b (delF a S.fs)) })
def remD (S : Ds) (nm : List UInt8) : Nat × Ds :=
  match findF nm S.fs with
  | none => (5, S)
  | some _ => (0, { S with fs := delF nm S.fs })
/-- what is wrong of what is kept: 'met' are the names ahead. -/
def wrongD (fs : List Fl) : List (List UInt8) → List (List UInt8 × List Int) → Nat
  | _, [] => 0
  | met, (nm, ns) :: r => match findF nm fs with
    | none => 5
    | some f => if nm ∈ met then 6 else if f.ws.length < ns.length ∨ ns.any (· < 0) = true then 1 else wrongD fs (nm :: met) r
/-- what is left of the writes behind 'b', of which the file's safe end is b's. at: where the next write stood. -/
def crashL (b : List UInt8) (at_ : Nat) : List (List UInt8) → List Int → List UInt8
  | [], _ => b
  | w :: r, [] => b
  | w :: r, n :: ns => if n = 0 then crashL b (at_ + w.length) r ns else crashL (b ++ List.replicate (at_ - b.length) 0 ++ w.take n.toNat) (at_ + w.length) r ns
def crashF (f : Fl) (ns : List Int) : Fl := ⟨f.nm, crashL f.s f.s.length f.ws ns, []⟩
def keepOf (nm : List UInt8) (l : List (List UInt8 × List Int)) : List Int := l.foldl (fun a p => if p.1 = nm then p.2 else a) []
def craD (S : Ds) (l : List (List UInt8 × List Int)) : Nat × Ds :=
  if wrongD S.fs [] l = 0 then (0, { S with fs := S.fs.map fun f => crashF f (keepOf f.nm l) }) else (wrongD S.fs [] l, S)
def pendD (S : Ds) : Nat := (S.fs.map fun f => f.ws.length).sum

/-! ### what stands always -/
def OrdF (fs : List Fl) : Prop := fs.Pairwise fun a b => a.nm < b.nm
structure OkF (f : Fl) : Prop where
  nm : nameS f.nm = true
  sz : f.all.length ≤ 1048576
  ne : ∀ w ∈ f.ws, w ≠ []
structure OkD (S : Ds) : Prop where
  ord : OrdF S.fs
  fl : ∀ f ∈ S.fs, OkF f
  len : S.fs.length ≤ 64
theorem findF_some {nm : List UInt8} : ∀ {fs : List Fl} {f : Fl}, findF nm fs = some f → f ∈ fs ∧ f.nm = nm
  | [], f, h => by cases h
  | x :: r, f, h => by
    simp only [findF] at h
    split at h
    · rename_i hx
      injection h with h
      subst h
      exact ⟨List.mem_cons_self .., hx⟩
    · obtain ⟨h1, h2⟩ := findF_some h
      exact ⟨List.mem_cons_of_mem _ h1, h2⟩
theorem findF_none {nm : List UInt8} : ∀ {fs : List Fl}, findF nm fs = none → ∀ f ∈ fs, f.nm ≠ nm
  | [], _, f, hf => by cases hf
  | x :: r, h, f, hf => by
    simp only [findF] at h
    split at h
    · cases h
    · rename_i hx
      rcases List.mem_cons.1 hf with rfl | hf
      · exact hx
      · exact findF_none h f hf
theorem crashL_len (m : Nat) : ∀ (ws : List (List UInt8)) (ns : List Int) (b : List UInt8) (at_ : Nat), b.length ≤ at_ → at_ + ws.flatten.length ≤ m → (crashL b at_ ws ns).length ≤ m
  | [], ns, b, a, h1, h2 => by simp [crashL] at h2 ⊢; omega
  | w :: r, [], b, a, h1, h2 => by simp [crashL] at h2 ⊢; omega
  | w :: r, n :: ns, b, a, h1, h2 => by
    simp only [List.flatten_cons, List.length_append] at h2
    simp only [crashL]
    split
    · exact crashL_len m r ns b _ (by omega) (by omega)
    · refine crashL_len m r ns _ _ ?_ (by omega)
      simp only [List.length_append, List.length_replicate, List.length_take]
      omega

/- disk, part Ba: files found, put, taken away; what stands always. -/

def Uni (fs : List Fl) : Prop := (fs.map (·.nm)).Nodup
theorem OrdF.uni {fs : List Fl} (h : OrdF fs) : Uni fs := by
  unfold Uni
  rw [List.nodup_iff_pairwise_ne, List.pairwise_map]
  refine h.imp ?_
  intro a b hab e
  rw [e] at hab
  exact List.lt_irrefl _ hab
theorem findF_mem {f : Fl} : ∀ {fs : List Fl}, Uni fs → f ∈ fs → findF f.nm fs = some f
  | [], _, h => by cases h
  | x :: r, hu, h => by
    simp only [Uni, List.map_cons, List.nodup_cons] at hu
    simp only [findF]
    rcases List.mem_cons.1 h with rfl | h
    · rw [if_pos rfl]
    · rw [if_neg, findF_mem hu.2 h]
      intro e
      exact hu.1 (e ▸ List.mem_map_of_mem h)
theorem findF_perm {a b : List Fl} (hp : a.Perm b) (hu : Uni b) (nm : List UInt8) : findF nm a = findF nm b := by
  have hua : Uni a := (hp.map _).nodup_iff.2 hu
  cases h : findF nm a with
  | some t =>
    obtain ⟨h1, h2⟩ := findF_some h
    rw [← h2, findF_mem hu (hp.mem_iff.1 h1)]
  | none =>
    cases h' : findF nm b with
    | none => rfl
    | some t =>
      obtain ⟨h1, h2⟩ := findF_some h'
      exact absurd h2 (findF_none h t (hp.mem_iff.2 h1))
/-- where a file stands. -/
theorem findF_at {nm : List UInt8} {f : Fl} : ∀ {fs : List Fl}, findF nm fs = some f → ∃ A B, fs = A ++ f :: B ∧ f.nm = nm ∧ (∀ x ∈ A, x.nm ≠ nm) ∧ (∀ x : Fl, x.nm = nm → setF x fs = A ++ x :: B) ∧ delF nm fs = A ++ B
  | [], h => by cases h
  | y :: r, h => by
    simp only [findF] at h
    split at h
    · rename_i hy
      injection h with h
      subst h
      exact ⟨[], r, rfl, hy, by simp, fun x hx => by simp [setF, hy, hx], by simp [delF, hy]⟩
    · rename_i hy
      obtain ⟨A, B, h1, h2, h3, h4, h5⟩ := findF_at h
      refine ⟨y :: A, B, by rw [h1]; rfl, h2, ?_, fun x hx => ?_, ?_⟩
      · intro x hx
        rcases List.mem_cons.1 hx with rfl | hx
        · exact hy
        · exact h3 x hx
      · simp only [setF, hx, if_neg hy, h4 x hx, List.cons_append]
      · simp only [delF, if_neg hy, h5, List.cons_append]
theorem insF_at (x : Fl) : ∀ (fs : List Fl), ∃ A B, fs = A ++ B ∧ insF x fs = A ++ x :: B ∧ (∀ y ∈ A, y.nm < x.nm) ∧ (∀ y r, B = y :: r → ¬ y.nm < x.nm)
  | [] => ⟨[], [], rfl, rfl, by simp, by simp⟩
  | y :: r => by
    by_cases h : y.nm < x.nm
    · obtain ⟨A, B, h1, h2, h3, h4⟩ := insF_at x r
      refine ⟨y :: A, B, by rw [h1]; rfl, by simp [insF, h, h2], ?_, h4⟩
      intro z hz
      rcases List.mem_cons.1 hz with rfl | hz
      · exact h
      · exact h3 z hz
    · exact ⟨[], y :: r, rfl, by simp [insF, h], by simp, fun z s e => by injection e with e _; subst e; exact h⟩
theorem setF_names (x : Fl) : ∀ (fs : List Fl), (setF x fs).map (·.nm) = fs.map (·.nm)
  | [] => rfl
  | t :: r => by
    simp only [setF]
    split
    · rename_i h; simp [h]
    · simp [setF_names x r]
theorem OrdF.of_names {a b : List Fl} (h : OrdF a) (e : b.map (·.nm) = a.map (·.nm)) : OrdF b := by
  unfold OrdF at h ⊢
  rw [← List.pairwise_map (f := fun t : Fl => t.nm) (R := fun a b => a < b)] at h ⊢
  rw [e]; exact h
theorem setF_ord {x : Fl} {fs : List Fl} (h : OrdF fs) : OrdF (setF x fs) := h.of_names (setF_names x fs)
theorem setF_length (x : Fl) (fs : List Fl) : (setF x fs).length = fs.length := by
  have := congrArg List.length (setF_names x fs)
  simpa using this
theorem mem_setF {x t : Fl} : ∀ {fs : List Fl}, t ∈ setF x fs → t = x ∨ t ∈ fs
  | [], h => by cases h
  | y :: r, h => by
    simp only [setF] at h
    split at h
    · rcases List.mem_cons.1 h with rfl | h
      · exact .inl rfl
      · exact .inr (List.mem_cons_of_mem _ h)
    · rcases List.mem_cons.1 h with rfl | h
      · exact .inr (List.mem_cons_self ..)
      · exact (mem_setF h).imp id (List.mem_cons_of_mem _)
theorem insF_perm (x : Fl) (fs : List Fl) : (insF x fs).Perm (x :: fs) := by
  obtain ⟨A, B, h1, h2, _, _⟩ := insF_at x fs
  rw [h2, h1]
  exact List.perm_middle
theorem delF_sub (nm : List UInt8) : ∀ (fs : List Fl), (delF nm fs).Sublist fs
  | [] => List.Sublist.slnil
  | t :: r => by
    simp only [delF]
    split
    · exact List.sublist_cons_self ..
    · exact (delF_sub nm r).cons_cons _
theorem delF_ord {nm : List UInt8} {fs : List Fl} (h : OrdF fs) : OrdF (delF nm fs) := h.sublist (delF_sub nm fs)
theorem delF_length {nm : List UInt8} {fs : List Fl} {f : Fl} (h : findF nm fs = some f) : (delF nm fs).length + 1 = fs.length := by
  obtain ⟨A, B, h1, _, _, _, h5⟩ := findF_at h
  rw [h5, h1]; simp; omega
theorem delF_none {nm : List UInt8} : ∀ {fs : List Fl}, findF nm fs = none → delF nm fs = fs
  | [], _ => rfl
  | t :: r, h => by
    simp only [findF] at h
    split at h
    · cases h
    · rename_i hn
      simp only [delF, if_neg hn, delF_none h]
theorem lt_of_not {a b : List UInt8} (h : ¬ a < b) (hne : a ≠ b) : b < a := by
  have h1 : b ≤ a := h
  rcases List.le_iff_lt_or_eq.1 h1 with h2 | h2
  · exact h2
  · exact absurd h2.symm hne
theorem insF_ord {x : Fl} {fs : List Fl} (h : OrdF fs) (hn : findF x.nm fs = none) : OrdF (insF x fs) := by
  obtain ⟨A, B, h1, h2, h3, h4⟩ := insF_at x fs
  have hne := findF_none hn
  rw [h2]
  rw [h1] at h hne
  unfold OrdF at h ⊢
  rw [List.pairwise_append] at h ⊢
  obtain ⟨ha, hb, hab⟩ := h
  refine ⟨ha, List.pairwise_cons.2 ⟨fun y hy => ?_, hb⟩, fun a hA b hB => ?_⟩
  · cases B with
    | nil => cases hy
    | cons z r =>
      have hz : x.nm < z.nm := lt_of_not (h4 z r rfl) (hne z (by simp))
      rcases List.mem_cons.1 hy with rfl | hy
      · exact hz
      · exact List.lt_trans hz ((List.pairwise_cons.1 hb).1 y hy)
  · rcases List.mem_cons.1 hB with rfl | hB
    · exact h3 a hA
    · exact hab a hA b hB
/-- who is found afterwards. -/
theorem findF_setF {x : Fl} {nm : List UInt8} : ∀ {fs : List Fl}, findF nm (setF x fs) = if nm = x.nm then (findF nm fs).map fun _ => x else findF nm fs
  | [] => by simp [setF, findF]
  | y :: r => by
    simp only [setF]
    split
    · rename_i h
      simp only [findF]
      by_cases hn : nm = x.nm
      · subst hn; simp [h]
      · have h1 : ¬ x.nm = nm := fun e => hn e.symm
        have h2 : ¬ y.nm = nm := fun e => h1 (h ▸ e)
        simp [hn, h1, h2]
    · rename_i h
      simp only [findF]
      by_cases hn : y.nm = nm
      · have h1 : ¬ nm = x.nm := fun e => h (hn.trans e)
        simp [hn, h1]
      · rw [if_neg hn, if_neg hn, findF_setF]
theorem findF_insF {x : Fl} {nm : List UInt8} {fs : List Fl} (hn : findF x.nm fs = none) : findF nm (insF x fs) = if nm = x.nm then some x else findF nm fs := by
  induction fs with
  | nil => simp [insF, findF, eq_comm]
  | cons y r ih =>
    simp only [findF] at hn
    split at hn
    · cases hn
    · rename_i hy
      simp only [insF]
      split
      · simp only [findF, ih hn]
        by_cases h1 : y.nm = nm
        · have h2 : ¬ nm = x.nm := fun e => hy (h1.trans e)
          simp [h1, h2]
        · simp [h1]
      · simp only [findF]
        by_cases h1 : x.nm = nm
        · simp [h1]
        · have h2 : ¬ nm = x.nm := fun e => h1 e.symm
          simp [h1, h2]
theorem findF_delF {a nm : List UInt8} : ∀ {fs : List Fl}, Uni fs → findF nm (delF a fs) = if nm = a then none else findF nm fs
  | [], _ => by simp [delF, findF]
  | y :: r, hu => by
    simp only [Uni, List.map_cons, List.nodup_cons] at hu
    simp only [delF]
    split
    · rename_i h
      by_cases hn : nm = a
      · subst hn
        rw [if_pos rfl]
        cases h2 : findF nm r with
        | none => rfl
        | some f =>
          obtain ⟨h3, h4⟩ := findF_some h2
          exact absurd (h ▸ h4 ▸ List.mem_map_of_mem (f := fun f : Fl => f.nm) h3) hu.1
      · have h1 : ¬ y.nm = nm := fun e => hn (e.symm.trans h)
        simp only [findF, if_neg hn, if_neg h1]
    · rename_i h
      simp only [findF, findF_delF (fs := r) hu.2]
      by_cases h1 : y.nm = nm
      · have h2 : ¬ nm = a := fun e => h (h1.trans e)
        simp [h1, h2]
      · simp [h1]

/-! ### what stands always -/
structure OkN (n : Nat) (S : Ds) : Prop where
  ok : OkD S
  sy : S.sy ≤ n
theorem OkN.le {n m : Nat} {S : Ds} (k : OkN n S) (h : n ≤ m) : OkN m S := ⟨k.ok, Nat.le_trans k.sy h⟩
theorem OkN0 : OkN 0 Ds0 := ⟨⟨List.Pairwise.nil, by simp [Ds0], by simp [Ds0]⟩, Nat.le_refl _⟩
theorem OkD.set {S : Ds} {n : Nat} (k : OkD S) {x : Fl} (hx : OkF x) : OkD ⟨setF x S.fs, n⟩ :=
  ⟨setF_ord k.ord, fun f hf => (mem_setF hf).elim (fun e => e ▸ hx) (k.fl f), by rw [setF_length]; exact k.len⟩
theorem OkD.find {S : Ds} (k : OkD S) {nm : List UInt8} {f : Fl} (h : findF nm S.fs = some f) : OkF f := k.fl f (findF_some h).1
theorem appD_ok {n : Nat} {S : Ds} (k : OkN n S) (nm b : List UInt8) : OkN n (appD S nm b).2 := by
  unfold appD
  split
  · exact k
  · rename_i hnm
    split
    · exact k
    · rename_i hsz
      split
      · rename_i f hf
        split
        · exact k
        · rename_i hb
          have o := k.ok.find hf
          refine ⟨OkD.set k.ok ⟨o.nm, ?_, ?_⟩, k.sy⟩
          · simp only [Fl.all, sizeF, hf, List.flatten_append, List.length_append, List.flatten_cons, List.flatten_nil, List.length_nil] at hsz ⊢
            omega
          · intro w hw
            rcases List.mem_append.1 hw with hw | hw
            · exact o.ne w hw
            · simp at hw; subst hw; exact hb
      · rename_i hf
        split
        · exact k
        · rename_i hl
          have hnm' : nameS nm = true := by simpa using hnm
          refine ⟨⟨insF_ord k.ok.ord hf, fun f h => ?_, ?_⟩, k.sy⟩
          · rcases List.mem_cons.1 ((insF_perm _ _).mem_iff.1 h) with rfl | h
            · refine ⟨hnm', ?_, ?_⟩
              · simp only [Fl.all, sizeF, hf] at hsz ⊢
                split <;> simp_all
              · intro w hw
                by_cases hb : b = []
                · simp [hb] at hw
                · simp [hb] at hw; subst hw; exact hb
            · exact k.ok.fl f h
          · rw [(insF_perm _ _).length_eq]; simp; omega
theorem synD_ok {n : Nat} {S : Ds} (k : OkN n S) (nm : List UInt8) : OkN (n + 1) (synD S nm).2 := by
  unfold synD
  split
  · exact k.le (by omega)
  · rename_i f hf
    have o := k.ok.find hf
    have hn := (findF_some hf).2
    exact ⟨k.ok.set ⟨by show nameS nm = true; rw [← hn]; exact o.nm, by have := o.sz; simpa [Fl.all] using this, by simp⟩, by have := k.sy; show S.sy + 1 ≤ n + 1; omega⟩
theorem cutD_ok {n : Nat} {S : Ds} (k : OkN n S) (nm : List UInt8) (c : Int) : OkN n (cutD S nm c).2 := by
  unfold cutD
  split
  · exact k
  · rename_i f hf
    split
    · exact k
    · have o := k.ok.find hf
      have hn := (findF_some hf).2
      refine ⟨k.ok.set ⟨by show nameS nm = true; rw [← hn]; exact o.nm, ?_, by simp⟩, k.sy⟩
      have := o.sz
      simp only [Fl.all, List.flatten_nil, List.append_nil, List.length_take] at this ⊢
      omega
theorem delF_ok {n : Nat} {S : Ds} (k : OkN n S) (nm : List UInt8) : OkN n { S with fs := delF nm S.fs } :=
  ⟨⟨delF_ord k.ok.ord, fun f hf => k.ok.fl f ((delF_sub _ _).mem hf), Nat.le_trans (delF_sub _ _).length_le k.ok.len⟩, k.sy⟩
theorem remD_ok {n : Nat} {S : Ds} (k : OkN n S) (nm : List UInt8) : OkN n (remD S nm).2 := by
  unfold remD
  split
  · exact k
  · exact delF_ok k nm
theorem renD_ok {n : Nat} {S : Ds} (k : OkN n S) (a b : List UInt8) : OkN n (renD S a b).2 := by
  unfold renD
  split
  · exact k
  · rename_i f hf
    split
    · exact k
    · rename_i hb
      split
      · exact k
      · rename_i hab
        have o := k.ok.find hf
        have k1 := delF_ok k a
        have k2 := delF_ok k1 b
        have hfr : findF b (delF b (delF a S.fs)) = none := by rw [findF_delF k1.ok.ord.uni, if_pos rfl]
        refine ⟨⟨insF_ord k2.ok.ord (by exact hfr), fun x hx => ?_, ?_⟩, k.sy⟩
        · rcases List.mem_cons.1 ((insF_perm _ _).mem_iff.1 hx) with rfl | hx
          · exact ⟨by simpa using hb, o.sz, o.ne⟩
          · exact k2.ok.fl x hx
        · rw [(insF_perm _ _).length_eq]
          have h1 := delF_length hf
          have h2 := (delF_sub b (delF a S.fs)).length_le
          have := k.ok.len
          simp; omega
theorem crashF_ok {f : Fl} (o : OkF f) (ns : List Int) : OkF (crashF f ns) := by
  refine ⟨o.nm, ?_, by simp [crashF]⟩
  have h := crashL_len f.all.length f.ws ns f.s f.s.length (Nat.le_refl _) (by simp [Fl.all])
  have := o.sz
  simp only [crashF, Fl.all, List.flatten_nil, List.append_nil] at h this ⊢
  omega
theorem craD_ok {n : Nat} {S : Ds} (k : OkN n S) (l : List (List UInt8 × List Int)) : OkN n (craD S l).2 := by
  unfold craD
  split
  · refine ⟨⟨k.ok.ord.of_names (by rw [List.map_map]; rfl), fun f hf => ?_, by simpa using k.ok.len⟩, k.sy⟩
    obtain ⟨x, hx, rfl⟩ := List.mem_map.1 hf
    exact crashF_ok (k.ok.fl x hx) _
  · exact k

/- disk, part C: a file's name. -/

theorem all_take {p : UInt8 → Bool} {l : List UInt8} {k : Nat} (hk : k < l.length) (h : (l.take k).all p = true) (h2 : p (l.getD k 0) = true) : (l.take (k + 1)).all p = true := by
  rw [List.take_succ_eq_append_getElem hk, List.all_append, h]
  have : l.getD k 0 = l[k] := by simp [List.getD, hk]
  rw [this] at h2
  simp [h2]
theorem all_not {p : UInt8 → Bool} {l : List UInt8} {k : Nat} (hk : k < l.length) (h2 : p (l.getD k 0) = false) : l.all p = false := by
  have : l.getD k 0 = l[k] := by simp [List.getD, hk]
  rw [this] at h2
  rw [List.all_eq_false]
  exact ⟨l[k], List.getElem_mem hk, by simp [h2]⟩
theorem nameC_cases (c : UInt8) : (nameC c = true ∧ ((97 ≤ c.toNat ∧ c.toNat ≤ 122) ∨ (48 ≤ c.toNat ∧ c.toNat ≤ 57) ∨ c.toNat = 46)) ∨ (nameC c = false ∧ (122 < c.toNat ∨ (57 < c.toNat ∧ c.toNat < 97) ∨ (c.toNat < 48 ∧ c.toNat ≠ 46))) := by
  unfold nameC
  by_cases h : (97 ≤ c.toNat ∧ c.toNat ≤ 122) ∨ (48 ≤ c.toNat ∧ c.toNat ≤ 57) ∨ c.toNat = 46
  · refine .inl ⟨?_, h⟩
    simp only [Bool.or_eq_true, Bool.and_eq_true, decide_eq_true_eq]
    omega
  · refine .inr ⟨?_, by omega⟩
    rw [← Bool.not_eq_true]
    simp only [Bool.or_eq_true, Bool.and_eq_true, decide_eq_true_eq]
    omega

set_option maxHeartbeats 4000000 in
theorem name_ok' {h : VH} {t : List UInt8} (ht : t.length ≤ 140737488355328) : PCalls Tryz.prog f_disk_Name [.string (strB t)] h (fun u _ => u = .bool (nameS t)) := by
  refine PCalls_of_pw st_disk_Name (by simp [n_disk_Name]) ?_
  rw [b_disk_Name]
  obtain ⟨L, hL⟩ : ∃ L, L = t.length := ⟨_, rfl⟩
  have hsz : (strB t).size = L := by rw [strB_size, hL]
  obtain ⟨lb, hlb⟩ : ∃ lb, lb = (decide (1 ≤ t.length) && decide (t.length ≤ 32)) := ⟨_, rfl⟩
  unfold B_disk_Name
  by_cases h0 : L = 0
  · have g1 : ¬ (1:Int) ≤ (L:Int) := by omega
    have g2 : (L:Int) < 1 := by omega
    have hl0 : lb = false := by rw [hlb, decide_eq_false (by omega)]; rfl
    subst hl0
    simp (disch := first|omega|(simp only [np,ns];try omega)) [hsz, g1, g2]
    refine pw_loopN (fun k s g => (t.take k).all nameC = true ∧ s 0 = .string (strB t) ∧ s 3 = .bool false ∧ s 15 = .int .i64 (L : Int) ∧ s 16 = .int .i64 (k : Int)) L ?_ ?_
    · exact ⟨by simp, by simp [upd_apply], by simp [upd_apply], by simp [upd_apply, ← hL], by simp [upd_apply]⟩
    rintro k s g hk ⟨hall, e0, e3, e15, e16⟩
    by_cases hlt : k < L
    · exfalso; omega
    · obtain rfl : k = L := by omega
      have hft : t.all nameC = true := by rw [hL, List.take_length] at hall; exact hall
      have hres : nameS t = false := by unfold nameS; rw [hft, ← hlb]; rfl
      simp (disch := first|omega|(simp only [np,ns];try omega)) [r_disk_Name, e3, e15, e16, hres]
  by_cases h32 : 32 < L
  · have g1 : (1:Int) ≤ (L:Int) := by omega
    have g2 : ¬ (L:Int) ≤ 32 := by omega
    have g3 : (32:Int) < (L:Int) := by omega
    have hl0 : lb = false := by rw [hlb, decide_eq_false (p := t.length ≤ 32) (by omega), Bool.and_false]
    subst hl0
    simp (disch := first|omega|(simp only [np,ns];try omega)) [hsz, g1, g2, g3]
    refine pw_loopN (fun k s g => (t.take k).all nameC = true ∧ s 0 = .string (strB t) ∧ s 3 = .bool false ∧ s 15 = .int .i64 (L : Int) ∧ s 16 = .int .i64 (k : Int)) L ?_ ?_
    · exact ⟨by simp, by simp [upd_apply], by simp [upd_apply], by simp [upd_apply, ← hL], by simp [upd_apply]⟩
    rintro k s g hk ⟨hall, e0, e3, e15, e16⟩
    by_cases hlt : k < L
    · have hltI : (k : Int) < (L : Int) := by omega
      have hld := strAt_D (bs := t) (k := .i64) (n := k) (by omega)
      have hkk : IntKind.i64.wrap ((k : Int) + 1) = ((k + 1 : Nat) : Int) := by rw [i64_small (by omega) (by omega)]; omega
      have hcs := nameC_cases (t.getD k 0)
      obtain ⟨d, hd⟩ : ∃ d, d = (t.getD k 0).toNat := ⟨_, rfl⟩
      rw [← hd] at hld hcs
      rcases hcs with ⟨hok, hc | hc | hc⟩ | ⟨hok, hc | hc | hc⟩
      · have f0 : (97:Int) ≤ (d:Int) := by omega
        have f1 : (d:Int) ≤ 122 := by omega
        have f2 : ¬ (d:Int) < 97 := by omega
        have f3 : ¬ (122:Int) < (d:Int) := by omega
        have hnx := all_take (by omega) hall hok
        simp (disch := first|omega|(simp only [np,ns];try omega)) [e0, e3, e15, e16, hltI, hlt, hld, hkk, f0, f1, f2, f3]
        exact List.all_eq_true.1 hnx
      · have f0 : ¬ (97:Int) ≤ (d:Int) := by omega
        have f1 : (d:Int) < 97 := by omega
        have f2 : (48:Int) ≤ (d:Int) := by omega
        have f3 : (d:Int) ≤ 57 := by omega
        have f4 : ¬ (d:Int) < 48 := by omega
        have f5 : ¬ (57:Int) < (d:Int) := by omega
        have hnx := all_take (by omega) hall hok
        simp (disch := first|omega|(simp only [np,ns];try omega)) [e0, e3, e15, e16, hltI, hlt, hld, hkk, f0, f1, f2, f3, f4, f5]
        exact List.all_eq_true.1 hnx
      · have f0 : ¬ (97:Int) ≤ (d:Int) := by omega
        have f1 : (d:Int) < 97 := by omega
        have f2 : ¬ (48:Int) ≤ (d:Int) := by omega
        have f3 : (d:Int) < 48 := by omega
        have f4 : ((d:Int) == 46) = true := by rw [beq_iff_eq]; omega
        have hnx := all_take (by omega) hall hok
        simp (disch := first|omega|(simp only [np,ns];try omega)) [e0, e3, e15, e16, hltI, hlt, hld, hkk, f0, f1, f2, f3, f4]
        exact List.all_eq_true.1 hnx
      · have f0 : (97:Int) ≤ (d:Int) := by omega
        have f1 : ¬ (d:Int) ≤ 122 := by omega
        have f2 : (122:Int) < (d:Int) := by omega
        have f3 : (48:Int) ≤ (d:Int) := by omega
        have f4 : ¬ (d:Int) ≤ 57 := by omega
        have f5 : (57:Int) < (d:Int) := by omega
        have f6 : ¬ (d:Int) < 97 := by omega
        have f7 : ¬ (d:Int) < 48 := by omega
        have f8 : ((d:Int) == 46) = false := by rw [beq_eq_false_iff_ne]; omega
        have hres : nameS t = false := by unfold nameS; rw [all_not (by omega) hok, Bool.and_false]
        simp (disch := first|omega|(simp only [np,ns];try omega)) [r_disk_Name, e0, e3, e15, e16, hltI, hlt, hld, hres, f0, f1, f2, f3, f4, f5, f6, f7, f8]
      · have f0 : ¬ (97:Int) ≤ (d:Int) := by omega
        have f1 : (d:Int) < 97 := by omega
        have f2 : (48:Int) ≤ (d:Int) := by omega
        have f3 : ¬ (d:Int) ≤ 57 := by omega
        have f4 : (57:Int) < (d:Int) := by omega
        have f5 : ¬ (d:Int) < 48 := by omega
        have f6 : ((d:Int) == 46) = false := by rw [beq_eq_false_iff_ne]; omega
        have hres : nameS t = false := by unfold nameS; rw [all_not (by omega) hok, Bool.and_false]
        simp (disch := first|omega|(simp only [np,ns];try omega)) [r_disk_Name, e0, e3, e15, e16, hltI, hlt, hld, hres, f0, f1, f2, f3, f4, f5, f6]
      · have f0 : ¬ (97:Int) ≤ (d:Int) := by omega
        have f1 : (d:Int) < 97 := by omega
        have f2 : ¬ (48:Int) ≤ (d:Int) := by omega
        have f3 : (d:Int) < 48 := by omega
        have f4 : ((d:Int) == 46) = false := by rw [beq_eq_false_iff_ne]; omega
        have hres : nameS t = false := by unfold nameS; rw [all_not (by omega) hok, Bool.and_false]
        simp (disch := first|omega|(simp only [np,ns];try omega)) [r_disk_Name, e0, e3, e15, e16, hltI, hlt, hld, hres, f0, f1, f2, f3, f4]
    · obtain rfl : k = L := by omega
      have hft : t.all nameC = true := by rw [hL, List.take_length] at hall; exact hall
      have hres : nameS t = false := by unfold nameS; rw [hft, ← hlb]; rfl
      simp (disch := first|omega|(simp only [np,ns];try omega)) [r_disk_Name, e3, e15, e16, hres]
  have g1 : (1:Int) ≤ (L:Int) := by omega
  have g2 : (L:Int) ≤ 32 := by omega
  have hl0 : lb = true := by rw [hlb, decide_eq_true (by omega), decide_eq_true (by omega)]; rfl
  subst hl0
  simp (disch := first|omega|(simp only [np,ns];try omega)) [hsz, g1, g2]
  refine pw_loopN (fun k s g => (t.take k).all nameC = true ∧ s 0 = .string (strB t) ∧ s 3 = .bool true ∧ s 15 = .int .i64 (L : Int) ∧ s 16 = .int .i64 (k : Int)) L ?_ ?_
  · exact ⟨by simp, by simp [upd_apply], by simp [upd_apply], by simp [upd_apply, ← hL], by simp [upd_apply]⟩
  rintro k s g hk ⟨hall, e0, e3, e15, e16⟩
  by_cases hlt : k < L
  · have hltI : (k : Int) < (L : Int) := by omega
    have hld := strAt_D (bs := t) (k := .i64) (n := k) (by omega)
    have hkk : IntKind.i64.wrap ((k : Int) + 1) = ((k + 1 : Nat) : Int) := by rw [i64_small (by omega) (by omega)]; omega
    have hcs := nameC_cases (t.getD k 0)
    obtain ⟨d, hd⟩ : ∃ d, d = (t.getD k 0).toNat := ⟨_, rfl⟩
    rw [← hd] at hld hcs
    rcases hcs with ⟨hok, hc | hc | hc⟩ | ⟨hok, hc | hc | hc⟩
    · have f0 : (97:Int) ≤ (d:Int) := by omega
      have f1 : (d:Int) ≤ 122 := by omega
      have f2 : ¬ (d:Int) < 97 := by omega
      have f3 : ¬ (122:Int) < (d:Int) := by omega
      have hnx := all_take (by omega) hall hok
      simp (disch := first|omega|(simp only [np,ns];try omega)) [e0, e3, e15, e16, hltI, hlt, hld, hkk, f0, f1, f2, f3]
      exact List.all_eq_true.1 hnx
    · have f0 : ¬ (97:Int) ≤ (d:Int) := by omega
      have f1 : (d:Int) < 97 := by omega
      have f2 : (48:Int) ≤ (d:Int) := by omega
      have f3 : (d:Int) ≤ 57 := by omega
      have f4 : ¬ (d:Int) < 48 := by omega
      have f5 : ¬ (57:Int) < (d:Int) := by omega
      have hnx := all_take (by omega) hall hok
      simp (disch := first|omega|(simp only [np,ns];try omega)) [e0, e3, e15, e16, hltI, hlt, hld, hkk, f0, f1, f2, f3, f4, f5]
      exact List.all_eq_true.1 hnx
    · have f0 : ¬ (97:Int) ≤ (d:Int) := by omega
      have f1 : (d:Int) < 97 := by omega
      have f2 : ¬ (48:Int) ≤ (d:Int) := by omega
      have f3 : (d:Int) < 48 := by omega
      have f4 : ((d:Int) == 46) = true := by rw [beq_iff_eq]; omega
      have hnx := all_take (by omega) hall hok
      simp (disch := first|omega|(simp only [np,ns];try omega)) [e0, e3, e15, e16, hltI, hlt, hld, hkk, f0, f1, f2, f3, f4]
      exact List.all_eq_true.1 hnx
    · have f0 : (97:Int) ≤ (d:Int) := by omega
      have f1 : ¬ (d:Int) ≤ 122 := by omega
      have f2 : (122:Int) < (d:Int) := by omega
      have f3 : (48:Int) ≤ (d:Int) := by omega
      have f4 : ¬ (d:Int) ≤ 57 := by omega
      have f5 : (57:Int) < (d:Int) := by omega
      have f6 : ¬ (d:Int) < 97 := by omega
      have f7 : ¬ (d:Int) < 48 := by omega
      have f8 : ((d:Int) == 46) = false := by rw [beq_eq_false_iff_ne]; omega
      have hres : nameS t = false := by unfold nameS; rw [all_not (by omega) hok, Bool.and_false]
      simp (disch := first|omega|(simp only [np,ns];try omega)) [r_disk_Name, e0, e3, e15, e16, hltI, hlt, hld, hres, f0, f1, f2, f3, f4, f5, f6, f7, f8]
    · have f0 : ¬ (97:Int) ≤ (d:Int) := by omega
      have f1 : (d:Int) < 97 := by omega
      have f2 : (48:Int) ≤ (d:Int) := by omega
      have f3 : ¬ (d:Int) ≤ 57 := by omega
      have f4 : (57:Int) < (d:Int) := by omega
      have f5 : ¬ (d:Int) < 48 := by omega
      have f6 : ((d:Int) == 46) = false := by rw [beq_eq_false_iff_ne]; omega
      have hres : nameS t = false := by unfold nameS; rw [all_not (by omega) hok, Bool.and_false]
      simp (disch := first|omega|(simp only [np,ns];try omega)) [r_disk_Name, e0, e3, e15, e16, hltI, hlt, hld, hres, f0, f1, f2, f3, f4, f5, f6]
    · have f0 : ¬ (97:Int) ≤ (d:Int) := by omega
      have f1 : (d:Int) < 97 := by omega
      have f2 : ¬ (48:Int) ≤ (d:Int) := by omega
      have f3 : (d:Int) < 48 := by omega
      have f4 : ((d:Int) == 46) = false := by rw [beq_eq_false_iff_ne]; omega
      have hres : nameS t = false := by unfold nameS; rw [all_not (by omega) hok, Bool.and_false]
      simp (disch := first|omega|(simp only [np,ns];try omega)) [r_disk_Name, e0, e3, e15, e16, hltI, hlt, hld, hres, f0, f1, f2, f3, f4]
  · obtain rfl : k = L := by omega
    have hft : t.all nameC = true := by rw [hL, List.take_length] at hall; exact hall
    have hres : nameS t = true := by unfold nameS; rw [hft, ← hlb]; rfl
    simp (disch := first|omega|(simp only [np,ns];try omega)) [r_disk_Name, e3, e15, e16, hres]
theorem name_ok {h : VH} {t : List UInt8} (ht : t.length ≤ 140737488355328) : PCalls Tryz.prog f_disk_Name [.string (strB t)] h (fun u h' => u = .bool (nameS t) ∧ h' = h) :=
  ((name_ok' (h := h.ro) ht).mono fun u _ e => by subst e; exact ⟨rfl, rfl⟩).drop
set_option maxHeartbeats 4000000 in
theorem rname_ok' {h : VH} {t : List UInt8} (ht : t.length ≤ 140737488355328) : PCalls Tryz.prog f_ref06_Name [.string (strB t)] h (fun u _ => u = .bool (nameS t)) := by
  refine PCalls_of_pw st_ref06_Name (by simp [n_ref06_Name]) ?_
  rw [b_ref06_Name]
  obtain ⟨L, hL⟩ : ∃ L, L = t.length := ⟨_, rfl⟩
  have hsz : (strB t).size = L := by rw [strB_size, hL]
  unfold B_ref06_Name
  by_cases h0 : L = 0
  · have g2 : (L:Int) < 1 := by omega
    have hres : nameS t = false := by unfold nameS; rw [decide_eq_false (by omega)]; rfl
    simp (disch := first|omega|(simp only [np,ns];try omega)) [r_ref06_Name, hsz, g2, hres]
  by_cases h32 : 32 < L
  · have g1 : ¬ (L:Int) < 1 := by omega
    have g3 : (32:Int) < (L:Int) := by omega
    have hres : nameS t = false := by unfold nameS; rw [decide_eq_false (p := t.length ≤ 32) (by omega), Bool.and_false]; rfl
    simp (disch := first|omega|(simp only [np,ns];try omega)) [r_ref06_Name, hsz, g1, g3, hres]
  have g1 : ¬ (L:Int) < 1 := by omega
  have g3 : ¬ (32:Int) < (L:Int) := by omega
  simp (disch := first|omega|(simp only [np,ns];try omega)) [hsz, g1, g3]
  refine pw_loopN (fun k s g => (t.take k).all nameC = true ∧ s 0 = .string (strB t) ∧ s 3 = .int .i64 (k : Int)) L ?_ ?_
  · exact ⟨by simp, by simp [upd_apply], by simp [upd_apply]⟩
  rintro k s g hk ⟨hall, e0, e3⟩
  by_cases hlt : k < L
  · have hltI : (k : Int) < (L : Int) := by omega
    have hld := strAt_D (bs := t) (k := .i64) (n := k) (by omega)
    have hkk : IntKind.i64.wrap ((k : Int) + 1) = ((k + 1 : Nat) : Int) := by rw [i64_small (by omega) (by omega)]; omega
    have hcs := nameC_cases (t.getD k 0)
    obtain ⟨d, hd⟩ : ∃ d, d = (t.getD k 0).toNat := ⟨_, rfl⟩
    rw [← hd] at hld hcs
    rcases hcs with ⟨hok, hc | hc | hc⟩ | ⟨hok, hc | hc | hc⟩
    · have f0 : (97:Int) ≤ (d:Int) := by omega
      have f1 : (d:Int) ≤ 122 := by omega
      have f2 : ¬ (d:Int) < 97 := by omega
      have f3 : ¬ (122:Int) < (d:Int) := by omega
      have hnx := all_take (by omega) hall hok
      simp (disch := first|omega|(simp only [np,ns];try omega)) [e0, e3, hsz, hltI, hlt, hld, hkk, f0, f1, f2, f3]
      exact List.all_eq_true.1 hnx
    · have f0 : ¬ (97:Int) ≤ (d:Int) := by omega
      have f1 : (d:Int) < 97 := by omega
      have f2 : (48:Int) ≤ (d:Int) := by omega
      have f3 : (d:Int) ≤ 57 := by omega
      have f4 : ¬ (d:Int) < 48 := by omega
      have f5 : ¬ (57:Int) < (d:Int) := by omega
      have hnx := all_take (by omega) hall hok
      simp (disch := first|omega|(simp only [np,ns];try omega)) [e0, e3, hsz, hltI, hlt, hld, hkk, f0, f1, f2, f3, f4, f5]
      exact List.all_eq_true.1 hnx
    · have f0 : ¬ (97:Int) ≤ (d:Int) := by omega
      have f1 : (d:Int) < 97 := by omega
      have f2 : ¬ (48:Int) ≤ (d:Int) := by omega
      have f3 : (d:Int) < 48 := by omega
      have f4 : ((d:Int) == 46) = true := by rw [beq_iff_eq]; omega
      have hnx := all_take (by omega) hall hok
      simp (disch := first|omega|(simp only [np,ns];try omega)) [e0, e3, hsz, hltI, hlt, hld, hkk, f0, f1, f2, f3, f4]
      exact List.all_eq_true.1 hnx
    · have f0 : (97:Int) ≤ (d:Int) := by omega
      have f1 : ¬ (d:Int) ≤ 122 := by omega
      have f2 : (122:Int) < (d:Int) := by omega
      have f3 : (48:Int) ≤ (d:Int) := by omega
      have f4 : ¬ (d:Int) ≤ 57 := by omega
      have f5 : (57:Int) < (d:Int) := by omega
      have f6 : ¬ (d:Int) < 97 := by omega
      have f7 : ¬ (d:Int) < 48 := by omega
      have f8 : ((d:Int) == 46) = false := by rw [beq_eq_false_iff_ne]; omega
      have hres : nameS t = false := by unfold nameS; rw [all_not (by omega) hok, Bool.and_false]
      simp (disch := first|omega|(simp only [np,ns];try omega)) [r_ref06_Name, e0, e3, hsz, hltI, hlt, hld, hres, f0, f1, f2, f3, f4, f5, f6, f7, f8]
    · have f0 : ¬ (97:Int) ≤ (d:Int) := by omega
      have f1 : (d:Int) < 97 := by omega
      have f2 : (48:Int) ≤ (d:Int) := by omega
      have f3 : ¬ (d:Int) ≤ 57 := by omega
      have f4 : (57:Int) < (d:Int) := by omega
      have f5 : ¬ (d:Int) < 48 := by omega
      have f6 : ((d:Int) == 46) = false := by rw [beq_eq_false_iff_ne]; omega
      have hres : nameS t = false := by unfold nameS; rw [all_not (by omega) hok, Bool.and_false]
      simp (disch := first|omega|(simp only [np,ns];try omega)) [r_ref06_Name, e0, e3, hsz, hltI, hlt, hld, hres, f0, f1, f2, f3, f4, f5, f6]
    · have f0 : ¬ (97:Int) ≤ (d:Int) := by omega
      have f1 : (d:Int) < 97 := by omega
      have f2 : ¬ (48:Int) ≤ (d:Int) := by omega
      have f3 : (d:Int) < 48 := by omega
      have f4 : ((d:Int) == 46) = false := by rw [beq_eq_false_iff_ne]; omega
      have hres : nameS t = false := by unfold nameS; rw [all_not (by omega) hok, Bool.and_false]
      simp (disch := first|omega|(simp only [np,ns];try omega)) [r_ref06_Name, e0, e3, hsz, hltI, hlt, hld, hres, f0, f1, f2, f3, f4]
  · obtain rfl : k = L := by omega
    have hft : t.all nameC = true := by rw [hL, List.take_length] at hall; exact hall
    have hres : nameS t = true := by unfold nameS; rw [hft, decide_eq_true (by omega), decide_eq_true (by omega)]; rfl
    simp (disch := first|omega|(simp only [np,ns];try omega)) [r_ref06_Name, e0, e3, hsz, hres]
theorem rname_ok {h : VH} {t : List UInt8} (ht : t.length ≤ 140737488355328) : PCalls Tryz.prog f_ref06_Name [.string (strB t)] h (fun u h' => u = .bool (nameS t) ∧ h' = h) :=
  ((rname_ok' (h := h.ro) ht).mono fun u _ e => by subst e; exact ⟨rfl, rfl⟩).drop
end Go.Proofs.YtgnmhonbcejnfaaGreatDoor.Dk
