/- The pure machine, part X: scopes with a label, regions that only read, inside a fence. -/
import Derived.Test.YtdnkpgbggpbgaaaPmI
set_option linter.unusedVariables false
set_option linter.unusedSimpArgs false
namespace Go.Proofs.Ytdnkpgbggpbgaaa.Pm
open Go.RowKit

section
variable {F : Fence} {n : Nat} {P : Program} {b : Frame} {a : Act} {k : List Item} {cs : List Frame} {w : World} {Q : Exit → Act → World → Prop}
theorem stepR_scope {c : Code} : step P (lone (b.atR a (.code (.scope c) :: k)) cs w) = .next (lone (b.atR a (.code c :: .inScope c :: k)) cs w) :=
  step_lone_go (by simp [stepG, stepG.exec, Frame.atR])
theorem stepR_inScope {c : Code} : step P (lone (b.atR a (.inScope c :: k)) cs w) = .next (lone (b.atR a k) cs w) :=
  step_lone_go (by simp [stepG, stepG.exec, Frame.atR])

/-- what is asked behind the body of a scope. -/
def scopeQ (G : Nat → Act → World → Prop) (Q : Exit → Act → World → Prop) : Exit → Act → World → Prop
  | .goto l, a, w => G l a w
  | e, a, w => Q e a w

theorem arrives_scope {c : Code} {m : Machine} {e : Exit} {a1 : Act} {w1 : World} (hb : F.fn b.fn) (hr : F.room (cs.length + 1 + n)) (he : ∀ l, e ≠ .goto l) (harr : ArrivesIn (Machine.fenced P F) P m b (.inScope c :: k) cs e a1 w1) :
    ArrivesIn (Machine.fenced P F) P m b k cs e a1 w1 := by
  cases e with
  | normal => exact StepsIn.trans harr (.one (fenced_calm hb hr rfl) stepR_inScope)
  | exit id =>
    have hx : exitTo id (.inScope c :: k) = exitTo id k := by simp [exitTo]
    exact ⟨fun k' hk => harr.1 k' (by rw [hx]; exact hk), fun hr' hk => harr.2 hr' (by rw [hx]; exact hk)⟩
  | goto l => exact absurd rfl (he l)
  | ret => exact harr
  | panic ch => exact harr
  | outgrown => exact harr

theorem wpIn_scopeG {c : Code} (h : c.wpIn F n P (scopeQ (fun l a w => ∃ rest, findLabel c l = some rest ∧ rest.wpIn F n P (scopeQ (fun _ _ _ => False) Q) a w) Q) a w) : (Code.scope c).wpIn F n P Q a w := by
  intro b k cs hro hb hr
  have h0 : (lone (b.atR a (.code (.scope c) :: k)) cs w).fenced P F := fenced_calm hb hr rfl
  obtain ⟨e, a₁, w₁, hq, harr⟩ := h b (.inScope c :: k) cs hro hb hr
  have fin : ∀ (e : Exit) (a1 : Act) (w1 : World) (m : Machine), (∀ l, e ≠ .goto l) → scopeQ (fun _ _ _ => False) Q e a1 w1 → StepsIn (Machine.fenced P F) P (lone (b.atR a (.code (.scope c) :: k)) cs w) m → ArrivesIn (Machine.fenced P F) P m b (.inScope c :: k) cs e a1 w1 →
      ∃ e a' w', Q e a' w' ∧ ArrivesIn (Machine.fenced P F) P (lone (b.atR a (.code (.scope c) :: k)) cs w) b k cs e a' w' := by
    intro e a1 w1 m he hq hs harr
    refine ⟨e, a1, w1, ?_, .of_steps hs (arrives_scope hb hr he harr)⟩
    cases e <;> first | exact hq | exact absurd rfl (he _)
  cases e with
  | goto l =>
    obtain ⟨rest, hl, hrest⟩ := hq
    have hg : gotoIn l (.inScope c :: k) = some (.code rest :: .inScope c :: k) := by simp [gotoIn, hl]
    have s1 := harr.1 _ hg
    obtain ⟨e2, a2, w2, hq2, harr2⟩ := hrest b (.inScope c :: k) cs hro hb hr
    refine fin e2 a2 w2 _ (fun l e => ?_) hq2 (.head h0 stepR_scope s1) harr2
    subst e
    exact hq2.elim
  | normal => exact fin .normal a₁ w₁ _ (fun l e => by cases e) hq (.one h0 stepR_scope) harr
  | exit id => exact fin (.exit id) a₁ w₁ _ (fun l e => by cases e) hq (.one h0 stepR_scope) harr
  | ret => exact fin .ret a₁ w₁ _ (fun l e => by cases e) hq (.one h0 stepR_scope) harr
  | panic ch => exact fin (.panic ch) a₁ w₁ _ (fun l e => by cases e) hq (.one h0 stepR_scope) harr
  | outgrown => exact fin .outgrown a₁ w₁ _ (fun l e => by cases e) hq (.one h0 stepR_scope) harr
end

/-! ### regions that only read -/
section
variable {P : Program} {ops : Array Oper} {C : World → Prop} {r : Option Nat}
theorem wpIn_of_quiet {o : Oper} (hn : ∀ c, o.op ≠ .defer c) {a : Act} {K : Act → Prop} {K' : Act → World → Prop} {Q' : Exit → Act → World → Prop} {w : World} (hw : C w) (h : ∀ a w', C w' → K a → K' a w') (hh : o.quiet P a C K) : o.wpIn (FW r) 0 P a w K' Q' := by
  refine wpIn_of hn ?_
  obtain ⟨v, h1, h2⟩ := hh
  have h3 := h1 w hw
  unfold Oper.quietAt at h3
  generalize (execOp a.eval o).run P w = q at *
  cases q with
  | ok nx w' =>
    cases nx <;> simp only [Oper.quietUpon] at h3
    case value u =>
      obtain ⟨rfl, rfl⟩ := h3
      exact h _ _ hw h2
    case skip =>
      obtain ⟨rfl, rfl⟩ := h3
      exact h _ _ hw h2
    case enter f args =>
      obtain ⟨rfl, h4⟩ := h3
      refine ⟨fun h => (by cases h), callsIn_FW (h4.mono ?_)⟩
      rintro e w2 ⟨rfl, h5⟩
      exact h _ _ h5 h2
  | halt _ _ => exact h3.elim

theorem anyIn_of_quiet (hn : ∀ (i : Nat) (o : Oper), ops[i]? = some o → ∀ c, o.op ≠ .defer c) {Q : Act → Prop} {Q' : Exit → Act → World → Prop} (hQ : ∀ a w, C w → Q a → Q' .normal a w) : ∀ (fuel : Nat) (listed : Array Bool) (a : Act) (w : World), C w →
    wpAnyQ P .any ops C Q fuel listed a → wpAnyIn (FW r) 0 P .any ops Q' fuel listed a w
  | 0, _, _, _, hw, h => ⟨h.1, hQ _ _ hw h.2⟩
  | fuel + 1, _, a, w, hw, h => ⟨fun h0 => hQ _ _ hw (h.1 h0), fun i hi => by
      have h2 := h.2 i hi
      unfold qOp at h2
      unfold wpOpIn
      split
      · rename_i ho
        rw [ho] at h2
        exact anyIn_of_quiet hn hQ fuel _ a w hw h2
      · rename_i o ho
        rw [ho] at h2
        simp only at h2
        split
        · rename_i hwt
          rw [if_pos hwt] at h2
          exact wpIn_of_quiet (hn i o ho) hw (fun a' w' hw' h3 => anyIn_of_quiet hn hQ fuel _ a' w' hw' h3) h2
        · rename_i hwt
          rw [if_neg hwt] at h2
          exact ⟨fun _ _ => trivial, anyIn_of_quiet hn hQ fuel _ _ w hw h2⟩⟩

theorem wpIn_quiet {id : Nat} {Q : Exit → Act → World → Prop} {a : Act} {w : World} (hn : ∀ (i : Nat) (o : Oper), ops[i]? = some o → ∀ c, o.op ≠ .defer c) (hm : P.follows .mixedOrders = true) (hB : Region.lexB .any ops = true) (hC : C { w with drawn := w.drawn + 1 })
    (h : wpQuiet P ops C (fun a' => ∀ w', C w' → Q .normal a' w') ops.toList a) : (Code.region id ops true).wpIn (FW r) 0 P Q a w := by
  simp only [Region.lexB, Bool.and_eq_true] at hB
  refine wpIn_region_any hm (anyIn_of_quiet hn (Q := fun a' => ∀ w', C w' → Q .normal a' w') (fun _ w' hw' h => h w' hw') _ _ _ _ hC ?_)
  have := wpAnyQ_lex (C := C) (md := .any) hB.1 ops.toList 0 (Array.replicate ops.size false) a (by simp) (by simpa using hB.2) h
  simpa using this
end
end Go.Proofs.Ytdnkpgbggpbgaaa.Pm
