/- The pure machine, part J: what is shown of a piece holds of the code that it stands for; functions. -/
import Derived.Test.YtgkokffmblphnaaPmI
set_option linter.unusedVariables false
set_option linter.unusedSimpArgs false
namespace Go.Proofs.Ytgkokffmblphnaa.Pm
open Go.RowKit

theorem code_ok {P : Program} {N : Nat} {pc : PC} {c : Code} (hc : Stands P N pc c) : ∀ (B : Nat) (w0 : World) (s : Slots) (h : VH) (Q : Exit → Slots → VH → Prop) (m : Mp) (a : Act) (w : World), pw P pc s h Q → Sim B w0 m h w → SR N m s a.tmps → a.defers = [] →
    c.wp P (Post B w0 N m Q) a w := by
  induction hc with
  | skip => intro B w0 s h Q m a w hp S hs hd; exact wp_skip ⟨m, s, h, hp, m.le_refl, S, hs, hd⟩
  | label l => intro B w0 s h Q m a w hp S hs hd; exact wp_label ⟨m, s, h, hp, m.le_refl, S, hs, hd⟩
  | exit id => intro B w0 s h Q m a w hp S hs hd; exact wp_exit ⟨m, s, h, hp, m.le_refl, S, hs, hd⟩
  | ret => intro B w0 s h Q m a w hp S hs hd; exact wp_ret ⟨m, s, h, hp, m.le_refl, S, hs, hd⟩
  | ops id os gs hg =>
    intro B w0 s h Q m a w hp S hs hd
    exact wp_region_list (ops_ok os.toList gs hg s h _ m a w hp S hs hd (fun m' s' h' a' w' hK hle S' hs' hd' => ⟨m', s', h', hK, hle, S', hs', hd'⟩))
  | quiet id os gs hg hm hB =>
    intro B w0 s h Q m a w hp S hs hd
    refine wp_region_quiet (C := fun w1 => Below w.heap.size w w1) hm hB (Below.refl _ _).drew ?_
    refine quiet_ok S os.toList gs hg s _ a _ hp hs hd (fun s' a' hK hs' hd' w' hw' => ⟨m, s', h, hK, m.le_refl, ?_, hs', hd'⟩)
    refine ⟨S.n, ?_, Nat.le_trans S.hB hw'.size, fun i hi => ?_, S.sep, S.ge⟩
    · exact S.below.trans (hw'.mono S.hB)
    · exact (S.obj i hi).congr (fun hl => hw'.block _ ((S.obj i hi).blk_lt hl)) hw'.size
  | seq h1 h2 ih1 ih2 =>
    intro B w0 s h Q m a w hp S hs hd
    refine wp_seq (wp_mono (ih1 B w0 s h _ m a w hp S hs hd) ?_)
    rintro e a1 w1 ⟨m1, s1, h1', hq, hle, S1, hs1, hd1⟩
    cases e with
    | normal =>
      refine wp_mono (ih2 B w0 s1 h1' Q m1 a1 w1 hq S1 hs1 hd1) ?_
      rintro e a2 w2 ⟨m2, s2, h2', hq2, hle2, S2, hs2, hd2⟩
      exact ⟨m2, s2, h2', hq2, Mp.le_trans hle hle2, S2, hs2, hd2⟩
    | exit id => exact ⟨m1, s1, h1', hq, hle, S1, hs1, hd1⟩
    | goto l => exact ⟨m1, s1, h1', hq, hle, S1, hs1, hd1⟩
    | ret => exact ⟨m1, s1, h1', hq, hle, S1, hs1, hd1⟩
    | panic ch => exact ⟨m1, s1, h1', hq, hle, S1, hs1, hd1⟩
    | outgrown => exact ⟨m1, s1, h1', hq, hle, S1, hs1, hd1⟩
  | @cond x r pa pb c d hx h1 h2 ih1 ih2 =>
    intro B w0 s h Q m a w hp S hs hd
    simp only [pw] at hp
    have hv := compRef_ok hx hs
    split at hp
    · rename_i t ht
      rw [ht] at hv
      refine wp_cond hv.bool_inv ?_
      cases t with
      | true => exact ih1 B w0 s h Q m a w (hp.1 rfl) S hs hd
      | false => exact ih2 B w0 s h Q m a w (hp.2 rfl) S hs hd
    · exact hp.elim
  | @block id pa c h1 ih =>
    intro B w0 s h Q m a w hp S hs hd
    refine wp_block (wp_mono (ih B w0 s h _ m a w hp S hs hd) ?_)
    rintro e a1 w1 ⟨m1, s1, h1', hq, hle, S1, hs1, hd1⟩
    cases e with
    | exit i =>
      simp only [Exit.inBlock]
      simp only at hq
      split at hq
      · rename_i hi; rw [if_pos hi]; exact ⟨m1, s1, h1', hq, hle, S1, hs1, hd1⟩
      · rename_i hi; rw [if_neg hi]; exact ⟨m1, s1, h1', hq, hle, S1, hs1, hd1⟩
    | normal => exact ⟨m1, s1, h1', hq, hle, S1, hs1, hd1⟩
    | goto l => exact ⟨m1, s1, h1', hq, hle, S1, hs1, hd1⟩
    | ret => exact ⟨m1, s1, h1', hq, hle, S1, hs1, hd1⟩
    | panic ch => exact ⟨m1, s1, h1', hq, hle, S1, hs1, hd1⟩
    | outgrown => exact ⟨m1, s1, h1', hq, hle, S1, hs1, hd1⟩
  | @loop pa c h1 ih =>
    intro B w0 s h Q m a w hp S hs hd
    obtain ⟨J, n, hJ, hround⟩ := hp
    refine wp_loop_ghost (fun n a w => ∃ m' s h, J n s h ∧ m.le m' ∧ Sim B w0 m' h w ∧ SR N m' s a.tmps ∧ a.defers = []) n ⟨m, s, h, hJ, m.le_refl, S, hs, hd⟩ ?_
    rintro n a1 w1 ⟨m1, s1, h1', hJ1, hle, S1, hs1, hd1⟩
    refine wp_mono (ih B w0 s1 h1' _ m1 a1 w1 (hround n s1 h1' hJ1) S1 hs1 hd1) ?_
    rintro e a2 w2 ⟨m2, s2, h2', hq, hle2, S2, hs2, hd2⟩
    have hle' := Mp.le_trans hle hle2
    cases e with
    | normal =>
      obtain ⟨k, hk, hJk⟩ := hq
      exact ⟨k, hk, m2, s2, h2', hJk, hle', S2, hs2, hd2⟩
    | exit i => exact ⟨m2, s2, h2', hq, hle', S2, hs2, hd2⟩
    | goto l => exact ⟨m2, s2, h2', hq, hle', S2, hs2, hd2⟩
    | ret => exact ⟨m2, s2, h2', hq, hle', S2, hs2, hd2⟩
    | panic ch => exact ⟨m2, s2, h2', hq, hle', S2, hs2, hd2⟩
    | outgrown => exact ⟨m2, s2, h2', hq, hle', S2, hs2, hd2⟩
  | scope h1 ih =>
    intro B w0 s h Q m a w hp S hs hd
    refine wp_scope_straight (wp_mono (ih B w0 s h _ m a w hp S hs hd) ?_)
    rintro e a1 w1 ⟨m1, s1, h1', hq, hle, S1, hs1, hd1⟩
    cases e with
    | goto l => exact hq.elim
    | exit i => exact ⟨m1, s1, h1', hq, hle, S1, hs1, hd1⟩
    | normal => exact ⟨m1, s1, h1', hq, hle, S1, hs1, hd1⟩
    | ret => exact ⟨m1, s1, h1', hq, hle, S1, hs1, hd1⟩
    | panic ch => exact ⟨m1, s1, h1', hq, hle, S1, hs1, hd1⟩
    | outgrown => exact ⟨m1, s1, h1', hq, hle, S1, hs1, hd1⟩

end Go.Proofs.Ytgkokffmblphnaa.Pm
