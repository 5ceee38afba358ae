/- The law. -/
import Derived.Test.YtgclannlnahaeaaA14
import Derived.Test.YtgclannlnahaeaaA15
import Derived.Test.YtgclannlnahaeaaA16
import Derived.Test.YtgclannlnahaeaaA18
namespace Go.Pi
open Go
set_option maxRecDepth 100000
set_option maxHeartbeats 4000000
set_option linter.unusedSimpArgs false
set_option linter.unusedVariables false
def bseSmall (b : Bse) : Prop := b.store.length ≤ 60 ∧ (∀ c ∈ b.store, cmtSmall c) ∧ b.refs.length ≤ 8
theorem small_nil : bseSmall ⟨[], []⟩ := ⟨by simp, by simp, by simp⟩
theorem decI_small (t : Bs) : bseSmall (decI t).1 := by
  unfold decI decT
  simp only
  split
  · exact small_nil
  split
  · exact small_nil
  split
  · exact small_nil
  obtain ⟨_, h2⟩ := few_ok 60 (rd0 t)
  obtain ⟨_, h4, h5⟩ := rdCmts_ok (few 60 (rd0 t)).1 (few 60 (rd0 t)).2
  obtain ⟨_, h7⟩ := few_ok 8 (rdCmts (few 60 (rd0 t)).1 (few 60 (rd0 t)).2).2
  obtain ⟨_, h9, _⟩ := rdRfs_ok (few 8 (rdCmts (few 60 (rd0 t)).1 (few 60 (rd0 t)).2).2).1 (few 8 (rdCmts (few 60 (rd0 t)).1 (few 60 (rd0 t)).2).2).2
  exact ⟨by simp only; omega, h5, by simp only; omega⟩
theorem dec_small (t : Bs) : bseSmall (dec t).1 := by
  unfold dec
  split
  · exact small_nil
  split
  · exact small_nil
  exact decI_small t
theorem szCs_le : ∀ (l : List Cmt), (∀ c ∈ l, cmtSmall c) → szCs l ≤ 26 * l.length
  | [], _ => by simp [szCs]
  | c :: r, h => by
    have h1 := szCs_le r (fun d hd => h d (by simp [hd]))
    obtain ⟨h2, h3, _⟩ := h c (by simp)
    simp only [szCs, szC, List.length_cons]
    omega
theorem law_den (t : Bs) : den C 3 [.v (.str t)] = some (.v (.bool true), []) := by
  by_cases hl : (1048576 : Int) < t.length
  · refine fn_of fb3 rfl rfl (Nat.le_of_ble_eq_true rfl) (by simp -implicitDefEqProofs only [go_sem, ↓reduceIte, reduceCtorEq, Nat.reduceAdd, Nat.reduceSub, Nat.reduceEqDiff, Nat.reduceLeDiff, Nat.reduceLT, Nat.reduceBEq, Nat.reduceBNe, Int.reduceLE, Int.reduceLT, Int.reduceAdd, Int.reduceSub, Int.reduceMul, Int.reduceNeg, Int.reduceToNat, Int.reduceEq, Int.reduceBEq, Int.reduceBNe]; rfl) (wp_seq ?_)
    repeat' (first | with_reducible (first | refine wp_seq ?_ | refine kseq_nx ?_ | refine wp_reg ?_ | refine wp_draw ?_ | refine regp_some ?_ | refine wp_block ?_ | refine wp_ret ?_ | refine wp_skip ?_ | refine wp_exit ?_ | refine kseq_rt ?_ | refine kseq_ex ?_ | refine kblk_nx ?_ | refine kblk_rt ?_ | refine kblk_eq ?_ | refine kloop_ex ?_ | refine kloop_rt ?_ | refine kfin_rt ?_ | refine kfin_nx ?_ | refine condp_t ?_ | refine condp_f ?_ | refine condp_np (fun hc => ?_) (fun hc => ?_) | refine condp_n (fun hc => ?_) (fun hc => ?_) | refine condp_ltn (fun hc he => ?_) (fun hc he => ?_) | refine condp_len (fun hc he => ?_) (fun hc he => ?_) | refine condp_lti (fun hc he => ?_) (fun hc he => ?_) | refine condp_lei (fun hc he => ?_) (fun hc he => ?_) | refine condp_p (fun hc => ?_) (fun hc => ?_) | refine condp (fun hc => ?_) (fun hc => ?_)) | refine wp_condc rfl ?_ | refine postr (by simp -implicitDefEqProofs only [go_sem, ↓reduceIte, reduceCtorEq, Nat.reduceAdd, Nat.reduceSub, Nat.reduceEqDiff, Nat.reduceLeDiff, Nat.reduceLT, Nat.reduceBEq, Nat.reduceBNe, Int.reduceLE, Int.reduceLT, Int.reduceAdd, Int.reduceSub, Int.reduceMul, Int.reduceNeg, Int.reduceToNat, Int.reduceEq, Int.reduceBEq, Int.reduceBNe]; rfl) ?_ | refine postd (by kernel_rfl) (by simp -implicitDefEqProofs only [go_sem, ↓reduceIte, reduceCtorEq, Nat.reduceAdd, Nat.reduceSub, Nat.reduceEqDiff, Nat.reduceLeDiff, Nat.reduceLT, Nat.reduceBEq, Nat.reduceBNe, Int.reduceLE, Int.reduceLT, Int.reduceAdd, Int.reduceSub, Int.reduceMul, Int.reduceNeg, Int.reduceToNat, Int.reduceEq, Int.reduceBEq, Int.reduceBNe]; rfl) ?_ | refine kblk_ne rfl ?_ | refine kloop_nx (by simp -implicitDefEqProofs only [go_sem, ↓reduceIte, reduceCtorEq, Nat.reduceAdd, Nat.reduceSub, Nat.reduceEqDiff, Nat.reduceLeDiff, Nat.reduceLT, Nat.reduceBEq, Nat.reduceBNe, Int.reduceLE, Int.reduceLT, Int.reduceAdd, Int.reduceSub, Int.reduceMul, Int.reduceNeg, Int.reduceToNat, Int.reduceEq, Int.reduceBEq, Int.reduceBNe]; rfl) ?_ | (with_reducible refine regp_go ?_; simp -implicitDefEqProofs only [go_sem, ↓reduceIte, reduceCtorEq, Nat.reduceAdd, Nat.reduceSub, Nat.reduceEqDiff, Nat.reduceLeDiff, Nat.reduceLT, Nat.reduceBEq, Nat.reduceBNe, Int.reduceLE, Int.reduceLT, Int.reduceAdd, Int.reduceSub, Int.reduceMul, Int.reduceNeg, Int.reduceToNat, Int.reduceEq, Int.reduceBEq, Int.reduceBNe, hl]) | with_reducible (first | refine regp_guard_np (fun hg => ?_) (fun hg => ?_) | refine regp_guard_n (fun hg => ?_) (fun hg => ?_) | refine regp_ltn (fun hg he => ?_) (fun hg he => ?_) | refine regp_len (fun hg he => ?_) (fun hg he => ?_) | refine regp_lti (fun hg he => ?_) (fun hg he => ?_) | refine regp_lei (fun hg he => ?_) (fun hg he => ?_) | refine regp_guard_p (fun hg => ?_) (fun hg => ?_) | refine regp_guard (fun hg => ?_) (fun hg => ?_)))
    all_goals (simp -implicitDefEqProofs only [go_sem, ↓reduceIte, reduceCtorEq, Nat.reduceAdd, Nat.reduceSub, Nat.reduceEqDiff, Nat.reduceLeDiff, Nat.reduceLT, Nat.reduceBEq, Nat.reduceBNe, Int.reduceLE, Int.reduceLT, Int.reduceAdd, Int.reduceSub, Int.reduceMul, Int.reduceNeg, Int.reduceToNat, Int.reduceEq, Int.reduceBEq, Int.reduceBNe])
  have ht : t.length ≤ 1000000000 := by omega
  have hI := DecodeBase_den t ht
  have hS := DecodeBaseS_den t ht
  obtain ⟨b1, b2, b3⟩ := dec_small t
  have hsz := szCs_le (dec t).1.store b2
  generalize dec t = q at *
  obtain ⟨b, code⟩ := q
  simp only [eBse] at *
  have heq := eqBase_refl b (by simp only [lim62]; omega) (fun c hc => by obtain ⟨h1, h2, _⟩ := b2 c hc; exact ⟨by simp only [lim62]; omega, by simp only [lim62]; omega⟩) (by simp only [lim62]; omega)
  have hb : 1 + szB b ≤ 1000000000 := by unfold szB; omega
  have hm : den C 9 [.own 1 (.agg [.sl true (b.store.map (eCmt true)), .sl true (b.refs.map eRf)]), .v (.int .i64 1)] = some (.v (.int .i64 ((1 + szB b : Nat) : Int)), [.agg [.sl true ((mkCmts 1 b.store).map (eCmt true)), .sl true ((mkRfs (1 + szCs b.store) b.refs).map eRf)]]) := markBase_den b 1 hb (by omega)
  have hh : den C 10 [.v (.agg [.sl false ((mkCmts 1 b.store).map (eCmt false)), .sl false ((mkRfs (1 + szCs b.store) b.refs).map eRf)]), .v (.int .i64 1)] = some (.v (.int .i64 ((1 + szB b : Nat) : Int)), []) := heldBase_den b 1 hb (by omega)
  have hn : ¬ ((1 + szB b : Nat) : Int) < 0 := by omega
  have hb1 := bne_same ((1 + szB b : Nat) : Int)
  have hb2 := bne_same code
  refine fn_of fb3 rfl rfl (Nat.le_of_ble_eq_true rfl) (by simp -implicitDefEqProofs only [go_sem, ↓reduceIte, reduceCtorEq, Nat.reduceAdd, Nat.reduceSub, Nat.reduceEqDiff, Nat.reduceLeDiff, Nat.reduceLT, Nat.reduceBEq, Nat.reduceBNe, Int.reduceLE, Int.reduceLT, Int.reduceAdd, Int.reduceSub, Int.reduceMul, Int.reduceNeg, Int.reduceToNat, Int.reduceEq, Int.reduceBEq, Int.reduceBNe]; rfl) (wp_seq ?_)
  repeat' (first | with_reducible (first | refine wp_seq ?_ | refine kseq_nx ?_ | refine wp_reg ?_ | refine wp_draw ?_ | refine regp_some ?_ | refine wp_block ?_ | refine wp_ret ?_ | refine wp_skip ?_ | refine wp_exit ?_ | refine kseq_rt ?_ | refine kseq_ex ?_ | refine kblk_nx ?_ | refine kblk_rt ?_ | refine kblk_eq ?_ | refine kloop_ex ?_ | refine kloop_rt ?_ | refine kfin_rt ?_ | refine kfin_nx ?_ | refine condp_t ?_ | refine condp_f ?_ | refine condp_np (fun hc => ?_) (fun hc => ?_) | refine condp_n (fun hc => ?_) (fun hc => ?_) | refine condp_ltn (fun hc he => ?_) (fun hc he => ?_) | refine condp_len (fun hc he => ?_) (fun hc he => ?_) | refine condp_lti (fun hc he => ?_) (fun hc he => ?_) | refine condp_lei (fun hc he => ?_) (fun hc he => ?_) | refine condp_p (fun hc => ?_) (fun hc => ?_) | refine condp (fun hc => ?_) (fun hc => ?_)) | refine wp_condc rfl ?_ | refine postr (by simp -implicitDefEqProofs only [go_sem, ↓reduceIte, reduceCtorEq, Nat.reduceAdd, Nat.reduceSub, Nat.reduceEqDiff, Nat.reduceLeDiff, Nat.reduceLT, Nat.reduceBEq, Nat.reduceBNe, Int.reduceLE, Int.reduceLT, Int.reduceAdd, Int.reduceSub, Int.reduceMul, Int.reduceNeg, Int.reduceToNat, Int.reduceEq, Int.reduceBEq, Int.reduceBNe]; rfl) ?_ | refine postd (by kernel_rfl) (by simp -implicitDefEqProofs only [go_sem, ↓reduceIte, reduceCtorEq, Nat.reduceAdd, Nat.reduceSub, Nat.reduceEqDiff, Nat.reduceLeDiff, Nat.reduceLT, Nat.reduceBEq, Nat.reduceBNe, Int.reduceLE, Int.reduceLT, Int.reduceAdd, Int.reduceSub, Int.reduceMul, Int.reduceNeg, Int.reduceToNat, Int.reduceEq, Int.reduceBEq, Int.reduceBNe]; rfl) ?_ | refine kblk_ne rfl ?_ | refine kloop_nx (by simp -implicitDefEqProofs only [go_sem, ↓reduceIte, reduceCtorEq, Nat.reduceAdd, Nat.reduceSub, Nat.reduceEqDiff, Nat.reduceLeDiff, Nat.reduceLT, Nat.reduceBEq, Nat.reduceBNe, Int.reduceLE, Int.reduceLT, Int.reduceAdd, Int.reduceSub, Int.reduceMul, Int.reduceNeg, Int.reduceToNat, Int.reduceEq, Int.reduceBEq, Int.reduceBNe]; rfl) ?_ | (with_reducible refine regp_go ?_; simp -implicitDefEqProofs only [go_sem, ↓reduceIte, reduceCtorEq, Nat.reduceAdd, Nat.reduceSub, Nat.reduceEqDiff, Nat.reduceLeDiff, Nat.reduceLT, Nat.reduceBEq, Nat.reduceBNe, Int.reduceLE, Int.reduceLT, Int.reduceAdd, Int.reduceSub, Int.reduceMul, Int.reduceNeg, Int.reduceToNat, Int.reduceEq, Int.reduceBEq, Int.reduceBNe, hl, hI, hS, heq, hm, hh, hn, hb1, hb2]) | with_reducible (first | refine regp_guard_np (fun hg => ?_) (fun hg => ?_) | refine regp_guard_n (fun hg => ?_) (fun hg => ?_) | refine regp_ltn (fun hg he => ?_) (fun hg he => ?_) | refine regp_len (fun hg he => ?_) (fun hg he => ?_) | refine regp_lti (fun hg he => ?_) (fun hg he => ?_) | refine regp_lei (fun hg he => ?_) (fun hg he => ?_) | refine regp_guard_p (fun hg => ?_) (fun hg => ?_) | refine regp_guard (fun hg => ?_) (fun hg => ?_)))
  all_goals (simp -implicitDefEqProofs only [go_sem, ↓reduceIte, reduceCtorEq, Nat.reduceAdd, Nat.reduceSub, Nat.reduceEqDiff, Nat.reduceLeDiff, Nat.reduceLT, Nat.reduceBEq, Nat.reduceBNe, Int.reduceLE, Int.reduceLT, Int.reduceAdd, Int.reduceSub, Int.reduceMul, Int.reduceNeg, Int.reduceToNat, Int.reduceEq, Int.reduceBEq, Int.reduceBNe])
end Go.Pi
