/- Reading. -/
import Derived.Test.YtgclannlnahaeaaA6
namespace Go.Pi
open Go
set_option maxRecDepth 100000
set_option maxHeartbeats 2000000
set_option linter.unusedSimpArgs false
set_option linter.unusedVariables false
def few (m : Nat) (r : Rd) : Nat × Rd := if decide ((m : Int) < (num r).1) then (0, { (num r).2 with bad := true }) else num r
def txt (m : Nat) (r : Rd) : Bs × Rd :=
  if (few m r).2.bad || decide ((few m r).2.t.length < (few m r).2.at_ + (few m r).1) then ([], { (few m r).2 with bad := true })
  else (((few m r).2.t.take ((few m r).2.at_ + (few m r).1)).drop (few m r).2.at_, { (few m r).2 with at_ := (few m r).2.at_ + (few m r).1 })
theorem takeN_le {t : Bs} {a : Nat} : ∀ {f i u n m b : Nat}, takeN t a f i u n = some (m, b) → m ≤ 4000000 ∧ b ≤ a + i + f ∧ b ≤ t.length
  | 0, _, _, _, _, _, h => by simp [takeN] at h
  | f + 1, i, u, n, m, b, h => by
    unfold takeN at h
    cases hx : t[a + i]? with
    | none => rw [hx] at h; simp at h
    | some c =>
      rw [hx] at h
      simp only at h
      have hl := (List.getElem?_eq_some_iff.mp hx).1
      split at h
      · split at h
        · simp at h
        · rename_i hb
          simp only [Option.some.injEq, Prod.mk.injEq] at h
          obtain ⟨rfl, rfl⟩ := h
          simp only [Bool.or_eq_true, not_or, big, decide_eq_true_eq] at hb
          omega
      · obtain ⟨h1, h2, h3⟩ := takeN_le h
        omega
structure RdOK (r : Rd) (r' : Rd) : Prop where
  t : r'.t = r.t
  a : r'.at_ ≤ max r.at_ r.t.length
theorem num_ok (r : Rd) : RdOK r (num r).2 ∧ (num r).1 ≤ 4000000 := by
  unfold num
  split
  · exact ⟨⟨rfl, by simp only; omega⟩, by simp⟩
  · split
    · rename_i n a h
      obtain ⟨h1, h2, h3⟩ := takeN_le h
      exact ⟨⟨rfl, by simp only; omega⟩, h1⟩
    · exact ⟨⟨rfl, by simp only; omega⟩, by simp⟩
theorem few_ok (m : Nat) (r : Rd) : RdOK r (few m r).2 ∧ (few m r).1 ≤ m := by
  unfold few
  obtain ⟨⟨h1, h2⟩, h3⟩ := num_ok r
  split
  · exact ⟨⟨h1, h2⟩, by simp⟩
  · rename_i hm
    simp only [decide_eq_true_eq] at hm
    exact ⟨⟨h1, h2⟩, by omega⟩
theorem txt_ok (m : Nat) (r : Rd) : RdOK r (txt m r).2 ∧ (txt m r).1.length ≤ m := by
  unfold txt
  obtain ⟨⟨h1, h2⟩, h3⟩ := few_ok m r
  split
  · exact ⟨⟨h1, h2⟩, by simp⟩
  · rename_i hm
    simp only [Bool.or_eq_true, not_or, decide_eq_true_eq] at hm
    rw [h1] at hm
    refine ⟨⟨h1, by simp only; omega⟩, ?_⟩
    simp only [List.length_drop, List.length_take]
    omega
abbrev rdFit (r : Rd) : Prop := r.at_ ≤ 1000000000 ∧ r.t.length ≤ 1000000000
theorem RdOK.fit {r r' : Rd} (h : RdOK r r') (k : rdFit r) : rdFit r' := by
  obtain ⟨h1, h2⟩ := h
  obtain ⟨k1, k2⟩ := k
  exact ⟨by omega, by rw [h1]; exact k2⟩
theorem fewDen (m : Nat) (r : Rd) (hr : rdFit r) : den C 34 [.box 1 (.agg [.str r.t, .int .i64 r.at_, .bool r.bad]), .v (.int .i64 (m : Int))] = some (.v (.int .i64 (few m r).1), [eRd (few m r).2]) := by
  have h1 := number_den r (by unfold lim62; omega)
  refine fn_of fb34 rfl rfl (Nat.le_of_ble_eq_true rfl) (by simp -implicitDefEqProofs only [go_sem, ↓reduceIte, reduceCtorEq, Nat.reduceAdd, Nat.reduceSub, Nat.reduceEqDiff, Nat.reduceLeDiff, Nat.reduceLT, Nat.reduceBEq, Nat.reduceBNe, Int.reduceLE, Int.reduceLT, Int.reduceAdd, Int.reduceSub, Int.reduceMul, Int.reduceNeg, Int.reduceToNat, Int.reduceEq, Int.reduceBEq, Int.reduceBNe]; rfl) (wp_seq ?_)
  repeat' (first | with_reducible (first | refine wp_seq ?_ | refine kseq_nx ?_ | refine wp_reg ?_ | refine wp_draw ?_ | refine regp_some ?_ | refine wp_block ?_ | refine wp_ret ?_ | refine wp_skip ?_ | refine wp_exit ?_ | refine kseq_rt ?_ | refine kseq_ex ?_ | refine kblk_nx ?_ | refine kblk_rt ?_ | refine kblk_eq ?_ | refine kloop_ex ?_ | refine kloop_rt ?_ | refine kfin_rt ?_ | refine kfin_nx ?_ | refine condp_t ?_ | refine condp_f ?_ | refine condp_np (fun hc => ?_) (fun hc => ?_) | refine condp_n (fun hc => ?_) (fun hc => ?_) | refine condp_ltn (fun hc he => ?_) (fun hc he => ?_) | refine condp_len (fun hc he => ?_) (fun hc he => ?_) | refine condp_lti (fun hc he => ?_) (fun hc he => ?_) | refine condp_lei (fun hc he => ?_) (fun hc he => ?_) | refine condp_p (fun hc => ?_) (fun hc => ?_) | refine condp (fun hc => ?_) (fun hc => ?_)) | refine wp_condc rfl ?_ | refine postr (by simp -implicitDefEqProofs only [go_sem, ↓reduceIte, reduceCtorEq, Nat.reduceAdd, Nat.reduceSub, Nat.reduceEqDiff, Nat.reduceLeDiff, Nat.reduceLT, Nat.reduceBEq, Nat.reduceBNe, Int.reduceLE, Int.reduceLT, Int.reduceAdd, Int.reduceSub, Int.reduceMul, Int.reduceNeg, Int.reduceToNat, Int.reduceEq, Int.reduceBEq, Int.reduceBNe]; rfl) ?_ | refine postd (by kernel_rfl) (by simp -implicitDefEqProofs only [go_sem, ↓reduceIte, reduceCtorEq, Nat.reduceAdd, Nat.reduceSub, Nat.reduceEqDiff, Nat.reduceLeDiff, Nat.reduceLT, Nat.reduceBEq, Nat.reduceBNe, Int.reduceLE, Int.reduceLT, Int.reduceAdd, Int.reduceSub, Int.reduceMul, Int.reduceNeg, Int.reduceToNat, Int.reduceEq, Int.reduceBEq, Int.reduceBNe]; rfl) ?_ | refine kblk_ne rfl ?_ | refine kloop_nx (by simp -implicitDefEqProofs only [go_sem, ↓reduceIte, reduceCtorEq, Nat.reduceAdd, Nat.reduceSub, Nat.reduceEqDiff, Nat.reduceLeDiff, Nat.reduceLT, Nat.reduceBEq, Nat.reduceBNe, Int.reduceLE, Int.reduceLT, Int.reduceAdd, Int.reduceSub, Int.reduceMul, Int.reduceNeg, Int.reduceToNat, Int.reduceEq, Int.reduceBEq, Int.reduceBNe]; rfl) ?_ | (with_reducible refine regp_go ?_; simp -implicitDefEqProofs only [go_sem, ↓reduceIte, reduceCtorEq, Nat.reduceAdd, Nat.reduceSub, Nat.reduceEqDiff, Nat.reduceLeDiff, Nat.reduceLT, Nat.reduceBEq, Nat.reduceBNe, Int.reduceLE, Int.reduceLT, Int.reduceAdd, Int.reduceSub, Int.reduceMul, Int.reduceNeg, Int.reduceToNat, Int.reduceEq, Int.reduceBEq, Int.reduceBNe, *]) | with_reducible (first | refine regp_guard_np (fun hg => ?_) (fun hg => ?_) | refine regp_guard_n (fun hg => ?_) (fun hg => ?_) | refine regp_ltn (fun hg he => ?_) (fun hg he => ?_) | refine regp_len (fun hg he => ?_) (fun hg he => ?_) | refine regp_lti (fun hg he => ?_) (fun hg he => ?_) | refine regp_lei (fun hg he => ?_) (fun hg he => ?_) | refine regp_guard_p (fun hg => ?_) (fun hg => ?_) | refine regp_guard (fun hg => ?_) (fun hg => ?_)))
  all_goals simp -implicitDefEqProofs only [go_sem, ↓reduceIte, reduceCtorEq, Nat.reduceAdd, Nat.reduceSub, Nat.reduceEqDiff, Nat.reduceLeDiff, Nat.reduceLT, Nat.reduceBEq, Nat.reduceBNe, Int.reduceLE, Int.reduceLT, Int.reduceAdd, Int.reduceSub, Int.reduceMul, Int.reduceNeg, Int.reduceToNat, Int.reduceEq, Int.reduceBEq, Int.reduceBNe, few, *]
theorem add_wrap (a b : Nat) (ha : a ≤ 1000000000) (hb : b ≤ 1000000000) : IntKind.wrap .i64 ((a : Int) + (b : Int)) = ((a + b : Nat) : Int) := by rw [i64_wrap] <;> omega
theorem sub_wrap (a b : Nat) (ha : a ≤ 1000000000) (hb : b ≤ 1000000000) : IntKind.wrap .i64 (((a + b : Nat) : Int) - (b : Int)) = (a : Int) := by rw [i64_wrap] <;> omega
theorem textDen (m : Nat) (r : Rd) (hr : rdFit r) (hm : m ≤ 1000000000) : den C 36 [.box 1 (.agg [.str r.t, .int .i64 r.at_, .bool r.bad]), .v (.int .i64 (m : Int))] = some (.v (.str (txt m r).1), [eRd (txt m r).2]) := by
  have h1 := fewDen m r hr
  obtain ⟨hk, hk2⟩ := few_ok m r
  obtain ⟨hk3, hk4⟩ := hk.fit hr
  have ha := add_wrap (few m r).2.at_ (few m r).1 hk3 (by omega)
  have hs := sub_wrap (few m r).2.at_ (few m r).1 hk3 (by omega)
  have hle : (few m r).2.at_ ≤ (few m r).2.at_ + (few m r).1 := by omega
  clear hk hk2 hk3 hk4 hr hm
  unfold txt
  generalize few m r = q at *
  obtain ⟨n, q⟩ := q
  simp only at *
  refine fn_of fb36 rfl rfl (Nat.le_of_ble_eq_true rfl) (by simp -implicitDefEqProofs only [go_sem, ↓reduceIte, reduceCtorEq, Nat.reduceAdd, Nat.reduceSub, Nat.reduceEqDiff, Nat.reduceLeDiff, Nat.reduceLT, Nat.reduceBEq, Nat.reduceBNe, Int.reduceLE, Int.reduceLT, Int.reduceAdd, Int.reduceSub, Int.reduceMul, Int.reduceNeg, Int.reduceToNat, Int.reduceEq, Int.reduceBEq, Int.reduceBNe]; rfl) (wp_seq ?_)
  repeat' (first | with_reducible (first | refine wp_seq ?_ | refine kseq_nx ?_ | refine wp_reg ?_ | refine wp_draw ?_ | refine regp_some ?_ | refine wp_block ?_ | refine wp_ret ?_ | refine wp_skip ?_ | refine wp_exit ?_ | refine kseq_rt ?_ | refine kseq_ex ?_ | refine kblk_nx ?_ | refine kblk_rt ?_ | refine kblk_eq ?_ | refine kloop_ex ?_ | refine kloop_rt ?_ | refine kfin_rt ?_ | refine kfin_nx ?_ | refine condp_t ?_ | refine condp_f ?_ | refine condp_np (fun hc => ?_) (fun hc => ?_) | refine condp_n (fun hc => ?_) (fun hc => ?_) | refine condp_ltn (fun hc he => ?_) (fun hc he => ?_) | refine condp_len (fun hc he => ?_) (fun hc he => ?_) | refine condp_lti (fun hc he => ?_) (fun hc he => ?_) | refine condp_lei (fun hc he => ?_) (fun hc he => ?_) | refine condp_p (fun hc => ?_) (fun hc => ?_) | refine condp (fun hc => ?_) (fun hc => ?_)) | refine wp_condc rfl ?_ | refine postr (by simp -implicitDefEqProofs only [go_sem, ↓reduceIte, reduceCtorEq, Nat.reduceAdd, Nat.reduceSub, Nat.reduceEqDiff, Nat.reduceLeDiff, Nat.reduceLT, Nat.reduceBEq, Nat.reduceBNe, Int.reduceLE, Int.reduceLT, Int.reduceAdd, Int.reduceSub, Int.reduceMul, Int.reduceNeg, Int.reduceToNat, Int.reduceEq, Int.reduceBEq, Int.reduceBNe]; rfl) ?_ | refine postd (by kernel_rfl) (by simp -implicitDefEqProofs only [go_sem, ↓reduceIte, reduceCtorEq, Nat.reduceAdd, Nat.reduceSub, Nat.reduceEqDiff, Nat.reduceLeDiff, Nat.reduceLT, Nat.reduceBEq, Nat.reduceBNe, Int.reduceLE, Int.reduceLT, Int.reduceAdd, Int.reduceSub, Int.reduceMul, Int.reduceNeg, Int.reduceToNat, Int.reduceEq, Int.reduceBEq, Int.reduceBNe]; rfl) ?_ | refine kblk_ne rfl ?_ | refine kloop_nx (by simp -implicitDefEqProofs only [go_sem, ↓reduceIte, reduceCtorEq, Nat.reduceAdd, Nat.reduceSub, Nat.reduceEqDiff, Nat.reduceLeDiff, Nat.reduceLT, Nat.reduceBEq, Nat.reduceBNe, Int.reduceLE, Int.reduceLT, Int.reduceAdd, Int.reduceSub, Int.reduceMul, Int.reduceNeg, Int.reduceToNat, Int.reduceEq, Int.reduceBEq, Int.reduceBNe]; rfl) ?_ | (with_reducible refine regp_go ?_; simp -implicitDefEqProofs only [go_sem, ↓reduceIte, reduceCtorEq, Nat.reduceAdd, Nat.reduceSub, Nat.reduceEqDiff, Nat.reduceLeDiff, Nat.reduceLT, Nat.reduceBEq, Nat.reduceBNe, Int.reduceLE, Int.reduceLT, Int.reduceAdd, Int.reduceSub, Int.reduceMul, Int.reduceNeg, Int.reduceToNat, Int.reduceEq, Int.reduceBEq, Int.reduceBNe, *]) | with_reducible (first | refine regp_guard_np (fun hg => ?_) (fun hg => ?_) | refine regp_guard_n (fun hg => ?_) (fun hg => ?_) | refine regp_ltn (fun hg he => ?_) (fun hg he => ?_) | refine regp_len (fun hg he => ?_) (fun hg he => ?_) | refine regp_lti (fun hg he => ?_) (fun hg he => ?_) | refine regp_lei (fun hg he => ?_) (fun hg he => ?_) | refine regp_guard_p (fun hg => ?_) (fun hg => ?_) | refine regp_guard (fun hg => ?_) (fun hg => ?_)))
  all_goals simp -implicitDefEqProofs only [go_sem, ↓reduceIte, reduceCtorEq, Nat.reduceAdd, Nat.reduceSub, Nat.reduceEqDiff, Nat.reduceLeDiff, Nat.reduceLT, Nat.reduceBEq, Nat.reduceBNe, Int.reduceLE, Int.reduceLT, Int.reduceAdd, Int.reduceSub, Int.reduceMul, Int.reduceNeg, Int.reduceToNat, Int.reduceEq, Int.reduceBEq, Int.reduceBNe, *]
theorem bytesPrefix (s p : Bs) (hp : p.length ≤ s.length) : (s.take p.length == p) = p.isPrefixOf s := by
  rw [Bool.eq_iff_iff]
  simp only [beq_iff_eq, List.isPrefixOf_iff_prefix]
  constructor
  · intro h; rw [← h]; exact List.take_prefix _ _
  · intro h; exact (List.prefix_iff_eq_take.mp h).symm
def sgn (n : Nat) : Int := if (n : Int).tmod 2 == 1 then IntKind.wrap .i64 ((IntKind.wrap .i64 (0 - IntKind.wrap .i64 ((n : Int) + 1))).tdiv 2) else IntKind.wrap .i64 ((n : Int).tdiv 2)
theorem valueDen (r : Rd) (hr : rdFit r) : den C 77 [.box 1 (.agg [.str r.t, .int .i64 r.at_, .bool r.bad])] = some (.v (.int .i64 (sgn (num r).1)), [eRd (num r).2]) := by
  have h1 := number_den r (by unfold lim62; omega)
  generalize num r = q at *
  obtain ⟨n, q⟩ := q
  simp only at *
  refine fn_of fb77 rfl rfl (Nat.le_of_ble_eq_true rfl) (by simp -implicitDefEqProofs only [go_sem, ↓reduceIte, reduceCtorEq, Nat.reduceAdd, Nat.reduceSub, Nat.reduceEqDiff, Nat.reduceLeDiff, Nat.reduceLT, Nat.reduceBEq, Nat.reduceBNe, Int.reduceLE, Int.reduceLT, Int.reduceAdd, Int.reduceSub, Int.reduceMul, Int.reduceNeg, Int.reduceToNat, Int.reduceEq, Int.reduceBEq, Int.reduceBNe]; rfl) (wp_seq ?_)
  repeat' (first | with_reducible (first | refine wp_seq ?_ | refine kseq_nx ?_ | refine wp_reg ?_ | refine wp_draw ?_ | refine regp_some ?_ | refine wp_block ?_ | refine wp_ret ?_ | refine wp_skip ?_ | refine wp_exit ?_ | refine kseq_rt ?_ | refine kseq_ex ?_ | refine kblk_nx ?_ | refine kblk_rt ?_ | refine kblk_eq ?_ | refine kloop_ex ?_ | refine kloop_rt ?_ | refine kfin_rt ?_ | refine kfin_nx ?_ | refine condp_t ?_ | refine condp_f ?_ | refine condp_np (fun hc => ?_) (fun hc => ?_) | refine condp_n (fun hc => ?_) (fun hc => ?_) | refine condp_ltn (fun hc he => ?_) (fun hc he => ?_) | refine condp_len (fun hc he => ?_) (fun hc he => ?_) | refine condp_lti (fun hc he => ?_) (fun hc he => ?_) | refine condp_lei (fun hc he => ?_) (fun hc he => ?_) | refine condp_p (fun hc => ?_) (fun hc => ?_) | refine condp (fun hc => ?_) (fun hc => ?_)) | refine wp_condc rfl ?_ | refine postr (by simp -implicitDefEqProofs only [go_sem, ↓reduceIte, reduceCtorEq, Nat.reduceAdd, Nat.reduceSub, Nat.reduceEqDiff, Nat.reduceLeDiff, Nat.reduceLT, Nat.reduceBEq, Nat.reduceBNe, Int.reduceLE, Int.reduceLT, Int.reduceAdd, Int.reduceSub, Int.reduceMul, Int.reduceNeg, Int.reduceToNat, Int.reduceEq, Int.reduceBEq, Int.reduceBNe]; rfl) ?_ | refine postd (by kernel_rfl) (by simp -implicitDefEqProofs only [go_sem, ↓reduceIte, reduceCtorEq, Nat.reduceAdd, Nat.reduceSub, Nat.reduceEqDiff, Nat.reduceLeDiff, Nat.reduceLT, Nat.reduceBEq, Nat.reduceBNe, Int.reduceLE, Int.reduceLT, Int.reduceAdd, Int.reduceSub, Int.reduceMul, Int.reduceNeg, Int.reduceToNat, Int.reduceEq, Int.reduceBEq, Int.reduceBNe]; rfl) ?_ | refine kblk_ne rfl ?_ | refine kloop_nx (by simp -implicitDefEqProofs only [go_sem, ↓reduceIte, reduceCtorEq, Nat.reduceAdd, Nat.reduceSub, Nat.reduceEqDiff, Nat.reduceLeDiff, Nat.reduceLT, Nat.reduceBEq, Nat.reduceBNe, Int.reduceLE, Int.reduceLT, Int.reduceAdd, Int.reduceSub, Int.reduceMul, Int.reduceNeg, Int.reduceToNat, Int.reduceEq, Int.reduceBEq, Int.reduceBNe]; rfl) ?_ | (with_reducible refine regp_go ?_; simp -implicitDefEqProofs only [go_sem, ↓reduceIte, reduceCtorEq, Nat.reduceAdd, Nat.reduceSub, Nat.reduceEqDiff, Nat.reduceLeDiff, Nat.reduceLT, Nat.reduceBEq, Nat.reduceBNe, Int.reduceLE, Int.reduceLT, Int.reduceAdd, Int.reduceSub, Int.reduceMul, Int.reduceNeg, Int.reduceToNat, Int.reduceEq, Int.reduceBEq, Int.reduceBNe, *]) | with_reducible (first | refine regp_guard_np (fun hg => ?_) (fun hg => ?_) | refine regp_guard_n (fun hg => ?_) (fun hg => ?_) | refine regp_ltn (fun hg he => ?_) (fun hg he => ?_) | refine regp_len (fun hg he => ?_) (fun hg he => ?_) | refine regp_lti (fun hg he => ?_) (fun hg he => ?_) | refine regp_lei (fun hg he => ?_) (fun hg he => ?_) | refine regp_guard_p (fun hg => ?_) (fun hg => ?_) | refine regp_guard (fun hg => ?_) (fun hg => ?_)))
  all_goals simp -implicitDefEqProofs only [go_sem, ↓reduceIte, reduceCtorEq, Nat.reduceAdd, Nat.reduceSub, Nat.reduceEqDiff, Nat.reduceLeDiff, Nat.reduceLT, Nat.reduceBEq, Nat.reduceBNe, Int.reduceLE, Int.reduceLT, Int.reduceAdd, Int.reduceSub, Int.reduceMul, Int.reduceNeg, Int.reduceToNat, Int.reduceEq, Int.reduceBEq, Int.reduceBNe, sgn, *]
end Go.Pi
