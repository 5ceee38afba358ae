/- A repository is read: what both sides compute. -/
import Derived.Test.YtgclannlnahaeaaA12
import Derived.Test.YtgclannlnahaeaaA7
namespace Go.Pi
open Go
set_option maxRecDepth 100000
set_option maxHeartbeats 2000000
set_option linter.unusedSimpArgs false
set_option linter.unusedVariables false
def rdCmts : Nat → Rd → List Cmt × Rd
  | 0, r => ([], r)
  | k + 1, r => ((rdCmt r).1 :: (rdCmts k (rdCmt r).2).1, (rdCmts k (rdCmt r).2).2)
def rdCmtsS : Nat → Rd → List Cmt × Rd
  | 0, r => ([], r)
  | k + 1, r => if r.bad then ([], r) else ((rdCmt r).1 :: (rdCmtsS k (rdCmt r).2).1, (rdCmtsS k (rdCmt r).2).2)
def rdRf (r : Rd) : Rf × Rd :=
  (⟨(txt 12 r).1, (num (num (txt 12 r).2).2).1, (num (txt 12 r).2).1, ((num (num (txt 12 r).2).2).1 : Int) == 0⟩, (num (num (txt 12 r).2).2).2)
def rdRfs : Nat → Rd → List Rf × Rd
  | 0, r => ([], r)
  | k + 1, r => ((rdRf r).1 :: (rdRfs k (rdRf r).2).1, (rdRfs k (rdRf r).2).2)
def rdRfsS : Nat → Rd → List Rf × Rd
  | 0, r => ([], r)
  | k + 1, r => if r.bad then ([], r) else ((rdRf r).1 :: (rdRfsS k (rdRf r).2).1, (rdRfsS k (rdRf r).2).2)
/-! ### Once bad, always bad -/
theorem num_bad {r : Rd} (h : r.bad = true) : (num r).2.bad = true := by unfold num; rw [if_pos h]; exact h
theorem few_bad {m : Nat} {r : Rd} (h : r.bad = true) : (few m r).2.bad = true := by
  unfold few
  split
  · rfl
  · exact num_bad h
theorem txt_bad {m : Nat} {r : Rd} (h : r.bad = true) : (txt m r).2.bad = true := by
  unfold txt
  rw [few_bad h]
  simp
theorem rdInts_bad : ∀ {k : Nat} {r : Rd}, r.bad = true → (rdInts k r).2.bad = true
  | 0, _, h => h
  | k + 1, _, h => rdInts_bad (k := k) (num_bad h)
theorem rdEnts_bad : ∀ {k : Nat} {r : Rd}, r.bad = true → (rdEnts k r).2.bad = true
  | 0, _, h => h
  | k + 1, _, h => rdEnts_bad (k := k) (num_bad (txt_bad h))
theorem rdCmt_bad {r : Rd} (h : r.bad = true) : (rdCmt r).2.bad = true := rdEnts_bad (few_bad (rdInts_bad (few_bad h)))
theorem rdCmts_bad : ∀ {k : Nat} {r : Rd}, r.bad = true → (rdCmts k r).2.bad = true
  | 0, _, h => h
  | k + 1, _, h => rdCmts_bad (k := k) (rdCmt_bad h)
theorem rdRf_bad {r : Rd} (h : r.bad = true) : (rdRf r).2.bad = true := num_bad (num_bad (txt_bad h))
theorem rdRfs_bad : ∀ {k : Nat} {r : Rd}, r.bad = true → (rdRfs k r).2.bad = true
  | 0, _, h => h
  | k + 1, _, h => rdRfs_bad (k := k) (rdRf_bad h)
theorem rdCmtsS_eq : ∀ (k : Nat) (r : Rd), rdCmtsS k r = rdCmts k r ∨ ((rdCmtsS k r).2.bad = true ∧ (rdCmts k r).2.bad = true)
  | 0, _ => Or.inl rfl
  | k + 1, r => by
    cases h : r.bad with
    | true => exact Or.inr ⟨by simp [rdCmtsS, h], rdCmts_bad h⟩
    | false =>
      rcases rdCmtsS_eq k (rdCmt r).2 with e | ⟨e1, e2⟩
      · exact Or.inl (by simp [rdCmtsS, rdCmts, h, e])
      · exact Or.inr ⟨by simpa [rdCmtsS, h] using e1, by simpa [rdCmts] using e2⟩
theorem rdRfsS_eq : ∀ (k : Nat) (r : Rd), rdRfsS k r = rdRfs k r ∨ ((rdRfsS k r).2.bad = true ∧ (rdRfs k r).2.bad = true)
  | 0, _ => Or.inl rfl
  | k + 1, r => by
    cases h : r.bad with
    | true => exact Or.inr ⟨by simp [rdRfsS, h], rdRfs_bad h⟩
    | false =>
      rcases rdRfsS_eq k (rdRf r).2 with e | ⟨e1, e2⟩
      · exact Or.inl (by simp [rdRfsS, rdRfs, h, e])
      · exact Or.inr ⟨by simpa [rdRfsS, h] using e1, by simpa [rdRfs] using e2⟩
/-! ### Sizes -/
def cmtSmall (c : Cmt) : Prop := c.par.length ≤ 2 ∧ c.map.length ≤ 12 ∧ ∀ e ∈ c.map, e.key.length ≤ 12
theorem rdCmts_ok : ∀ (k : Nat) (r : Rd), RdOK r (rdCmts k r).2 ∧ (rdCmts k r).1.length = k ∧ ∀ c ∈ (rdCmts k r).1, cmtSmall c
  | 0, r => ⟨RdOK.refl r, rfl, by simp [rdCmts]⟩
  | k + 1, r => by
    obtain ⟨h1, h2, h3⟩ := rdCmts_ok k (rdCmt r).2
    obtain ⟨a1, a2, a3, a4⟩ := rdCmt_ok r
    refine ⟨a1.trans h1, by simp [rdCmts, h2], ?_⟩
    intro c hc
    simp only [rdCmts, List.mem_cons] at hc
    rcases hc with rfl | hc
    · exact ⟨a2, a3, a4⟩
    · exact h3 c hc
theorem rdCmtsS_ok : ∀ (k : Nat) (r : Rd), RdOK r (rdCmtsS k r).2 ∧ (rdCmtsS k r).1.length ≤ k ∧ ∀ c ∈ (rdCmtsS k r).1, cmtSmall c
  | 0, r => ⟨RdOK.refl r, by simp [rdCmtsS], by simp [rdCmtsS]⟩
  | k + 1, r => by
    obtain ⟨h1, h2, h3⟩ := rdCmtsS_ok k (rdCmt r).2
    obtain ⟨a1, a2, a3, a4⟩ := rdCmt_ok r
    unfold rdCmtsS
    split
    · exact ⟨RdOK.refl r, by simp, by simp⟩
    · refine ⟨a1.trans h1, by simp; omega, ?_⟩
      intro c hc
      simp only [List.mem_cons] at hc
      rcases hc with rfl | hc
      · exact ⟨a2, a3, a4⟩
      · exact h3 c hc
theorem rdRf_ok (r : Rd) : RdOK r (rdRf r).2 ∧ (rdRf r).1.name.length ≤ 12 :=
  ⟨((txt_ok 12 r).1.trans (num_ok _).1).trans (num_ok _).1, (txt_ok 12 r).2⟩
theorem rdRfs_ok : ∀ (k : Nat) (r : Rd), RdOK r (rdRfs k r).2 ∧ (rdRfs k r).1.length = k ∧ ∀ c ∈ (rdRfs k r).1, c.name.length ≤ 12
  | 0, r => ⟨RdOK.refl r, rfl, by simp [rdRfs]⟩
  | k + 1, r => by
    obtain ⟨h1, h2, h3⟩ := rdRfs_ok k (rdRf r).2
    obtain ⟨a1, a2⟩ := rdRf_ok r
    refine ⟨a1.trans h1, by simp [rdRfs, h2], ?_⟩
    intro c hc
    simp only [rdRfs, List.mem_cons] at hc
    rcases hc with rfl | hc
    · exact a2
    · exact h3 c hc
theorem rdRfsS_ok : ∀ (k : Nat) (r : Rd), RdOK r (rdRfsS k r).2 ∧ (rdRfsS k r).1.length ≤ k ∧ ∀ c ∈ (rdRfsS k r).1, c.name.length ≤ 12
  | 0, r => ⟨RdOK.refl r, by simp [rdRfsS], by simp [rdRfsS]⟩
  | k + 1, r => by
    obtain ⟨h1, h2, h3⟩ := rdRfsS_ok k (rdRf r).2
    obtain ⟨a1, a2⟩ := rdRf_ok r
    unfold rdRfsS
    split
    · exact ⟨RdOK.refl r, by simp, by simp⟩
    · refine ⟨a1.trans h1, by simp; omega, ?_⟩
      intro c hc
      simp only [List.mem_cons] at hc
      rcases hc with rfl | hc
      · exact a2
      · exact h3 c hc
theorem bses_of {s : List Cmt} {l : List Rf} (h1 : s.length ≤ 60) (h2 : ∀ c ∈ s, cmtSmall c) (h3 : l.length ≤ 8) (h4 : ∀ r ∈ l, r.name.length ≤ 12) : bses ⟨s, l⟩ := by
  refine ⟨⟨by simp only [lim62]; omega, ?_⟩, by simp only [lim62]; omega, ?_⟩
  · intro c hc
    obtain ⟨a, b, d⟩ := h2 c hc
    exact ⟨by unfold lim62; omega, by unfold lim62; omega, fun e he => by have := d e he; unfold lim62; omega⟩
  · intro r hr
    have := h4 r hr
    unfold lim62
    omega
/-! ### The whole -/
def head3 : Bs := [66, 82, 49]
def decT (t : Bs) (s : List Cmt) (l : List Rf) (d : Rd) : Bse × Int :=
  if !(!(num d).2.bad && (((num d).2.at_ : Int) == (num d).2.t.length)) then (⟨[], []⟩, 3)
  else if ((num d).1 : Int) != sumFrom 1 (t.take d.at_) then (⟨[], []⟩, 13)
  else if !baseOK ⟨s, l⟩ then (⟨[], []⟩, 1)
  else (⟨s, l⟩, 0)
def rd0 (t : Bs) : Rd := ⟨t, 3, false⟩
def decI (t : Bs) : Bse × Int :=
  let a := few 60 (rd0 t)
  let b := rdCmts a.1 a.2
  let c := few 8 b.2
  let d := rdRfs c.1 c.2
  decT t b.1 d.1 d.2
def decS (t : Bs) : Bse × Int :=
  let a := few 60 (rd0 t)
  let b := rdCmtsS a.1 a.2
  let c := few 8 b.2
  let d := rdRfsS c.1 c.2
  decT t b.1 d.1 d.2
def dec (t : Bs) : Bse × Int :=
  if !decide ((t.length : Int) ≤ 65536) then (⟨[], []⟩, 2)
  else if !(decide (3 ≤ t.length) && (t.take 3 == head3)) then (⟨[], []⟩, 3)
  else decI t
theorem decT_bad {t : Bs} {s : List Cmt} {l : List Rf} {d : Rd} (h : d.bad = true) : decT t s l d = (⟨[], []⟩, 3) := by
  unfold decT
  rw [num_bad h]
  rfl
theorem decS_eq (t : Bs) : decS t = decI t := by
  simp only [decS, decI]
  rcases rdCmtsS_eq (few 60 (rd0 t)).1 (few 60 (rd0 t)).2 with e | ⟨e1, e2⟩
  · rw [e]
    rcases rdRfsS_eq (few 8 (rdCmts (few 60 (rd0 t)).1 (few 60 (rd0 t)).2).2).1 (few 8 (rdCmts (few 60 (rd0 t)).1 (few 60 (rd0 t)).2).2).2 with k | ⟨k1, k2⟩
    · rw [k]
    · rw [decT_bad k1, decT_bad k2]
  · rw [decT_bad (rdRfs_bad (few_bad e2))]
    rcases rdRfsS_eq (few 8 (rdCmtsS (few 60 (rd0 t)).1 (few 60 (rd0 t)).2).2).1 (few 8 (rdCmtsS (few 60 (rd0 t)).1 (few 60 (rd0 t)).2).2).2 with k | ⟨k1, k2⟩
    · rw [k, decT_bad (rdRfs_bad (few_bad e1))]
    · rw [decT_bad k1]
end Go.Pi
