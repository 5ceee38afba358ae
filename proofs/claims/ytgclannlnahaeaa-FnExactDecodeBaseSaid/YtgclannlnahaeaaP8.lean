/- Part 8 of an interpreter over value trees, shown sound for the model. -/
import Derived.Test.YtgclannlnahaeaaP7
import Derived.KernelRfl
import Derived.IntWalk
set_option linter.unusedVariables false
set_option linter.unusedSimpArgs false
set_option linter.unusedSectionVars false
/- Stepping through code: what must be met where a run comes to. -/
namespace Go.Pi
open Go

abbrev Post := Ex → St → Prop
/-- The code runs from here, and meets the post. -/
def WP (C : Cfg) (f : FuncId) (c : Code) (σ : St) (Q : Post) : Prop := ∃ e σ', evD C f c σ = some (e, σ') ∧ Q e σ'
def KSeq (C : Cfg) (f : FuncId) (b : Code) (Q : Post) : Post
  | .nx, σ => WP C f b σ Q
  | .ex i, σ => Q (.ex i) σ
  | .rt, σ => Q .rt σ
def KBlk (id : Nat) (Q : Post) : Post
  | .nx, σ => Q .nx σ
  | .ex i, σ => if i = id then Q .nx σ else Q (.ex i) σ
  | .rt, σ => Q .rt σ
def KLoop (C : Cfg) (f : FuncId) (c : Code) (Q : Post) : Post
  | .nx, σ => WP C f (.loop c) (trim (C.keep f) 0 σ) Q
  | .ex i, σ => Q (.ex i) σ
  | .rt, σ => Q .rt σ
def KFin (P : Program) (rs : List ResultVar) (as : List V) (r : V × List D) : Post
  | .nx, σ => finish P rs as σ = some r
  | .ex _, _ => False
  | .rt, σ => finish P rs as σ = some r
section
variable {C : Cfg} {f : FuncId} {σ : St} {Q : Post}
theorem wp_skip (h : Q .nx σ) : WP C f .skip σ Q := ⟨_, _, evD_skip C f σ, h⟩
theorem wp_label {l : Nat} (h : Q .nx σ) : WP C f (.label l) σ Q := ⟨_, _, evD_label C f σ l, h⟩
theorem wp_exit {i : Nat} (h : Q (.ex i) σ) : WP C f (.exit i) σ Q := ⟨_, _, evD_exit C f σ i, h⟩
theorem wp_ret (h : Q .rt σ) : WP C f .ret σ Q := ⟨_, _, evD_ret C f σ, h⟩
theorem wp_seq {a b : Code} (h : WP C f a σ (KSeq C f b Q)) : WP C f (.seq a b) σ Q := by
  obtain ⟨e, σ', h1, h2⟩ := h
  unfold WP
  rw [evD_seq, h1]
  cases e with
  | nx => exact h2
  | ex i => exact ⟨_, _, rfl, h2⟩
  | rt => exact ⟨_, _, rfl, h2⟩
theorem wp_block {i : Nat} {a : Code} (h : WP C f a σ (KBlk i Q)) : WP C f (.block i a) σ Q := by
  obtain ⟨e, σ', h1, h2⟩ := h
  unfold WP
  rw [evD_block, h1]
  cases e with
  | nx => exact ⟨_, _, rfl, h2⟩
  | rt => exact ⟨_, _, rfl, h2⟩
  | ex j =>
    simp only [KBlk] at h2
    simp only [endBlock]
    split at h2
    · rename_i hj
      exact ⟨_, _, by rw [if_pos hj], h2⟩
    · rename_i hj
      exact ⟨_, _, by rw [if_neg hj], h2⟩
theorem wp_cond {c : Operand} {a b : Code} {t : Bool} (hp : peek (getS σ) c = some (.bool t)) (h1 : t = true → WP C f a σ Q) (h2 : t = false → WP C f b σ Q) : WP C f (.cond c a b) σ Q := by
  unfold WP
  rw [evD_cond, hp]
  cases t with
  | true => exact h1 rfl
  | false => exact h2 rfl
theorem wp_cond_t {c : Operand} {a b : Code} (hp : peek (getS σ) c = some (.bool true)) (h1 : WP C f a σ Q) : WP C f (.cond c a b) σ Q := wp_cond hp (fun _ => h1) (fun h => by simp at h)
theorem wp_cond_f {c : Operand} {a b : Code} (hp : peek (getS σ) c = some (.bool false)) (h1 : WP C f b σ Q) : WP C f (.cond c a b) σ Q := wp_cond hp (fun h => by simp at h) (fun _ => h1)
theorem wp_cond_p {c : Operand} {a b : Code} {p : Prop} [Decidable p] (hp : peek (getS σ) c = some (.bool (decide p))) (h1 : p → WP C f a σ Q) (h2 : ¬p → WP C f b σ Q) : WP C f (.cond c a b) σ Q :=
  wp_cond hp (fun h => h1 (of_decide_eq_true h)) (fun h => h2 (of_decide_eq_false h))
theorem wp_cond_np {c : Operand} {a b : Code} {p : Prop} [Decidable p] (hp : peek (getS σ) c = some (.bool (!decide p))) (h1 : ¬p → WP C f a σ Q) (h2 : p → WP C f b σ Q) : WP C f (.cond c a b) σ Q :=
  wp_cond hp (fun h => h1 (by simpa using h)) (fun h => h2 (by simpa using h))
theorem wp_cond_n {c : Operand} {a b : Code} {t : Bool} (hp : peek (getS σ) c = some (.bool (!t))) (h1 : t = false → WP C f a σ Q) (h2 : t = true → WP C f b σ Q) : WP C f (.cond c a b) σ Q :=
  wp_cond hp (fun h => h1 (by simpa using h)) (fun h => h2 (by simpa using h))
theorem trim_trim (keep : List Nat) : ∀ (i : Nat) (σ : St), trim keep i (trim keep i σ) = trim keep i σ
  | _, [] => rfl
  | i, v :: σ => by
    simp only [trim]
    rw [trim_trim keep (i + 1) σ]
    split <;> rfl
theorem wp_trim {c : Code} (h : WP C f (.loop c) (trim (C.keep f) 0 σ) Q) : WP C f (.loop c) σ Q := by
  unfold WP at h ⊢
  rw [evD_loop] at h ⊢
  rwa [trim_trim] at h
theorem wp_loop {c : Code} (h : WP C f c (trim (C.keep f) 0 σ) (KLoop C f c Q)) : WP C f (.loop c) σ Q := by
  obtain ⟨e, σ', h1, h2⟩ := h
  unfold WP
  rw [evD_loop, h1]
  cases e with
  | nx => exact wp_trim h2
  | ex i => exact ⟨_, _, rfl, h2⟩
  | rt => exact ⟨_, _, rfl, h2⟩
end
theorem fn_of {C : Cfg} {f : FuncId} {nt : Nat} {rs : List ResultVar} {c : Code} (hb : fBody C.P f = some (nt, rs, c)) (hf : C.ext f = none) {as : List V} {r : V × List D} {σ : St} (ho : as.all okArg = true) (hl : as.length ≤ nt) (hσ : as ++ List.replicate (nt - as.length) .gone = σ)
    (h : WP C f c σ (KFin C.P rs as r)) : den C f as = some r := by
  rw [den_eq hf hb, if_neg (by simp [ho, hl]), hσ]
  obtain ⟨e, σ', h1, h2⟩ := h
  rw [h1]
  cases e with
  | nx => exact h2
  | ex i => exact absurd h2 (by simp [KFin])
  | rt => exact h2
/-! ### Regions, one operation after the other -/
def seqA (C : Cfg) (cl : Cl) (h : Nat → Bool) (ops : List Oper) (g : Nat → Sl) (acc : List Ov) : Nat → List Oper → Option (List Ov)
  | _, [] => some acc
  | k, o :: os => (one C cl (h k) ops o g).bind fun u => seqA C cl h ops (ovl u g) (u :: acc) (k + 1) os
theorem seqA_nil {C : Cfg} {cl : Cl} {h : Nat → Bool} {ops : List Oper} {g : Nat → Sl} {acc : List Ov} (k : Nat) : seqA C cl h ops g acc k [] = some acc := rfl
def stepA (C : Cfg) (cl : Cl) (h : Nat → Bool) (ops : List Oper) (g : Nat → Sl) (acc : List Ov) (k : Nat) (os : List Oper) (x : Option Ov) : Option (List Ov) := x.bind fun u => seqA C cl h ops (ovl u g) (u :: acc) (k + 1) os
theorem stepA_some {C : Cfg} {cl : Cl} {h : Nat → Bool} {ops : List Oper} {g : Nat → Sl} {acc : List Ov} (k : Nat) (os : List Oper) (u : Ov) : stepA C cl h ops g acc k os (some u) = seqA C cl h ops (ovl u g) (u :: acc) (k + 1) os := rfl
theorem seqA_cons {C : Cfg} {cl : Cl} {h : Nat → Bool} {ops : List Oper} {g : Nat → Sl} {acc : List Ov} (k : Nat) (o : Oper) (os : List Oper) :
    seqA C cl h ops g acc k (o :: os) = stepA C cl h ops g acc k os (one C cl (h k) ops o g) := rfl
def trA (ops : List Oper) : (Nat → Sl) → List Oper → List Ov → List Tr
  | g, o :: os, u :: us => ⟨foot ops o g, u.map (·.1)⟩ :: trA ops (ovl u g) os us
  | _, _, _ => []
def drawOk (ops : List Oper) (g : Nat → Sl) (us : List Ov) : Bool :=
  match ahead 0 [] ops with
  | some anc => compat anc (trA ops g ops us.reverse)
  | none => false
theorem seqA_acc {C : Cfg} {cl : Cl} {h : Nat → Bool} {ops : List Oper} : ∀ {os : List Oper} {k : Nat} {g : Nat → Sl} {acc us : List Ov}, seqA C cl h ops g acc k os = some us →
    ∃ vs, us = vs.reverse ++ acc ∧ seqOps C cl h ops g k os = some vs.reverse.flatten ∧ trOps C cl h ops g k os = some (trA ops g os vs, vs.reverse.flatten)
  | [], k, g, acc, us, e => by
    simp only [seqA, Option.some.injEq] at e
    subst e
    exact ⟨[], rfl, rfl, rfl⟩
  | o :: os, k, g, acc, us, e => by
    simp only [seqA, Option.bind_eq_some_iff] at e
    obtain ⟨u, h1, h2⟩ := e
    obtain ⟨vs, k1, k2, k3⟩ := seqA_acc h2
    refine ⟨u :: vs, by simp [k1], ?_, ?_⟩
    · simp only [seqOps, h1, Option.bind_some, k2, Option.map_some, List.reverse_cons, List.flatten_append, List.flatten_cons, List.flatten_nil, List.append_nil]
    · simp only [trOps, h1, Option.bind_some, k3, Option.map_some, List.reverse_cons, List.flatten_append, List.flatten_cons, List.flatten_nil, List.append_nil, trA]
def RegP (x : Option (List Ov)) (R : List Ov → Prop) : Prop := ∃ us, x = some us ∧ R us
def PostR (Q : Post) (σ : St) (us : List Ov) : Prop := Q .nx (fold σ us.flatten)
def PostD (Q : Post) (σ : St) (ops : List Oper) (us : List Ov) : Prop := drawOk ops (getS σ) us = true ∧ Q .nx (fold σ us.flatten)
section
variable {C : Cfg} {f : FuncId} {σ : St} {Q : Post}
theorem wp_reg {id : Nat} {ops : Array Oper} (h : RegP (seqA C (den C) (C.hint f id) ops.toList (getS σ) [] 0 ops.toList) (PostR Q σ)) : WP C f (.region id ops false) σ Q := by
  obtain ⟨us, h1, h2⟩ := h
  obtain ⟨vs, k1, k2, _⟩ := seqA_acc h1
  rw [List.append_nil] at k1
  subst k1
  unfold WP
  rw [evD_region_f, k2]
  exact ⟨_, _, rfl, h2⟩
theorem wp_draw {id : Nat} {ops : Array Oper} (h : RegP (seqA C (den C) (C.hint f id) ops.toList (getS σ) [] 0 ops.toList) (PostD Q σ ops.toList)) : WP C f (.region id ops true) σ Q := by
  obtain ⟨us, h1, hd, h2⟩ := h
  obtain ⟨vs, k1, _, k3⟩ := seqA_acc h1
  rw [List.append_nil] at k1
  subst k1
  unfold WP
  rw [evD_region]
  unfold drawOk at hd
  cases ha : ahead 0 [] ops.toList with
  | none => rw [ha] at hd; simp at hd
  | some anc =>
    rw [ha] at hd
    rw [List.reverse_reverse] at hd
    refine ⟨_, _, ?_, h2⟩
    simp only [regionEv, if_true, ha, Option.bind_some, k3]
    rw [if_pos hd]
    rfl
theorem regp_some {us : List Ov} {R : List Ov → Prop} (h : R us) : RegP (some us) R := ⟨us, rfl, h⟩
theorem regp_guard {C C' : Cfg} {cl cl' : Cl} {hb : Bool} {h : Nat → Bool} {ops : List Oper} {g g' : Nat → Sl} {acc : List Ov} {k : Nat} {os : List Oper} {d : Option Tmp} {op : Op} {R : List Ov → Prop} {w : Bool} (h1 : w = true → RegP (stepA C cl h ops g acc k os (oneG C' cl' hb g' d op true)) R) (h2 : w = false → RegP (stepA C cl h ops g acc k os (oneG C' cl' hb g' d op false)) R) : RegP (stepA C cl h ops g acc k os (oneG C' cl' hb g' d op w)) R := by
  cases w with
  | true => exact h1 rfl
  | false => exact h2 rfl
theorem regp_guard_n {C C' : Cfg} {cl cl' : Cl} {hb : Bool} {h : Nat → Bool} {ops : List Oper} {g g' : Nat → Sl} {acc : List Ov} {k : Nat} {os : List Oper} {d : Option Tmp} {op : Op} {R : List Ov → Prop} {w : Bool} (h1 : w = false → RegP (stepA C cl h ops g acc k os (oneG C' cl' hb g' d op true)) R) (h2 : w = true → RegP (stepA C cl h ops g acc k os (oneG C' cl' hb g' d op false)) R) : RegP (stepA C cl h ops g acc k os (oneG C' cl' hb g' d op (!w))) R := by
  cases w with
  | true => exact h2 rfl
  | false => exact h1 rfl
theorem regp_guard_p {C C' : Cfg} {cl cl' : Cl} {hb : Bool} {h : Nat → Bool} {ops : List Oper} {g g' : Nat → Sl} {acc : List Ov} {k : Nat} {os : List Oper} {d : Option Tmp} {op : Op} {R : List Ov → Prop} {p : Prop} [Decidable p] (h1 : p → RegP (stepA C cl h ops g acc k os (oneG C' cl' hb g' d op true)) R) (h2 : ¬p → RegP (stepA C cl h ops g acc k os (oneG C' cl' hb g' d op false)) R) : RegP (stepA C cl h ops g acc k os (oneG C' cl' hb g' d op (decide p))) R := by
  by_cases hp : p
  · rw [decide_eq_true hp]; exact h1 hp
  · rw [decide_eq_false hp]; exact h2 hp
theorem regp_guard_np {C C' : Cfg} {cl cl' : Cl} {hb : Bool} {h : Nat → Bool} {ops : List Oper} {g g' : Nat → Sl} {acc : List Ov} {k : Nat} {os : List Oper} {d : Option Tmp} {op : Op} {R : List Ov → Prop} {p : Prop} [Decidable p] (h1 : ¬p → RegP (stepA C cl h ops g acc k os (oneG C' cl' hb g' d op true)) R) (h2 : p → RegP (stepA C cl h ops g acc k os (oneG C' cl' hb g' d op false)) R) : RegP (stepA C cl h ops g acc k os (oneG C' cl' hb g' d op (!decide p))) R := by
  by_cases hp : p
  · rw [decide_eq_true hp]; exact h2 hp
  · rw [decide_eq_false hp]; exact h1 hp
@[congr] theorem regp_cg {x x' : Option (List Ov)} {R : List Ov → Prop} (h : x = x') : RegP x R = RegP x' R := by rw [h]
theorem postr {us : List Ov} {σ' : St} (hf : fold σ us.flatten = σ') (h : Q .nx σ') : PostR Q σ us := by
  unfold PostR
  rw [hf]
  exact h
theorem postd {ops : List Oper} {us : List Ov} {σ' : St} (hd : drawOk ops (getS σ) us = true) (hf : fold σ us.flatten = σ') (h : Q .nx σ') : PostD Q σ ops us := by
  refine ⟨hd, ?_⟩
  rw [hf]
  exact h
end
attribute [go_sem] seqA_nil seqA_cons stepA_some List.flatten_cons List.flatten_nil
end Go.Pi
namespace Go.Pi
section
variable {C : Cfg} {f : FuncId} {σ : St} {Q : Post}
theorem kseq_nx {b : Code} (h : WP C f b σ Q) : KSeq C f b Q .nx σ := h
theorem kseq_rt {b : Code} (h : Q .rt σ) : KSeq C f b Q .rt σ := h
theorem kseq_ex {b : Code} {i : Nat} (h : Q (.ex i) σ) : KSeq C f b Q (.ex i) σ := h
theorem kblk_nx {i : Nat} (h : Q .nx σ) : KBlk i Q .nx σ := h
theorem kblk_rt {i : Nat} (h : Q .rt σ) : KBlk i Q .rt σ := h
theorem kblk_eq {i : Nat} (h : Q .nx σ) : KBlk i Q (.ex i) σ := by simp only [KBlk, if_true]; exact h
theorem kblk_ne {i j : Nat} (hn : Nat.beq j i = false) (h : Q (.ex j) σ) : KBlk i Q (.ex j) σ := by
  have : j ≠ i := Nat.ne_of_beq_eq_false hn
  simp only [KBlk, if_neg this]
  exact h
theorem kloop_ex {c : Code} {i : Nat} (h : Q (.ex i) σ) : KLoop C f c Q (.ex i) σ := h
theorem kloop_rt {c : Code} (h : Q .rt σ) : KLoop C f c Q .rt σ := h
theorem kloop_nx {c : Code} {σ' : St} (ht : trim (C.keep f) 0 σ = σ') (h : WP C f (.loop c) σ' Q) : KLoop C f c Q .nx σ := by
  show WP C f (.loop c) (trim (C.keep f) 0 σ) Q
  rw [ht]
  exact h
theorem wp_loop' {c : Code} {σ' : St} (ht : trim (C.keep f) 0 σ = σ') (h : WP C f c σ' (KLoop C f c Q)) : WP C f (.loop c) σ Q := wp_loop (by rw [ht]; exact h)
theorem wp_trim' {c : Code} {σ' : St} (ht : trim (C.keep f) 0 σ = σ') (h : WP C f (.loop c) σ' Q) : WP C f (.loop c) σ Q := wp_trim (by rw [ht]; exact h)
theorem kfin_nx {P : Program} {rs : List ResultVar} {as : List V} {r : V × List D} (h : finish P rs as σ = some r) : KFin P rs as r .nx σ := h
theorem kfin_rt {P : Program} {rs : List ResultVar} {as : List V} {r : V × List D} (h : finish P rs as σ = some r) : KFin P rs as r .rt σ := h
end
attribute [irreducible] WP KSeq KBlk KLoop KFin RegP PostR PostD
def io0 : Nat → Bool := fun _ => false
theorem io0_at (i : Nat) : io0 i = false := rfl
def ioK (l : List Nat) : Nat → Bool := fun i => l.contains i
theorem ioK_at (l : List Nat) (i : Nat) : ioK l i = l.contains i := rfl
def hh0 : Nat → Nat → Bool := fun _ _ => false
theorem hh0_at (i j : Nat) : hh0 i j = false := rfl
attribute [go_sem] io0_at ioK_at hh0_at
attribute [go_sem] decide_true decide_false Bool.false_eq_true Bool.not_true Bool.not_false Bool.true_and Bool.false_and Bool.and_true Bool.and_false Bool.or_true Bool.or_false Bool.true_or Bool.false_or
  and_self and_true true_and List.contains_nil List.contains_cons beq_self_eq_true bne_self_eq_false Bool.not_not Nat.le_refl Nat.zero_le Int.toNat_natCast
end Go.Pi
namespace Go.Pi
theorem regp_go {x : Option (List Ov)} {R : List Ov → Prop} (h : RegP x R) : RegP x R := h
end Go.Pi
namespace Go.Pi
def CondP (d : D) (A B : Prop) : Prop := ∃ t, d = .bool t ∧ (t = true → A) ∧ (t = false → B)
theorem wp_condc {C : Cfg} {f : FuncId} {σ : St} {Q : Post} {c : Operand} {a b : Code} {d : D} (hp : peek (getS σ) c = some d) (h : CondP d (WP C f a σ Q) (WP C f b σ Q)) : WP C f (.cond c a b) σ Q := by
  obtain ⟨t, rfl, h1, h2⟩ := h
  exact wp_cond hp h1 h2
section
variable {A B : Prop}
theorem condp {t : Bool} (h1 : t = true → A) (h2 : t = false → B) : CondP (.bool t) A B := ⟨t, rfl, h1, h2⟩
theorem condp_t (h : A) : CondP (.bool true) A B := ⟨true, rfl, fun _ => h, fun e => by simp at e⟩
theorem condp_f (h : B) : CondP (.bool false) A B := ⟨false, rfl, fun e => by simp at e, fun _ => h⟩
theorem condp_n {t : Bool} (h1 : t = false → A) (h2 : t = true → B) : CondP (.bool (!t)) A B := condp (fun e => h1 (by simpa using e)) (fun e => h2 (by simpa using e))
theorem condp_p {p : Prop} [Decidable p] (h1 : p → A) (h2 : ¬p → B) : CondP (.bool (decide p)) A B := condp (fun e => h1 (by simpa using e)) (fun e => h2 (by simpa using e))
theorem condp_np {p : Prop} [Decidable p] (h1 : ¬p → A) (h2 : p → B) : CondP (.bool (!decide p)) A B := condp (fun e => h1 (by simpa using e)) (fun e => h2 (by simpa using e))
attribute [irreducible] CondP
end
end Go.Pi
namespace Go.Pi
section
variable {A B : Prop}
theorem condp_ltn {a b : Nat} (h1 : a < b → ¬ b ≤ a → A) (h2 : ¬ a < b → b ≤ a → B) : CondP (.bool (decide (a < b))) A B := condp_p (fun h => h1 h (Nat.not_le.mpr h)) (fun h => h2 h (Nat.not_lt.mp h))
theorem condp_len {a b : Nat} (h1 : a ≤ b → ¬ b < a → A) (h2 : ¬ a ≤ b → b < a → B) : CondP (.bool (decide (a ≤ b))) A B := condp_p (fun h => h1 h (Nat.not_lt.mpr h)) (fun h => h2 h (Nat.not_le.mp h))
theorem condp_lti {a b : Int} (h1 : a < b → ¬ b ≤ a → A) (h2 : ¬ a < b → b ≤ a → B) : CondP (.bool (decide (a < b))) A B := condp_p (fun h => h1 h (Int.not_le.mpr h)) (fun h => h2 h (Int.not_lt.mp h))
theorem condp_lei {a b : Int} (h1 : a ≤ b → ¬ b < a → A) (h2 : ¬ a ≤ b → b < a → B) : CondP (.bool (decide (a ≤ b))) A B := condp_p (fun h => h1 h (Int.not_lt.mpr h)) (fun h => h2 h (Int.not_le.mp h))
end
section
variable {C C' : Cfg} {cl cl' : Cl} {hb : Bool} {h : Nat → Bool} {ops : List Oper} {g g' : Nat → Sl} {acc : List Ov} {k : Nat} {os : List Oper} {d : Option Tmp} {op : Op} {R : List Ov → Prop}
theorem regp_ltn {a b : Nat} (h1 : a < b → ¬ b ≤ a → RegP (stepA C cl h ops g acc k os (oneG C' cl' hb g' d op true)) R) (h2 : ¬ a < b → b ≤ a → RegP (stepA C cl h ops g acc k os (oneG C' cl' hb g' d op false)) R) : RegP (stepA C cl h ops g acc k os (oneG C' cl' hb g' d op (decide (a < b)))) R := regp_guard_p (fun h => h1 h (Nat.not_le.mpr h)) (fun h => h2 h (Nat.not_lt.mp h))
theorem regp_len {a b : Nat} (h1 : a ≤ b → ¬ b < a → RegP (stepA C cl h ops g acc k os (oneG C' cl' hb g' d op true)) R) (h2 : ¬ a ≤ b → b < a → RegP (stepA C cl h ops g acc k os (oneG C' cl' hb g' d op false)) R) : RegP (stepA C cl h ops g acc k os (oneG C' cl' hb g' d op (decide (a ≤ b)))) R := regp_guard_p (fun h => h1 h (Nat.not_lt.mpr h)) (fun h => h2 h (Nat.not_le.mp h))
theorem regp_lti {a b : Int} (h1 : a < b → ¬ b ≤ a → RegP (stepA C cl h ops g acc k os (oneG C' cl' hb g' d op true)) R) (h2 : ¬ a < b → b ≤ a → RegP (stepA C cl h ops g acc k os (oneG C' cl' hb g' d op false)) R) : RegP (stepA C cl h ops g acc k os (oneG C' cl' hb g' d op (decide (a < b)))) R := regp_guard_p (fun h => h1 h (Int.not_le.mpr h)) (fun h => h2 h (Int.not_lt.mp h))
theorem regp_lei {a b : Int} (h1 : a ≤ b → ¬ b < a → RegP (stepA C cl h ops g acc k os (oneG C' cl' hb g' d op true)) R) (h2 : ¬ a ≤ b → b < a → RegP (stepA C cl h ops g acc k os (oneG C' cl' hb g' d op false)) R) : RegP (stepA C cl h ops g acc k os (oneG C' cl' hb g' d op (decide (a ≤ b)))) R := regp_guard_p (fun h => h1 h (Int.not_lt.mpr h)) (fun h => h2 h (Int.not_le.mp h))
end
end Go.Pi

/- Loops: what holds at each round. -/
namespace Go.Pi
open Go
/-- A fact that is not used to rewrite by. -/
structure Kept (p : Prop) : Prop where
  out : p
section
variable {C : Cfg} {f : FuncId} {c : Code} {Q : Post}
/-- A loop with a measure. -/
theorem wp_ind {α : Type} (S : α → St) (I : α → Prop) (μ : α → Nat) (ht : ∀ a, trim (C.keep f) 0 (S a) = S a)
    (step : ∀ a, Kept (I a) → Kept (∀ b, μ b < μ a → I b → WP C f (.loop c) (S b) Q) → WP C f c (S a) (KLoop C f c Q)) (a : α) (h : I a) : WP C f (.loop c) (S a) Q := by
  generalize hn : μ a = n
  induction n using Nat.strongRecOn generalizing a with
  | ind n ih =>
    refine wp_loop' (ht a) (step a ⟨h⟩ ⟨fun b hb hi => ?_⟩)
    exact ih (μ b) (by omega) b hi rfl
/-- A loop over a list's places, with what is gathered on the way. -/
theorem wp_fold_at {α β : Type} (xs : List α) (k0 : Nat) (h0 : k0 ≤ xs.length) (S : Nat → β → St) (I : Nat → List α → β → Prop) (ht : ∀ k b, trim (C.keep f) 0 (S k b) = S k b)
    (stop : ∀ b, Kept (I xs.length [] b) → WP C f c (S xs.length b) (KLoop C f c Q))
    (step : ∀ k x rest b, xs.drop k = x :: rest → xs[k]? = some x → k < xs.length → Kept (I k (x :: rest) b) → Kept (∀ b', I (k + 1) rest b' → WP C f (.loop c) (S (k + 1) b') Q) → WP C f c (S k b) (KLoop C f c Q))
    (b : β) (h : I k0 (xs.drop k0) b) : WP C f (.loop c) (S k0 b) Q := by
  suffices key : ∀ (m k : Nat) (b : β), k + m = xs.length → I k (xs.drop k) b → WP C f (.loop c) (S k b) Q by
    exact key (xs.length - k0) k0 b (by omega) h
  intro m
  induction m with
  | zero =>
    intro k b hk hi
    rw [show k = xs.length by omega, List.drop_length] at hi
    rw [show k = xs.length by omega]
    exact wp_loop' (ht _ b) (stop b ⟨hi⟩)
  | succ m ih =>
    intro k b hk hi
    have hlt : k < xs.length := by omega
    have hd : xs.drop k = xs[k] :: xs.drop (k + 1) := List.drop_eq_getElem_cons hlt
    rw [hd] at hi
    refine wp_loop' (ht k b) (step k xs[k] (xs.drop (k + 1)) b hd (List.getElem?_eq_getElem hlt) hlt ⟨hi⟩ ⟨fun b' hb' => ?_⟩)
    exact ih (k + 1) b' (by omega) hb'
theorem wp_fold {α β : Type} (xs : List α) (S : Nat → β → St) (I : Nat → List α → β → Prop) (ht : ∀ k b, trim (C.keep f) 0 (S k b) = S k b)
    (stop : ∀ b, Kept (I xs.length [] b) → WP C f c (S xs.length b) (KLoop C f c Q))
    (step : ∀ k x rest b, xs.drop k = x :: rest → xs[k]? = some x → k < xs.length → Kept (I k (x :: rest) b) → Kept (∀ b', I (k + 1) rest b' → WP C f (.loop c) (S (k + 1) b') Q) → WP C f c (S k b) (KLoop C f c Q))
    (b : β) (h : I 0 xs b) : WP C f (.loop c) (S 0 b) Q := wp_fold_at xs 0 (Nat.zero_le _) S I ht stop step b h
end
abbrev lim62 : Nat := 4611686018427387904
theorem i64_wrap (x : Int) (h1 : -9223372036854775808 ≤ x) (h2 : x ≤ 9223372036854775807) : IntKind.wrap .i64 x = x := Go.IntWalk.i64_in x ⟨h1, h2⟩
theorem wrap_succ {k n : Nat} (h : k < n) (hn : n ≤ lim62) : IntKind.wrap .i64 ((k : Int) + 1) = ((k + 1 : Nat) : Int) := by
  rw [i64_wrap]
  · rfl
  · omega
  · unfold lim62 at hn; omega
attribute [go_sem] Int.ofNat_lt Int.ofNat_le List.length_map Nat.lt_irrefl ge_iff_le gt_iff_lt List.getElem?_map Option.map_some Int.natCast_nonneg Int.cast_ofNat_Int Int.natCast_pos Nat.succ_pos or_true true_or or_self false_or or_false and_false false_and not_false_eq_true not_true_eq_false eq_self
/-! ### Data that does not own -/
theorem frz_map {α : Type} {e : α → D} (he : ∀ x, (e x).frz = e x) : ∀ xs : List α, frzL (xs.map e) = xs.map e
  | [] => rfl
  | x :: xs => by simp only [List.map_cons, frzL, he, frz_map he xs]
theorem frz_map' {α : Type} {e e' : α → D} (he : ∀ x, (e x).frz = e' x) : ∀ xs : List α, frzL (xs.map e) = xs.map e'
  | [] => rfl
  | x :: xs => by simp only [List.map_cons, frzL, he, frz_map' he xs]
abbrev Bs := List UInt8
structure Ent where
  key : Bs
  val : Int
structure Cmt where
  par : List Int
  map : List Ent
structure Rf where
  name : Bs
  head : Int
  ver : Int
  gone : Bool
structure Bse where
  store : List Cmt
  refs : List Rf
def eInt (n : Int) : D := .int .i64 n
def eEnt (e : Ent) : D := .agg [.str e.key, .int .i64 e.val]
def eCmt (o : Bool) (c : Cmt) : D := .agg [.sl o (c.par.map eInt), .sl o (c.map.map eEnt)]
def eRf (r : Rf) : D := .agg [.str r.name, .int .i64 r.head, .int .i64 r.ver, .bool r.gone]
def eBse (o : Bool) (b : Bse) : D := .agg [.sl o (b.store.map (eCmt o)), .sl o (b.refs.map eRf)]
@[go_sem] theorem frz_ints (l : List Int) : frzL (l.map eInt) = l.map eInt := frz_map (fun _ => rfl) l
@[go_sem] theorem frz_bytes (l : Bs) : frzL (l.map byteD) = l.map byteD := frz_map (fun _ => rfl) l
@[go_sem] theorem frz_ents (l : List Ent) : frzL (l.map eEnt) = l.map eEnt := frz_map (fun _ => rfl) l
@[go_sem] theorem frz_rfs (l : List Rf) : frzL (l.map eRf) = l.map eRf := frz_map (fun _ => rfl) l
theorem frz_cmt (o : Bool) (c : Cmt) : (eCmt o c).frz = eCmt false c := by simp only [eCmt, D.frz, frzL, frz_ints, frz_ents]
@[go_sem] theorem frz_cmts (o : Bool) (l : List Cmt) : frzL (l.map (eCmt o)) = l.map (eCmt false) := frz_map' (frz_cmt o) l
attribute [go_sem] i64_wrap
attribute [go_sem] eInt eEnt eCmt eRf byteD
/-! ### Appending -/
theorem appW_map {α : Type} {e : α → D} {m : Nat} (he : ∀ x, (e x).width = m) (l : List α) (y : D) (bytes : Nat) (hy : y.width = m) (hb : bytes ≤ 48) (hl : l.length ≤ 1000000000) : appW m bytes (l.map e) [y] := by
  refine ⟨?_, ?_, ?_, ?_⟩
  · intro x hx
    obtain ⟨a, _, rfl⟩ := List.mem_map.mp hx
    exact he a
  · intro y' h'
    rw [List.mem_singleton.mp h']
    exact hy
  · simp only [List.length_map, List.length_cons, List.length_nil]
    have : (l.length + (0 + 1)) * bytes ≤ (l.length + 1) * 48 := Nat.mul_le_mul (by omega) hb
    omega
  · simp only [List.length_map, List.length_cons, List.length_nil]
    omega
@[go_sem] theorem appW_ints (l : List Int) (n : Int) (hl : l.length ≤ 1000000000) : appW 1 8 (l.map eInt) [.int .i64 n] := appW_map (e := eInt) (fun _ => rfl) l _ 8 rfl (by omega) hl
@[go_sem] theorem snoc_ints (l : List Int) (n : Int) : l.map eInt ++ [.int .i64 n] = (l ++ [n]).map eInt := by simp only [List.map_append, List.map_cons, List.map_nil, eInt]
@[go_sem] theorem appW_ents (l : List Ent) (k : Bs) (n : Int) (hl : l.length ≤ 1000000000) : appW 2 24 (l.map eEnt) [.agg [.str k, .int .i64 n]] := appW_map (e := eEnt) (fun _ => rfl) l _ 24 rfl (by omega) hl
@[go_sem] theorem snoc_ents (l : List Ent) (k : Bs) (n : Int) : l.map eEnt ++ [.agg [.str k, .int .i64 n]] = (l ++ [(⟨k, n⟩ : Ent)]).map eEnt := by simp only [List.map_append, List.map_cons, List.map_nil, eEnt]
@[go_sem] theorem appW_rfs (l : List Rf) (k : Bs) (n v : Int) (b : Bool) (hl : l.length ≤ 1000000000) : appW 4 40 (l.map eRf) [.agg [.str k, .int .i64 n, .int .i64 v, .bool b]] := appW_map (e := eRf) (fun _ => rfl) l _ 40 rfl (by omega) hl
@[go_sem] theorem snoc_rfs (l : List Rf) (k : Bs) (n v : Int) (b : Bool) : l.map eRf ++ [.agg [.str k, .int .i64 n, .int .i64 v, .bool b]] = (l ++ [(⟨k, n, v, b⟩ : Rf)]).map eRf := by simp only [List.map_append, List.map_cons, List.map_nil, eRf]
@[go_sem] theorem appW_cmts (l : List Cmt) (o : Bool) (x y : D) (hl : l.length ≤ 1000000000) : appW 2 48 (l.map (eCmt o)) [.agg [x, y]] := appW_map (e := eCmt o) (fun _ => rfl) l _ 48 rfl (by omega) hl
@[go_sem] theorem snoc_cmts (l : List Cmt) (o : Bool) (p : List Int) (m : List Ent) : l.map (eCmt o) ++ [.agg [.sl o (p.map eInt), .sl o (m.map eEnt)]] = (l ++ [(⟨p, m⟩ : Cmt)]).map (eCmt o) := by simp only [List.map_append, List.map_cons, List.map_nil, eCmt]
@[go_sem] theorem take_map' {α β : Type} (f : α → β) (l : List α) (k : Nat) : List.take k (l.map f) = (l.take k).map f := by simp
@[go_sem] theorem drop_map' {α β : Type} (f : α → β) (l : List α) (k : Nat) : List.drop k (l.map f) = (l.drop k).map f := by simp
theorem take_succ_of {α : Type} {l : List α} {k : Nat} {x : α} (h : l[k]? = some x) : l.take (k + 1) = l.take k ++ [x] := by rw [List.take_add_one, h]; rfl
attribute [go_sem] List.drop_zero
end Go.Pi
