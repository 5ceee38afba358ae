/- Part 7 of an interpreter over value trees, shown sound for the model. -/
import Derived.Test.YtgclannlnahaeaaP6
import Derived.Test.YtgclannlnahaeaaP0
import GoSem.ClaimChange
import Derived.ChangeShapes
import Derived.Below
set_option linter.unusedVariables false
set_option linter.unusedSimpArgs false
set_option linter.unusedSectionVars false
/- The interpreter without fuel. -/
namespace Go.Pi
open Go
set_option linter.unusedSimpArgs false
set_option linter.unusedVariables false

/-! ### Limits -/
def Mono {α : Type} (s : Nat → Option α) : Prop := ∀ n m r, n ≤ m → s n = some r → s m = some r
open Classical in
noncomputable def limit {α : Type} (s : Nat → Option α) : Option α := if h : ∃ n r, s n = some r then s (Classical.choose h) else none
theorem limit_iff {α : Type} {s : Nat → Option α} (hm : Mono s) {r : α} : limit s = some r ↔ ∃ n, s n = some r := by
  unfold limit
  constructor
  · intro h
    split at h
    · exact ⟨_, h⟩
    · simp at h
  · rintro ⟨n, hn⟩
    have hex : ∃ n r, s n = some r := ⟨n, r, hn⟩
    rw [dif_pos hex]
    obtain ⟨r', hr'⟩ := Classical.choose_spec hex
    have h1 := hm n (max n (Classical.choose hex)) r (Nat.le_max_left _ _) hn
    have h2 := hm _ (max n (Classical.choose hex)) r' (Nat.le_max_right _ _) hr'
    rw [h1] at h2
    injection h2 with h2
    rw [hr', h2]
def Below (cl cl' : Cl) : Prop := ∀ f as r, cl f as = some r → cl' f as = some r
/-- What asks callees monotonely, and finitely often. -/
structure Cont {α : Type} (C : Cfg) (G : Cl → Option α) : Prop where
  mono : ∀ cl cl', Below cl cl' → ∀ r, G cl = some r → G cl' = some r
  fin : ∀ (s : Nat → Cl) (cl : Cl), (∀ n m, n ≤ m → Below (s n) (s m)) → (∀ f as r, cl f as = some r → ∃ n, s n f as = some r) → ∀ r, G cl = some r → ∃ n, G (s n) = some r
theorem Cont.const {α : Type} {C : Cfg} (x : Option α) : Cont C fun _ => x := ⟨fun _ _ _ _ h => h, fun _ _ _ _ r h => ⟨0, h⟩⟩
theorem Cont.bind {α β : Type} {C : Cfg} {G : Cl → Option α} {H : α → Cl → Option β} (hG : Cont C G) (hH : ∀ x, Cont C (H x)) : Cont C fun cl => (G cl).bind fun x => H x cl := by
  constructor
  · intro cl cl' h r hr
    simp only [Option.bind_eq_some_iff] at hr ⊢
    obtain ⟨x, h1, h2⟩ := hr
    exact ⟨x, hG.mono cl cl' h x h1, (hH x).mono cl cl' h r h2⟩
  · intro s cl hs hl r hr
    simp only [Option.bind_eq_some_iff] at hr ⊢
    obtain ⟨x, h1, h2⟩ := hr
    obtain ⟨n1, k1⟩ := hG.fin s cl hs hl x h1
    obtain ⟨n2, k2⟩ := (hH x).fin s cl hs hl r h2
    exact ⟨max n1 n2, x, hG.mono _ _ (hs _ _ (Nat.le_max_left _ _)) x k1, (hH x).mono _ _ (hs _ _ (Nat.le_max_right _ _)) r k2⟩
theorem Cont.map {α β : Type} {C : Cfg} {G : Cl → Option α} {f : α → β} (hG : Cont C G) : Cont C fun cl => (G cl).map f := by
  have e : (fun cl => (G cl).map f) = fun cl => (G cl).bind fun x => some (f x) := by
    funext cl
    cases G cl <;> rfl
  rw [e]
  exact hG.bind fun x => Cont.const _
theorem Cont.cl {C : Cfg} (f : FuncId) (as : List V) : Cont C fun cl => cl f as := ⟨fun _ _ h r hr => h f as r hr, fun s cl _ hl r hr => hl f as r hr⟩
theorem Cont.callV {C : Cfg} {io : Nat → Nat → Bool} {fl : Bool} {g : Nat → Sl} {f : FuncId} {fs cs : List D} {args : List Operand} : Cont C fun cl => callV io fl cl g f fs args cs := by
  unfold Go.Pi.callV callA
  refine (Cont.const _).bind fun u => (Cont.const _).bind fun al => ?_
  unfold callB
  by_cases h : (nub (al.2.map (·.r)) && (!(fl && noLinks (io f) g fs.length args) || al.2.isEmpty)) = true
  · simp only [if_pos h]
    exact (Cont.cl _ _).bind fun x => Cont.const _
  · simp only [if_neg h]
    exact Cont.const _
theorem Cont.calleeV {C : Cfg} {g : Nat → Sl} {f : FuncId} {fs cs : List D} {args : List Operand} : Cont C fun cl => calleeV C cl g f fs args cs := by
  unfold Go.Pi.calleeV
  exact (Cont.const _).bind fun fl => Cont.callV
theorem Cont.actO {C : Cfg} {h : Bool} {dst : Option Tmp} {g : Nat → Sl} (op : Op) : Cont C fun cl => actO C cl h dst g op := by
  cases op
  case call c =>
    show Cont C fun cl => calls C cl h g c.args.toList c.argTypes.toList c.callee
    cases hc : c.callee with
    | builtin b => exact Cont.const _
    | invoke r m => exact Cont.const _
    | value fo =>
      show Cont C fun cl => (peek g fo).bind (fnV C cl g c.args.toList)
      refine (Cont.const _).bind fun d => ?_
      cases d <;> first | exact Cont.calleeV | exact Cont.const _
  all_goals exact Cont.const _
theorem Cont.one {C : Cfg} {h : Bool} {ops : List Oper} {o : Oper} {g : Nat → Sl} : Cont C fun cl => one C cl h ops o g := by
  unfold Go.Pi.one
  refine (Cont.const _).bind fun w => ?_
  cases w
  · exact Cont.const _
  · simp only [if_true]
    exact (Cont.actO _).bind fun x => Cont.const _
theorem Cont.seqOps {C : Cfg} {h : Nat → Bool} {ops : List Oper} : ∀ (os : List Oper) (k : Nat) (g : Nat → Sl), Cont C fun cl => seqOps C cl h ops g k os
  | [], k, g => Cont.const _
  | o :: os, k, g => by
    unfold Go.Pi.seqOps
    exact Cont.one.bind fun u => (Cont.seqOps os (k + 1) (ovl u g)).map
theorem Cont.trOps {C : Cfg} {h : Nat → Bool} {ops : List Oper} : ∀ (os : List Oper) (k : Nat) (g : Nat → Sl), Cont C fun cl => trOps C cl h ops g k os
  | [], k, g => Cont.const _
  | o :: os, k, g => by
    unfold Go.Pi.trOps
    exact Cont.one.bind fun u => (Cont.trOps os (k + 1) (ovl u g)).map
theorem Cont.regionEv {C : Cfg} {h : Nat → Bool} {ops : List Oper} {draw : Bool} {g : Nat → Sl} : Cont C fun cl => regionEv C cl h ops draw g := by
  unfold Go.Pi.regionEv
  cases draw
  · simp only [Bool.false_eq_true, if_false]
    exact Cont.seqOps _ _ _
  · simp only [if_true]
    exact (Cont.const _).bind fun anc => (Cont.trOps _ _ _).bind fun x => Cont.const _
end Go.Pi

/- The interpreter without fuel: code and functions. -/
namespace Go.Pi
open Go
set_option linter.unusedSimpArgs false
set_option linter.unusedVariables false

theorem iter_mono {keep : List Nat} {b b' : St → Option (Ex × St)} (h : ∀ σ r, b σ = some r → b' σ = some r) : ∀ {n m : Nat} {σ : St} {r : Ex × St}, n ≤ m → iter keep b n σ = some r → iter keep b' m σ = some r
  | 0, m, σ, r, _, e => by simp [iter] at e
  | n + 1, 0, σ, r, hn, e => by omega
  | n + 1, m + 1, σ, r, hn, e => by
    simp only [iter] at e ⊢
    cases hb : b (trim keep 0 σ) with
    | none => rw [hb] at e; simp at e
    | some x =>
      rw [h _ _ hb]
      rw [hb] at e
      obtain ⟨ex, σ'⟩ := x
      cases ex <;> simp only at e ⊢
      · exact iter_mono h (by omega) e
      · exact e
      · exact e
theorem ev_mono {C : Cfg} {cl cl' : Cl} {f : FuncId} {n m : Nat} (hc : Below cl cl') (hn : n ≤ m) : ∀ (c : Code) {σ : St} {r : Ex × St}, ev C cl f n c σ = some r → ev C cl' f m c σ = some r
  | .skip, σ, r, h => h
  | .label _, σ, r, h => h
  | .exit _, σ, r, h => h
  | .ret, σ, r, h => h
  | .goto _, σ, r, h => by simp [ev] at h
  | .scope _, σ, r, h => by simp [ev] at h
  | .refuse _, σ, r, h => by simp [ev] at h
  | .rangeFunc _ _ _ _, σ, r, h => by simp [ev] at h
  | .region id ops draw, σ, r, h => by
    simp only [ev, Option.map_eq_some_iff] at h ⊢
    obtain ⟨u, h1, h2⟩ := h
    exact ⟨u, Cont.regionEv.mono cl cl' hc u h1, h2⟩
  | .seq x y, σ, r, h => by
    simp only [ev, andThen] at h ⊢
    cases hx : ev C cl f n x σ with
    | none => rw [hx] at h; simp at h
    | some q =>
      rw [ev_mono hc hn x hx]
      rw [hx] at h
      obtain ⟨ex, σ'⟩ := q
      cases ex <;> simp only at h ⊢
      · exact ev_mono hc hn y h
      · exact h
      · exact h
  | .cond c x y, σ, r, h => by
    simp only [ev, Option.bind_eq_some_iff] at h ⊢
    obtain ⟨d, h1, h2⟩ := h
    refine ⟨d, h1, ?_⟩
    unfold condD at h2 ⊢
    split at h2
    · rename_i t
      cases t <;> simp only [Bool.false_eq_true, if_false, if_true] at h2 ⊢
      · exact ev_mono hc hn y h2
      · exact ev_mono hc hn x h2
    · simp at h2
  | .block id x, σ, r, h => by
    simp only [ev] at h ⊢
    cases hx : ev C cl f n x σ with
    | none => rw [hx] at h; simp [endBlock] at h
    | some q => rw [ev_mono hc hn x hx]; rw [hx] at h; exact h
  | .loop x, σ, r, h => by
    simp only [ev] at h ⊢
    exact iter_mono (fun σ r hr => ev_mono hc hn x hr) hn h
theorem body_mono {C : Cfg} {cl cl' : Cl} {f : FuncId} {n m : Nat} (hc : Below cl cl') (hn : n ≤ m) {as : List V} {r : V × List D} (h : body C cl n f as = some r) : body C cl' m f as = some r := by
  unfold body at h ⊢
  simp only [Option.bind_eq_some_iff] at h ⊢
  obtain ⟨⟨nt, rs, c⟩, h1, h⟩ := h
  refine ⟨(nt, rs, c), h1, ?_⟩
  simp only at h ⊢
  split at h
  · simp at h
  rename_i hk
  rw [if_neg hk]
  simp only [Option.bind_eq_some_iff] at h ⊢
  obtain ⟨σ, h2, h3⟩ := h
  refine ⟨σ, ?_, h3⟩
  cases he : ev C cl f n c (as ++ List.replicate (nt - as.length) .gone) with
  | none => rw [he] at h2; simp [atEnd] at h2
  | some q => rw [ev_mono hc hn c he]; rw [he] at h2; exact h2
theorem run_below (C : Cfg) : ∀ n m, n ≤ m → Below (run C n) (run C m)
  | 0, m, _ => fun f as r h => by simp [run] at h
  | n + 1, 0, h => by omega
  | n + 1, m + 1, h => fun f as r hr => by
    simp only [run] at hr ⊢
    split at hr
    · exact hr
    · exact body_mono (run_below C n m (by omega)) (by omega) hr
noncomputable def den (C : Cfg) : Cl := fun f as => limit fun n => run C n f as
noncomputable def evD (C : Cfg) (f : FuncId) (c : Code) (σ : St) : Option (Ex × St) := limit fun n => ev C (run C n) f n c σ
theorem den_iff {C : Cfg} {f : FuncId} {as : List V} {r : V × List D} : den C f as = some r ↔ ∃ n, run C n f as = some r :=
  limit_iff fun n m r hn h => run_below C n m hn f as r h
theorem evD_iff {C : Cfg} {f : FuncId} {c : Code} {σ : St} {r : Ex × St} : evD C f c σ = some r ↔ ∃ n, ev C (run C n) f n c σ = some r :=
  limit_iff fun n m r hn h => ev_mono (run_below C n m hn) hn c h
theorem opt_ext {α : Type} {x y : Option α} (h : ∀ r, x = some r ↔ y = some r) : x = y := by
  cases x with
  | none =>
    cases y with
    | none => rfl
    | some b => exact absurd ((h b).mpr rfl) (by simp)
  | some a => exact ((h a).mp rfl).symm
theorem evD_const {C : Cfg} {f : FuncId} {c : Code} {σ : St} {r : Option (Ex × St)} (h : ∀ n, ev C (run C n) f n c σ = r) : evD C f c σ = r := by
  apply opt_ext
  intro x
  rw [evD_iff]
  exact ⟨fun ⟨n, hn⟩ => by rw [← h n]; exact hn, fun hr => ⟨0, by rw [h 0]; exact hr⟩⟩
section
variable (C : Cfg) (f : FuncId) (σ : St)
theorem evD_skip : evD C f .skip σ = some (.nx, σ) := evD_const fun n => rfl
theorem evD_label (l : Nat) : evD C f (.label l) σ = some (.nx, σ) := evD_const fun n => rfl
theorem evD_exit (id : Nat) : evD C f (.exit id) σ = some (.ex id, σ) := evD_const fun n => rfl
theorem evD_ret : evD C f .ret σ = some (.rt, σ) := evD_const fun n => rfl
theorem evD_region (id : Nat) (ops : Array Oper) (draw : Bool) : evD C f (.region id ops draw) σ = (regionEv C (den C) (C.hint f id) ops.toList draw (getS σ)).map fun u => (.nx, fold σ u) := by
  apply opt_ext
  intro r
  rw [evD_iff]
  have hc : Cont C fun cl => (regionEv C cl (C.hint f id) ops.toList draw (getS σ)).map fun u => (Ex.nx, fold σ u) := Cont.regionEv.map
  constructor
  · rintro ⟨n, hn⟩
    exact hc.mono (run C n) (den C) (fun g as r h => den_iff.mpr ⟨n, h⟩) r hn
  · intro h
    exact hc.fin (run C) (den C) (run_below C) (fun g as r h => den_iff.mp h) r h
theorem andThen_iff {r : Option (Ex × St)} {k : St → Option (Ex × St)} {q : Ex × St} : andThen r k = some q ↔ (∃ σ', r = some (.nx, σ') ∧ k σ' = some q) ∨ (r = some q ∧ q.1 ≠ .nx) := by
  cases r with
  | none => simp [andThen]
  | some x =>
    obtain ⟨ex, σ'⟩ := x
    cases ex <;> simp only [andThen, Option.some.injEq, Prod.mk.injEq, true_and, exists_eq_left', reduceCtorEq, false_and, exists_false, false_or]
    · constructor
      · intro h; exact Or.inl h
      · rintro (h | ⟨h, hn⟩)
        · exact h
        · rw [← h] at hn; exact absurd rfl hn
    · constructor
      · rintro rfl; simp
      · rintro ⟨h, _⟩; exact h
    · constructor
      · rintro rfl; simp
      · rintro ⟨h, _⟩; exact h
theorem evD_seq (x y : Code) : evD C f (.seq x y) σ = andThen (evD C f x σ) (evD C f y) := by
  apply opt_ext
  intro r
  rw [evD_iff, andThen_iff]
  simp only [evD_iff]
  constructor
  · rintro ⟨n, hn⟩
    simp only [ev] at hn
    rcases andThen_iff.mp hn with ⟨σ', h1, h2⟩ | ⟨h1, h2⟩
    · exact Or.inl ⟨σ', ⟨n, h1⟩, ⟨n, h2⟩⟩
    · exact Or.inr ⟨⟨n, h1⟩, h2⟩
  · rintro (⟨σ', ⟨n1, h1⟩, ⟨n2, h2⟩⟩ | ⟨⟨n, h1⟩, h2⟩)
    · refine ⟨max n1 n2, ?_⟩
      simp only [ev]
      exact andThen_iff.mpr (Or.inl ⟨σ', ev_mono (run_below C _ _ (Nat.le_max_left _ _)) (Nat.le_max_left _ _) x h1, ev_mono (run_below C _ _ (Nat.le_max_right _ _)) (Nat.le_max_right _ _) y h2⟩)
    · refine ⟨n, ?_⟩
      simp only [ev]
      exact andThen_iff.mpr (Or.inr ⟨h1, h2⟩)
theorem evD_cond (c : Operand) (x y : Code) : evD C f (.cond c x y) σ = (peek (getS σ) c).bind (condD (evD C f x σ) (evD C f y σ)) := by
  apply opt_ext
  intro r
  rw [evD_iff]
  simp only [ev, Option.bind_eq_some_iff]
  constructor
  · rintro ⟨n, d, h1, h2⟩
    refine ⟨d, h1, ?_⟩
    unfold condD at h2 ⊢
    split at h2
    · rename_i t
      cases t <;> simp only [Bool.false_eq_true, if_false, if_true] at h2 ⊢ <;> exact evD_iff.mpr ⟨n, h2⟩
    · simp at h2
  · rintro ⟨d, h1, h2⟩
    unfold condD at h2
    split at h2
    · rename_i t
      cases t <;> simp only [Bool.false_eq_true, if_false, if_true] at h2 <;> obtain ⟨n, hn⟩ := evD_iff.mp h2 <;> exact ⟨n, _, h1, by simpa [condD] using hn⟩
    · simp at h2
theorem evD_block (id : Nat) (x : Code) : evD C f (.block id x) σ = endBlock id (evD C f x σ) := by
  apply opt_ext
  intro r
  rw [evD_iff]
  simp only [ev]
  constructor
  · rintro ⟨n, hn⟩
    cases hx : ev C (run C n) f n x σ with
    | none => rw [hx] at hn; simp [endBlock] at hn
    | some q => rw [evD_iff.mpr ⟨n, hx⟩, ← hx]; exact hn
  · intro h
    cases hx : evD C f x σ with
    | none => rw [hx] at h; simp [endBlock] at h
    | some q =>
      obtain ⟨n, hn⟩ := evD_iff.mp hx
      exact ⟨n, by rw [hn, ← hx]; exact h⟩
theorem evD_loop (x : Code) : evD C f (.loop x) σ = andThen (evD C f x (trim (C.keep f) 0 σ)) (evD C f (.loop x)) := by
  apply opt_ext
  intro r
  rw [evD_iff, andThen_iff]
  simp only [evD_iff]
  have unroll : ∀ n (b : St → Option (Ex × St)), iter (C.keep f) b (n + 1) σ = andThen (b (trim (C.keep f) 0 σ)) (iter (C.keep f) b n) := by
    intro n b
    simp only [iter, andThen]
  constructor
  · rintro ⟨n, hn⟩
    simp only [ev] at hn
    cases n with
    | zero => simp [iter] at hn
    | succ n =>
      rw [unroll] at hn
      rcases andThen_iff.mp hn with ⟨σ', h1, h2⟩ | ⟨h1, h2⟩
      · refine Or.inl ⟨σ', ⟨n + 1, h1⟩, ⟨n + 1, ?_⟩⟩
        simp only [ev]
        exact iter_mono (fun _ _ h => h) (by omega) h2
      · exact Or.inr ⟨⟨n + 1, h1⟩, h2⟩
  · rintro (⟨σ', ⟨n1, h1⟩, ⟨n2, h2⟩⟩ | ⟨⟨n, h1⟩, h2⟩)
    · refine ⟨max n1 n2 + 1, ?_⟩
      simp only [ev]
      rw [unroll]
      refine andThen_iff.mpr (Or.inl ⟨σ', ev_mono (run_below C _ _ (by omega)) (by omega) x h1, ?_⟩)
      simp only [ev] at h2
      exact iter_mono (fun _ _ h => ev_mono (run_below C n2 _ (by omega)) (by omega) x h) (by omega) h2
    · refine ⟨n + 1, ?_⟩
      simp only [ev]
      rw [unroll]
      exact andThen_iff.mpr (Or.inr ⟨ev_mono (run_below C _ _ (by omega)) (by omega) x h1, h2⟩)
end
theorem den_ext {C : Cfg} {f : FuncId} {h : List V → Option (V × List D)} (hf : C.ext f = some h) (as : List V) : den C f as = h as := by
  apply opt_ext
  intro r
  rw [den_iff]
  constructor
  · rintro ⟨n, hn⟩
    cases n with
    | zero => simp [run] at hn
    | succ n => simpa [run, hf] using hn
  · intro hr
    exact ⟨1, by simpa [run, hf] using hr⟩
theorem den_eq {C : Cfg} {f : FuncId} {nt : Nat} {rs : List ResultVar} {c : Code} (hf : C.ext f = none) (hb : fBody C.P f = some (nt, rs, c)) (as : List V) :
    den C f as = if !(as.all okArg && decide (as.length ≤ nt)) then none else (atEnd (evD C f c (as ++ List.replicate (nt - as.length) .gone))).bind (finish C.P rs as) := by
  apply opt_ext
  intro r
  rw [den_iff]
  constructor
  · rintro ⟨n, hn⟩
    cases n with
    | zero => simp [run] at hn
    | succ n =>
      simp only [run, hf, body, hb, Option.bind_some] at hn
      split at hn
      · simp at hn
      · rename_i hk
        rw [if_neg hk]
        simp only [Option.bind_eq_some_iff] at hn ⊢
        obtain ⟨σ, h1, h2⟩ := hn
        refine ⟨σ, ?_, h2⟩
        cases he : ev C (run C n) f n c (as ++ List.replicate (nt - as.length) .gone) with
        | none => rw [he] at h1; simp [atEnd] at h1
        | some q => rw [evD_iff.mpr ⟨n, he⟩, ← he]; exact h1
  · intro h
    split at h
    · simp at h
    · rename_i hk
      simp only [Option.bind_eq_some_iff] at h
      obtain ⟨σ, h1, h2⟩ := h
      cases he : evD C f c (as ++ List.replicate (nt - as.length) .gone) with
      | none => rw [he] at h1; simp [atEnd] at h1
      | some q =>
        obtain ⟨n, hn⟩ := evD_iff.mp he
        refine ⟨n + 1, ?_⟩
        simp only [run, hf, body, hb, Option.bind_some]
        rw [if_neg hk]
        simp only [Option.bind_eq_some_iff]
        exact ⟨σ, by rw [hn, ← he]; exact h1, h2⟩
/-- What the interpreter tells, the model does. -/
theorem den_ok {C : Cfg} (hm : C.P.follows .mixedOrders = true) (hx : ExtOK C) : CallOK C.P (den C) := by
  intro f as res ys fl h hf
  obtain ⟨n, hn⟩ := den_iff.mp h
  exact run_ok hm hx n f as res ys fl hn hf
end Go.Pi

/- Rules to evaluate by, without fuel. -/
namespace Go.Pi
open Go
theorem evD_region_f (C : Cfg) (f : FuncId) (σ : St) (id : Nat) (ops : Array Oper) : evD C f (.region id ops false) σ = (seqOps C (den C) (C.hint f id) ops.toList (getS σ) 0 ops.toList).map fun u => (.nx, fold σ u) := by
  rw [evD_region]
  rfl
def drawD (anc : List (List Nat)) (x : List Tr × Ov) : Option Ov := if compat anc x.1 then some x.2 else none
theorem evD_region_t (C : Cfg) (f : FuncId) (σ : St) (id : Nat) (ops : Array Oper) : evD C f (.region id ops true) σ = ((ahead 0 [] ops.toList).bind fun anc => (trOps C (den C) (C.hint f id) ops.toList (getS σ) 0 ops.toList).bind (drawD anc)).map fun u => (.nx, fold σ u) := by
  rw [evD_region]
  rfl
theorem drawD_ok {anc : List (List Nat)} {ts : List Tr} {u : Ov} (h : compat anc ts = true) : drawD anc (ts, u) = some u := by
  simp [drawD, h]
attribute [go_sem] evD_skip evD_label evD_exit evD_ret evD_region_f evD_seq evD_cond evD_block
end Go.Pi

/- What comes in: readings as data. -/
namespace Go.Pi
open Go
set_option linter.unusedSimpArgs false
set_option linter.unusedVariables false

inductive Ty where
  | bool
  | int (k : IntKind)
  | str
  | sl (e : Ty)
  | st (fs : List Ty)
  deriving Inhabited
def Ty.isSt : Ty → Bool
  | .st _ => true
  | _ => false
mutual
/-- Cells of a type. -/
def HasTy : Ty → List D → Prop
  | .bool, ds => ∃ b, ds = [.bool b]
  | .int k, ds => ∃ n, ds = [.int k n] ∧ k.min ≤ n ∧ n ≤ k.max
  | .str, ds => ∃ s, ds = [.str s] ∧ s.length ≤ maxLen
  | .sl e, ds => ∃ xs, ds = [.sl false xs] ∧ xs.length ≤ maxLen ∧ ∀ x ∈ xs, HasTy e x.cells ∧ x.isAgg = e.isSt
  | .st fs, ds => HasTys fs ds
def HasTys : List Ty → List D → Prop
  | [], ds => ds = []
  | t :: ts, ds => ∃ d1 d2, ds = d1 ++ d2 ∧ HasTy t d1 ∧ HasTys ts d2
end
mutual
def Ty.width : Ty → Nat
  | .st fs => Ty.widths fs
  | _ => 1
def Ty.widths : List Ty → Nat
  | [] => 0
  | t :: ts => t.width + Ty.widths ts
end
mutual
theorem HasTy.length : ∀ {t : Ty} {ds : List D}, HasTy t ds → ds.length = t.width
  | .bool, ds, h => by simp only [HasTy] at h; obtain ⟨b, rfl⟩ := h; rfl
  | .int k, ds, h => by simp only [HasTy] at h; obtain ⟨b, rfl, _⟩ := h; rfl
  | .str, ds, h => by simp only [HasTy] at h; obtain ⟨b, rfl, _⟩ := h; rfl
  | .sl e, ds, h => by simp only [HasTy] at h; obtain ⟨b, rfl, _⟩ := h; rfl
  | .st fs, ds, h => by simp only [HasTy] at h; simpa only [Ty.width] using HasTys.length h
theorem HasTys.length : ∀ {ts : List Ty} {ds : List D}, HasTys ts ds → ds.length = Ty.widths ts
  | [], ds, h => by simp only [HasTys] at h; subst h; rfl
  | t :: ts, ds, h => by
    simp only [HasTys] at h
    obtain ⟨d1, d2, rfl, h1, h2⟩ := h
    rw [List.length_append, HasTy.length h1, HasTys.length h2]
    rfl
end
mutual
theorem HasTy.flat : ∀ {t : Ty} {ds : List D}, HasTy t ds → ∀ d ∈ ds, d.isAgg = false
  | .bool, ds, h => by simp only [HasTy] at h; obtain ⟨b, rfl⟩ := h; simp [D.isAgg]
  | .int k, ds, h => by simp only [HasTy] at h; obtain ⟨b, rfl, _⟩ := h; simp [D.isAgg]
  | .str, ds, h => by simp only [HasTy] at h; obtain ⟨b, rfl, _⟩ := h; simp [D.isAgg]
  | .sl e, ds, h => by simp only [HasTy] at h; obtain ⟨b, rfl, _⟩ := h; simp [D.isAgg]
  | .st fs, ds, h => by simp only [HasTy] at h; exact HasTys.flat h
theorem HasTys.flat : ∀ {ts : List Ty} {ds : List D}, HasTys ts ds → ∀ d ∈ ds, d.isAgg = false
  | [], ds, h => by simp only [HasTys] at h; subst h; simp
  | t :: ts, ds, h => by
    simp only [HasTys] at h
    obtain ⟨d1, d2, rfl, h1, h2⟩ := h
    intro d hd
    rcases List.mem_append.mp hd with hd | hd
    · exact HasTy.flat h1 d hd
    · exact HasTys.flat h2 d hd
end

/-! ### The types of a program -/
def tyFs (P : Program) (r : TypeId → Option Ty) : Nat → List Field → Option (List Ty)
  | _, [] => some []
  | off, f :: fs => (r f.type).bind fun T => if f.offset = off ∧ P.cellsOf f.type = T.width then (tyFs P r (off + T.width) fs).map fun Ts => T :: Ts else none
def tyOf (P : Program) : Nat → TypeId → Option Ty
  | 0, _ => none
  | n + 1, t =>
    match P.underlying t with
    | some .bool => some .bool
    | some (.int k) => some (.int k)
    | some .string => some .str
    | some (.slice e) => (tyOf P n e).bind fun E => if P.cellsOf e = E.width ∧ E.width ≠ 0 then some (.sl E) else none
    | some (.struct fs) => (tyFs P (tyOf P n) 0 fs.toList).bind fun Ts => if P.cellsOf t = Ty.widths Ts then some (.st Ts) else none
    | _ => none

/-! ### Readings -/
theorem mapM_get {α β : Type} {f : α → Option β} : ∀ {l : List α} {ys : List β}, l.mapM f = some ys → ys.length = l.length ∧ ∀ (i : Nat) (x : α), l[i]? = some x → f x = ys[i]?
  | [], ys, h => by
    simp at h
    subst h
    exact ⟨rfl, by simp⟩
  | a :: l, ys, h => by
    simp only [List.mapM_cons, Option.bind_eq_bind, Option.bind_eq_some_iff, Option.pure_def, Option.some.injEq] at h
    obtain ⟨y, h1, ys', h2, rfl⟩ := h
    obtain ⟨k1, k2⟩ := mapM_get h2
    refine ⟨by simp [k1], ?_⟩
    intro i x hi
    cases i with
    | zero =>
      simp only [List.getElem?_cons_zero, Option.some.injEq] at hi ⊢
      subst hi
      exact h1
    | succ i => simpa using k2 i x (by simpa using hi)
theorem cells_get {w : World} {base : Nat} {a : Addr} {n : Nat} {cs : List Value} (h : w.cells? base a n = some cs) : cs.length = n ∧ ∀ i, i < n → w.cell? (a.add i) = cs[i]? := by
  unfold World.cells? at h
  split at h
  · obtain ⟨k1, k2⟩ := mapM_get h
    refine ⟨by simpa using k1, fun i hi => ?_⟩
    exact k2 i i (by simp [List.getElem?_range hi])
  · simp at h
def inOld (w : World) (b : Nat) : Prop := b < w.heap.size
theorem cell_old {w : World} {a : Addr} {v : Value} (h : w.cell? a = some v) : a.block < w.heap.size ∧ a.spot = none := by
  unfold World.cell? at h
  split at h
  · rename_i c t fr hh
    refine ⟨(Array.getElem?_eq_some_iff.mp hh).1, ?_⟩
    split at h
    · simp at h
    · rename_i hs
      cases ha : a.spot
      · rfl
      · rw [ha] at hs; simp at hs
  · simp at h
/-- An element: its data, its value. -/
def elD (E : Ty) (ds : List D) : D := if E.isSt then .agg ds else ds.headD .ghost
def elV (E : Ty) (cs : List Value) : Value := if E.isSt then .agg cs.toArray else cs.headD undef
theorem el_rep {w : World} {F : Nat → Prop} {E : Ty} {ds : List D} {cs : List Value} (h : RepL w F ds cs []) (ht : HasTy E ds) (hw : E.isSt = false → E.width = 1) :
    Rep w F (elD E ds) (elV E cs) [] ∧ (elD E ds).cells = ds ∧ (elD E ds).isAgg = E.isSt ∧ (elV E cs).cells = cs.toArray := by
  unfold elD elV
  cases hE : E.isSt with
  | true =>
    simp only [if_true]
    exact ⟨Rep.agg h ht.flat, rfl, rfl, rfl⟩
  | false =>
    simp only [Bool.false_eq_true, if_false]
    have hl := ht.length
    rw [hw hE] at hl
    obtain ⟨x, rfl⟩ := List.length_eq_one_iff.mp hl
    obtain ⟨v, rfl, hv⟩ := h.of_one
    have hx := ht.flat x (by simp)
    refine ⟨hv, D.cells_one hx, hx, cells_one (hv.one hx)⟩
theorem rep_map {w : World} {F : Nat → Prop} {f : Nat → D} {g : Nat → Value} : ∀ {l : List Nat}, (∀ i ∈ l, Rep w F (f i) (g i) []) → RepL w F (l.map f) (l.map g) []
  | [], _ => RepL.nil
  | i :: l, h => RepL.cons (B1 := []) (B2 := []) (h i (by simp)) (rep_map fun j hj => h j (by simp [hj]))
theorem width_one {E : Ty} (h : E.isSt = false) : E.width = 1 := by cases E <;> simp_all [Ty.isSt, Ty.width]
theorem trod_ty {H : Type} {enc : TypeId × Value → H} {P : Program} {w : World} {base : Nat} {spare : Nat → Bool} {held : Bool} : ∀ (fuel n : Nat) (t : TypeId) (T : Ty) (cs : List Value) (x : DataW H × List MemPlace), tyOf P n t = some T → DataW.trod enc P w base spare held fuel t cs = some x →
    ∃ ds, RepL w (inOld w) ds cs [] ∧ HasTy T ds
  | 0, n, t, T, cs, x, hT, h => by simp [DataW.trod] at h
  | fuel + 1, 0, t, T, cs, x, hT, h => by simp [tyOf] at hT
  | fuel + 1, n + 1, t, T, cs, x, hT, h => by
    have fields : ∀ (fs : List Field) (off : Nat) (Ts : List Ty) (xs : List (DataW H × List MemPlace)), tyFs P (tyOf P n) off fs = some Ts → (fs.mapM fun f => DataW.trod enc P w base spare held fuel f.type ((cs.drop f.offset).take (P.cellsOf f.type))) = some xs →
        ∃ ds, RepL w (inOld w) ds ((cs.drop off).take (Ty.widths Ts)) [] ∧ HasTys Ts ds := by
      intro fs
      induction fs with
      | nil =>
        intro off Ts xs h1 _
        simp only [tyFs, Option.some.injEq] at h1
        subst h1
        exact ⟨[], by simpa [Ty.widths] using RepL.nil, by simp [HasTys]⟩
      | cons f fs ih =>
        intro off Ts xs h1 h2
        simp only [tyFs, Option.bind_eq_some_iff] at h1
        obtain ⟨T1, h3, h1⟩ := h1
        split at h1
        case isFalse => simp at h1
        rename_i hc
        simp only [Option.map_eq_some_iff] at h1
        obtain ⟨Ts', h4, rfl⟩ := h1
        simp only [List.mapM_cons, Option.bind_eq_bind, Option.bind_eq_some_iff, Option.pure_def, Option.some.injEq] at h2
        obtain ⟨y, h5, ys, h6, _⟩ := h2
        obtain ⟨d1, r1, t1⟩ := trod_ty fuel n f.type T1 _ _ h3 h5
        obtain ⟨d2, r2, t2⟩ := ih _ _ _ h4 h6
        rw [hc.1, hc.2] at r1
        refine ⟨d1 ++ d2, ?_, by simp only [HasTys]; exact ⟨d1, d2, rfl, t1, t2⟩⟩
        have := RepL.append r1 r2
        have e : (cs.drop off).take (Ty.widths (T1 :: Ts')) = (cs.drop off).take T1.width ++ (cs.drop (off + T1.width)).take (Ty.widths Ts') := by
          simp only [Ty.widths]
          rw [List.take_add, List.drop_drop]
        rw [e]
        simpa using this
    simp only [tyOf] at hT
    unfold DataW.trod at h
    cases hu : P.underlying t with
    | none => rw [hu] at hT; simp at hT
    | some ty =>
      rw [hu] at hT h
      cases ty <;> simp only [Option.some.injEq, reduceCtorEq] at hT
      case bool =>
        subst hT
        obtain ⟨b, rfl⟩ : ∃ b, cs = [.bool b] := by
          rcases cs with _ | ⟨c, _ | ⟨c2, cs⟩⟩ <;> (try cases c) <;> simp at h ⊢
        exact ⟨[.bool b], RepL.one (by simp [Rep]), by simp [HasTy]⟩
      case int k =>
        subst hT
        obtain ⟨k', m, rfl⟩ : ∃ k' m, cs = [.int k' m] := by
          rcases cs with _ | ⟨c, _ | ⟨c2, cs⟩⟩ <;> (try cases c) <;> simp at h ⊢
        simp only at h
        split at h
        · rename_i hc
          obtain ⟨rfl, h2⟩ := hc
          simp only [Lit.wf, Bool.and_eq_true, decide_eq_true_eq] at h2
          exact ⟨[.int k' m], RepL.one (by simp [Rep]), by simp only [HasTy]; exact ⟨m, rfl, h2.1, h2.2⟩⟩
        · simp at h
      case string =>
        subst hT
        obtain ⟨str, rfl⟩ : ∃ str, cs = [.string str] := by
          rcases cs with _ | ⟨c, _ | ⟨c2, cs⟩⟩ <;> (try cases c) <;> simp at h ⊢
        simp only at h
        split at h
        · rename_i hc
          have : str.data.toList.length = str.size := by rw [Array.length_toList]; rfl
          exact ⟨[.str str.data.toList], RepL.one (by simp [Rep]), by simp only [HasTy]; exact ⟨_, rfl, by omega⟩⟩
        · simp at h
      case slice e =>
        simp only [Option.bind_eq_some_iff] at hT
        obtain ⟨E, hE, hT⟩ := hT
        split at hT
        case isFalse => simp at hT
        rename_i hc
        injection hT with hT
        subst hT
        obtain ⟨A, len, cap, rfl⟩ : ∃ A len cap, cs = [.slice A len cap] := by
          rcases cs with _ | ⟨c, _ | ⟨c2, cs⟩⟩ <;> (try cases c) <;> simp at h ⊢
        cases A with
        | none =>
          have : len = 0 ∧ cap = 0 := by
            cases len <;> cases cap <;> simp at h ⊢
          obtain ⟨rfl, rfl⟩ := this
          refine ⟨[.sl false []], RepL.one ?_, by simp only [HasTy]; exact ⟨[], rfl, by simp, by simp⟩⟩
          simp only [Rep]
          exact ⟨none, 0, 0, [], rfl, by simp, RepL.nil, trivial, Or.inl trivial⟩
        | some a =>
          simp only at h
          split at h
          case isFalse => simp at h
          rename_i hb
          obtain ⟨hb1, hb2, hb3⟩ := hb
          simp only [Option.bind_eq_some_iff] at h
          obtain ⟨elems, hel, _⟩ := h
          obtain ⟨k1, k2⟩ := mapM_get hel
          have each : ∀ i, i < len → ∃ ds cs', RepL w (inOld w) ds cs' [] ∧ HasTy E ds ∧ cs'.length = E.width ∧ ∀ j, j < E.width → w.cell? ((a.add (i * E.width)).add j) = cs'[j]? := by
            intro i hi
            have h1 := k2 i i (by simp [List.getElem?_range hi])
            have hlt : i < elems.length := by rw [k1]; simpa using hi
            rw [List.getElem?_eq_getElem hlt] at h1
            simp only [Option.bind_eq_some_iff] at h1
            obtain ⟨cs', h2, h3⟩ := h1
            obtain ⟨ds, r1, r2⟩ := trod_ty fuel n e E cs' _ hE h3
            rw [hc.1] at h2
            obtain ⟨q1, q2⟩ := cells_get h2
            exact ⟨ds, cs', r1, r2, q1, q2⟩
          have each' : ∀ i, ∃ p : List D × List Value, i < len → RepL w (inOld w) p.1 p.2 [] ∧ HasTy E p.1 ∧ p.2.length = E.width ∧ ∀ j, j < E.width → w.cell? ((a.add (i * E.width)).add j) = p.2[j]? := by
            intro i
            by_cases hi : i < len
            · obtain ⟨ds, cs', q⟩ := each i hi
              exact ⟨(ds, cs'), fun _ => q⟩
            · exact ⟨([], []), fun h => absurd h hi⟩
          obtain ⟨G, hG⟩ := Classical.axiomOfChoice each'
          have hrep : ∀ i, i < len → Rep w (inOld w) (elD E (G i).1) (elV E (G i).2) [] ∧ (elD E (G i).1).cells = (G i).1 ∧ (elD E (G i).1).isAgg = E.isSt ∧ (elV E (G i).2).cells = (G i).2.toArray := fun i hi => by
            obtain ⟨q1, q2, _⟩ := hG i hi
            exact el_rep q1 q2 width_one
          have hRL : RepL w (inOld w) ((List.range len).map fun i => elD E (G i).1) ((List.range len).map fun i => elV E (G i).2) [] := rep_map fun i hi => (hrep i (List.mem_range.mp hi)).1
          have hty : HasTy (.sl E) [.sl false ((List.range len).map fun i => elD E (G i).1)] := by
            simp only [HasTy]
            refine ⟨_, rfl, by simp; omega, ?_⟩
            intro y hy
            obtain ⟨i, hi, rfl⟩ := List.mem_map.mp hy
            have hi := List.mem_range.mp hi
            obtain ⟨_, r2, r3, _⟩ := hrep i hi
            rw [r2]
            exact ⟨(hG i hi).2.1, r3⟩
          refine ⟨[.sl false ((List.range len).map fun i => elD E (G i).1)], RepL.one ?_, hty⟩
          · simp only [Rep]
            refine ⟨some a, cap, E.width, _, by simp, by simpa using hb2, hRL, trivial, ?_⟩
            by_cases h0 : len = 0
            · left; subst h0; rfl
            · right
              obtain ⟨q1, q2, q3, q4⟩ := hG 0 (by omega)
              have q5 := q4 0 (by omega)
              rw [List.getElem?_eq_getElem (by omega)] at q5
              have e0 : (a.add (0 * E.width)).add 0 = a := by simp [Addr.add]
              rw [e0] at q5
              obtain ⟨o1, o2⟩ := cell_old q5
              have ea : a = ⟨a.block, a.off, none⟩ := by cases a; simp_all
              refine ⟨a.block, a.off, by rw [← ea], o1, ?_⟩
              intro j rv hj
              simp only [List.getElem?_map, Option.map_eq_some_iff] at hj
              obtain ⟨i, hi, rfl⟩ := hj
              obtain ⟨hi1, hi2⟩ := List.getElem?_eq_some_iff.mp hi
              simp only [List.length_range] at hi1
              simp only [List.getElem_range] at hi2
              subst hi2
              obtain ⟨p1, p2, p3, p4⟩ := hG j hi1
              rw [(hrep j hi1).2.2.2]
              refine ⟨by simpa using p3, fun i hi => ?_⟩
              have := p4 i hi
              rw [ea, add_mk, add_mk] at this
              simpa using this
      case struct fs =>
        simp only [Option.bind_eq_some_iff] at hT
        obtain ⟨Ts, hTs, hT⟩ := hT
        split at hT
        case isFalse => simp at hT
        rename_i hc
        injection hT with hT
        subst hT
        have hs : ∃ xs, cs.length = P.cellsOf t ∧ (fs.toList.mapM fun f => DataW.trod enc P w base spare held fuel f.type ((cs.drop f.offset).take (P.cellsOf f.type))) = some xs := by
          have h' : (if cs.length = P.cellsOf t then (fs.toList.mapM fun f => DataW.trod enc P w base spare held fuel f.type ((cs.drop f.offset).take (P.cellsOf f.type))).map fun xs => (DataW.agg (xs.map (·.1)), xs.flatMap (·.2)) else none) = some x := by
            rcases cs with _ | ⟨c, _ | ⟨c2, cs⟩⟩
            · simpa using h
            · cases c <;> simpa using h
            · simpa using h
          split at h'
          · rename_i hl
            simp only [Option.map_eq_some_iff] at h'
            obtain ⟨xs, h1, _⟩ := h'
            exact ⟨xs, hl, h1⟩
          · simp at h'
        obtain ⟨xs, h1, h2⟩ := hs
        obtain ⟨ds, r1, r2⟩ := fields fs.toList 0 Ts xs hTs h2
        rw [List.drop_zero, List.take_of_length_le (by omega)] at r1
        exact ⟨ds, r1, by simp only [HasTy]; exact r2⟩
end Go.Pi

/- A law's call. -/
namespace Go.Pi
open Go Go.ChangeShapes
set_option linter.unusedSimpArgs false
set_option linter.unusedVariables false

def IsTy (T : Ty) (x : D) : Prop := HasTy T x.cells ∧ x.isAgg = T.isSt
def AreTys : List Ty → List D → Prop
  | [], xs => xs = []
  | T :: Ts, xs => ∃ x xs', xs = x :: xs' ∧ IsTy T x ∧ AreTys Ts xs'
theorem cell_ok_one {P : Program} {w : World} {r : Reach} {base : Nat} {t : TypeId} {v : Value} {n : Nat} {T : Ty} (hT : tyOf P n t = some T) (hs : T.isSt = false) (h : Value.okWide P w r base t v) : oneC v = true := by
  cases n with
  | zero => simp [tyOf] at hT
  | succ n =>
    simp only [tyOf] at hT
    unfold Value.okWide at h
    cases hu : P.underlying t with
    | none => rw [hu] at hT; simp at hT
    | some ty =>
      rw [hu] at hT h
      cases ty <;> simp only [Option.some.injEq, reduceCtorEq] at hT
      case struct fs =>
        simp only [Option.bind_eq_some_iff] at hT
        obtain ⟨Ts, _, hT⟩ := hT
        split at hT
        · injection hT with hT
          subst hT
          simp [Ty.isSt] at hs
        · simp at hT
      all_goals
        simp only [Cell.okWide, hu, Cell.ok] at h
        cases v <;> simp_all [oneC]
theorem st_agg {P : Program} {w : World} {r : Reach} {base : Nat} {t : TypeId} {v : Value} {n : Nat} {T : Ty} (hT : tyOf P n t = some T) (hs : T.isSt = true) (h : Value.okWide P w r base t v) : ∃ cs, v = .agg cs := by
  cases n with
  | zero => simp [tyOf] at hT
  | succ n =>
    simp only [tyOf] at hT
    unfold Value.okWide at h
    cases hu : P.underlying t with
    | none => rw [hu] at hT; simp at hT
    | some ty =>
      rw [hu] at hT h
      cases ty <;> simp only [Option.some.injEq, reduceCtorEq] at hT
      case struct fs => exact ⟨_, h.choose_spec.1⟩
      case slice e =>
        simp only [Option.bind_eq_some_iff] at hT
        obtain ⟨E, _, hT⟩ := hT
        split at hT
        · injection hT with hT
          subst hT
          simp [Ty.isSt] at hs
        · simp at hT
      all_goals (subst hT; simp [Ty.isSt] at hs)
theorem args_rep {H : Type} {enc : TypeId × Value → H} {P : Program} {w : World} {r : Reach} {base0 base : Nat} {spare : Nat → Bool} {held : Bool} {n : Nat} : ∀ {ts : List TypeId} {vs : List Value} {ds : List (DataW H)} {ps : List MemPlace} {Ts : List Ty},
    DataW.TrodAll enc P w base spare held ts vs ds ps → ts.mapM (tyOf P n) = some Ts → (∀ (j : Nat) t v, ts[j]? = some t → vs[j]? = some v → Value.okWide P w r base0 t v) →
    ∃ xs, RepL w (inOld w) xs vs [] ∧ AreTys Ts xs
  | [], vs, ds, ps, Ts, h, hT, _ => by
    obtain ⟨rfl, _, _⟩ := trodAll_nil h
    simp at hT
    subst hT
    exact ⟨[], RepL.nil, by simp [AreTys]⟩
  | t :: ts, vs, ds, ps, Ts, h, hT, hv => by
    obtain ⟨v, vs', d, ds', p, q, rfl, rfl, rfl, h1, h2⟩ := trodAll_cons h
    simp only [List.mapM_cons, Option.bind_eq_bind, Option.bind_eq_some_iff, Option.pure_def, Option.some.injEq] at hT
    obtain ⟨T, hT1, Ts', hT2, rfl⟩ := hT
    obtain ⟨xs, k1, k2⟩ := args_rep h2 hT2 (fun j t' v' hj hv' => hv (j + 1) t' v' (by simpa using hj) (by simpa using hv'))
    obtain ⟨fuel, hf⟩ := h1
    obtain ⟨cs, r1, r2⟩ := trod_ty fuel n t T _ _ hT1 hf
    have hok := hv 0 t v rfl rfl
    have hr := el_rep r1 r2 width_one
    have hval : elV T v.cells.toList = v := by
      unfold elV
      cases hs : T.isSt with
      | true =>
        obtain ⟨c, rfl⟩ := st_agg hT1 hs hok
        simp [Value.cells]
      | false =>
        rw [cells_one (cell_ok_one hT1 hs hok)]
        simp
    rw [hval] at hr
    refine ⟨elD T cs :: xs, RepL.cons (B1 := []) (B2 := []) hr.1 k1, ?_⟩
    simp only [AreTys]
    exact ⟨_, _, rfl, ⟨by rw [hr.2.1]; exact r2, hr.2.2.1⟩, k2⟩
/-- The law's call returns true, and what was there is as it was. -/
theorem law_calls {C : Cfg} (hcl : CallOK C.P (den C)) {f : FuncId} {fl : Bool} (hf : fInfo C.P f = some fl) {w : World} {xs : List D} {vs : List Value} (hr : RepL w (inOld w) xs vs [])
    (h : ∃ ys, den C f (xs.map .v) = some (.v (.bool true), ys)) : Calls C.P f vs.toArray w fun e w' => e = .returned (.bool true) ∧ Go.RowKit.Below w.heap.size w w' := by
  obtain ⟨ys, h⟩ := h
  refine Calls.mono (hcl _ _ _ _ _ h hf w (inOld w) [] vs (srepL_v hr) List.nodup_nil (by simp) (fun b hb => hb)) ?_
  rintro e w' ⟨v, F', R, O', rfl, k1, k2, k3, k4, k5, k6, k7⟩
  simp only [SRep] at k1
  rw [rep_bool k1.1]
  exact ⟨rfl, k7.os, k7.tape, k7.output, k7.size, fun b hb => k7.keep b hb (by simp)⟩
end Go.Pi
