/- Part 4 of an interpreter over value trees, shown sound for the model. -/
import Derived.Test.YtgclannlnahaeaaP3
set_option linter.unusedVariables false
set_option linter.unusedSimpArgs false
set_option linter.unusedSectionVars false
/- Calls: what is asked of a callee, and what a call does to its caller's slots. -/
namespace Go.Pi
open Go
set_option linter.unusedSimpArgs false
set_option linter.unusedVariables false

def isLink : V → Bool
  | .own _ _ => true
  | .box _ _ => true
  | _ => false
/-- What a callee leaves in what it was lent. -/
def Back (w : World) (F : Nat → Prop) : List V → List Value → List D → List Nat → Prop
  | [], vals, ys, O => vals = [] ∧ ys = [] ∧ O = []
  | arg :: as, vals, ys, O => ∃ val vals', vals = val :: vals' ∧
      ((isLink arg = false ∧ Back w F as vals' ys O) ∨ (isLink arg = true ∧ ∃ y ys' M O', ys = y :: ys' ∧ O = M ++ O' ∧ SRep w F (withD arg y) val M ∧ Back w F as vals' ys' O'))
def okRes : V → Bool
  | .v _ => true
  | .own p _ => p == 0
  | .box p _ => p == 0
  | .tup _ => true
  | _ => false
/-- What is asked of a function at some arguments, when the interpreter tells its result. -/
def FnOK (P : Program) (f : FuncId) (as : List V) (res : V) (ys : List D) : Prop :=
  ∀ (w : World) (F : Nat → Prop) (O : List Nat) (vals : List Value), SRepL w F as vals O → O.Nodup → (∀ b ∈ O, ¬ F b ∧ b < w.heap.size) → (∀ b, F b → b < w.heap.size) →
    Calls P f vals.toArray w fun e w' => ∃ v F' R O', e = .returned v ∧ SRep w' F' res v R ∧ Back w' F' as vals ys O' ∧ (R ++ O').Nodup ∧ (∀ b ∈ R ++ O', ¬ F' b ∧ b < w'.heap.size) ∧
      (∀ b, F' b → b < w'.heap.size) ∧ okRes res = true ∧ Ext F (fun b => b ∈ O) w F' (fun b => b ∈ R ++ O') w'
def CallOK (P : Program) (cl : Cl) : Prop := ∀ f as res ys fl, cl f as = some (res, ys) → fInfo P f = some fl → FnOK P f as res ys

/-! ### Lists of slots -/
theorem SRepL.nil {w : World} {F : Nat → Prop} : SRepL w F [] [] [] := by simp [SRepL]
theorem SRepL.cons {w : World} {F : Nat → Prop} {x : V} {xs : List V} {v : Value} {vs : List Value} {B1 B2 : List Nat} (h : SRep w F x v B1) (k : SRepL w F xs vs B2) : SRepL w F (x :: xs) (v :: vs) (B1 ++ B2) := by
  simp only [SRepL]
  exact ⟨v, vs, B1, B2, rfl, rfl, h, k⟩
theorem SRepL.append {w : World} {F : Nat → Prop} : ∀ {xs ys : List V} {vs us : List Value} {B C : List Nat}, SRepL w F xs vs B → SRepL w F ys us C → SRepL w F (xs ++ ys) (vs ++ us) (B ++ C)
  | [], ys, vs, us, B, C, h, k => by
    simp only [SRepL] at h
    obtain ⟨rfl, rfl⟩ := h
    simpa using k
  | x :: xs, ys, vs, us, B, C, h, k => by
    simp only [SRepL] at h
    obtain ⟨v, vs', B1, B2, h1, h2, h3, h4⟩ := h
    subst h1 h2
    simp only [List.cons_append, List.append_assoc]
    exact SRepL.cons h3 (SRepL.append h4 k)
theorem srepL_v {w : World} {F : Nat → Prop} : ∀ {xs : List D} {vs : List Value}, RepL w F xs vs [] → SRepL w F (xs.map .v) vs []
  | [], vs, h => by
    simp only [RepL] at h
    rw [h.1]
    exact SRepL.nil
  | x :: xs, vs, h => by
    simp only [RepL] at h
    obtain ⟨v, vs', B1, B2, h1, h2, h3, h4⟩ := h
    have := List.append_eq_nil_iff.mp h2.symm
    obtain ⟨rfl, rfl⟩ := this
    subst h1
    exact SRepL.cons (B1 := []) (B2 := []) (by simp only [SRep]; exact ⟨h3, trivial⟩) (srepL_v h4)
theorem srepL_rp {w : World} {F : Nat → Prop} : ∀ {xs : List D} {rvs ps : List Value}, RepL w F xs rvs [] → Ptrs w F ps rvs → SRepL w F (xs.map .rp) ps []
  | [], rvs, ps, h, hp => by
    simp only [RepL] at h
    have := hp.1
    rw [h.1] at this
    rw [nil_of_len this]
    exact SRepL.nil
  | x :: xs, rvs, ps, h, hp => by
    simp only [RepL] at h
    obtain ⟨v, vs', B1, B2, h1, h2, h3, h4⟩ := h
    have := List.append_eq_nil_iff.mp h2.symm
    obtain ⟨rfl, rfl⟩ := this
    subst h1
    cases ps with
    | nil => have := hp.1; simp at this
    | cons p ps =>
      obtain ⟨b, o, e1, e2, e3⟩ := hp.2 0 p v rfl rfl
      refine SRepL.cons (B1 := []) (B2 := []) (by simp only [SRep]; exact ⟨⟨b, o, v, e1, e2, e3, h3⟩, trivial⟩) (srepL_rp h4 ⟨by have := hp.1; simpa using this, fun i q rv hq hr => hp.2 (i + 1) q rv (by simpa using hq) (by simpa using hr)⟩)
theorem SRepL.length {w : World} {F : Nat → Prop} : ∀ {xs : List V} {vs : List Value} {B : List Nat}, SRepL w F xs vs B → vs.length = xs.length
  | [], vs, B, h => by simp only [SRepL] at h; simp [h.1]
  | x :: xs, vs, B, h => by
    simp only [SRepL] at h
    obtain ⟨v, vs', B1, B2, h1, h2, h3, h4⟩ := h
    subst h1
    simp [SRepL.length h4]
theorem SRepL.mono {w : World} {F F' : Nat → Prop} (hF : ∀ b, F b → F' b) (xs : List V) (vs : List Value) (B : List Nat) (h : SRepL w F xs vs B) : SRepL w F' xs vs B :=
  SRepL.frame hF (fun _ _ => rfl) xs vs B (fun _ _ => rfl) h
theorem SRep.mono {w : World} {F F' : Nat → Prop} (hF : ∀ b, F b → F' b) (x : V) (v : Value) (B : List Nat) (h : SRep w F x v B) : SRep w F' x v B :=
  SRep.frame hF (fun _ _ => rfl) x v B (fun _ _ => rfl) h
/-- Leading arguments that are not lent are passed over. -/
theorem Back.skip {w : World} {F : Nat → Prop} : ∀ {ps as : List V} {pv vals : List Value} {ys : List D} {O : List Nat}, (∀ p ∈ ps, isLink p = false) → pv.length = ps.length → Back w F (ps ++ as) (pv ++ vals) ys O → Back w F as vals ys O
  | [], as, pv, vals, ys, O, _, hl, h => by
    have : pv = [] := nil_of_len (by simpa using hl)
    subst this
    simpa using h
  | p :: ps, as, pv, vals, ys, O, hp, hl, h => by
    cases pv with
    | nil => simp at hl
    | cons v pv =>
      simp only [List.cons_append, Back] at h
      obtain ⟨val, vals', e1, h⟩ := h
      injection e1 with e1 e2
      subst e1 e2
      rcases h with ⟨_, h⟩ | ⟨h, _⟩
      · exact Back.skip (fun q hq => hp q (by simp [hq])) (by simpa using hl) h
      · rw [hp p (by simp)] at h; simp at h
theorem Back.none {w : World} {F : Nat → Prop} : ∀ {as : List V} {vals : List Value} {ys : List D} {O : List Nat}, (∀ p ∈ as, isLink p = false) → Back w F as vals ys O → ys = [] ∧ O = []
  | [], vals, ys, O, _, h => by
    simp only [Back] at h
    exact h.2
  | a :: as, vals, ys, O, hp, h => by
    simp only [Back] at h
    obtain ⟨val, vals', e1, h⟩ := h
    rcases h with ⟨_, h⟩ | ⟨h, _⟩
    · exact Back.none (fun q hq => hp q (by simp [hq])) h
    · rw [hp a (by simp)] at h; simp at h
theorem Back.cut {w : World} {F : Nat → Prop} : ∀ {as ps : List V} {vals pv : List Value} {ys : List D} {O : List Nat}, (∀ p ∈ ps, isLink p = false) → vals.length = as.length → Back w F (as ++ ps) (vals ++ pv) ys O → Back w F as vals ys O
  | [], ps, vals, pv, ys, O, hp, hl, h => by
    have : vals = [] := nil_of_len (by simpa using hl)
    subst this
    simp only [Back]
    exact ⟨trivial, Back.none hp h⟩
  | a :: as, ps, vals, pv, ys, O, hp, hl, h => by
    cases vals with
    | nil => simp at hl
    | cons v vals =>
      simp only [List.cons_append, Back] at h ⊢
      obtain ⟨val, vals', e1, h⟩ := h
      injection e1 with e1 e2
      subst e1 e2
      refine ⟨v, vals, rfl, ?_⟩
      rcases h with ⟨h1, h⟩ | ⟨h1, y, ys', M, O', h2, h3, h4, h5⟩
      · exact Or.inl ⟨h1, Back.cut hp (by simpa using hl) h⟩
      · exact Or.inr ⟨h1, y, ys', M, O', h2, h3, h4, Back.cut hp (by simpa using hl) h5⟩

/-! ### Freezing arguments -/
theorem Sim.frzV {F : Nat → Prop} {B : Nat → List Nat} {H : List Nat} {g : Nat → Sl} {a : Act} {w : World} (s : Sim F B H g a w) {o : Operand} {u : Ov} (h : frzV g o = some u) :
    ∃ F' B', Sim F' B' H (ovl u g) a w ∧ Ext F (Own B H) w F' (Own B' H) w := by
  unfold Go.Pi.frzV at h
  split at h
  · rename_i t
    unfold frzS at h
    split at h
    · rename_i iv cv p x hs
      injection h with h
      subst h
      have hv : (g t).v = .own p x := by rw [hs]
      obtain ⟨q1, q2⟩ := s.frozen hv
      rw [hs] at q1
      exact ⟨_, _, q1, q2⟩
    · rename_i iv0 cv0 r iv cv hop off n ag hs
      have hv : (g t).v = .ref r iv cv hop off n ag := by rw [hs]
      simp only [Option.bind_eq_some_iff, Option.map_eq_some_iff] at h
      obtain ⟨y, hy, sl, hsl, rfl⟩ := h
      have hl := s.loc t
      unfold Loc at hl
      rw [hv] at hl
      have hc : (g r).iv = iv ∧ (g r).cv = cv := by
        unfold refD at hy
        split at hy
        · assumption
        · simp at hy
      obtain ⟨us, l1, l2, l3⟩ := hl.2.2 hc.1 hc.2
      obtain ⟨F', B', M, s1, _, e1⟩ := s.takeR (mv := false) (z := y.frz) (u := [sl]) hy l1 l2 (by simp [Go.Pi.takeR, hsl])
      exact ⟨F', B', s1.drop, e1.drop⟩
    · injection h with h
      subst h
      exact ⟨F, B, s, Ext.refl _ _ _⟩
  · injection h with h
    subst h
    exact ⟨F, B, s, Ext.refl _ _ _⟩
theorem Sim.frzArgs {a : Act} {w : World} {H : List Nat} {io : Nat → Bool} : ∀ {os : List Operand} {i : Nat} {F : Nat → Prop} {B : Nat → List Nat} {g : Nat → Sl} {u : Ov} (s : Sim F B H g a w) (h : frzArgs io g i os = some u),
    ∃ F' B', Sim F' B' H (ovl u g) a w ∧ Ext F (Own B H) w F' (Own B' H) w
  | [], i, F, B, g, u, s, h => by
    simp only [Go.Pi.frzArgs, Option.some.injEq] at h
    subst h
    exact ⟨F, B, s, Ext.refl _ _ _⟩
  | o :: os, i, F, B, g, u, s, h => by
    simp only [Go.Pi.frzArgs, Option.bind_eq_some_iff, Option.map_eq_some_iff] at h
    obtain ⟨u1, h1, u2, h2, rfl⟩ := h
    have step : ∃ F' B', Sim F' B' H (ovl u1 g) a w ∧ Ext F (Own B H) w F' (Own B' H) w := by
      split at h1
      · injection h1 with h1
        subst h1
        exact ⟨F, B, s, Ext.refl _ _ _⟩
      · exact s.frzV h1
    obtain ⟨F1, B1, s1, e1⟩ := step
    obtain ⟨F2, B2, s2, e2⟩ := s1.frzArgs h2
    exact ⟨F2, B2, by rw [ovl_app]; exact s2, e1.trans e2⟩
end Go.Pi

/- What is lent to a callee. -/
namespace Go.Pi
open Go
set_option linter.unusedSimpArgs false
set_option linter.unusedVariables false

/-- Part of a root is lent: an argument, what comes back, the root's slot then. -/
def Lent (w : World) (F : Nat → Prop) (B : Nat → List Nat) (g : Nat → Sl) (a : Act) (Z : Nat → Prop) (arg : V) (val : Value) (y : D) (s : Nat × Sl) (M : List Nat) : Prop :=
  ∃ L R x x', B s.1 = L ++ M ++ R ∧ SRep w F arg val M ∧ rootD (g s.1).v = some x ∧ s.2 = ⟨(g s.1).iv, (g s.1).cv + 1, withD (g s.1).v x'⟩ ∧
    (∀ p z, (g s.1).v = .box p z → 2 ≤ p → ∀ b0, a.tmps.getD s.1 undef = .pointer (some ⟨b0, 0, none⟩) → b0 ∈ L) ∧ (∀ c ∈ L ++ R, ¬ Z c) ∧
    ∀ (w' : World) (F' : Nat → Prop) (M' : List Nat), (∀ c, F c → F' c) → Agree w w' F → (∀ c ∈ L ++ R, w'.heap[c]? = w.heap[c]?) → SRep w' F' (withD arg y) val M' → SRep w' F' s.2.v (a.tmps.getD s.1 undef) (L ++ M' ++ R)
def ArgsOk (w : World) (F : Nat → Prop) (B : Nat → List Nat) (g : Nat → Sl) (a : Act) (Z : Nat → Prop) : List V → List Value → List D → List (Nat × Sl) → List Nat → Prop
  | [], vals, ys, ss, O => vals = [] ∧ ys = [] ∧ ss = [] ∧ O = []
  | arg :: as, vals, ys, ss, O => ∃ val vals', vals = val :: vals' ∧
      ((isLink arg = false ∧ SRep w F arg val [] ∧ ArgsOk w F B g a Z as vals' ys ss O) ∨
       (isLink arg = true ∧ ∃ y ys' s ss' M O', ys = y :: ys' ∧ ss = s :: ss' ∧ O = M ++ O' ∧ Lent w F B g a Z arg val y s M ∧ ArgsOk w F B g a Z as vals' ys' ss' O'))
def BackL (g : Nat → Sl) : List Link → List D → List (Nat × Sl) → Prop
  | [], ys, ss => ys = [] ∧ ss = []
  | l :: ls, ys, ss => ∃ y ys' s ss', ys = y :: ys' ∧ ss = s :: ss' ∧ y.width = l.like.width ∧ y.isAgg = l.like.isAgg ∧ flat1 y = true ∧ putAt g l.r l.hop l.off y 1 = some s ∧ BackL g ls ys' ss'
theorem putAt_ne {g : Nat → Sl} {r : Nat} {s : Nat × Sl} {hop : Hop} {off : Nat} {y : D} {k : Nat} (h : r ≠ s.1) : putAt (ovl [s] g) r hop off y k = putAt g r hop off y k := by
  unfold putAt
  obtain ⟨j, sl⟩ := s
  rw [ovl1_ne _ _ _ h]
theorem putAt_root {g : Nat → Sl} {r : Nat} {hop : Hop} {off : Nat} {y : D} {k : Nat} {s : Nat × Sl} (h : putAt g r hop off y k = some s) : s.1 = r := by
  unfold putAt at h
  simp only [Option.bind_eq_some_iff, Option.map_eq_some_iff] at h
  obtain ⟨x, _, cs, _, rfl⟩ := h
  rfl
theorem BackL.ovl {g : Nat → Sl} {s : Nat × Sl} : ∀ {ls : List Link} {ys : List D} {ss : List (Nat × Sl)}, (∀ l ∈ ls, l.r ≠ s.1) → BackL (ovl [s] g) ls ys ss → BackL g ls ys ss
  | [], ys, ss, _, h => by simpa only [BackL] using h
  | l :: ls, ys, ss, hn, h => by
    simp only [BackL] at h ⊢
    obtain ⟨y, ys', s', ss', h1, h2, h3, h4, h4', h5, h6⟩ := h
    rw [putAt_ne (hn l (by simp))] at h5
    exact ⟨y, ys', s', ss', h1, h2, h3, h4, h4', h5, BackL.ovl (fun l' hl' => hn l' (by simp [hl'])) h6⟩
theorem nub_cons {x : Nat} {xs : List Nat} (h : nub (x :: xs) = true) : x ∉ xs ∧ nub xs = true := by
  simp only [nub, Bool.and_eq_true, Bool.not_eq_true', List.contains_eq_mem, decide_eq_false_iff_not] at h
  exact h
theorem nub_nodup : ∀ {xs : List Nat}, nub xs = true → xs.Nodup
  | [], _ => List.nodup_nil
  | x :: xs, h => List.nodup_cons.mpr ⟨(nub_cons h).1, nub_nodup (nub_cons h).2⟩
theorem backV_spec : ∀ {ls : List Link} {g : Nat → Sl} {ys : List D} {u : Ov}, backV g ls ys = some u → nub (ls.map (·.r)) = true → ∃ ss, BackL g ls ys ss ∧ u = ss.reverse ∧ ss.map (·.1) = ls.map (·.r)
  | [], g, ys, u, h, _ => by
    cases ys with
    | nil =>
      simp only [backV, Option.some.injEq] at h
      subst h
      exact ⟨[], by simp [BackL], rfl, rfl⟩
    | cons y ys => simp [backV] at h
  | l :: ls, g, ys, u, h, hn => by
    cases ys with
    | nil => simp [backV] at h
    | cons y ys =>
      simp only [backV] at h
      split at h
      case isFalse => simp at h
      rename_i hw
      simp only [Option.bind_eq_some_iff, Option.map_eq_some_iff] at h
      obtain ⟨s, hs, u', hu', rfl⟩ := h
      obtain ⟨n1, n2⟩ := nub_cons hn
      have n1 : l.r ∉ ls.map (·.r) := n1
      have hr := putAt_root hs
      obtain ⟨ss, k1, k2, k3⟩ := backV_spec hu' n2
      refine ⟨s :: ss, ?_, by simp [k2], by simp [k3, hr]⟩
      simp only [BackL]
      refine ⟨y, ys, s, ss, rfl, rfl, hw.1, hw.2.1, hw.2.2, hs, k1.ovl ?_⟩
      intro l' hl' e
      apply n1
      rw [← hr, ← e]
      exact List.mem_map_of_mem hl'
theorem D.mk_self {x y : D} (h : y.isAgg = x.isAgg) : x.mk y.cells = y := by
  cases hx : x.isAgg with
  | false =>
    rw [hx] at h
    rw [D.cells_one h]
    cases x <;> simp_all [D.isAgg, D.mk]
  | true =>
    rw [hx] at h
    cases x <;> simp [D.isAgg] at hx
    cases y <;> simp [D.isAgg] at h
    rfl
theorem spl_whole {xs ys : List D} (h : ys.length = xs.length) : spl xs 0 ys = ys := by
  rw [spl_eq ys xs 0 (by omega)]
  simp
  omega
/-- A whole root, lent. -/
theorem putAt_whole {g : Nat → Sl} {r : Nat} {x y : D} {s : Nat × Sl} (hx : rootD (g r).v = some x) (hw : y.width = x.width) (ha : y.isAgg = x.isAgg) (h : putAt g r none 0 y 1 = some s) :
    s = (r, ⟨(g r).iv, (g r).cv + 1, withD (g r).v y⟩) := by
  unfold putAt at h
  simp only [hx, Option.bind_some, setAt] at h
  rw [if_pos (by simp only [D.width] at hw; omega)] at h
  simp only [Option.map_some, Option.some.injEq] at h
  rw [spl_whole (by simpa only [D.width] using hw), D.mk_self ha] at h
  exact h.symm
theorem Sim.lentWhole {F Fc : Nat → Prop} {B : Nat → List Nat} {H : List Nat} {g : Nat → Sl} {a : Act} {w : World} (s : Sim F B H g a w) (hF : ∀ b, F b → Fc b) {r p : Nat} {x y : D} {sl : Nat × Sl} {arg : V}
    (hv : ((g r).v = .own p x ∧ arg = .own 1 x) ∨ ((g r).v = .box p x ∧ p < 2 ∧ arg = .box 1 x)) (hw : y.width = x.width) (ha : y.isAgg = x.isAgg) (h : putAt g r none 0 y 1 = some sl) :
    Lent w Fc B g a (fun _ => False) arg (a.tmps.getD r undef) y sl (B r) := by
  have hx : rootD (g r).v = some x := by rcases hv with ⟨e, _⟩ | ⟨e, _⟩ <;> rw [e] <;> rfl
  have hs := putAt_whole hx hw ha h
  subst hs
  have hr := SRep.mono hF _ _ _ (s.rep r)
  refine ⟨[], [], x, y, by simp, ?_, hx, rfl, ?_, by simp, ?_⟩
  · rcases hv with ⟨e, rfl⟩ | ⟨e, _, rfl⟩ <;> rw [e] at hr <;> simpa only [SRep] using hr
  · intro q z hq hq2
    rcases hv with ⟨e, _⟩ | ⟨e, hp, _⟩
    · simp only [e] at hq; exact absurd hq (by simp)
    · simp only [e] at hq
      injection hq with hq _
      omega
  · intro w' F' M' _ _ _ h'
    rcases hv with ⟨e, rfl⟩ | ⟨e, _, rfl⟩ <;> simp only [withD, SRep, List.nil_append, List.append_nil, e] at h' ⊢ <;> exact h'
theorem flat1_all {y : D} (h : flat1 y = true) : ∀ c ∈ y.cells, c.isAgg = false := by
  intro c hc
  have := List.all_eq_true.mp h c hc
  simpa using this
theorem Sim.lentPart {F Fc : Nat → Prop} {B : Nat → List Nat} {H : List Nat} {g : Nat → Sl} {a : Act} {w : World} (s : Sim F B H g a w) (hF : ∀ b, F b → Fc b) {r iv cv off n : Nat} {hop : Hop} {ag : Bool} {x0 y : D} {sl : Nat × Sl} {us : List Value}
    (hy0 : refD g r iv cv hop off n ag = some x0) (hl : us.length = n) (hp : PVals w (g r).v (a.tmps.getD r undef) hop off us) (hw : y.width = x0.width) (ha : y.isAgg = x0.isAgg) (hy : ∀ c ∈ y.cells, c.isAgg = false) (h : putAt g r hop off y 1 = some sl) :
    ∃ M, Lent w Fc B g a (fun _ => False) (.own 1 x0) (ofCells ag us) y sl M := by
  unfold refD at hy0
  split at hy0
  case isFalse => simp at hy0
  rename_i hc
  simp only [Option.bind_eq_some_iff] at hy0
  obtain ⟨x, hx, row, hrow, hsub⟩ := hy0
  unfold putAt at h
  simp only [hx, Option.bind_some, Option.map_eq_some_iff] at h
  obtain ⟨cs', hset, rfl⟩ := h
  obtain ⟨us', L, M, R, row', k1, k2, k3, k4, k5, k6, k7, k8, k8b, k9⟩ := (SRep.mono hF _ _ _ (s.rep r)).same hx (s.nd r) hset hy
  rw [hrow] at k4
  injection k4 with k4
  subst k4
  have hyn : y.cells.length = x0.width := hw
  have hxn : x0.width = n := by
    unfold subD at hsub
    split at hsub
    · rename_i hle
      split at hsub
      · injection hsub with hsub
        subst hsub
        simp [D.width, D.cells]
        omega
      · split at hsub
        · rename_i h1
          have hm : x0 ∈ row := List.mem_of_getElem? hsub
          rw [D.width, D.cells_one (k5 x0 hm), h1]
          rfl
        · simp at hsub
    · simp at hsub
  have hlen : us'.length = us.length := by rw [k1, hyn, hxn, hl]
  have := k2.unique hp hlen
  subst this
  rw [hyn, hxn] at k7
  obtain ⟨q1, q2, q3, q4, q5⟩ := rep_ofCells hsub k5 k7
  refine ⟨M, L, R, x, x.mk cs', k3, by simpa only [SRep] using q1, hx, rfl, ?_, by simp, ?_⟩
  · intro p z hz _ b0 hb0
    have hz' : (g r).v = .box p z := hz
    have hzx : z = x := by rw [hz'] at hx; simpa [rootD] using hx
    obtain ⟨b1, e1, e2⟩ := k8b p (by rw [hz', hzx])
    have hb0' : a.tmps.getD r undef = .pointer (some ⟨b0, 0, none⟩) := hb0
    rw [e1] at hb0'
    injection hb0' with e
    injection e with e
    injection e with e
    rw [← e]
    exact e2
  · intro w' F' M' hF' eF ee hr
    simp only [withD, SRep] at hr
    refine k9 w' F' M' hF' eF ee ?_
    obtain ⟨c1, c2, c3, c4⟩ := hr.cells
    have hoc := ofCells_cells (us := us') (ag := ag) hr (by rw [ha, q3]) (by rw [k1]; rfl)
    rw [hoc] at c1
    simpa using c1

/-! ### Arguments -/
theorem Sim.argR {F Fc : Nat → Prop} {B : Nat → List Nat} {H : List Nat} {g : Nat → Sl} {a : Act} {w : World} (s : Sim F B H g a w) (hF : ∀ b, F b → Fc b) {io fl : Bool} (hfl : fl = true → ∀ i b, b ∈ B i → Fc b) {r : Nat} {hop : Hop} {off : Nat} {x : D} {val : Value} {arg : V} {l : Option Link}
    (h : argR io fl r hop off x = some (arg, l)) {M0 : List Nat} (hM0 : ∀ b ∈ M0, b ∈ B r) (hrep : Rep w F x val M0) :
    (isLink arg = false ∧ l = none ∧ SRep w Fc arg val []) ∨ (arg = .own 1 x ∧ l = some ⟨r, hop, off, x⟩) := by
  unfold Go.Pi.argR at h
  split at h
  · injection h with h
    injection h with h1 h2
    exact Or.inr ⟨h1.symm, h2.symm⟩
  · split at h
    · rename_i hc
      injection h with h
      injection h with h1 h2
      subst h1 h2
      refine Or.inl ⟨rfl, rfl, ?_⟩
      simp only [SRep]
      refine ⟨?_, trivial⟩
      rcases Bool.or_eq_true_iff.mp hc with hc | hc
      · exact Rep.frz hF _ _ _ (fun b hb => hfl hc r b (hM0 b hb)) hrep
      · have : M0 = [] := D.ownsNot hrep (by simpa using hc)
        subst this
        exact Rep.frz hF _ _ _ (by simp) hrep
    · simp at h
theorem Sim.argV {F Fc : Nat → Prop} {B : Nat → List Nat} {H : List Nat} {g : Nat → Sl} {a : Act} {w : World} (s : Sim F B H g a w) (hF : ∀ b, F b → Fc b) {io fl : Bool} (hfl : fl = true → ∀ i b, b ∈ B i → Fc b) {o : Operand} {arg : V} {l : Option Link}
    (h : argV io fl g o = some (arg, l)) :
    (isLink arg = false ∧ l = none ∧ SRep w Fc arg (a.eval o) []) ∨ (isLink arg = true ∧ ∃ lk, l = some lk ∧ ∀ y sl, y.width = lk.like.width → y.isAgg = lk.like.isAgg → flat1 y = true → putAt g lk.r lk.hop lk.off y 1 = some sl →
      ∃ M, Lent w Fc B g a (fun _ => False) arg (a.eval o) y sl M) := by
  have box : ∀ (r : Nat), a.eval o = a.tmps.getD r undef → argB r (g r).v = some (arg, l) →
      (isLink arg = true ∧ ∃ lk, l = some lk ∧ ∀ y sl, y.width = lk.like.width → y.isAgg = lk.like.isAgg → flat1 y = true → putAt g lk.r lk.hop lk.off y 1 = some sl → ∃ M, Lent w Fc B g a (fun _ => False) arg (a.eval o) y sl M) := by
    intro r e hb
    unfold argB at hb
    split at hb
    case h_2 => simp at hb
    rename_i p x hv
    split at hb
    case isFalse => simp at hb
    rename_i hp
    injection hb with hb
    injection hb with h1 h2
    subst h1 h2
    refine ⟨rfl, _, rfl, fun y sl hw ha hy hput => ⟨B r, ?_⟩⟩
    rw [e]
    exact s.lentWhole hF (Or.inr ⟨hv, hp, rfl⟩) hw ha hput
  unfold Go.Pi.argV at h
  split at h
  · rename_i c
    simp only [Option.map_eq_some_iff] at h
    obtain ⟨x, h1, h2⟩ := h
    injection h2 with h2 h3
    subst h2 h3
    exact Or.inl ⟨rfl, rfl, by simp only [SRep]; exact ⟨Rep.frz (fun _ h => h) _ _ _ (by simp) (rep_ofVal h1), trivial⟩⟩
  · rename_i f
    injection h with h
    injection h with h2 h3
    subst h2 h3
    exact Or.inl ⟨rfl, rfl, by simp only [SRep]; exact ⟨rep_func f, trivial⟩⟩
  · simp at h
  · rename_i t
    have hr := s.rep t
    have hl := s.loc t
    unfold argS at h
    split at h
    · rename_i iv cv x hs
      injection h with h
      injection h with h2 h3
      subst h2 h3
      rw [hs] at hr
      simp only [SRep] at hr
      exact Or.inl ⟨rfl, rfl, by simp only [SRep]; exact ⟨Rep.mono hF _ _ _ hr.1, trivial⟩⟩
    · rename_i iv cv x hs
      injection h with h
      injection h with h2 h3
      subst h2 h3
      have hv : (g t).v = .rp x := by rw [hs]
      rw [hv] at hr
      have hB : B t = [] := by simp only [SRep] at hr; exact hr.2
      rw [hB] at hr
      exact Or.inl ⟨rfl, rfl, SRep.mono hF _ _ _ hr⟩
    · rename_i iv cv p x hs
      have hv : (g t).v = .own p x := by rw [hs]
      rw [hv] at hr
      simp only [SRep] at hr
      rcases s.argR hF hfl h (M0 := B t) (fun _ h => h) hr with q | ⟨q1, q2⟩
      · exact Or.inl q
      · subst q1 q2
        exact Or.inr ⟨rfl, _, rfl, fun y sl hw ha hy hput => ⟨B t, s.lentWhole hF (Or.inl ⟨hv, rfl⟩) hw ha hput⟩⟩
    · rename_i iv0 cv0 r iv cv hop off n ag hs
      have hv : (g t).v = .ref r iv cv hop off n ag := by rw [hs]
      simp only [Option.bind_eq_some_iff] at h
      obtain ⟨y0, hy0, h⟩ := h
      have hc : (g r).iv = iv ∧ (g r).cv = cv := by
        unfold refD at hy0
        split at hy0
        · assumption
        · simp at hy0
      unfold Loc at hl
      rw [hv] at hl
      obtain ⟨us, l1, l2, l3⟩ := hl.2.2 hc.1 hc.2
      have hy0' := hy0
      unfold refD at hy0'
      rw [if_pos hc] at hy0'
      simp only [Option.bind_eq_some_iff] at hy0'
      obtain ⟨z, hz, row, hrow, hsub⟩ := hy0'
      obtain ⟨us', M, k1, k2, k3, k4, k5, k6⟩ := (s.rep r).read hz hrow hsub
      have := k2.unique l2 (by omega)
      subst this
      have e : a.eval (.tmp t) = ofCells ag us' := l3
      rw [e]
      rcases s.argR hF hfl h k3 k4 with q | ⟨q1, q2⟩
      · exact Or.inl q
      · subst q1 q2
        exact Or.inr ⟨rfl, _, rfl, fun y sl hw ha hy hput => s.lentPart hF hy0 l1 l2 hw ha (flat1_all hy) hput⟩
    · rename_i iv cv p x hs
      have hv : (g t).v = .box p x := by rw [hs]
      rw [← hv] at h
      exact Or.inr (box t rfl h)
    · rename_i iv0 cv0 r iv cv hs
      have hv : (g t).v = .wp r iv cv none 0 := by rw [hs]
      split at h
      case isFalse => simp at h
      rename_i hc
      unfold Loc at hl
      rw [hv] at hl
      obtain ⟨b, o', p1, p2⟩ := hl.2.2 hc (Or.inl rfl)
      obtain ⟨_, p3, p4⟩ := p1
      refine Or.inr (box r ?_ h)
      show a.tmps.getD t undef = _
      rw [p2, p3, p4]
    · simp at h
theorem Sim.argsV {F Fc : Nat → Prop} {B : Nat → List Nat} {H : List Nat} {g : Nat → Sl} {a : Act} {w : World} (s : Sim F B H g a w) (hF : ∀ b, F b → Fc b) {io : Nat → Bool} {fl : Bool} (hfl : fl = true → ∀ i b, b ∈ B i → Fc b) :
    ∀ {os : List Operand} {i : Nat} {as : List V} {ls : List Link} {ys : List D} {ss : List (Nat × Sl)}, argsV io fl g i os = some (as, ls) → BackL g ls ys ss → ∃ O, ArgsOk w Fc B g a (fun _ => False) as (os.map a.eval) ys ss O
  | [], i, as, ls, ys, ss, h, hb => by
    simp only [Go.Pi.argsV, Option.some.injEq, Prod.mk.injEq] at h
    obtain ⟨rfl, rfl⟩ := h
    simp only [BackL] at hb
    exact ⟨[], by simp only [ArgsOk]; exact ⟨rfl, hb.1, hb.2, trivial⟩⟩
  | o :: os, i, as, ls, ys, ss, h, hb => by
    simp only [Go.Pi.argsV, Option.bind_eq_some_iff, Option.map_eq_some_iff] at h
    obtain ⟨⟨arg, l⟩, h1, ⟨as', ls'⟩, h2, h3⟩ := h
    injection h3 with h3 h4
    subst h3 h4
    rcases s.argV hF hfl h1 with ⟨q1, q2, q3⟩ | ⟨q1, lk, q2, q3⟩
    · subst q2
      obtain ⟨O, hO⟩ := s.argsV hF hfl h2 (by simpa using hb)
      exact ⟨O, by simp only [ArgsOk, List.map_cons]; exact ⟨_, _, rfl, Or.inl ⟨q1, q3, hO⟩⟩⟩
    · subst q2
      simp only [Option.toList_some, List.singleton_append, BackL] at hb
      obtain ⟨y, ys', sl, ss', e1, e2, e3, e4, e5, e6, e7⟩ := hb
      obtain ⟨M, hM⟩ := q3 y sl e3 e4 e5 e6
      obtain ⟨O, hO⟩ := s.argsV hF hfl h2 e7
      exact ⟨M ++ O, by simp only [ArgsOk, List.map_cons]; exact ⟨_, _, rfl, Or.inr ⟨q1, y, ys', sl, ss', M, O, e1, e2, rfl, hM, hO⟩⟩⟩
end Go.Pi

/- A call, from its caller's side. -/
namespace Go.Pi
open Go
set_option linter.unusedSimpArgs false
set_option linter.unusedVariables false

/-! ### While roots are lent -/
def LocX (X : Nat → Prop) (g : Nat → Sl) (a : Act) (w : World) (i : Nat) : Prop :=
  match (g i).v with
  | .wp r iv cv hop off => iv ≤ (g r).iv ∧ cv ≤ (g r).cv ∧ ((g r).iv = iv → (hop = none ∨ (¬ X r ∧ (g r).cv = cv)) →
      ∃ b o, PAddr w (g r).v (a.tmps.getD r undef) hop b o ∧ a.tmps.getD i undef = .pointer (some ⟨b, o + off, none⟩))
  | .ref r iv cv hop off n ag => iv ≤ (g r).iv ∧ cv ≤ (g r).cv ∧ (¬ X r → (g r).iv = iv → (g r).cv = cv →
      ∃ us : List Value, us.length = n ∧ PVals w (g r).v (a.tmps.getD r undef) hop off us ∧ a.tmps.getD i undef = ofCells ag us)
  | .mv d => ∀ y, (g d).v = .box (i + 2) y → ∃ vs b t, a.tmps.getD i undef = .agg vs ∧ a.tmps.getD d undef = .pointer (some ⟨b, 0, none⟩) ∧ w.heap[b]? = some (.cells vs t (0, 0))
  | _ => True
structure SimX (X : Nat → Prop) (F : Nat → Prop) (B : Nat → List Nat) (H : List Nat) (g : Nat → Sl) (a : Act) (w : World) : Prop where
  rep : ∀ i, ¬ X i → SRep w F (g i).v (a.tmps.getD i undef) (B i)
  root : ∀ i, X i → ∃ x, rootD (g i).v = some x
  loc : ∀ i, LocX X g a w i
  nd : ∀ i, (B i).Nodup
  dj : ∀ i j b, b ∈ B i → b ∈ B j → i = j
  nF : ∀ i b, b ∈ B i → ¬ F b
  lt : ∀ i b, b ∈ B i → b < w.heap.size
  ltF : ∀ b, F b → b < w.heap.size
  hnd : H.Nodup
  hB : ∀ b ∈ H, ∀ i, b ∉ B i
  hF : ∀ b ∈ H, ¬ F b
  hlt : ∀ b ∈ H, b < w.heap.size
  sz : ∀ i, a.tmps.size ≤ i → (g i).v = .gone
  df : a.defers = []
theorem SimX.done {X : Nat → Prop} {F : Nat → Prop} {B : Nat → List Nat} {H : List Nat} {g : Nat → Sl} {a : Act} {w : World} (s : SimX X F B H g a w) (h : ∀ i, ¬ X i) : Sim F B H g a w := by
  refine ⟨fun i => s.rep i (h i), ?_, s.nd, s.dj, s.nF, s.lt, s.ltF, s.hnd, s.hB, s.hF, s.hlt, s.sz, s.df⟩
  intro i
  have hl := s.loc i
  unfold LocX at hl
  unfold Loc
  split <;> rename_i hv
  · rw [hv] at hl
    obtain ⟨h1, h2, h3⟩ := hl
    refine ⟨h1, h2, fun q1 q2 => h3 q1 ?_⟩
    rcases q2 with q2 | q2
    · exact Or.inl q2
    · exact Or.inr ⟨h _, q2⟩
  · rw [hv] at hl
    exact ⟨hl.1, hl.2.1, hl.2.2 (h _)⟩
  · rw [hv] at hl
    exact hl
  · trivial
/-- The roots' own blocks but for those that are lent. -/
def lessB (B : Nat → List Nat) (O : List Nat) : Nat → List Nat := fun i => (B i).filter fun b => decide (b ∉ O)
theorem mem_less {B : Nat → List Nat} {O : List Nat} {i b : Nat} : b ∈ lessB B O i ↔ b ∈ B i ∧ b ∉ O := by
  simp [lessB, List.mem_filter]
/-- The callee has ended. -/
theorem Sim.lend {X : Nat → Prop} {F F' : Nat → Prop} {B : Nat → List Nat} {O H : List Nat} {g : Nat → Sl} {a : Act} {w w' : World} (s : Sim F B [] g a w) (hX : ∀ i, X i → ∃ x, rootD (g i).v = some x)
    (hO : ∀ b ∈ O, ∃ r, X r ∧ b ∈ B r) (hm : ∀ d, X d → ∀ p z, (g d).v = .box p z → 2 ≤ p → ∀ b0, a.tmps.getD d undef = .pointer (some ⟨b0, 0, none⟩) → b0 ∉ O)
    (hnd : H.Nodup) (hF : ∀ b ∈ H, ¬ F' b) (hlt : ∀ b ∈ H, b < w'.heap.size) (hltF : ∀ b, F' b → b < w'.heap.size) (e : Ext F (fun b => b ∈ O) w F' (fun b => b ∈ H) w') : SimX X F' (lessB B O) H g a w' := by
  have eF : Agree w w' F := fun b hb => e.keep b (s.ltF b hb) fun ho => by
    obtain ⟨r, _, hr⟩ := hO b ho
    exact s.nF r b hr hb
  have eB : ∀ i b, b ∈ B i → b ∉ O → w'.heap[b]? = w.heap[b]? := fun i b hb ho => e.keep b (s.lt i b hb) ho
  have hout : ∀ i, ¬ X i → ∀ b ∈ B i, b ∉ O := by
    intro i hi b hb ho
    obtain ⟨r, h1, h2⟩ := hO b ho
    have := s.dj i r b hb h2
    subst this
    exact hi h1
  have hout' : ∀ i, ¬ X i → ∀ b ∈ B i, w'.heap[b]? = w.heap[b]? := fun i hi b hb => eB i b hb (hout i hi b hb)
  refine ⟨?_, hX, ?_, ?_, ?_, ?_, ?_, hltF, hnd, ?_, hF, hlt, s.sz, s.df⟩
  · intro i hi
    have : lessB B O i = B i := by
      unfold lessB
      rw [List.filter_eq_self]
      intro b hb
      simpa using hout i hi b hb
    rw [this]
    exact SRep.frame e.mono eF _ _ _ (hout' i hi) (s.rep i)
  · intro i
    have hl := s.loc i
    unfold Loc at hl
    unfold LocX
    split <;> rename_i hv
    · rename_i r iv cv hop off
      rw [hv] at hl
      obtain ⟨h1, h2, h3⟩ := hl
      refine ⟨h1, h2, fun q1 q2 => ?_⟩
      rcases q2 with q2 | ⟨q2, q3⟩
      · subst q2
        obtain ⟨b, o, p1, p2⟩ := h3 q1 (Or.inl rfl)
        exact ⟨b, o, p1, p2⟩
      · obtain ⟨b, o, p1, p2⟩ := h3 q1 (Or.inr q3)
        exact ⟨b, o, p1.world (s.rep r) (hout' r q2), p2⟩
    · rename_i r iv cv hop off n ag
      rw [hv] at hl
      refine ⟨hl.1, hl.2.1, fun q0 q1 q2 => ?_⟩
      obtain ⟨us, p1, p2, p3⟩ := hl.2.2 q1 q2
      exact ⟨us, p1, p2.world (s.rep r) (hout' r q0) eF, p3⟩
    · rename_i d
      rw [hv] at hl
      intro y hy
      obtain ⟨vs, b, t, p1, p2, p3⟩ := hl y hy
      refine ⟨vs, b, t, p1, p2, ?_⟩
      have hb : b ∈ B d := by
        have hr := s.rep d
        rw [hy] at hr
        simp only [SRep] at hr
        obtain ⟨b', u, t', B', e1, e2, e3, e4⟩ := hr
        rw [p2] at e1
        injection e1 with e1
        injection e1 with e1
        injection e1 with e1
        rw [e4, e1]
        simp
      rw [eB d b hb ?_]
      · exact p3
      · by_cases hd : X d
        · exact hm d hd _ y hy (by omega) b p2
        · exact hout d hd b hb
    · trivial
  · intro i
    exact (s.nd i).filter _
  · intro i j b hi hj
    exact s.dj i j b (mem_less.mp hi).1 (mem_less.mp hj).1
  · intro i b hb hF
    obtain ⟨h1, h2⟩ := mem_less.mp hb
    rcases e.newF b hF with q | q | q
    · exact s.nF i b h1 q
    · exact h2 q
    · have := s.lt i b h1; omega
  · intro i b hb
    exact Nat.lt_of_lt_of_le (s.lt i b (mem_less.mp hb).1) e.size
  · intro b hb i hi
    obtain ⟨h1, h2⟩ := mem_less.mp hi
    rcases e.newO b hb with q | q
    · exact h2 q
    · have := s.lt i b h1; omega
/-- One root comes back. -/
theorem SimX.back {X : Nat → Prop} {F : Nat → Prop} {B : Nat → List Nat} {M H : List Nat} {g : Nat → Sl} {a : Act} {w : World} (s : SimX X F B (M ++ H) g a w) {r : Nat} {x x' : D} (hr : X r) (hx : rootD (g r).v = some x)
    {Br' : List Nat} (hrep : SRep w F (withD (g r).v x') (a.tmps.getD r undef) Br') (h1 : Br'.Nodup) (h2 : ∀ b ∈ Br', b ∈ B r ∨ b ∈ M) :
    SimX (fun i => X i ∧ i ≠ r) F (upd B r Br') H (ovl [(r, ⟨(g r).iv, (g r).cv + 1, withD (g r).v x'⟩)] g) a w := by
  have hHn := List.nodup_append.mp s.hnd
  have hin : ∀ i b, b ∈ upd B r Br' i → (i ≠ r ∧ b ∈ B i) ∨ (i = r ∧ b ∈ Br') := by
    intro i b hb
    by_cases hi : i = r
    · subst hi; rw [upd_same] at hb; exact Or.inr ⟨rfl, hb⟩
    · rw [upd_ne _ _ _ hi] at hb; exact Or.inl ⟨hi, hb⟩
  have hbox : ∀ b o, PAddr w (g r).v (a.tmps.getD r undef) none b o → PAddr w (withD (g r).v x') (a.tmps.getD r undef) none b o := by
    intro b o h
    obtain ⟨⟨p, y, e1⟩, e2, e3⟩ := h
    rw [e1]
    exact ⟨⟨p, x', rfl⟩, e2, e3⟩
  refine ⟨?_, ?_, ?_, ?_, ?_, ?_, ?_, s.ltF, hHn.2.1, ?_, fun b hb => s.hF b (by simp [hb]), fun b hb => s.hlt b (by simp [hb]), ?_, s.df⟩
  · intro i hi
    by_cases hir : i = r
    · subst hir; rw [ovl1_same, upd_same]; exact hrep
    · rw [ovl1_ne _ _ _ hir, upd_ne _ _ _ hir]
      exact s.rep i fun hX => hi ⟨hX, hir⟩
  · intro i hi
    rw [ovl1_ne _ _ _ hi.2]
    exact s.root i hi.1
  · intro i
    by_cases hi : i = r
    · subst hi
      unfold LocX
      rw [ovl1_same]
      cases hv : (g i).v <;> simp [hv, rootD, withD] at hx ⊢
    · have hl := s.loc i
      unfold LocX at hl ⊢
      rw [show ((ovl [(r, ⟨(g r).iv, (g r).cv + 1, withD (g r).v x'⟩)] g) i) = g i from ovl1_ne _ _ _ hi]
      split <;> rename_i hv
      · rename_i q iv cv hop off
        rw [hv] at hl
        obtain ⟨l1, l2, l3⟩ := hl
        by_cases hq : q = r
        · subst hq
          rw [ovl1_same]
          refine ⟨l1, by simp only; omega, fun p1 p2 => ?_⟩
          rcases p2 with p2 | ⟨_, p2⟩
          · subst p2
            obtain ⟨b, o, k1, k2⟩ := l3 p1 (Or.inl rfl)
            exact ⟨b, o, hbox b o k1, k2⟩
          · simp only at p2; omega
        · rw [ovl1_ne _ _ _ hq]
          refine ⟨l1, l2, fun p1 p2 => l3 p1 ?_⟩
          rcases p2 with p2 | ⟨p2, p3⟩
          · exact Or.inl p2
          · exact Or.inr ⟨fun hX => p2 ⟨hX, hq⟩, p3⟩
      · rename_i q iv cv hop off n ag
        rw [hv] at hl
        obtain ⟨l1, l2, l3⟩ := hl
        by_cases hq : q = r
        · subst hq
          rw [ovl1_same]
          exact ⟨l1, by simp only; omega, fun _ _ p2 => by simp only at p2; omega⟩
        · rw [ovl1_ne _ _ _ hq]
          exact ⟨l1, l2, fun p0 p1 p2 => l3 (fun hX => p0 ⟨hX, hq⟩) p1 p2⟩
      · rename_i d
        rw [hv] at hl
        intro y hy
        by_cases hd : d = r
        · subst hd
          rw [ovl1_same] at hy
          cases hv' : (g d).v <;> simp [hv', withD] at hy
          rename_i p z
          exact hl z (by rw [hv', hy.1])
        · rw [ovl1_ne _ _ _ hd] at hy
          exact hl y hy
      · trivial
  · intro i
    by_cases hi : i = r
    · subst hi; rw [upd_same]; exact h1
    · rw [upd_ne _ _ _ hi]; exact s.nd i
  · intro i j b hi hj
    rcases hin i b hi with ⟨p1, p2⟩ | ⟨p1, p2⟩ <;> rcases hin j b hj with ⟨q1, q2⟩ | ⟨q1, q2⟩
    · exact s.dj i j b p2 q2
    · subst q1
      rcases h2 b q2 with q | q
      · exact s.dj i j b p2 q
      · exact absurd p2 (s.hB b (by simp [q]) i)
    · subst p1
      rcases h2 b p2 with q | q
      · exact s.dj i j b q q2
      · exact absurd q2 (s.hB b (by simp [q]) j)
    · omega
  · intro i b hb hF
    rcases hin i b hb with ⟨p1, p2⟩ | ⟨p1, p2⟩
    · exact s.nF i b p2 hF
    · rcases h2 b p2 with q | q
      · exact s.nF r b q hF
      · exact s.hF b (by simp [q]) hF
  · intro i b hb
    rcases hin i b hb with ⟨p1, p2⟩ | ⟨p1, p2⟩
    · exact s.lt i b p2
    · rcases h2 b p2 with q | q
      · exact s.lt r b q
      · exact s.hlt b (by simp [q])
  · intro b hb i hi
    rcases hin i b hi with ⟨p1, p2⟩ | ⟨p1, p2⟩
    · exact s.hB b (by simp [hb]) i p2
    · rcases h2 b p2 with q | q
      · exact s.hB b (by simp [hb]) r q
      · exact hHn.2.2 b q b hb rfl
  · intro i hi
    by_cases hir : i = r
    · subst hir
      have := s.sz i hi
      rw [this] at hx
      simp [rootD] at hx
    · rw [ovl1_ne _ _ _ hir]; exact s.sz i hi

/-! ### Lists of what is lent -/
theorem ArgsOk.srep {w : World} {F : Nat → Prop} {B : Nat → List Nat} {g : Nat → Sl} {a : Act} {Z : Nat → Prop} : ∀ {as : List V} {vals : List Value} {ys : List D} {ss : List (Nat × Sl)} {O : List Nat}, ArgsOk w F B g a Z as vals ys ss O → SRepL w F as vals O
  | [], vals, ys, ss, O, h => by
    simp only [ArgsOk] at h
    obtain ⟨rfl, _, _, rfl⟩ := h
    exact SRepL.nil
  | arg :: as, vals, ys, ss, O, h => by
    simp only [ArgsOk] at h
    obtain ⟨val, vals', rfl, ⟨h1, h2, h3⟩ | ⟨h1, y, ys', s, ss', M, O', rfl, rfl, rfl, h4, h5⟩⟩ := h
    · exact SRepL.cons (B1 := []) h2 h3.srep
    · obtain ⟨L, R, x, x', q1, q2, _⟩ := h4
      exact SRepL.cons q2 h5.srep
theorem ArgsOk.mem {w : World} {F : Nat → Prop} {B : Nat → List Nat} {g : Nat → Sl} {a : Act} {Z : Nat → Prop} : ∀ {as : List V} {vals : List Value} {ys : List D} {ss : List (Nat × Sl)} {O : List Nat}, ArgsOk w F B g a Z as vals ys ss O →
    ∀ b ∈ O, ∃ s ∈ ss, b ∈ B s.1
  | [], vals, ys, ss, O, h => by
    simp only [ArgsOk] at h
    obtain ⟨_, _, _, rfl⟩ := h
    simp
  | arg :: as, vals, ys, ss, O, h => by
    simp only [ArgsOk] at h
    obtain ⟨val, vals', rfl, ⟨h1, h2, h3⟩ | ⟨h1, y, ys', s, ss', M, O', rfl, rfl, rfl, h4, h5⟩⟩ := h
    · exact h3.mem
    · obtain ⟨L, R, x, x', q1, q2, _⟩ := h4
      intro b hb
      rcases List.mem_append.mp hb with hb | hb
      · exact ⟨s, by simp, by rw [q1]; simp [hb]⟩
      · obtain ⟨s', h6, h7⟩ := h5.mem b hb
        exact ⟨s', by simp [h6], h7⟩
theorem ArgsOk.nodup {w : World} {F : Nat → Prop} {B : Nat → List Nat} {g : Nat → Sl} {a : Act} {Z : Nat → Prop} (nd : ∀ i, (B i).Nodup) (dj : ∀ i j b, b ∈ B i → b ∈ B j → i = j) :
    ∀ {as : List V} {vals : List Value} {ys : List D} {ss : List (Nat × Sl)} {O : List Nat}, ArgsOk w F B g a Z as vals ys ss O → (ss.map (·.1)).Nodup → O.Nodup
  | [], vals, ys, ss, O, h, _ => by
    simp only [ArgsOk] at h
    obtain ⟨_, _, _, rfl⟩ := h
    exact List.nodup_nil
  | arg :: as, vals, ys, ss, O, h, hn => by
    simp only [ArgsOk] at h
    obtain ⟨val, vals', rfl, ⟨h1, h2, h3⟩ | ⟨h1, y, ys', s, ss', M, O', rfl, rfl, rfl, h4, h5⟩⟩ := h
    · exact h3.nodup nd dj hn
    · obtain ⟨L, R, x, x', q1, q2, _⟩ := h4
      simp only [List.map_cons, List.nodup_cons] at hn
      have hnd := nd s.1
      rw [q1] at hnd
      rw [List.nodup_append]
      refine ⟨(List.nodup_append.mp (List.nodup_append.mp hnd).1).2.1, h5.nodup nd dj hn.2, ?_⟩
      rintro b hb c hc rfl
      obtain ⟨s', k1, k2⟩ := h5.mem b hc
      have := dj s.1 s'.1 b (by rw [q1]; simp [hb]) k2
      exact hn.1 (by rw [this]; exact List.mem_map_of_mem k1)
/-- What is kept of the roots is not among what is lent. -/
theorem ArgsOk.avoid {w : World} {F : Nat → Prop} {B : Nat → List Nat} {g : Nat → Sl} {a : Act} {Z : Nat → Prop} (nd : ∀ i, (B i).Nodup) (dj : ∀ i j b, b ∈ B i → b ∈ B j → i = j) (A : List Nat) :
    ∀ {as : List V} {vals : List Value} {ys : List D} {ss : List (Nat × Sl)} {O : List Nat}, ArgsOk w F B g a Z as vals ys ss O → (ss.map (·.1)).Nodup → (∀ b ∈ A, b ∈ O ∨ ∀ s ∈ ss, b ∉ B s.1) → ArgsOk w F B g a (fun b => b ∈ A) as vals ys ss O
  | [], vals, ys, ss, O, h, _, _ => by
    simp only [ArgsOk] at h ⊢
    exact h
  | arg :: as, vals, ys, ss, O, h, hn, hA => by
    simp only [ArgsOk] at h ⊢
    obtain ⟨val, vals', rfl, ⟨h1, h2, h3⟩ | ⟨h1, y, ys', s, ss', M, O', rfl, rfl, rfl, h4, h5⟩⟩ := h
    · exact ⟨val, vals', rfl, Or.inl ⟨h1, h2, h3.avoid nd dj A hn hA⟩⟩
    · simp only [List.map_cons, List.nodup_cons] at hn
      refine ⟨val, vals', rfl, Or.inr ⟨h1, y, ys', s, ss', M, O', rfl, rfl, rfl, ?_, ?_⟩⟩
      · obtain ⟨L, R, x, x', q1, q2, q3, q4, q5, q6, q7⟩ := h4
        refine ⟨L, R, x, x', q1, q2, q3, q4, q5, ?_, q7⟩
        intro c hc hcA
        have hnd := nd s.1
        rw [q1] at hnd
        have hLM := List.nodup_append.mp hnd
        have hcB : c ∈ B s.1 := by
          rw [q1]
          rcases List.mem_append.mp hc with hc | hc <;> simp [hc]
        have hcM : c ∉ M := by
          intro hm
          rcases List.mem_append.mp hc with hc | hc
          · exact (List.nodup_append.mp hLM.1).2.2 c hc c hm rfl
          · exact hLM.2.2 c (by simp [hm]) c hc rfl
        rcases hA c hcA with q | q
        · rcases List.mem_append.mp q with q | q
          · exact hcM q
          · obtain ⟨s', k1, k2⟩ := h5.mem c q
            have := dj s.1 s'.1 c hcB k2
            exact hn.1 (by rw [this]; exact List.mem_map_of_mem k1)
        · exact q s (by simp) hcB
      · refine h5.avoid nd dj A hn.2 ?_
        intro b hb
        rcases hA b hb with q | q
        · rcases List.mem_append.mp q with q | q
          · right
            intro s' hs' hb'
            obtain ⟨L, R, x, x', q1, _⟩ := h4
            have := dj s.1 s'.1 b (by rw [q1]; simp [q]) hb'
            exact hn.1 (by rw [this]; exact List.mem_map_of_mem hs')
          · exact Or.inl q
        · exact Or.inr fun s' hs' => q s' (by simp [hs'])
end Go.Pi

/- A call is sound. -/
namespace Go.Pi
open Go
set_option linter.unusedSimpArgs false
set_option linter.unusedVariables false

theorem SimX.congr {X X' : Nat → Prop} {F : Nat → Prop} {B : Nat → List Nat} {H : List Nat} {g : Nat → Sl} {a : Act} {w : World} (s : SimX X F B H g a w) (h : ∀ i, X i ↔ X' i) : SimX X' F B H g a w := by
  have : X = X' := funext fun i => propext (h i)
  rw [← this]
  exact s
theorem SimX.backs {w0 w : World} {Fc F' : Nat → Prop} {B0 : Nat → List Nat} {g0 : Nat → Sl} {a : Act} {A H : List Nat} (nd0 : ∀ i, (B0 i).Nodup) (hF : ∀ b, Fc b → F' b) (eF : Agree w0 w Fc)
    (eK : ∀ i b, b ∈ B0 i → b ∉ A → w.heap[b]? = w0.heap[b]?) :
    ∀ {as : List V} {vals : List Value} {ys : List D} {ss : List (Nat × Sl)} {O O' : List Nat} {X : Nat → Prop} {g : Nat → Sl} {B : Nat → List Nat}, ArgsOk w0 Fc B0 g0 a (fun b => b ∈ A) as vals ys ss O → Back w F' as vals ys O' →
      (ss.map (·.1)).Nodup → SimX X F' B (O' ++ H) g a w → (∀ s ∈ ss, X s.1 ∧ g s.1 = g0 s.1 ∧ B s.1 = lessB B0 A s.1) →
      ∃ B', SimX (fun i => X i ∧ i ∉ ss.map (·.1)) F' B' H (ovl ss.reverse g) a w ∧ ∀ i b, b ∈ B' i → b ∈ B i ∨ b ∈ O'
  | [], vals, ys, ss, O, O', X, g, B, hA, hB, hn, s, hs => by
    simp only [ArgsOk] at hA
    simp only [Back] at hB
    obtain ⟨_, _, rfl, _⟩ := hA
    obtain ⟨_, _, rfl⟩ := hB
    exact ⟨B, s.congr (fun i => by simp), fun i b hb => Or.inl hb⟩
  | arg :: as, vals, ys, ss, O, O', X, g, B, hA, hB, hn, s, hs => by
    simp only [ArgsOk] at hA
    simp only [Back] at hB
    obtain ⟨val, vals', rfl, hA⟩ := hA
    obtain ⟨val2, vals2, e1, hB⟩ := hB
    injection e1 with e1 e2
    subst e1 e2
    rcases hA with ⟨h1, h2, h3⟩ | ⟨h1, y, ys', sl, ss', M, O2, rfl, rfl, rfl, h4, h5⟩
    · rcases hB with ⟨_, k2⟩ | ⟨k1, _⟩
      · exact SimX.backs nd0 hF eF eK h3 k2 hn s hs
      · rw [h1] at k1; simp at k1
    · rcases hB with ⟨k1, _⟩ | ⟨_, y2, ys2, M', O3, e1, rfl, k2, k3⟩
      · rw [h1] at k1; simp at k1
      · injection e1 with e1 e2
        subst e1 e2
        obtain ⟨L, R, x, x', q1, q2, q3, q4, q5, q6, q7⟩ := h4
        obtain ⟨t1, t2, t3⟩ := hs sl (by simp)
        obtain ⟨j, slot⟩ := sl
        simp only at q1 q3 q4 q5 q7 t1 t2 t3
        have hLRB : ∀ c ∈ L ++ R, c ∈ B0 j := by
          intro c hc
          rw [q1]
          rcases List.mem_append.mp hc with hc | hc <;> simp [hc]
        have hLR : ∀ c ∈ L ++ R, c ∈ B j := by
          intro c hc
          rw [t3]
          exact mem_less.mpr ⟨hLRB c hc, q6 c hc⟩
        have hrep := q7 w F' M' hF eF (fun c hc => eK j c (hLRB c hc) (q6 c hc)) k2
        rw [q4] at hrep
        simp only at hrep
        rw [List.append_assoc] at s
        have hnd := nd0 j
        rw [q1] at hnd
        have hLM := List.nodup_append.mp hnd
        have hL := List.nodup_append.mp hLM.1
        have hMn := (List.nodup_append.mp s.hnd).1
        have hMd : ∀ b ∈ M', b ∉ L ++ R := fun b hb hh => s.hB b (by simp [hb]) j (hLR b hh)
        have hbr : (L ++ M' ++ R).Nodup := by
          rw [List.nodup_append, List.nodup_append]
          refine ⟨⟨hL.1, hMn, ?_⟩, hLM.2.1, ?_⟩
          · rintro c hc d hd rfl
            exact hMd c hd (by simp [hc])
          · rintro c hc d hd rfl
            rcases List.mem_append.mp hc with hc | hc
            · exact hLM.2.2 c (by simp [hc]) c hd rfl
            · exact hMd c hc (by simp [hd])
        have hbs : ∀ b ∈ L ++ M' ++ R, b ∈ B j ∨ b ∈ M' := by
          intro b hb
          rcases List.mem_append.mp hb with hb | hb
          · rcases List.mem_append.mp hb with hb | hb
            · exact Or.inl (hLR b (by simp [hb]))
            · exact Or.inr hb
          · exact Or.inl (hLR b (by simp [hb]))
        rw [← t2] at hrep
        have s1 := s.back t1 (by rw [t2]; exact q3) hrep hbr hbs
        have e : (⟨(g j).iv, (g j).cv + 1, withD (g j).v x'⟩ : Sl) = slot := by rw [q4, t2]
        rw [e] at s1
        simp only [List.map_cons, List.nodup_cons] at hn
        obtain ⟨B', r1, r2⟩ := SimX.backs nd0 hF eF eK h5 k3 hn.2 s1 (by
          intro s' hs'
          obtain ⟨p1, p2, p3⟩ := hs s' (by simp [hs'])
          have hne : s'.1 ≠ j := by
            intro e
            exact hn.1 (by rw [← e]; exact List.mem_map_of_mem hs')
          exact ⟨⟨p1, hne⟩, by rw [ovl1_ne _ _ _ hne]; exact p2, by rw [upd_ne _ _ _ hne]; exact p3⟩)
        refine ⟨B', ?_, ?_⟩
        · rw [List.reverse_cons, ovl_app]
          refine r1.congr fun i => ?_
          simp only [List.map_cons, List.mem_cons, not_or]
          constructor
          · rintro ⟨⟨h1, h2⟩, h3⟩; exact ⟨h1, h2, h3⟩
          · rintro ⟨h1, h2, h3⟩; exact ⟨⟨h1, h2⟩, h3⟩
        · intro i b hb
          rcases r2 i b hb with q | q
          · by_cases hi : i = j
            · subst hi
              rw [upd_same] at q
              rcases hbs b q with q | q
              · exact Or.inl q
              · exact Or.inr (by simp [q])
            · rw [upd_ne _ _ _ hi] at q
              exact Or.inl q
          · exact Or.inr (by simp [q])

/-! ### Flat results -/
mutual
theorem Rep.flat {w w' : World} {F F' : Nat → Prop} : ∀ {x : D} {v : Value} {B : List Nat}, Rep w F x v B → flatD x = true → Rep w' F' x v [] ∧ B = []
  | .int _ _, _, _, h, _ => by simp only [Rep] at h ⊢; exact ⟨⟨h.1, trivial⟩, h.2⟩
  | .bool _, _, _, h, _ => by simp only [Rep] at h ⊢; exact ⟨⟨h.1, trivial⟩, h.2⟩
  | .str _, _, _, h, _ => by simp only [Rep] at h ⊢; exact ⟨⟨h.1, trivial⟩, h.2⟩
  | .agg cs, v, B, h, k => by
    simp only [Rep] at h ⊢
    simp only [flatD] at k
    obtain ⟨vs, h1, h2, h3⟩ := h
    obtain ⟨q1, q2⟩ := RepL.flat (w' := w') (F' := F') h3 k
    exact ⟨⟨vs, h1, h2, q1⟩, q2⟩
  | .sl _ _, _, _, _, k => by simp [flatD] at k
  | .fn _ _ _, _, _, _, k => by simp [flatD] at k
  | .nilfn, _, _, _, k => by simp [flatD] at k
  | .ghost, _, _, _, k => by simp [flatD] at k
theorem RepL.flat {w w' : World} {F F' : Nat → Prop} : ∀ {xs : List D} {vs : List Value} {B : List Nat}, RepL w F xs vs B → flatDs xs = true → RepL w' F' xs vs [] ∧ B = []
  | [], vs, B, h, _ => by simp only [RepL] at h ⊢; exact ⟨⟨h.1, trivial⟩, h.2⟩
  | x :: xs, vs, B, h, k => by
    simp only [RepL] at h
    simp only [flatDs, Bool.and_eq_true] at k
    obtain ⟨v, vs', B1, B2, h1, h2, h3, h4⟩ := h
    subst h1 h2
    obtain ⟨q1, q2⟩ := Rep.flat (w' := w') (F' := F') h3 k.1
    obtain ⟨r1, r2⟩ := RepL.flat (w' := w') (F' := F') h4 k.2
    subst q2 r2
    exact ⟨RepL.cons (B1 := []) (B2 := []) q1 r1, rfl⟩
end
mutual
theorem SRep.flat {w w' : World} {F F' : Nat → Prop} : ∀ {x : V} {v : Value} {B : List Nat}, SRep w F x v B → flatV x = true → SRep w' F' x v [] ∧ B = []
  | .v x, v, B, h, k => by
    simp only [SRep] at h ⊢
    simp only [flatV] at k
    exact ⟨⟨(Rep.flat h.1 k).1, trivial⟩, h.2⟩
  | .tup xs, v, B, h, k => by
    simp only [SRep] at h ⊢
    simp only [flatV] at k
    obtain ⟨vs, h1, h2⟩ := h
    obtain ⟨q1, q2⟩ := SRepL.flat (w' := w') (F' := F') h2 k
    exact ⟨⟨vs, h1, q1⟩, q2⟩
  | .own _ _, _, _, _, k => by simp [flatV] at k
  | .box _ _, _, _, _, k => by simp [flatV] at k
  | .rp _, _, _, _, k => by simp [flatV] at k
  | .mv _, _, _, _, k => by simp [flatV] at k
  | .wp _ _ _ _ _, _, _, _, k => by simp [flatV] at k
  | .ref _ _ _ _ _ _ _, _, _, _, k => by simp [flatV] at k
  | .gone, _, _, _, k => by simp [flatV] at k
theorem SRepL.flat {w w' : World} {F F' : Nat → Prop} : ∀ {xs : List V} {vs : List Value} {B : List Nat}, SRepL w F xs vs B → flatVs xs = true → SRepL w' F' xs vs [] ∧ B = []
  | [], vs, B, h, _ => by simp only [SRepL] at h ⊢; exact ⟨⟨h.1, trivial⟩, h.2⟩
  | x :: xs, vs, B, h, k => by
    simp only [SRepL] at h
    simp only [flatVs, Bool.and_eq_true] at k
    obtain ⟨v, vs', B1, B2, h1, h2, h3, h4⟩ := h
    subst h1 h2
    obtain ⟨q1, q2⟩ := SRep.flat (w' := w') (F' := F') h3 k.1
    obtain ⟨r1, r2⟩ := SRepL.flat (w' := w') (F' := F') h4 k.2
    subst q2 r2
    exact ⟨SRepL.cons (B1 := []) (B2 := []) q1 r1, rfl⟩
end

/-! ### The call -/
theorem fInfo_run {P : Program} {f : FuncId} {fl : Bool} (h : fInfo P f = some fl) (w : World) (args : Array Value) : (callFunc f args).run P w = .ok (.enter f args) w := by
  unfold fInfo at h
  split at h
  · rename_i fn hf
    split at h
    · rename_i hc
      simp only [Bool.and_eq_true] at hc
      obtain ⟨h1, h2⟩ := hc
      have h1' : fn.body.isNone = false := by
        cases hb : fn.body
        · rw [hb] at h1; simp at h1
        · rfl
      have h2' : fn.name ≠ "runtime.NumGoroutine" := by simpa [bne] using h2
      have h3' : fn.body ≠ none := by
        intro e
        rw [e] at h1
        simp at h1
      simp [callFunc, hf, h2', h3']
    · simp at h
  · simp at h
theorem okRes_loc {g : Nat → Sl} {a : Act} {w : World} {V : V} {v : Value} (h : okRes V = true) : LocV g a w V v := by
  cases V <;> simp [okRes] at h <;> trivial
theorem okRes_mvc {g : Nat → Sl} {a : Act} {w : World} {V : V} {v : Value} {dst : Option Tmp} (h : okRes V = true) : Mvc g a w dst V v := by
  refine mvc_of fun i y e => ?_
  subst e
  simp [okRes] at h
theorem ArgsOk.noLink {w : World} {F : Nat → Prop} {B : Nat → List Nat} {g : Nat → Sl} {a : Act} {Z : Nat → Prop} : ∀ {as : List V} {vals : List Value} {ys : List D} {O : List Nat}, ArgsOk w F B g a Z as vals ys [] O → ∀ p ∈ as, isLink p = false
  | [], _, _, _, _ => by simp
  | arg :: as, vals, ys, O, h => by
    simp only [ArgsOk] at h
    obtain ⟨val, vals', rfl, ⟨h1, h2, h3⟩ | ⟨h1, y, ys', s, ss', M, O', _, e, _⟩⟩ := h
    · intro p hp
      rcases List.mem_cons.mp hp with hp | hp
      · rw [hp]; exact h1
      · exact h3.noLink p hp
    · simp at e
theorem ArgsOk.pins {w : World} {F : Nat → Prop} {B : Nat → List Nat} {g : Nat → Sl} {a : Act} {Z : Nat → Prop} (nd : ∀ i, (B i).Nodup) : ∀ {as : List V} {vals : List Value} {ys : List D} {ss : List (Nat × Sl)} {O : List Nat}, ArgsOk w F B g a Z as vals ys ss O →
    ∀ s ∈ ss, (∃ x, rootD (g s.1).v = some x) ∧ ∃ L : List Nat, (∀ c ∈ L, ¬ Z c) ∧ ∀ p z, (g s.1).v = .box p z → 2 ≤ p → ∀ b0, a.tmps.getD s.1 undef = .pointer (some ⟨b0, 0, none⟩) → b0 ∈ L
  | [], vals, ys, ss, O, h => by
    simp only [ArgsOk] at h
    obtain ⟨_, _, rfl, _⟩ := h
    simp
  | arg :: as, vals, ys, ss, O, h => by
    simp only [ArgsOk] at h
    obtain ⟨val, vals', rfl, ⟨h1, h2, h3⟩ | ⟨h1, y, ys', s, ss', M, O', rfl, rfl, rfl, h4, h5⟩⟩ := h
    · exact h3.pins nd
    · obtain ⟨L, R, x, x', q1, q2, q3, q4, q5, q6, _⟩ := h4
      intro s' hs'
      rcases List.mem_cons.mp hs' with hs' | hs'
      · subst hs'
        exact ⟨⟨x, q3⟩, L, fun c hc => q6 c (by simp [hc]), q5⟩
      · exact h5.pins nd s' hs'
theorem Sound.callee {C : Cfg} {cl : Cl} {F : Nat → Prop} {B : Nat → List Nat} {g : Nat → Sl} {a : Act} {w : World} {o : Oper} {f : FuncId} {fs cs : List D} {args : List Operand} {vfs ps rvs : List Value} {V : V} {u : Ov}
    (hcl : CallOK C.P cl) (s : Sim F B [] g a w) (hrun : (execOp a.eval o).run C.P w = (callFunc f (vfs ++ args.map a.eval ++ ps).toArray).run C.P w) (hfs : RepL w F fs vfs []) (hcs : RepL w F cs rvs []) (hps : Ptrs w F ps rvs)
    (h : calleeV C cl g f fs args cs = some (V, u)) : Sound C.P F B g a w o V u := by
  unfold calleeV at h
  simp only [Option.bind_eq_some_iff] at h
  obtain ⟨fl0, hfi, h⟩ := h
  unfold callV at h
  generalize (fl0 && noLinks (C.io f) g fs.length args) = fl at h
  unfold callA at h
  simp only [Option.bind_eq_some_iff] at h
  obtain ⟨u0, hu0, ⟨as, ls⟩, has, h⟩ := h
  unfold callB at h
  split at h
  case isFalse => simp at h
  rename_i hc
  simp only [Bool.and_eq_true] at hc
  obtain ⟨hnub, hfl0⟩ := hc
  simp only [Option.bind_eq_some_iff] at h
  obtain ⟨⟨res, ys⟩, hres, h⟩ := h
  simp only at h
  split at h
  · simp at h
  rename_i hflat
  simp only [Option.map_eq_some_iff] at h
  obtain ⟨u', hu', h⟩ := h
  injection h with h1 h2
  subst h1 h2
  obtain ⟨ss, hbl, rfl, hkeys⟩ := backV_spec hu' hnub
  have hkn : (ss.map (·.1)).Nodup := by rw [hkeys]; exact nub_nodup hnub
  have hok := hcl _ _ _ _ _ hres hfi
  intro next Q k
  rw [hrun, fInfo_run hfi, Oper.upon_enter]
  cases fl with
  | true =>
    simp only [if_true, Option.some.injEq] at hu0
    subst hu0
    have hls : ls = [] := by
      simp only [Bool.not_true, Bool.false_or, List.isEmpty_iff] at hfl0
      exact hfl0
    subst hls
    simp only [BackL] at hbl
    obtain ⟨rfl, rfl⟩ := hbl
    have hFl : flatV res = true := by
      simpa using hflat
    obtain ⟨O, hA⟩ := s.argsV (Fc := fun b => F b ∨ ∃ i, b ∈ B i) (fun b hb => Or.inl hb) (fun _ i b hb => Or.inr ⟨i, hb⟩) has (ys := []) (ss := []) (by simp [BackL])
    have hO : O = [] := by
      apply List.eq_nil_iff_forall_not_mem.mpr
      intro b hb
      obtain ⟨s', h1, _⟩ := hA.mem b hb
      exact absurd h1 (by simp)
    subst hO
    have hall : SRepL w (fun b => F b ∨ ∃ i, b ∈ B i) (fs.map .v ++ as ++ cs.map .rp) (vfs ++ args.map a.eval ++ ps) [] := by
      have h1 := srepL_v (RepL.mono (F' := fun b => F b ∨ ∃ i, b ∈ B i) (fun b hb => Or.inl hb) _ _ _ hfs)
      have h2 := srepL_rp (RepL.mono (F' := fun b => F b ∨ ∃ i, b ∈ B i) (fun b hb => Or.inl hb) _ _ _ hcs) (hps.agree (fun _ _ => rfl) (fun b hb => Or.inl hb))
      simpa using SRepL.append (SRepL.append h1 hA.srep) h2
    refine Calls.mono (hok w _ [] _ hall List.nodup_nil (by simp) ?_) ?_
    · rintro b (hb | ⟨i, hb⟩)
      · exact s.ltF b hb
      · exact s.lt i b hb
    · rintro e w' ⟨v, F', R, O', rfl, k1, k2, k3, k4, k5, k6, k7⟩
      obtain ⟨q1, q2⟩ := SRep.flat (w' := w') (F' := F) k1 hFl
      refine k v w' ⟨F, B, [], ?_, q1, okRes_loc k6, okRes_mvc k6, ?_⟩
      · have := s.world (H' := []) k7.size (fun b hb _ => k7.keep b hb (by simp)) List.nodup_nil (by simp)
        simpa [ovl] using this
      · exact ⟨k7.os, k7.tape, k7.output, k7.size, fun b hb _ => k7.keep b hb (by simp), fun _ h => h, fun _ h => Or.inl h, fun _ h => Or.inl h⟩
  | false =>
    simp only [Bool.false_eq_true, if_false] at hu0
    obtain ⟨F1, B1, s1, e1⟩ := s.frzArgs hu0
    obtain ⟨O, hA0⟩ := s1.argsV (Fc := F1) (fun b hb => hb) (by simp) has hbl
    have hA := hA0.avoid s1.nd s1.dj O hkn (fun b hb => Or.inl hb)
    have hOn := hA.nodup s1.nd s1.dj hkn
    have hOm := hA.mem
    have hall : SRepL w F1 (fs.map .v ++ as ++ cs.map .rp) (vfs ++ args.map a.eval ++ ps) O := by
      have h1 := srepL_v (RepL.mono (F' := F1) (fun b hb => e1.mono b hb) _ _ _ hfs)
      have h2 := srepL_rp (RepL.mono (F' := F1) (fun b hb => e1.mono b hb) _ _ _ hcs) (hps.agree (fun _ _ => rfl) (fun b hb => e1.mono b hb))
      simpa using SRepL.append (SRepL.append h1 hA.srep) h2
    refine Calls.mono (hok w F1 O _ hall hOn ?_ s1.ltF) ?_
    · intro b hb
      obtain ⟨s', _, h2⟩ := hOm b hb
      exact ⟨s1.nF _ b h2, s1.lt _ b h2⟩
    · rintro e w' ⟨v, F', R, O', rfl, k1, k2, k3, k4, k5, k6, k7⟩
      have hcut : Back w' F' as (args.map a.eval) ys O' := by
        rw [List.append_assoc, List.append_assoc] at k2
        have hl1 : vfs.length = (fs.map V.v).length := by rw [List.length_map]; exact hfs.length
        have h1 := Back.skip (by
          intro p hp
          obtain ⟨d, _, rfl⟩ := List.mem_map.mp hp
          rfl) hl1 k2
        refine Back.cut (by
          intro p hp
          obtain ⟨d, _, rfl⟩ := List.mem_map.mp hp
          rfl) hA.srep.length h1
      have hperm : (R ++ O').Perm (O' ++ R) := List.perm_append_comm
      have e2 : Ext F1 (fun b => b ∈ O) w F' (fun b => b ∈ O' ++ R) w' := { k7 with newO := fun b hb => k7.newO b (hperm.mem_iff.mpr hb) }
      have sX := s1.lend (X := fun i => i ∈ ss.map (·.1)) (O := O) (H := O' ++ R) (F' := F') (w' := w') (by
          intro i hi
          obtain ⟨s', h1, rfl⟩ := List.mem_map.mp hi
          exact (hA.pins s1.nd s' h1).1) (by
          intro b hb
          obtain ⟨s', h1, h2⟩ := hOm b hb
          exact ⟨s'.1, List.mem_map_of_mem h1, h2⟩) (by
          intro d hd p z hv hp b0 hb0
          obtain ⟨s', h1, rfl⟩ := List.mem_map.mp hd
          obtain ⟨_, L, q1, q2⟩ := hA.pins s1.nd s' h1
          exact q1 b0 (q2 p z hv hp b0 hb0)) (hperm.nodup_iff.mp k3) (fun b hb => (k4 b (hperm.mem_iff.mpr hb)).1) (fun b hb => (k4 b (hperm.mem_iff.mpr hb)).2) k5 e2
      obtain ⟨B', r1, r2⟩ := sX.backs (B0 := B1) s1.nd (fun b hb => e2.mono b hb) (fun b hb => e2.keep b (s1.ltF b hb) fun ho => by
          obtain ⟨s', _, h2⟩ := hOm b ho
          exact s1.nF _ b h2 hb) (fun i b hb ho => e2.keep b (s1.lt i b hb) ho) hA hcut hkn (fun s' hs' => ⟨List.mem_map_of_mem hs', rfl, rfl⟩)
      have s2 := r1.done (by
        rintro i ⟨h1, h2⟩
        exact h2 h1)
      refine k v w' ⟨F', B', R, by rw [ovl_app]; exact s2, k1, okRes_loc k6, okRes_mvc k6, e1.trans ?_⟩
      refine ⟨e2.os, e2.tape, e2.output, e2.size, fun b hb hn => e2.keep b hb fun ho => ?_, e2.mono, fun b hb => ?_, fun b hb => ?_⟩
      · obtain ⟨s', _, h2⟩ := hOm b ho
        exact hn (Or.inl ⟨_, h2⟩)
      · rcases e2.newF b hb with q | q | q
        · exact Or.inl q
        · obtain ⟨s', _, h2⟩ := hOm b q
          exact Or.inr (Or.inl (Or.inl ⟨_, h2⟩))
        · exact Or.inr (Or.inr q)
      · have hO : ∀ b, b ∈ O' ++ R → Own B1 [] b ∨ w.heap.size ≤ b := by
          intro b hb
          rcases e2.newO b hb with q | q
          · obtain ⟨s', _, h2⟩ := hOm b q
            exact Or.inl (Or.inl ⟨_, h2⟩)
          · exact Or.inr q
        rcases hb with ⟨i, hb⟩ | hb
        · rcases r2 i b hb with q | q
          · exact Or.inl (Or.inl ⟨i, (mem_less.mp q).1⟩)
          · exact hO b (by simp [q])
        · exact hO b (by simp [hb])
end Go.Pi

/- Every operation is sound. -/
namespace Go.Pi
open Go
set_option linter.unusedSimpArgs false
set_option linter.unusedVariables false

theorem Sound.fnCall {C : Cfg} {cl : Cl} {F : Nat → Prop} {B : Nat → List Nat} {g : Nat → Sl} {a : Act} {w : World} {o : Oper} {c : Call} {fo : Operand} {d : D} {V : V} {u : Ov}
    (hcl : CallOK C.P cl) (s : Sim F B [] g a w) (ho : o.op = .call c) (hc : c.callee = .value fo) (hd : peek g fo = some d) (h : fnV C cl g c.args.toList d = some (V, u)) : Sound C.P F B g a w o V u := by
  unfold fnV at h
  split at h
  case h_2 => simp at h
  rename_i f fs cs
  obtain ⟨M, hM⟩ := s.peek hd
  simp only [Rep] at hM
  obtain ⟨vs, ps, rvs, e1, e2, e3, e4, _⟩ := hM
  refine Sound.callee hcl s ?_ e2 e3 e4 h
  simp only [execOp, ho, resolve, hc, e1, Deferred.ofValue, Sem.run_bind, Sem.run_pure, Result.andThen_ok, invoke]
  congr 2
  apply Array.ext'
  simp
theorem Sound.act {C : Cfg} {cl : Cl} {F : Nat → Prop} {B : Nat → List Nat} {g : Nat → Sl} {a : Act} {w : World} {o : Oper} {hh : Bool} {V : V} {u : Ov}
    (hcl : CallOK C.P cl) (s : Sim F B [] g a w) (h : actO C cl hh o.dst g o.op = some (V, u)) : Sound C.P F B g a w o V u := by
  have nil : ∀ {X : Option Go.Pi.V}, (X.map fun v => (v, ([] : Ov))) = some (V, u) → X = some V ∧ u = [] := by
    intro X hX
    simp only [Option.map_eq_some_iff] at hX
    obtain ⟨v, h1, h2⟩ := hX
    injection h2 with h2 h3
    exact ⟨by rw [h1, h2], h3.symm⟩
  cases ho : o.op <;> rw [ho] at h <;> simp only [actO] at h
  case move x =>
    refine Sound.value (val := a.eval x) (w' := w) ?_ (s.moveV h)
    simp only [execOp, ho, Sem.run_pure]
  case assign x =>
    refine Sound.value (val := a.eval x) (w' := w) ?_ (s.assignV h)
    simp only [execOp, ho, Sem.run_pure]
  case pick c x y =>
    simp only [Option.bind_eq_some_iff] at h
    obtain ⟨d, hd, h⟩ := h
    exact Sound.pick s ho hd h
  case alloc t =>
    simp only [Option.map_eq_some_iff] at h
    obtain ⟨z, hz, h⟩ := h
    injection h with h1 h2
    subst h1 h2
    exact Sound.alloc s ho hz
  case box t x => exact Sound.box s ho h
  case build t parts => exact Sound.build s ho h
  case buildSlice t len parts => exact Sound.buildSlice s ho h
  case load t x =>
    simp only [Option.bind_eq_some_iff] at h
    obtain ⟨⟨n, ag⟩, ht, h⟩ := h
    obtain ⟨h1, rfl⟩ := nil h
    exact Sound.load s ho ht h1
  case store t x y =>
    simp only [Option.bind_eq_some_iff] at h
    obtain ⟨⟨n, ag⟩, ht, h⟩ := h
    exact Sound.store s ho ht h
  case nilCheck x =>
    obtain ⟨h1, rfl⟩ := nil h
    exact Sound.nilCheck s ho h1
  case binOp op t x y t' =>
    simp only [Option.bind_eq_some_iff, Option.map_eq_some_iff] at h
    obtain ⟨d1, h1, d2, h2, d, h3, h4⟩ := h
    injection h4 with h4 h5
    subst h4 h5
    exact Sound.binOp s ho h1 h2 h3
  case unOp op t x =>
    simp only [Option.bind_eq_some_iff, Option.map_eq_some_iff] at h
    obtain ⟨d1, h1, d, h3, h4⟩ := h
    injection h4 with h4 h5
    subst h4 h5
    exact Sound.unOp s ho h1 h3
  case convert src dst x =>
    simp only [Option.bind_eq_some_iff] at h
    obtain ⟨d1, h1, h⟩ := h
    obtain ⟨h2, rfl⟩ := nil h
    exact Sound.convert s ho h1 h2
  case makeFunc fn first caps => exact Sound.makeFunc s ho h
  case makeSlice t l c => exact Sound.makeSlice s ho h
  case slice t x lo hi mx => exact Sound.slice s ho h
  case fieldAddr t x f =>
    obtain ⟨h1, rfl⟩ := nil h
    exact Sound.fieldAddr s ho h1
  case field t x f =>
    obtain ⟨h1, rfl⟩ := nil h
    exact Sound.field s ho h1
  case indexAddr t x i =>
    obtain ⟨h1, rfl⟩ := nil h
    exact Sound.indexAddr s ho h1
  case index t x i =>
    obtain ⟨h1, rfl⟩ := nil h
    exact Sound.index s ho h1
  case extract x k => exact Sound.extract s ho h
  case call c =>
    cases hc : c.callee <;> rw [hc] at h <;> simp only [calls] at h
    case builtin b => exact Sound.bcall s ho hc h
    case value fo =>
      simp only [Option.bind_eq_some_iff] at h
      obtain ⟨d, hd, h⟩ := h
      exact Sound.fnCall hcl s ho hc hd h
    all_goals simp at h
  all_goals simp at h
end Go.Pi
