/- Part 6 of an interpreter over value trees, shown sound for the model. -/
import Derived.Test.YtgclannlnahaeaaP5
set_option linter.unusedVariables false
set_option linter.unusedSimpArgs false
set_option linter.unusedSectionVars false
/- What an operation looks at. -/
namespace Go.Pi
open Go
set_option linter.unusedSimpArgs false
set_option linter.unusedVariables false

/-- On a set of slots two states are alike. -/
def On (S : Nat → Prop) (g g' : Nat → Sl) : Prop := ∀ i, S i → g i = g' i
/-- An operand lies in a set of slots, with its root. -/
def In (S : Nat → Prop) (g : Nat → Sl) : Operand → Prop
  | .tmp t => S t ∧ ∀ r, rootS t (g t).v = some r → S r
  | _ => True
def noPtr : V → Bool
  | .wp .. => false
  | .ref .. => false
  | _ => true
/-- What is written lies in the set, and no reference is written. -/
def Wr (S : Nat → Prop) (u : Ov) : Prop := ∀ p ∈ u, S p.1 ∧ noPtr p.2.v = true
theorem On.ovl {S : Nat → Prop} {g g' : Nat → Sl} (h : On S g g') (u : Ov) : On S (Go.Pi.ovl u g) (Go.Pi.ovl u g') := by
  intro i hi
  induction u with
  | nil => exact h i hi
  | cons p u ih =>
    obtain ⟨j, s⟩ := p
    simp only [Go.Pi.ovl]
    rw [ih]
theorem In.ovl {S : Nat → Prop} {g : Nat → Sl} {o : Operand} {u : Ov} (h : In S g o) (k : Wr S u) : In S (Go.Pi.ovl u g) o := by
  cases o with
  | tmp t =>
    refine ⟨h.1, fun r hr => ?_⟩
    rcases ovl_mem u g t with q | ⟨s, q1, q2⟩
    · rw [q] at hr; exact h.2 r hr
    · rw [q2] at hr
      have := k (t, s) q1
      cases hv : s.v <;> rw [hv] at hr this <;> simp [rootS, noPtr] at hr this
      all_goals (rw [← hr]; exact h.1)
  | _ => trivial
theorem Wr.nil {S : Nat → Prop} : Wr S [] := by intro p hp; simp at hp
theorem Wr.app {S : Nat → Prop} {u u' : Ov} (h : Wr S u) (k : Wr S u') : Wr S (u' ++ u) := by
  intro p hp
  rcases List.mem_append.mp hp with hp | hp
  · exact k p hp
  · exact h p hp
theorem Wr.one {S : Nat → Prop} {i : Nat} {s : Sl} (h : S i) (k : noPtr s.v = true) : Wr S [(i, s)] := by
  intro p hp
  simp at hp
  subst hp
  exact ⟨h, k⟩
section
variable {S : Nat → Prop} {g g' : Nat → Sl} (hg : On S g g')
include hg
theorem refD_on {r iv cv off n : Nat} {hop : Hop} {ag : Bool} (hr : S r) : refD g r iv cv hop off n ag = refD g' r iv cv hop off n ag := by
  unfold refD
  rw [hg r hr]
theorem putAt_on {r off k : Nat} {hop : Hop} {y : D} (hr : S r) : putAt g r hop off y k = putAt g' r hop off y k := by
  unfold putAt
  rw [hg r hr]
theorem peek_on {o : Operand} (h : In S g o) : peek g o = peek g' o := by
  cases o with
  | tmp t =>
    simp only [peek, ← hg t h.1]
    unfold peekS
    split <;> try rfl
    rename_i r iv cv hop off n ag hv
    exact refD_on hg (h.2 r (by rw [hv]; rfl))
  | _ => rfl
theorem takeR_on {r off : Nat} {hop : Hop} {mv : Bool} {y : D} (hr : S r) : takeR g r hop off mv y = takeR g' r hop off mv y := by
  unfold takeR
  rw [putAt_on hg hr, putAt_on hg hr]
theorem take_on {o : Operand} {mv : Bool} (h : In S g o) : take mv g o = take mv g' o := by
  cases o with
  | tmp t =>
    simp only [take, ← hg t h.1]
    unfold takeS
    split <;> try rfl
    rename_i i c r iv cv hop off n ag hs
    have hr : S r := h.2 r (by rw [hs]; rfl)
    rw [refD_on hg hr]
    congr 1
    funext y
    exact takeR_on hg hr
  | _ => rfl
theorem moveV_on {o : Operand} {mv : Bool} (h : In S g o) : moveV mv g o = moveV mv g' o := by
  cases o with
  | tmp t => simp only [moveV, ← hg t h.1]
  | _ => rfl
theorem assignV_on {o : Operand} {mv : Bool} (h : In S g o) : assignV mv g o = assignV mv g' o := by
  cases o with
  | tmp t =>
    have ht := take_on hg (mv := mv) h
    simp only [take, ← hg t h.1] at ht
    simp only [assignV, ← hg t h.1]
    unfold assignS
    split <;> try rfl
    rw [ht]
  | _ => rfl
theorem placeOf_on {o : Operand} (h : In S g o) : placeOf g o = placeOf g' o := by
  cases o with
  | tmp t =>
    simp only [placeOf, ← hg t h.1]
    unfold placeS
    split <;> try rfl
    rename_i r iv cv hop off hv
    rw [hg r (h.2 r (by rw [hv]; rfl))]
  | _ => rfl
theorem refV_on {r off n : Nat} {hop : Hop} {ag : Bool} (hr : S r) : refV g r hop off n ag = refV g' r hop off n ag := by
  unfold refV
  rw [hg r hr]
theorem place_in {o : Operand} {p : Place} (h : In S g o) (hp : placeOf g o = some p) : S p.1 := by
  cases o with
  | tmp t =>
    simp only [placeOf] at hp
    unfold placeS at hp
    split at hp
    · injection hp with hp
      subst hp
      exact h.1
    · rename_i r iv cv hop off hv
      split at hp
      · injection hp with hp
        subst hp
        exact h.2 r (by rw [hv]; rfl)
      · simp at hp
    · simp at hp
  | _ => simp [placeOf] at hp
theorem loadV_on {o : Operand} {n : Nat} {ag : Bool} (h : In S g o) : loadV g o n ag = loadV g' o n ag := by
  cases o with
  | tmp t =>
    have hp := placeOf_on hg h
    have hin := fun p => place_in (p := p) hg h
    simp only [placeOf] at hp hin
    rw [← hg t h.1] at hp
    simp only [loadV, ← hg t h.1]
    unfold loadS
    split
    · rfl
    · rw [← hp]
      cases hq : placeS g t (g t).v with
      | none => rfl
      | some p =>
        obtain ⟨r, hop, off⟩ := p
        simp only [Option.bind_some]
        exact refV_on hg (hin _ hq)
  | _ => rfl
end
/-- What is written. -/
theorem withD_noPtr {v : V} {x y : D} (h : rootD v = some x) : noPtr (withD v y) = true := by
  cases v <;> simp [rootD] at h <;> rfl
theorem putAt_wr {S : Nat → Prop} {g : Nat → Sl} {r off k : Nat} {hop : Hop} {y : D} {s : Nat × Sl} (hr : S r) (h : putAt g r hop off y k = some s) : Wr S [s] := by
  unfold putAt at h
  simp only [Option.bind_eq_some_iff, Option.map_eq_some_iff] at h
  obtain ⟨x, hx, cs, _, rfl⟩ := h
  exact Wr.one hr (withD_noPtr hx)
theorem take_wr {S : Nat → Prop} {g : Nat → Sl} {o : Operand} {mv : Bool} {y : D} {u : Ov} (h : In S g o) (k : take mv g o = some (y, u)) : Wr S u := by
  cases o with
  | tmp t =>
    simp only [take] at k
    unfold takeS at k
    split at k
    · injection k with k
      injection k with k1 k2
      subst k2
      exact Wr.nil
    · split at k <;>
      · injection k with k
        injection k with k1 k2
        subst k2
        exact Wr.one h.1 rfl
    · rename_i i c r iv cv hop off n ag hs
      have hr : S r := h.2 r (by rw [hs]; rfl)
      simp only [Option.bind_eq_some_iff] at k
      obtain ⟨y0, _, k⟩ := k
      unfold takeR at k
      split at k <;>
      · simp only [Option.map_eq_some_iff] at k
        obtain ⟨s, hs', k⟩ := k
        injection k with k1 k2
        subst k2
        exact putAt_wr hr hs'
    · simp at k
  | const c =>
    simp only [take, Option.map_eq_some_iff] at k
    obtain ⟨x, _, k⟩ := k
    injection k with k1 k2
    subst k2
    exact Wr.nil
  | func f =>
    simp only [take, Option.some.injEq, Prod.mk.injEq] at k
    obtain ⟨_, rfl⟩ := k
    exact Wr.nil
  | global _ => simp [take] at k
theorem bind_eq {α β : Type} {a a' : Option α} {k k' : α → Option β} (h : a = a') (hk : ∀ x, a = some x → k x = k' x) : a.bind k = a'.bind k' := by
  subst h
  cases a with
  | none => rfl
  | some x => exact hk x rfl
theorem map_eq {α β : Type} {a a' : Option α} {k : α → β} (h : a = a') : a.map k = a'.map k := by rw [h]
theorem storeV_on {S : Nat → Prop} {g g' : Nat → Sl} (hg : On S g g') {a x : Operand} {n : Nat} {mv : Bool} (ha : In S g a) (hx : In S g x) : storeV mv g a x n = storeV mv g' a x n := by
  unfold storeV
  refine bind_eq (take_on hg hx) fun ⟨y, u⟩ hu => ?_
  have hw := take_wr hx hu
  have hg1 := hg.ovl u
  have ha1 := ha.ovl hw
  simp only
  split
  · refine bind_eq (placeOf_on hg1 ha1) fun p hp => ?_
    have hr := place_in hg1 ha1 hp
    unfold storeAt
    rw [hg1 p.1 hr, putAt_on hg1 hr]
  · rfl
theorem takes_on {S : Nat → Prop} {mv : Bool} : ∀ {os : List Operand} {g g' : Nat → Sl}, On S g g' → (∀ o ∈ os, In S g o) → takes mv g os = takes mv g' os
  | [], g, g', _, _ => rfl
  | o :: os, g, g', hg, h => by
    unfold takes
    refine bind_eq (take_on hg (h o (by simp))) fun ⟨y, u⟩ hu => ?_
    have hw := take_wr (h o (by simp)) hu
    exact map_eq (takes_on (hg.ovl u) fun o' ho' => (h o' (by simp [ho'])).ovl hw)
theorem takes_wr {S : Nat → Prop} {mv : Bool} : ∀ {os : List Operand} {g : Nat → Sl} {ys : List D} {u : Ov}, (∀ o ∈ os, In S g o) → takes mv g os = some (ys, u) → Wr S u
  | [], g, ys, u, _, k => by
    simp only [takes, Option.some.injEq, Prod.mk.injEq] at k
    obtain ⟨_, rfl⟩ := k
    exact Wr.nil
  | o :: os, g, ys, u, h, k => by
    simp only [takes, Option.bind_eq_some_iff, Option.map_eq_some_iff] at k
    obtain ⟨⟨y, u1⟩, h1, ⟨ys', u2⟩, h2, h3⟩ := k
    injection h3 with h3 h4
    subst h4
    have hw := take_wr (h o (by simp)) h1
    exact hw.app (takes_wr (fun o' ho' => (h o' (by simp [ho'])).ovl hw) h2)
end Go.Pi

/- What an operation looks at: all operations. -/
namespace Go.Pi
open Go
set_option linter.unusedSimpArgs false
set_option linter.unusedVariables false

section
variable {S : Nat → Prop} {g g' : Nat → Sl} (hg : On S g g')
include hg
theorem bnd_on {o : Option Operand} (h : ∀ x, o = some x → In S g x) : bnd g o = bnd g' o := by
  cases o with
  | none => rfl
  | some x =>
    unfold bnd
    simp only [peek_on hg (h x rfl)]
theorem sliceV_on {P : Program} {t : TypeId} {x : Operand} {lo hi mx : Option Operand} (hx : In S g x) (h1 : ∀ x, lo = some x → In S g x) (h2 : ∀ x, hi = some x → In S g x) (h3 : ∀ x, mx = some x → In S g x) :
    sliceV P g t x lo hi mx = sliceV P g' t x lo hi mx := by
  unfold sliceV
  rw [bnd_on hg h1, bnd_on hg h2, bnd_on hg h3, peek_on hg hx, take_on hg hx]
theorem buildV_on {P : Program} {mv : Bool} {t : TypeId} {parts : List (Nat × Operand)} (h : ∀ x ∈ parts.map (·.2), In S g x) : buildV P mv g t parts = buildV P mv g' t parts := by
  unfold buildV
  rw [takes_on hg h]
theorem buildSliceV_on {P : Program} {mv : Bool} {t : TypeId} {len : Nat} {parts : List (Nat × Operand)} (h : ∀ x ∈ parts.map (·.2), In S g x) : buildSliceV P mv g t len parts = buildSliceV P mv g' t len parts := by
  unfold buildSliceV
  rw [takes_on hg h]
theorem makeSliceV_on {P : Program} {t : TypeId} {l c : Operand} (h1 : In S g l) (h2 : In S g c) : makeSliceV P g t l c = makeSliceV P g' t l c := by
  unfold makeSliceV
  rw [peek_on hg h1, peek_on hg h2]
theorem appendV_on {P : Program} {mv : Bool} {t tx : TypeId} {s x : Operand} (h1 : In S g s) (h2 : In S g x) : appendV P mv g t tx s x = appendV P mv g' t tx s x := by
  unfold appendV
  refine bind_eq (take_on hg h1) fun ⟨y, u⟩ hu => ?_
  have hw := take_wr h1 hu
  simp only
  rw [take_on (hg.ovl u) (h2.ovl hw)]
theorem indexAddrV_on {P : Program} {t : TypeId} {x i : Operand} (h1 : In S g x) (h2 : In S g i) : indexAddrV P g t x i = indexAddrV P g' t x i := by
  unfold indexAddrV
  rw [peek_on hg h2]
  refine bind_eq rfl fun p _ => bind_eq rfl fun n _ => bind_eq rfl fun j _ => ?_
  cases x with
  | tmp t =>
    unfold iaT
    simp only [← hg t h1.1]
    split
    · unfold iaS
      split <;> try rfl
      rename_i c0 c1 r iv cv hop off n ag hs
      rw [refD_on hg (h1.2 r (by rw [hs]; rfl))]
    · rfl
  | _ => rfl
theorem indexV_on {P : Program} {t : TypeId} {x i : Operand} (h1 : In S g x) (h2 : In S g i) : indexV P g t x i = indexV P g' t x i := by
  unfold indexV
  rw [peek_on hg h1, peek_on hg h2]
theorem live_on {r iv cv : Nat} {hop : Hop} {v : V} (hr : S r) : live g r iv cv hop v = live g' r iv cv hop v := by
  unfold live
  rw [hg r hr]
theorem fieldAddrV_on {P : Program} {t : TypeId} {x : Operand} {f : Nat} (h : In S g x) : fieldAddrV P g t x f = fieldAddrV P g' t x f := by
  unfold fieldAddrV
  refine bind_eq rfl fun p _ => ?_
  cases x with
  | tmp t =>
    simp only [← hg t h.1]
    unfold faS
    split <;> try rfl
    rename_i c0 c1 r iv cv hop off hs
    exact live_on hg (h.2 r (by rw [hs]; rfl))
  | _ => rfl
theorem fieldV_on {P : Program} {t : TypeId} {x : Operand} {f : Nat} (h : In S g x) : fieldV P g t x f = fieldV P g' t x f := by
  unfold fieldV
  refine bind_eq rfl fun p _ => ?_
  cases x with
  | tmp t =>
    simp only [← hg t h.1]
    unfold fdS
    split <;> try rfl
    · exact refV_on hg h.1
    · rename_i r iv cv hop off k hs
      have hr := h.2 r (by rw [hs]; rfl)
      rw [hg r hr, refV_on hg hr]
  | _ => rfl
theorem extractV_on {x : Operand} {k : Nat} (h : In S g x) : extractV g x k = extractV g' x k := by
  cases x with
  | tmp t => simp only [extractV, ← hg t h.1]
  | _ => rfl
theorem capV_on {x : Operand} (h : In S g x) : capV g x = capV g' x := by
  cases x with
  | tmp t => simp only [capV, ← hg t h.1]
  | _ => rfl
theorem frzV_on {x : Operand} (h : In S g x) : frzV g x = frzV g' x := by
  cases x with
  | tmp t =>
    simp only [frzV, ← hg t h.1]
    unfold frzS
    split <;> try rfl
    rename_i c0 c1 r iv cv hop off n ag hs
    have hr := h.2 r (by rw [hs]; rfl)
    rw [refD_on hg hr]
    refine bind_eq rfl fun y _ => ?_
    rw [putAt_on hg hr]
  | _ => rfl
theorem argV_on {io fl : Bool} {x : Operand} (h : In S g x) : argV io fl g x = argV io fl g' x := by
  cases x with
  | tmp t =>
    simp only [argV, ← hg t h.1]
    unfold argS
    split <;> try rfl
    · rename_i c0 c1 r iv cv hop off n ag hs
      rw [refD_on hg (h.2 r (by rw [hs]; rfl))]
    · rename_i c0 c1 r iv cv hs
      rw [hg r (h.2 r (by rw [hs]; rfl))]
  | _ => rfl
theorem isPtr_on {x : Operand} (h : In S g x) : isPtr g x = isPtr g' x := by
  cases x with
  | tmp t => simp only [isPtr, ← hg t h.1]
  | _ => rfl
theorem nilV_on {x : Operand} (h : In S g x) : nilV g x = nilV g' x := by
  cases x with
  | tmp t =>
    simp only [nilV, ← hg t h.1]
    unfold nilS
    split <;> try rfl
    rename_i c0 c1 r iv cv hop off hs
    exact live_on hg (h.2 r (by rw [hs]; rfl))
  | _ => rfl
theorem boxV_on {mv : Bool} {dst : Option Tmp} {x : Operand} (h : In S g x) (hd : ∀ d, dst = some d → S d) : boxV mv g dst x = boxV mv g' dst x := by
  have ht := take_on hg (mv := mv) h
  cases x with
  | tmp t =>
    simp only [take, ← hg t h.1] at ht
    simp only [boxV, ← hg t h.1]
    unfold boxS
    split
    · refine bind_eq rfl fun d hd' => ?_
      rw [hg d (hd d hd')]
    · rw [ht]
  | _ => simp only [boxV, ht]
theorem noLinks_on {io : Nat → Bool} : ∀ {os : List Operand} {i : Nat}, (∀ o ∈ os, In S g o) → noLinks io g i os = noLinks io g' i os
  | [], _, _ => rfl
  | o :: os, i, h => by
    unfold noLinks
    rw [isPtr_on hg (h o (by simp)), noLinks_on (fun o' ho' => h o' (by simp [ho']))]
theorem argsV_on {io : Nat → Bool} {fl : Bool} : ∀ {os : List Operand} {i : Nat}, (∀ o ∈ os, In S g o) → argsV io fl g i os = argsV io fl g' i os
  | [], _, _ => rfl
  | o :: os, i, h => by
    unfold argsV
    rw [argV_on hg (h o (by simp)), argsV_on (fun o' ho' => h o' (by simp [ho']))]
end
theorem capV_wr {S : Nat → Prop} {g : Nat → Sl} {o : Operand} {y : D} {u : Ov} (h : In S g o) (k : capV g o = some (y, u)) : Wr S u := by
  unfold capV at k
  split at k
  · rename_i t
    unfold capS at k
    split at k
    · injection k with k
      injection k with k1 k2
      subst k2
      exact Wr.nil
    · injection k with k
      injection k with k1 k2
      subst k2
      exact Wr.one h.1 rfl
    · simp at k
  · simp at k
theorem capsV_on {S : Nat → Prop} : ∀ {os : List Operand} {g g' : Nat → Sl}, On S g g' → (∀ o ∈ os, In S g o) → capsV g os = capsV g' os
  | [], g, g', _, _ => rfl
  | o :: os, g, g', hg, h => by
    unfold capsV
    refine bind_eq (capV_on hg (h o (by simp))) fun ⟨y, u⟩ hu => ?_
    have hw := capV_wr (h o (by simp)) hu
    exact map_eq (capsV_on (hg.ovl u) fun o' ho' => (h o' (by simp [ho'])).ovl hw)
theorem makeFuncV_on {S : Nat → Prop} {g g' : Nat → Sl} (hg : On S g g') {mv : Bool} {fn : Fn} {first caps : List Operand} (h1 : ∀ o ∈ first, In S g o) (h2 : ∀ o ∈ caps, In S g o) :
    makeFuncV mv g fn first caps = makeFuncV mv g' fn first caps := by
  unfold makeFuncV
  split <;> try rfl
  refine bind_eq (takes_on hg h1) fun ⟨ys, u⟩ hu => ?_
  have hw := takes_wr h1 hu
  exact map_eq (capsV_on (hg.ovl u) fun o ho => (h2 o ho).ovl hw)
theorem frzV_wr {S : Nat → Prop} {g : Nat → Sl} {o : Operand} {u : Ov} (h : In S g o) (k : frzV g o = some u) : Wr S u := by
  unfold frzV at k
  split at k
  · rename_i t
    unfold frzS at k
    split at k
    · injection k with k
      subst k
      exact Wr.one h.1 rfl
    · rename_i c0 c1 r iv cv hop off n ag hs
      have hr := h.2 r (by rw [hs]; rfl)
      simp only [Option.bind_eq_some_iff, Option.map_eq_some_iff] at k
      obtain ⟨y, _, s, hs', rfl⟩ := k
      exact putAt_wr hr hs'
    · injection k with k
      subst k
      exact Wr.nil
  · injection k with k
    subst k
    exact Wr.nil
theorem frzArgs_on {S : Nat → Prop} {io : Nat → Bool} : ∀ {os : List Operand} {i : Nat} {g g' : Nat → Sl}, On S g g' → (∀ o ∈ os, In S g o) → frzArgs io g i os = frzArgs io g' i os
  | [], i, g, g', _, _ => rfl
  | o :: os, i, g, g', hg, h => by
    unfold frzArgs
    refine bind_eq ?_ fun u hu => ?_
    · split
      · rfl
      · exact frzV_on hg (h o (by simp))
    · have hw : Wr S u := by
        split at hu
        · injection hu with hu
          subst hu
          exact Wr.nil
        · exact frzV_wr (h o (by simp)) hu
      exact map_eq (frzArgs_on (hg.ovl u) fun o' ho' => (h o' (by simp [ho'])).ovl hw)
theorem frzArgs_wr {S : Nat → Prop} {io : Nat → Bool} : ∀ {os : List Operand} {i : Nat} {g : Nat → Sl} {u : Ov}, (∀ o ∈ os, In S g o) → frzArgs io g i os = some u → Wr S u
  | [], i, g, u, _, k => by
    simp only [frzArgs, Option.some.injEq] at k
    subst k
    exact Wr.nil
  | o :: os, i, g, u, h, k => by
    simp only [frzArgs, Option.bind_eq_some_iff, Option.map_eq_some_iff] at k
    obtain ⟨u1, h1, u2, h2, rfl⟩ := k
    have hw : Wr S u1 := by
      split at h1
      · injection h1 with h1
        subst h1
        exact Wr.nil
      · exact frzV_wr (h o (by simp)) h1
    exact hw.app (frzArgs_wr (fun o' ho' => (h o' (by simp [ho'])).ovl hw) h2)
theorem argR_root {io fl : Bool} {r off : Nat} {hop : Hop} {y : D} {v : V} {l : Link} (h : argR io fl r hop off y = some (v, some l)) : l.r = r := by
  unfold argR at h
  split at h
  · simp only [Option.some.injEq, Prod.mk.injEq] at h
    rw [← h.2]
  · split at h <;> simp at h
theorem argB_root {r : Nat} {x v : V} {l : Link} (h : argB r x = some (v, some l)) : l.r = r := by
  unfold argB at h
  split at h
  · split at h
    · simp only [Option.some.injEq, Prod.mk.injEq] at h
      rw [← h.2]
    · simp at h
  · simp at h
theorem argV_root {S : Nat → Prop} {g : Nat → Sl} {io fl : Bool} {o : Operand} {v : V} {l : Link} (h : In S g o) (k : argV io fl g o = some (v, some l)) : S l.r := by
  unfold argV at k
  split at k
  · simp only [Option.map_eq_some_iff, Prod.mk.injEq, reduceCtorEq, and_false, exists_false] at k
  · simp at k
  · simp at k
  · rename_i t
    unfold argS at k
    split at k
    · simp at k
    · simp at k
    · rw [argR_root k]; exact h.1
    · rename_i c0 c1 r iv cv hop off n ag hs
      simp only [Option.bind_eq_some_iff] at k
      obtain ⟨y, _, k⟩ := k
      rw [argR_root k]
      exact h.2 r (by rw [hs]; rfl)
    · rw [argB_root k]; exact h.1
    · rename_i c0 c1 r iv cv hs
      split at k
      · rw [argB_root k]
        exact h.2 r (by rw [hs]; rfl)
      · simp at k
    · simp at k
theorem argsV_roots {S : Nat → Prop} {g : Nat → Sl} {io : Nat → Bool} {fl : Bool} : ∀ {os : List Operand} {i : Nat} {as : List V} {ls : List Link}, (∀ o ∈ os, In S g o) → argsV io fl g i os = some (as, ls) → ∀ l ∈ ls, S l.r
  | [], i, as, ls, _, k => by
    simp only [argsV, Option.some.injEq, Prod.mk.injEq] at k
    obtain ⟨_, rfl⟩ := k
    simp
  | o :: os, i, as, ls, h, k => by
    simp only [argsV, Option.bind_eq_some_iff, Option.map_eq_some_iff] at k
    obtain ⟨⟨v, l⟩, h1, ⟨as', ls'⟩, h2, h3⟩ := k
    injection h3 with h3 h4
    subst h4
    intro l' hl'
    rcases List.mem_append.mp hl' with hl' | hl'
    · cases l with
      | none => simp at hl'
      | some l0 =>
        simp at hl'
        subst hl'
        exact argV_root (h o (by simp)) h1
    · exact argsV_roots (fun o' ho' => h o' (by simp [ho'])) h2 l' hl'
theorem backV_on {S : Nat → Prop} : ∀ {ls : List Link} {ys : List D} {g g' : Nat → Sl}, On S g g' → (∀ l ∈ ls, S l.r) → backV g ls ys = backV g' ls ys
  | [], [], g, g', _, _ => rfl
  | [], _ :: _, g, g', _, _ => rfl
  | _ :: _, [], g, g', _, _ => rfl
  | l :: ls, y :: ys, g, g', hg, h => by
    unfold backV
    rw [putAt_on hg (h l (by simp))]
    split
    · refine bind_eq rfl fun s _ => ?_
      exact map_eq (backV_on (hg.ovl [s]) fun l' hl' => h l' (by simp [hl']))
    · rfl
theorem callA_on {S : Nat → Prop} {g g' : Nat → Sl} (hg : On S g g') {io : Nat → Bool} {fl : Bool} {cl : Cl} {f : FuncId} {fs cs : List D} {args : List Operand} (h : ∀ o ∈ args, In S g o) : callA io fl cl g f fs args cs = callA io fl cl g' f fs args cs := by
  unfold callA
  refine bind_eq ?_ fun u hu => ?_
  · split
    · rfl
    · exact frzArgs_on hg h
  · have hw : Wr S u := by
      split at hu
      · injection hu with hu
        subst hu
        exact Wr.nil
      · exact frzArgs_wr h hu
    have h1 : ∀ o ∈ args, In S (ovl u g) o := fun o ho => (h o ho).ovl hw
    refine bind_eq (argsV_on (hg.ovl u) h1) fun ⟨as, ls⟩ hal => ?_
    unfold callB
    split
    · refine bind_eq rfl fun ⟨res, ys⟩ _ => ?_
      simp only
      split
      · rfl
      · exact map_eq (backV_on (hg.ovl u) (argsV_roots h1 hal))
    · rfl
theorem calleeV_on {S : Nat → Prop} {g g' : Nat → Sl} (hg : On S g g') {C : Cfg} {cl : Cl} {f : FuncId} {fs cs : List D} {args : List Operand} (h : ∀ o ∈ args, In S g o) : calleeV C cl g f fs args cs = calleeV C cl g' f fs args cs := by
  unfold calleeV
  refine bind_eq rfl fun fl _ => ?_
  unfold callV
  rw [noLinks_on hg h, callA_on hg h]
theorem bcall_on {S : Nat → Prop} {g g' : Nat → Sl} (hg : On S g g') {C : Cfg} {hh : Bool} {b : Builtin} {args : List Operand} {ts : List TypeId} (h : ∀ o ∈ args, In S g o) : bcall C hh g b args ts = bcall C hh g' b args ts := by
  unfold bcall
  split <;> try rfl
  · rename_i x t
    unfold lenV
    rw [peek_on hg (h x (by simp))]
  · rename_i s x t tx
    exact appendV_on hg (h s (by simp)) (h x (by simp))
  · rename_i _ x y
    unfold mmV
    rw [peek_on hg (h x (by simp)), peek_on hg (h y (by simp))]
  · rename_i _ x y
    unfold mmV
    rw [peek_on hg (h x (by simp)), peek_on hg (h y (by simp))]
theorem actO_on {S : Nat → Prop} {g g' : Nat → Sl} (hg : On S g g') {C : Cfg} {cl : Cl} {hh : Bool} {dst : Option Tmp} {op : Op} (hd : ∀ d, dst = some d → S d) (h : ∀ x ∈ op.operands.toList, In S g x) :
    actO C cl hh dst g op = actO C cl hh dst g' op := by
  cases op <;> simp only [Op.operands] at h <;> unfold actO <;> try rfl
  case move x => exact moveV_on hg (h x (by simp))
  case assign x => exact assignV_on hg (h x (by simp))
  case pick c x y =>
    simp only
    rw [peek_on hg (h c (by simp))]
    refine bind_eq rfl fun d _ => ?_
    unfold pickV
    split <;> try rfl
    split
    · exact moveV_on hg (h x (by simp))
    · exact moveV_on hg (h y (by simp))
  case box t x => exact boxV_on hg (h x (by simp)) hd
  case build t parts => exact buildV_on hg (by simpa using h)
  case buildSlice t len parts => exact buildSliceV_on hg (by simpa using h)
  case load t x =>
    simp only
    refine bind_eq rfl fun p _ => map_eq (loadV_on hg (h x (by simp)))
  case store t x y =>
    simp only
    refine bind_eq rfl fun p _ => storeV_on hg (h x (by simp)) (h y (by simp))
  case nilCheck x => exact map_eq (nilV_on hg (h x (by simp)))
  case binOp op t x y t' => simp only; rw [peek_on hg (h x (by simp)), peek_on hg (h y (by simp))]
  case unOp op t x => simp only; rw [peek_on hg (h x (by simp))]
  case convert s d x => simp only; rw [peek_on hg (h x (by simp))]
  case makeFunc fn first caps => exact makeFuncV_on hg (fun o ho => h o (by simp [ho])) (fun o ho => h o (by simp [ho]))
  case makeSlice t l c => exact makeSliceV_on hg (h l (by simp)) (h c (by simp))
  case slice t x lo hi mx =>
    refine sliceV_on hg (h x (by simp)) (fun y hy => h y ?_) (fun y hy => h y ?_) (fun y hy => h y ?_) <;> subst hy <;> simp
  case fieldAddr t x f => exact map_eq (fieldAddrV_on hg (h x (by simp)))
  case field t x f => exact map_eq (fieldV_on hg (h x (by simp)))
  case indexAddr t x i => exact map_eq (indexAddrV_on hg (h x (by simp)) (h i (by simp)))
  case index t x i => exact map_eq (indexV_on hg (h x (by simp)) (h i (by simp)))
  case extract x k => exact extractV_on hg (h x (by simp))
  case call c =>
    simp only
    have hargs : ∀ o ∈ c.args.toList, In S g o := fun o ho => h o (by simp [Call.operands] at ho ⊢; exact Or.inr ho)
    unfold calls
    cases hc : c.callee with
    | builtin b => exact bcall_on hg hargs
    | value fo =>
      simp only
      have hfo : In S g fo := h fo (by simp [Call.operands, hc])
      rw [peek_on hg hfo]
      refine bind_eq rfl fun d _ => ?_
      unfold fnV
      split
      · exact calleeV_on hg hargs
      · rfl
    | invoke r m => rfl
end Go.Pi

/- What an operation writes; one operation of a region is local. -/
namespace Go.Pi
open Go
set_option linter.unusedSimpArgs false
set_option linter.unusedVariables false

def Ks (S : Nat → Prop) (u : Ov) : Prop := ∀ p ∈ u, S p.1
theorem Wr.ks {S : Nat → Prop} {u : Ov} (h : Wr S u) : Ks S u := fun p hp => (h p hp).1
theorem Ks.nil {S : Nat → Prop} : Ks S [] := by intro p hp; simp at hp
theorem Ks.app {S : Nat → Prop} {u u' : Ov} (h : Ks S u) (k : Ks S u') : Ks S (u' ++ u) := by
  intro p hp
  rcases List.mem_append.mp hp with hp | hp
  · exact k p hp
  · exact h p hp
theorem Ks.cons {S : Nat → Prop} {u : Ov} {p : Nat × Sl} (h : S p.1) (k : Ks S u) : Ks S (p :: u) := by
  intro q hq
  rcases List.mem_cons.mp hq with hq | hq
  · rw [hq]; exact h
  · exact k q hq
theorem moveV_ks {S : Nat → Prop} {g : Nat → Sl} {o : Operand} {mv : Bool} {V : V} {u : Ov} (h : In S g o) (k : moveV mv g o = some (V, u)) : Ks S u := by
  cases o with
  | tmp t =>
    simp only [moveV] at k
    unfold moveS at k
    split at k
    case h_2 =>
      split at k <;> (injection k with k; injection k with k1 k2; subst k2)
      · exact Ks.cons h.1 Ks.nil
      · exact Ks.nil
    all_goals first
      | (simp at k; done)
      | (injection k with k; injection k with k1 k2; subst k2; exact Ks.nil)
      | (injection k with k; injection k with k1 k2; subst k2; exact Ks.cons h.1 Ks.nil)
  | const c =>
    simp only [moveV, Option.map_eq_some_iff] at k
    obtain ⟨x, _, k⟩ := k
    injection k with k1 k2
    subst k2
    exact Ks.nil
  | func f =>
    simp only [moveV, Option.some.injEq, Prod.mk.injEq] at k
    obtain ⟨_, rfl⟩ := k
    exact Ks.nil
  | global _ => simp [moveV] at k
theorem assignV_ks {S : Nat → Prop} {g : Nat → Sl} {o : Operand} {mv : Bool} {V : V} {u : Ov} (h : In S g o) (k : assignV mv g o = some (V, u)) : Ks S u := by
  cases o with
  | tmp t =>
    simp only [assignV] at k
    unfold assignS at k
    split at k
    · split at k
      · injection k with k
        injection k with k1 k2
        subst k2
        exact Ks.cons h.1 Ks.nil
      · simp at k
    · injection k with k
      injection k with k1 k2
      subst k2
      exact Ks.nil
    · simp only [Option.map_eq_some_iff] at k
      obtain ⟨⟨y, u'⟩, h1, k⟩ := k
      injection k with k1 k2
      subst k2
      exact (take_wr (o := .tmp t) (mv := mv) h h1).ks
  | const c =>
    simp only [assignV, Option.map_eq_some_iff] at k
    obtain ⟨x, _, k⟩ := k
    injection k with k1 k2
    subst k2
    exact Ks.nil
  | func f =>
    simp only [assignV, Option.some.injEq, Prod.mk.injEq] at k
    obtain ⟨_, rfl⟩ := k
    exact Ks.nil
  | global _ => simp [assignV] at k
theorem boxV_ks {S : Nat → Prop} {g : Nat → Sl} {o : Operand} {mv : Bool} {dst : Option Tmp} {V : V} {u : Ov} (h : In S g o) (k : boxV mv g dst o = some (V, u)) : Ks S u := by
  cases o with
  | tmp t =>
    simp only [boxV] at k
    unfold boxS at k
    split at k
    · simp only [Option.bind_eq_some_iff] at k
      obtain ⟨d, _, k⟩ := k
      split at k
      · injection k with k
        injection k with k1 k2
        subst k2
        exact Ks.cons h.1 Ks.nil
      · simp at k
    · simp only [Option.map_eq_some_iff] at k
      obtain ⟨⟨y, u'⟩, h1, k⟩ := k
      injection k with k1 k2
      subst k2
      exact (take_wr (o := .tmp t) (mv := mv) h h1).ks
  | _ =>
    simp only [boxV, Option.map_eq_some_iff] at k
    obtain ⟨⟨y, u'⟩, h1, k⟩ := k
    injection k with k1 k2
    subst k2
    exact (take_wr h h1).ks
theorem storeV_ks {S : Nat → Prop} {g : Nat → Sl} {a x : Operand} {n : Nat} {mv : Bool} {V : V} {u : Ov} (ha : In S g a) (hx : In S g x) (k : storeV mv g a x n = some (V, u)) : Ks S u := by
  unfold storeV at k
  simp only [Option.bind_eq_some_iff] at k
  obtain ⟨⟨y, u1⟩, h1, k⟩ := k
  have hw := take_wr hx h1
  simp only at k
  split at k
  case isFalse => simp at k
  simp only [Option.bind_eq_some_iff] at k
  obtain ⟨p, hp, k⟩ := k
  have hr := place_in (g := ovl u1 g) (g' := ovl u1 g) (fun _ _ => rfl) (ha.ovl hw) hp
  unfold storeAt at k
  split at k
  · simp at k
  · simp only [Option.map_eq_some_iff] at k
    obtain ⟨s, hs, k⟩ := k
    injection k with k1 k2
    subst k2
    exact Ks.cons (by rw [putAt_root hs]; exact hr) hw.ks
theorem backV_ks {S : Nat → Prop} : ∀ {ls : List Link} {ys : List D} {g : Nat → Sl} {u : Ov}, (∀ l ∈ ls, S l.r) → backV g ls ys = some u → Ks S u
  | [], ys, g, u, _, k => by
    cases ys with
    | nil =>
      simp only [backV, Option.some.injEq] at k
      subst k
      exact Ks.nil
    | cons => simp [backV] at k
  | l :: ls, ys, g, u, h, k => by
    cases ys with
    | nil => simp [backV] at k
    | cons y ys =>
      simp only [backV] at k
      split at k
      case isFalse => simp at k
      simp only [Option.bind_eq_some_iff, Option.map_eq_some_iff] at k
      obtain ⟨s, hs, u', hu', rfl⟩ := k
      exact (Ks.cons (by rw [putAt_root hs]; exact h l (by simp)) Ks.nil).app (backV_ks (fun l' hl' => h l' (by simp [hl'])) hu')
theorem capsV_wr {S : Nat → Prop} : ∀ {os : List Operand} {g : Nat → Sl} {ys : List D} {u : Ov}, (∀ o ∈ os, In S g o) → capsV g os = some (ys, u) → Wr S u
  | [], g, ys, u, _, k => by
    simp only [capsV, Option.some.injEq, Prod.mk.injEq] at k
    obtain ⟨_, rfl⟩ := k
    exact Wr.nil
  | o :: os, g, ys, u, h, k => by
    simp only [capsV, Option.bind_eq_some_iff, Option.map_eq_some_iff] at k
    obtain ⟨⟨y, u1⟩, h1, ⟨ys', u2⟩, h2, h3⟩ := k
    injection h3 with h3 h4
    subst h4
    have hw := capV_wr (h o (by simp)) h1
    exact hw.app (capsV_wr (fun o' ho' => (h o' (by simp [ho'])).ovl hw) h2)
theorem calleeV_ks {S : Nat → Prop} {g : Nat → Sl} {C : Cfg} {cl : Cl} {f : FuncId} {fs cs : List D} {args : List Operand} {V : V} {u : Ov} (h : ∀ o ∈ args, In S g o) (k : calleeV C cl g f fs args cs = some (V, u)) : Ks S u := by
  unfold calleeV at k
  simp only [Option.bind_eq_some_iff] at k
  obtain ⟨fl0, _, k⟩ := k
  unfold callV at k
  generalize (fl0 && noLinks (C.io f) g fs.length args) = fl at k
  unfold callA at k
  simp only [Option.bind_eq_some_iff] at k
  obtain ⟨u0, hu0, ⟨as, ls⟩, has, k⟩ := k
  have hw : Wr S u0 := by
    split at hu0
    · injection hu0 with hu0
      subst hu0
      exact Wr.nil
    · exact frzArgs_wr h hu0
  have h1 : ∀ o ∈ args, In S (ovl u0 g) o := fun o ho => (h o ho).ovl hw
  unfold callB at k
  split at k
  case isFalse => simp at k
  simp only [Option.bind_eq_some_iff] at k
  obtain ⟨⟨res, ys⟩, _, k⟩ := k
  simp only at k
  split at k
  · simp at k
  simp only [Option.map_eq_some_iff] at k
  obtain ⟨u', hu', k⟩ := k
  injection k with k1 k2
  subst k2
  exact hw.ks.app (backV_ks (argsV_roots h1 has) hu')
theorem actO_ks {S : Nat → Prop} {g : Nat → Sl} {C : Cfg} {cl : Cl} {hh : Bool} {dst : Option Tmp} {op : Op} {V : V} {u : Ov} (h : ∀ x ∈ op.operands.toList, In S g x) (k : actO C cl hh dst g op = some (V, u)) : Ks S u := by
  have nil : ∀ {X : Option Go.Pi.V}, (X.map fun v => (v, ([] : Ov))) = some (V, u) → Ks S u := by
    intro X hX
    simp only [Option.map_eq_some_iff] at hX
    obtain ⟨v, h1, h2⟩ := hX
    injection h2 with h2 h3
    subst h3
    exact Ks.nil
  cases op <;> simp only [Op.operands] at h <;> simp only [actO] at k
  case move x => exact moveV_ks (h x (by simp)) k
  case assign x => exact assignV_ks (h x (by simp)) k
  case pick c x y =>
    simp only [Option.bind_eq_some_iff] at k
    obtain ⟨d, _, k⟩ := k
    unfold pickV at k
    split at k
    · split at k
      · exact moveV_ks (h x (by simp)) k
      · exact moveV_ks (h y (by simp)) k
    · simp at k
  case alloc t =>
    simp only [Option.map_eq_some_iff] at k
    obtain ⟨z, _, k⟩ := k
    injection k with k1 k2
    subst k2
    exact Ks.nil
  case box t x => exact boxV_ks (h x (by simp)) k
  case build t parts =>
    unfold buildV at k
    simp only [Option.bind_eq_some_iff] at k
    obtain ⟨⟨ys, u1⟩, h1, z, _, pl, _, k⟩ := k
    simp only at k
    split at k
    · simp only [Option.map_eq_some_iff] at k
      obtain ⟨cs, _, k⟩ := k
      injection k with k1 k2
      subst k2
      exact (takes_wr (by simpa using h) h1).ks
    · simp at k
  case buildSlice t len parts =>
    unfold buildSliceV at k
    simp only [Option.bind_eq_some_iff] at k
    obtain ⟨⟨ys, u1⟩, h1, ⟨m, by'⟩, _, z, _, k⟩ := k
    simp only at k
    split at k
    · simp only [Option.map_eq_some_iff] at k
      obtain ⟨cs, _, k⟩ := k
      injection k with k1 k2
      subst k2
      exact (takes_wr (by simpa using h) h1).ks
    · simp at k
  case load t x =>
    simp only [Option.bind_eq_some_iff] at k
    obtain ⟨⟨n, ag⟩, _, k⟩ := k
    exact nil k
  case store t x y =>
    simp only [Option.bind_eq_some_iff] at k
    obtain ⟨⟨n, ag⟩, _, k⟩ := k
    exact storeV_ks (h x (by simp)) (h y (by simp)) k
  case nilCheck x => exact nil k
  case binOp op t x y t' =>
    simp only [Option.bind_eq_some_iff] at k
    obtain ⟨d1, _, d2, _, k⟩ := k
    simp only [Option.map_eq_some_iff] at k
    obtain ⟨d, _, k⟩ := k
    injection k with k1 k2
    subst k2
    exact Ks.nil
  case unOp op t x =>
    simp only [Option.bind_eq_some_iff, Option.map_eq_some_iff] at k
    obtain ⟨d1, _, d, _, k⟩ := k
    injection k with k1 k2
    subst k2
    exact Ks.nil
  case convert s d x =>
    simp only [Option.bind_eq_some_iff] at k
    obtain ⟨d1, _, k⟩ := k
    exact nil k
  case makeFunc fn first caps =>
    unfold makeFuncV at k
    split at k
    · simp only [Option.bind_eq_some_iff, Option.map_eq_some_iff] at k
      obtain ⟨⟨fs, u1⟩, h1, ⟨cs, u2⟩, h2, k⟩ := k
      injection k with k1 k2
      subst k2
      have hw := takes_wr (fun o ho => h o (by simp [ho])) h1
      exact hw.ks.app (capsV_wr (fun o ho => (h o (by simp [ho])).ovl hw) h2).ks
    · simp at k
  case makeSlice t l c =>
    unfold makeSliceV at k
    split at k
    · simp only [Option.bind_eq_some_iff] at k
      obtain ⟨⟨m, by'⟩, _, z, _, k⟩ := k
      simp only at k
      split at k
      · injection k with k
        injection k with k1 k2
        subst k2
        exact Ks.nil
      · simp at k
    · simp at k
  case slice t x lo hi mx =>
    unfold sliceV at k
    simp only [Option.bind_eq_some_iff] at k
    obtain ⟨l, _, hh', _, m, _, k⟩ := k
    have some' : ∀ {v : Go.Pi.V} {u' : Ov}, some (v, u') = some (V, u) → u' = u := by
      intro v u' e
      injection e with e
      injection e
    split at k
    · split at k
      · split at k
        · rw [← some' k]; exact Ks.nil
        · simp at k
      · simp at k
    · simp only [Option.bind_eq_some_iff] at k
      obtain ⟨⟨sz, by'⟩, _, k⟩ := k
      simp only at k
      split at k
      · split at k
        · rw [← some' k]; exact Ks.nil
        · simp at k
      · split at k
        · simp at k
        · split at k
          · rename_i ht
            split at k
            · rw [← some' k]
              exact (take_wr (h x (by simp)) ht).ks
            · simp at k
          · simp at k
    · simp at k
  case fieldAddr t x f => exact nil k
  case field t x f => exact nil k
  case indexAddr t x i => exact nil k
  case index t x i => exact nil k
  case extract x n =>
    unfold extractV at k
    split at k
    · rename_i t
      unfold exS at k
      split at k
      · simp only [Option.bind_eq_some_iff] at k
        obtain ⟨y, _, k⟩ := k
        unfold exT at k
        split at k
        · injection k with k
          injection k with k1 k2
          subst k2
          exact Ks.nil
        · injection k with k
          injection k with k1 k2
          subst k2
          exact Ks.cons (h (.tmp t) (by simp)).1 Ks.nil
        · injection k with k
          injection k with k1 k2
          subst k2
          exact Ks.cons (h (.tmp t) (by simp)).1 Ks.nil
        · simp at k
      · simp at k
    · simp at k
  case call c =>
    have hargs : ∀ o ∈ c.args.toList, In S g o := fun o ho => h o (by simp [Call.operands] at ho ⊢; exact Or.inr ho)
    unfold calls at k
    cases hc : c.callee with
    | builtin b =>
      rw [hc] at k
      simp only at k
      unfold bcall at k
      split at k
      · exact nil k
      · rename_i s' x t tx hx _
        rw [hx] at hargs
        obtain ⟨xs, u1, b, u2, m, bytes, z, ys, h1, h2, _, _, _, _, _, _, _, _, _, rfl⟩ := appendV_eq k
        have hw := take_wr (hargs s' (by simp)) h1
        exact hw.ks.app (take_wr ((hargs x (by simp)).ovl hw) h2).ks
      · exact nil k
      · exact nil k
      · simp at k
    | value fo =>
      rw [hc] at k
      simp only [Option.bind_eq_some_iff] at k
      obtain ⟨d, _, k⟩ := k
      unfold fnV at k
      split at k
      · exact calleeV_ks hargs k
      · simp at k
    | invoke r m =>
      rw [hc] at k
      simp at k
  all_goals simp at k

/-! ### One operation of a region -/
theorem foot_in {ops : List Oper} {o : Oper} {g : Nat → Sl} : ∀ x ∈ o.op.operands.toList, In (fun i => i ∈ foot ops o g) g x := by
  intro x hx
  cases x with
  | tmp t =>
    refine ⟨?_, fun r hr => ?_⟩
    · unfold foot tmpsOf
      simp only [List.mem_append, List.mem_filterMap]
      exact Or.inl (Or.inl (Or.inl ⟨.tmp t, hx, rfl⟩))
    · unfold foot
      simp only [List.mem_append, List.mem_filterMap]
      exact Or.inl (Or.inl (Or.inr ⟨.tmp t, hx, hr⟩))
  | _ => trivial
theorem foot_dst {ops : List Oper} {o : Oper} {g : Nat → Sl} {d : Tmp} (h : o.dst = some d) : d ∈ foot ops o g := by
  unfold foot
  simp only [List.mem_append]
  exact Or.inr (by rw [h]; simp)
theorem one_ks {C : Cfg} {cl : Cl} {hh : Bool} {ops : List Oper} {o : Oper} {g : Nat → Sl} {u : Ov} (h : one C cl hh ops o g = some u) : Ks (fun i => i ∈ foot ops o g) u := by
  have hput : ∀ {g1 : Nat → Sl} {v : V} {p : Ov}, put g1 o.dst v = some p → Ks (fun i => i ∈ foot ops o g) p := by
    intro g1 v p hp
    unfold put at hp
    split at hp
    · injection hp with hp
      subst hp
      exact Ks.nil
    · rename_i d hd
      split at hp
      · injection hp with hp
        subst hp
        exact Ks.cons (foot_dst hd) Ks.nil
      · simp at hp
  unfold one at h
  simp only [Option.bind_eq_some_iff] at h
  obtain ⟨b, hb, h⟩ := h
  split at h
  · simp only [Option.bind_eq_some_iff] at h
    obtain ⟨⟨V, u1⟩, h1, h⟩ := h
    simp only at h
    split at h
    · simp only [Option.map_eq_some_iff] at h
      obtain ⟨p, hp, rfl⟩ := h
      exact (actO_ks foot_in h1).app (hput hp)
    · simp at h
  · exact hput h
theorem want_on {ops : List Oper} {o : Oper} {g g' : Nat → Sl} (hg : On (fun i => i ∈ foot ops o g) g g') : want ops o.guard g = want ops o.guard g' := by
  unfold want
  split
  · rfl
  · rename_i j b hgd
    refine bind_eq rfl fun d hd => ?_
    rw [hg d]
    unfold foot
    simp only [List.mem_append]
    left; right
    rw [hgd]
    simp [hd]
theorem one_on {C : Cfg} {cl : Cl} {hh : Bool} {ops : List Oper} {o : Oper} {g g' : Nat → Sl} (hg : On (fun i => i ∈ foot ops o g) g g') : one C cl hh ops o g = one C cl hh ops o g' := by
  unfold one
  rw [want_on hg]
  refine bind_eq rfl fun b _ => ?_
  have hput : ∀ {g1 g2 : Nat → Sl} {v : V}, On (fun i => i ∈ foot ops o g) g1 g2 → put g1 o.dst v = put g2 o.dst v := by
    intro g1 g2 v h12
    unfold put
    split
    · rfl
    · rename_i d hd
      rw [h12 d (foot_dst hd)]
  split
  · refine bind_eq (actO_on hg (fun d hd => foot_dst hd) foot_in) fun ⟨V, u⟩ hu => ?_
    have hk := actO_ks (foot_in (ops := ops)) hu
    simp only
    have hp : pinsOk g u = pinsOk g' u := by
      unfold pinsOk
      rw [Bool.eq_iff_iff, List.all_eq_true, List.all_eq_true]
      constructor
      · intro h p hp; rw [← hg p.1 (hk p hp)]; exact h p hp
      · intro h p hp; rw [hg p.1 (hk p hp)]; exact h p hp
    rw [hp]
    split
    · exact map_eq (hput (hg.ovl u))
    · rfl
  · exact hput hg
end Go.Pi

/- Regions whose order is drawn. -/
namespace Go.Pi
open Go
set_option linter.unusedSimpArgs false
set_option linter.unusedVariables false

/-! ### What some of the operations have written -/
def comb : (Nat → Bool) → List Ov → (Nat → Sl) → (Nat → Sl)
  | _, [], g => g
  | p, u :: us, g => comb (fun n => p (n + 1)) us (if p 0 then ovl u g else g)
def hasKey (u : Ov) (x : Nat) : Prop := ∃ s, (x, s) ∈ u
theorem ovl_key : ∀ {u : Ov} {g g' : Nat → Sl} {x : Nat}, hasKey u x → ovl u g x = ovl u g' x
  | [], g, g', x, h => by obtain ⟨s, hs⟩ := h; simp at hs
  | (j, s) :: u, g, g', x, h => by
    simp only [ovl]
    by_cases hx : x = j
    · simp [hx]
    · simp only [hx, if_false]
      obtain ⟨s', hs'⟩ := h
      rcases List.mem_cons.mp hs' with q | q
      · injection q with q _; exact absurd q hx
      · exact ovl_key ⟨s', q⟩
theorem ovl_nokey : ∀ {u : Ov} {g : Nat → Sl} {x : Nat}, ¬ hasKey u x → ovl u g x = g x
  | [], g, x, _ => rfl
  | (j, s) :: u, g, x, h => by
    simp only [ovl]
    have hx : x ≠ j := by
      intro e
      exact h ⟨s, by simp [e]⟩
    simp only [hx, if_false]
    exact ovl_nokey fun ⟨s', hs'⟩ => h ⟨s', by simp [hs']⟩
theorem ovl_at {u : Ov} {g g' : Nat → Sl} {x : Nat} (h : g x = g' x) : ovl u g x = ovl u g' x := by
  by_cases k : hasKey u x
  · exact ovl_key k
  · rw [ovl_nokey k, ovl_nokey k, h]
/-- A slot is told by those that write it. -/
theorem comb_at : ∀ {us : List Ov} {p q : Nat → Bool} {g g' : Nat → Sl} {x : Nat}, g x = g' x → (∀ i u, us[i]? = some u → hasKey u x → p i = q i) → comb p us g x = comb q us g' x
  | [], p, q, g, g', x, hg, _ => hg
  | u :: us, p, q, g, g', x, hg, h => by
    simp only [comb]
    refine comb_at ?_ (fun i v hi hk => h (i + 1) v (by simpa using hi) hk)
    by_cases k : hasKey u x
    · rw [h 0 u rfl k]
      split
      · exact ovl_key k
      · exact hg
    · split <;> split
      · exact ovl_at hg
      · rw [ovl_nokey k]; exact hg
      · rw [ovl_nokey k]; exact hg
      · exact hg
/-- The last that writes a slot. -/
theorem comb_last : ∀ {us : List Ov} {p : Nat → Bool} {g g' : Nat → Sl} {x j : Nat} {u : Ov}, us[j]? = some u → p j = true → hasKey u x → (∀ i v, j < i → us[i]? = some v → hasKey v x → p i = false) → comb p us g x = ovl u g' x
  | [], p, g, g', x, j, u, h, _, _, _ => by simp at h
  | v :: us, p, g, g', x, 0, u, h, hp, hk, hl => by
    simp only [List.getElem?_cons_zero, Option.some.injEq] at h
    subst h
    simp only [comb, hp, if_true]
    have : ∀ {us : List Ov} {p : Nat → Bool} {g : Nat → Sl}, (∀ i w, us[i]? = some w → hasKey w x → p i = false) → comb p us g x = g x := by
      intro us
      induction us with
      | nil => intro p g _; rfl
      | cons w us ih =>
        intro p g h
        simp only [comb]
        rw [ih fun i w' hi hk => h (i + 1) w' (by simpa using hi) hk]
        split
        · rename_i hp0
          by_cases k : hasKey w x
          · rw [h 0 w rfl k] at hp0; simp at hp0
          · exact ovl_nokey k
        · rfl
    rw [this fun i w hi hk' => hl (i + 1) w (by omega) (by simpa using hi) hk']
    exact ovl_key hk
  | v :: us, p, g, g', x, j + 1, u, h, hp, hk, hl => by
    simp only [comb]
    exact comb_last (by simpa using h) hp hk fun i w hi hw hk' => hl (i + 1) w (by omega) (by simpa using hw) hk'
theorem comb_all : ∀ {us : List Ov} {p : Nat → Bool} {g : Nat → Sl}, (∀ i, i < us.length → p i = true) → comb p us g = us.foldl (fun g u => ovl u g) g
  | [], p, g, _ => rfl
  | u :: us, p, g, h => by
    simp only [comb, List.foldl_cons]
    rw [h 0 (by simp)]
    simp only [if_true]
    exact comb_all fun i hi => h (i + 1) (by simp; omega)

/-! ### The trace -/
theorem trOps_spec {C : Cfg} {cl : Cl} {h : Nat → Bool} {ops : List Oper} : ∀ {os : List Oper} {k : Nat} {g : Nat → Sl} {ts : List Tr} {u : Ov}, trOps C cl h ops g k os = some (ts, u) →
    ∃ us : List Ov, us.length = os.length ∧ ts.length = os.length ∧ (ovl u g = us.foldl (fun g u => ovl u g) g) ∧
      ∀ i o, os[i]? = some o → ∃ v, us[i]? = some v ∧ one C cl (h (k + i)) ops o (comb (fun n => decide (n < i)) us g) = some v ∧ ts[i]? = some ⟨foot ops o (comb (fun n => decide (n < i)) us g), v.map (·.1)⟩
  | [], k, g, ts, u, e => by
    simp only [trOps, Option.some.injEq, Prod.mk.injEq] at e
    obtain ⟨rfl, rfl⟩ := e
    exact ⟨[], rfl, rfl, rfl, by simp⟩
  | o :: os, k, g, ts, u, e => by
    simp only [trOps, Option.bind_eq_some_iff, Option.map_eq_some_iff] at e
    obtain ⟨u1, h1, ⟨ts', u2⟩, h2, h3⟩ := e
    injection h3 with h3 h4
    subst h3 h4
    obtain ⟨us, k1, k2, k3, k4⟩ := trOps_spec h2
    refine ⟨u1 :: us, by simp [k1], by simp [k2], by rw [ovl_app]; simpa using k3, ?_⟩
    intro i o' hi
    cases i with
    | zero =>
      simp only [List.getElem?_cons_zero, Option.some.injEq] at hi
      subst hi
      have e : comb (fun n => decide (n < 0)) (u1 :: us) g = g := by
        have : ∀ (us : List Ov) (g : Nat → Sl), comb (fun _ => false) us g = g := by
          intro us
          induction us with
          | nil => intro g; rfl
          | cons u us ih => intro g; simp only [comb]; exact ih g
        exact this _ _
      rw [e]
      exact ⟨u1, rfl, h1, rfl⟩
    | succ i =>
      obtain ⟨v, q1, q2, q3⟩ := k4 i o' (by simpa using hi)
      have e : comb (fun n => decide (n < i + 1)) (u1 :: us) g = comb (fun n => decide (n < i)) us (ovl u1 g) := by
        simp only [comb]
        simp
      rw [e]
      refine ⟨v, by simpa using q1, ?_, by simpa using q3⟩
      rw [show k + (i + 1) = k + 1 + i by omega]
      exact q2
theorem ahead_spec : ∀ {os : List Oper} {k : Nat} {acc anc : List (List Nat)}, ahead k acc os = some anc → acc.length = k →
    anc.length = k + os.length ∧ (∀ i, i < k → anc[i]? = acc[i]?) ∧ ∀ i o, os[i]? = some o → ∃ bs, backs (k + i) o = some bs ∧ anc[k + i]? = some (bs ++ bs.flatMap fun j => anc.getD j [])
  | [], k, acc, anc, h, hl => by
    simp only [ahead, Option.some.injEq] at h
    subst h
    exact ⟨by simpa using hl, fun _ _ => rfl, by simp⟩
  | o :: os, k, acc, anc, h, hl => by
    simp only [ahead, Option.bind_eq_some_iff] at h
    obtain ⟨bs, h1, h2⟩ := h
    obtain ⟨k1, k2, k3⟩ := ahead_spec h2 (by simp [hl])
    refine ⟨by rw [k1]; simp; omega, fun i hi => ?_, fun i o' hi => ?_⟩
    · rw [k2 i (by omega), List.getElem?_append_left (by omega)]
    · cases i with
      | zero =>
        simp only [List.getElem?_cons_zero, Option.some.injEq] at hi
        subst hi
        refine ⟨bs, h1, ?_⟩
        rw [Nat.add_zero, k2 k (by omega), List.getElem?_append_right (by omega), hl]
        simp only [Nat.sub_self, List.getElem?_cons_zero, Option.some.injEq]
        congr 1
        have hlt : ∀ b ∈ bs, b < k := by
          unfold backs at h1
          split at h1
          · rename_i hall
            injection h1 with h1
            subst h1
            intro b hb
            obtain ⟨e, he, rfl⟩ := List.mem_map.mp hb
            obtain ⟨he1, he2⟩ := List.mem_filter.mp he
            have := List.all_eq_true.mp hall e he1
            rw [he2] at this
            simpa using this
          · simp at h1
        have hcg : ∀ (l : List Nat), (∀ b ∈ l, b < k) → (l.flatMap fun j => acc.getD j []) = l.flatMap fun j => anc.getD j [] := by
          intro l
          induction l with
          | nil => intro _; rfl
          | cons b l ih =>
            intro hb
            simp only [List.flatMap_cons]
            rw [ih fun c hc => hb c (by simp [hc])]
            congr 1
            have hbk := hb b (by simp)
            rw [List.getD_eq_getElem?_getD, List.getD_eq_getElem?_getD, k2 b (by omega), List.getElem?_append_left (by omega)]
        exact hcg bs hlt
      | succ i =>
        obtain ⟨bs', q1, q2⟩ := k3 i o' (by simpa using hi)
        rw [show k + (i + 1) = k + 1 + i by omega]
        exact ⟨bs', q1, q2⟩
theorem apart_not {xs ys : List Nat} (h : apart xs ys = true) {x : Nat} (hx : x ∈ xs) (hy : x ∈ ys) : False := by
  have := List.all_eq_true.mp h x hx
  simp at this
  exact this hy

/-! ### Any order -/
structure Ord (anc : List (List Nat)) (us : List Ov) (ts : List Tr) (n : Nat) : Prop where
  ul : us.length = n
  tl : ts.length = n
  key : ∀ (i : Nat) (t : Tr) (u : Ov), ts[i]? = some t → us[i]? = some u → t.wr = u.map (·.1) ∧ ∀ x, hasKey u x → x ∈ t.wr ∧ x ∈ t.foot
  ok : ∀ i j, i < j → j < n → pairOk anc ts i j = true
def Down (anc : List (List Nat)) (p : Nat → Bool) : Prop := ∀ j, p j = true → ∀ i ∈ anc.getD j [], p i = true
/-- At an operation whose ancestors are done, its slots are as in the listed order. -/
theorem Ord.at {anc : List (List Nat)} {us : List Ov} {ts : List Tr} {n : Nat} (o : Ord anc us ts n) {p : Nat → Bool} (hd : Down anc p) {j : Nat} {t : Tr} (ht : ts[j]? = some t) (hj : p j = false) (ha : ∀ i ∈ anc.getD j [], p i = true)
    (g : Nat → Sl) : On (fun x => x ∈ t.foot) (comb p us g) (comb (fun n => decide (n < j)) us g) := by
  intro x hx
  refine comb_at rfl fun i u hi hk => ?_
  have hjn : j < n := by rw [← o.tl]; exact (List.getElem?_eq_some_iff.mp ht).1
  have hin : i < n := by rw [← o.ul]; exact (List.getElem?_eq_some_iff.mp hi).1
  obtain ⟨ti, hti⟩ : ∃ ti, ts[i]? = some ti := ⟨ts[i]'(by rw [o.tl]; exact hin), by simp⟩
  obtain ⟨_, k2⟩ := o.key i ti u hti hi
  obtain ⟨w1, w2⟩ := k2 x hk
  rcases Nat.lt_trichotomy i j with h | h | h
  · have hp := o.ok i j h hjn
    simp only [pairOk, hti, ht, Bool.or_eq_true, Bool.and_eq_true] at hp
    have : p i = true := by
      rcases hp with hp | ⟨hp, _⟩
      · exact ha i (by simpa using hp)
      · exact absurd hx (fun hx => apart_not hp w1 hx)
    rw [this]
    simpa using h
  · subst h
    rw [hj]
    simp
  · have hp := o.ok j i h hin
    simp only [pairOk, hti, ht, Bool.or_eq_true, Bool.and_eq_true] at hp
    have : p i = false := by
      cases hpi : p i with
      | false => rfl
      | true =>
        rcases hp with hp | ⟨_, hp⟩
        · have := hd i hpi j (by simpa using hp)
          rw [hj] at this
          simp at this
        · exact absurd hx (fun hx => apart_not hp w1 hx)
    rw [this]
    have : ¬ i < j := by omega
    simp [this]
/-- And behind it. -/
theorem Ord.next {anc : List (List Nat)} {us : List Ov} {ts : List Tr} {n : Nat} (o : Ord anc us ts n) {p q : Nat → Bool} (hd : Down anc p) {j : Nat} {u : Ov} (hu : us[j]? = some u) (hj : p j = false)
    (hq : ∀ i, q i = (p i || decide (i = j))) (g : Nat → Sl) : ovl u (comb p us g) = comb q us g := by
  funext x
  by_cases hk : hasKey u x
  · rw [comb_last (g' := comb p us g) hu (by rw [hq]; simp) hk]
    intro i v hi hv hkv
    have hin : i < n := by rw [← o.ul]; exact (List.getElem?_eq_some_iff.mp hv).1
    have hjn : j < n := by omega
    obtain ⟨ti, hti⟩ : ∃ ti, ts[i]? = some ti := ⟨ts[i]'(by rw [o.tl]; exact hin), by simp⟩
    obtain ⟨tj, htj⟩ : ∃ tj, ts[j]? = some tj := ⟨ts[j]'(by rw [o.tl]; exact hjn), by simp⟩
    have hp := o.ok j i hi hin
    simp only [pairOk, hti, htj, Bool.or_eq_true, Bool.and_eq_true] at hp
    rw [hq]
    have hne : i ≠ j := by omega
    cases hpi : p i with
    | false => simp [hne]
    | true =>
      rcases hp with hp | ⟨hp, _⟩
      · have := hd i hpi j (by simpa using hp)
        rw [hj] at this
        simp at this
      · exact absurd ((o.key i ti v hti hv).2 x hkv).2 (fun h => apart_not hp ((o.key j tj u htj hu).2 x hk).1 h)
  · rw [ovl_nokey hk]
    refine comb_at rfl fun i v hi hkv => ?_
    have hne : i ≠ j := by
      rintro rfl
      rw [hu] at hi
      injection hi with hi
      subst hi
      exact hk hkv
    rw [hq]
    simp [hne]
def lst (listed : Array Bool) (i : Nat) : Bool := listed.getD i false
def left (listed : Array Bool) : Nat := (listed.toList.filter (! ·)).length
theorem left_set {listed : Array Bool} {i : Nat} (h : i < listed.size) (k : listed.getD i true = false) : left (listed.setIfInBounds i true) + 1 = left listed := by
  have key : ∀ (l : List Bool) (i : Nat), l[i]? = some false → ((l.set i true).filter (! ·)).length + 1 = (l.filter (! ·)).length := by
    intro l
    induction l with
    | nil => intro i h; simp at h
    | cons b l ih =>
      intro i h
      cases i with
      | zero =>
        simp at h
        subst h
        simp
      | succ i =>
        have := ih i (by simpa using h)
        cases b <;> simp [List.filter_cons] at this ⊢ <;> omega
  unfold left
  rw [Array.toList_setIfInBounds]
  apply key
  rw [Array.getD_eq_getD_getElem?, Array.getElem?_eq_getElem h] at k
  simp only [Option.getD_some] at k
  rw [Array.getElem?_toList, Array.getElem?_eq_getElem h, k]
theorem draw_go {C : Cfg} {cl : Cl} {h : Nat → Bool} {args : List Value} {ops : Array Oper} {anc : List (List Nat)} {us : List Ov} {ts : List Tr} {g0 : Nat → Sl} {n : Nat} {Q : Exit → Act → World → Prop} {F0 : Nat → Prop} {B0 : Nat → List Nat} {w0 : World}
    (hcl : CallOK C.P cl) (o : Ord anc us ts ops.size) (hanc : ∀ i o, ops[i]? = some o → ∃ bs, backs i o = some bs ∧ anc[i]? = some (bs ++ bs.flatMap fun j => anc.getD j []))
    (hone : ∀ i o, ops[i]? = some o → ∃ v, us[i]? = some v ∧ one C cl (h i) ops.toList o (comb (fun n => decide (n < i)) us g0) = some v ∧ ts[i]? = some ⟨foot ops.toList o (comb (fun n => decide (n < i)) us g0), v.map (·.1)⟩)
    (hdst : ∀ o ∈ ops.toList, ∀ d, o.dst = some d → d < n)
    (K : ∀ a' w' F' B', Sim F' B' [] (us.foldl (fun g u => ovl u g) g0) a' w' → Ext F0 (Own B0 []) w0 F' (Own B' []) w' → Pins args (us.foldl (fun g u => ovl u g) g0) a' → a'.tmps.size = n → Q .normal a' w') :
    ∀ (fuel : Nat) (listed : Array Bool) (F : Nat → Prop) (B : Nat → List Nat) (a : Act) (w : World), listed.size = ops.size → left listed ≤ fuel → Down anc (lst listed) →
      Sim F B [] (comb (lst listed) us g0) a w → Pins args (comb (lst listed) us g0) a → a.tmps.size = n → Ext F0 (Own B0 []) w0 F (Own B []) w → wpAny C.P .any ops Q fuel listed a w := by
  have hend : ∀ (listed : Array Bool) (F : Nat → Prop) (B : Nat → List Nat) (a : Act) (w : World), listed.size = ops.size → (∀ i, i < ops.size → lst listed i = true) → Sim F B [] (comb (lst listed) us g0) a w → Pins args (comb (lst listed) us g0) a → a.tmps.size = n →
      Ext F0 (Own B0 []) w0 F (Own B []) w → Q .normal a w := by
    intro listed F B a w hs hall s hp hz e
    have e1 : comb (lst listed) us g0 = us.foldl (fun g u => ovl u g) g0 := comb_all fun i hi => hall i (by rw [← o.ul]; exact hi)
    rw [e1] at s hp
    exact K a w F B s e hp hz
  have hready : ∀ (listed : Array Bool), listed.size = ops.size → Region.ready .any ops listed = [] → ∀ i, i < ops.size → lst listed i = true := by
    intro listed hs hr
    have key : ∀ m i, i < m → i < ops.size → lst listed i = true := by
      intro m
      induction m with
      | zero => intro i hi; omega
      | succ m ih =>
        intro i him hi
        cases hli : lst listed i with
        | true => rfl
        | false =>
          exfalso
          have : i ∈ Region.ready .any ops listed := by
            rw [mem_ready]
            refine ⟨?_, ops[i], by simp, ?_⟩
            · unfold lst at hli
              rw [Array.getD_eq_getD_getElem?, Array.getElem?_eq_getElem (by omega)] at hli ⊢
              simpa using hli
            · intro e he hb
              obtain ⟨bs, h1, _⟩ := hanc i ops[i] (by simp)
              unfold backs at h1
              split at h1
              · rename_i hall
                have := List.all_eq_true.mp hall e (by simpa using he)
                rw [hb] at this
                have hlt : e.on < i := by simpa using this
                exact ih e.on (by omega) (by omega)
              · simp at h1
          rw [hr] at this
          simp at this
    intro i hi
    exact key (i + 1) i (by omega) hi
  intro fuel
  induction fuel with
  | zero =>
    intro listed F B a w hs hl hd s hp hz e
    have hall : ∀ i, i < ops.size → lst listed i = true := by
      intro i hi
      have h0 : (listed.toList.filter (! ·)) = [] := nil_of_len (by unfold left at hl; omega)
      rw [List.filter_eq_nil_iff] at h0
      have hm : listed[i]'(by omega) ∈ listed.toList := by simp
      have := h0 _ hm
      unfold lst
      rw [Array.getD_eq_getD_getElem?, Array.getElem?_eq_getElem (by omega)]
      simpa using this
    refine ⟨?_, hend listed F B a w hs hall s hp hz e⟩
    apply List.eq_nil_iff_forall_not_mem.mpr
    intro i hi
    rw [mem_ready] at hi
    obtain ⟨h1, o', h2, _⟩ := hi
    have hlt : i < ops.size := (Array.getElem?_eq_some_iff.mp h2).1
    have := hall i hlt
    unfold lst at this
    rw [Array.getD_eq_getD_getElem?, Array.getElem?_eq_getElem (by omega)] at this h1
    simp at this h1
    rw [this] at h1
    simp at h1
  | succ fuel ih =>
    intro listed F B a w hs hl hd s hp hz e
    refine ⟨fun hr => hend listed F B a w hs (hready listed hs hr) s hp hz e, ?_⟩
    intro j hj
    rw [mem_ready] at hj
    obtain ⟨h1, oj, h2, h3⟩ := hj
    have hjn : j < ops.size := (Array.getElem?_eq_some_iff.mp h2).1
    have hlj : lst listed j = false := by
      unfold lst
      rw [Array.getD_eq_getD_getElem?, Array.getElem?_eq_getElem (by omega)] at h1 ⊢
      simpa using h1
    obtain ⟨bs, b1, b2⟩ := hanc j oj h2
    obtain ⟨v, v1, v2, v3⟩ := hone j oj h2
    have hbs : ∀ b ∈ bs, lst listed b = true := by
      unfold backs at b1
      split at b1
      · injection b1 with b1
        subst b1
        intro b hb
        obtain ⟨ed, he, rfl⟩ := List.mem_map.mp hb
        obtain ⟨he1, he2⟩ := List.mem_filter.mp he
        exact h3 ed (by simpa using he1) he2
      · simp at b1
    have ha : ∀ i ∈ anc.getD j [], lst listed i = true := by
      intro i hi
      rw [List.getD_eq_getElem?_getD, b2] at hi
      simp only [Option.getD_some] at hi
      rcases List.mem_append.mp hi with hi | hi
      · exact hbs i hi
      · obtain ⟨b, hb1, hb2⟩ := List.mem_flatMap.mp hi
        exact hd b (hbs b hb1) i hb2
    have hon := o.at hd v3 hlj ha g0
    have hon' : On (fun x => x ∈ foot ops.toList oj (comb (fun n => decide (n < j)) us g0)) (comb (fun n => decide (n < j)) us g0) (comb (lst listed) us g0) := fun x hx => (hon x hx).symm
    have hone' : one C cl (h j) ops.toList oj (comb (lst listed) us g0) = some v := by rw [← one_on hon']; exact v2
    unfold wpOp
    simp only [h2]
    have hmem : oj ∈ ops.toList := by
      have := Array.mem_of_getElem? h2
      simpa using this
    refine one_sound (args := args) hcl s hp (fun d hdd => by rw [hz]; exact hdst oj hmem d hdd) hone' ?_
    intro a' w' F' B' s1 e1 p1 hz1
    have hnew : ∀ i, lst (listed.setIfInBounds j true) i = (lst listed i || decide (i = j)) := by
      intro i
      unfold lst
      rw [Array.getD_eq_getD_getElem?, Array.getD_eq_getD_getElem?, Array.getElem?_setIfInBounds]
      by_cases hij : i = j
      · subst hij
        simp [show i < listed.size by omega]
      · rw [if_neg (fun e => hij e.symm)]
        simp [hij]
    have hcomb := o.next hd v1 hlj hnew g0
    rw [hcomb] at s1 p1
    refine ih (listed.setIfInBounds j true) F' B' a' w' (by simpa using hs) ?_ ?_ s1 p1 (hz1.trans hz) (e.trans e1)
    · have := left_set (listed := listed) (i := j) (by omega) h1
      omega
    · intro i hi b hb
      rw [hnew] at hi ⊢
      rcases Bool.or_eq_true_iff.mp hi with hi | hi
      · rw [hd i hi b hb]; rfl
      · have : i = j := by simpa using hi
        subst this
        rw [ha b hb]; rfl
theorem draw_sound {C : Cfg} {cl : Cl} (hm : C.P.follows .mixedOrders = true) (hcl : CallOK C.P cl) : DrawOK C cl := by
  intro h n args id ops F B σ a w u Q hdst s hev K
  unfold regionEv at hev
  simp only [if_true, Option.bind_eq_some_iff] at hev
  obtain ⟨anc, hanc, ⟨ts, u'⟩, htr, hev⟩ := hev
  simp only at hev
  split at hev
  case isFalse => simp at hev
  rename_i hcompat
  injection hev with hev
  subst hev
  obtain ⟨us, t1, t2, t3, t4⟩ := trOps_spec htr
  obtain ⟨a1, a2, a3⟩ := ahead_spec hanc rfl
  have t1 : us.length = ops.size := by simpa using t1
  have t2 : ts.length = ops.size := by simpa using t2
  have hone : ∀ i o, ops[i]? = some o → ∃ v, us[i]? = some v ∧ one C cl (h i) ops.toList o (comb (fun n => decide (n < i)) us (getS σ)) = some v ∧ ts[i]? = some ⟨foot ops.toList o (comb (fun n => decide (n < i)) us (getS σ)), v.map (·.1)⟩ := by
    intro i o hi
    have := t4 i o (by simpa using hi)
    simpa using this
  have hord : Ord anc us ts ops.size := by
    refine ⟨t1, t2, ?_, ?_⟩
    · intro i t v ht hv
      have hin : i < ops.size := by rw [← t2]; exact (List.getElem?_eq_some_iff.mp ht).1
      obtain ⟨v', q1, q2, q3⟩ := hone i ops[i] (by simp)
      rw [hv] at q1
      injection q1 with q1
      subst q1
      rw [ht] at q3
      injection q3 with q3
      subst q3
      refine ⟨rfl, ?_⟩
      rintro x ⟨s, hs⟩
      exact ⟨List.mem_map.mpr ⟨_, hs, rfl⟩, one_ks q2 _ hs⟩
    · intro i j hij hj
      unfold compat at hcompat
      have h1 := List.all_eq_true.mp hcompat j (by rw [List.mem_range, t2]; exact hj)
      exact List.all_eq_true.mp h1 i (by rw [List.mem_range]; exact hij)
  refine wp_region_any hm ?_
  have s0 : Sim F B [] (getS σ) a { w with drawn := w.drawn + 1 } := s.sim.world (Nat.le_refl _) (fun _ _ _ => rfl) List.nodup_nil (by simp)
  have e0 : Ext F (Own B []) w F (Own B []) { w with drawn := w.drawn + 1 } := ⟨rfl, rfl, rfl, Nat.le_refl _, fun _ _ _ => rfl, fun _ h => h, fun _ h => Or.inl h, fun _ h => Or.inl h⟩
  have hno : lst (Array.replicate ops.size false) = fun _ => false := by
    funext i
    unfold lst
    rw [Array.getD_eq_getD_getElem?, Array.getElem?_replicate]
    split <;> rfl
  have hc0 : ∀ (us : List Ov) (g : Nat → Sl), comb (fun _ => false) us g = g := by
    intro us
    induction us with
    | nil => intro g; rfl
    | cons u us ih => intro g; simp only [comb]; exact ih g
  refine draw_go (args := args) (g0 := getS σ) (n := n) (F0 := F) (B0 := B) (w0 := w) hcl hord (fun i o hi => by
      have := a3 i o (by simpa using hi)
      simpa using this) hone hdst ?_ ops.size (Array.replicate ops.size false) F B a _ (by simp) ?_ ?_ ?_ ?_ s.tz e0
  · intro a' w' F' B' s1 e1 p1 hz
    rw [← t3] at s1 p1
    exact K a' w' F' B' (s.fold s1 p1 (hz.trans s.tz.symm)) e1
  · unfold left
    simp
  · intro j hj
    rw [hno] at hj
    simp at hj
  · rw [hno, hc0]; exact s0
  · rw [hno, hc0]; exact s.pins
/-- The interpreter's word holds. -/
theorem run_ok {C : Cfg} (hm : C.P.follows .mixedOrders = true) (hx : ExtOK C) (n : Nat) : CallOK C.P (run C n) := run_sound hx (fun _ h => draw_sound hm h) n
end Go.Pi
