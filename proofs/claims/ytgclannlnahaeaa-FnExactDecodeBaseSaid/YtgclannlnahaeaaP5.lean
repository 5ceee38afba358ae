/- Part 5 of an interpreter over value trees, shown sound for the model. -/
import Derived.Test.YtgclannlnahaeaaP4
import Derived.LoopN
set_option linter.unusedVariables false
set_option linter.unusedSimpArgs false
set_option linter.unusedSectionVars false
/- Regions without a draw. -/
namespace Go.Pi
open Go
set_option linter.unusedSimpArgs false
set_option linter.unusedVariables false

def pk : V → Bool
  | .own p _ => p == 1
  | .box p _ => p == 1
  | .mv _ => true
  | _ => false
/-- What was passed in and is lent stays in its slot. -/
def Pins (args : List Value) (g : Nat → Sl) (a : Act) : Prop := ∀ i v, args[i]? = some v → pk (g i).v = true → a.tmps.getD i undef = v
theorem pk_own1 {v : V} (h : own1V v = true) : pk v = true := by cases v <;> simp_all [own1V, pk]
theorem pk_box1 {v : V} (h : box1V v = true) : pk v = true := by cases v <;> simp_all [box1V, pk]
theorem pin1_pk {old new : V} (h : pin1 old new = true) (k : pk new = true) : pk old = true := by
  cases new <;> simp [pin1, pk] at h k
  · rcases h with h | h
    · exact absurd k h
    · exact pk_own1 h
  · rcases h with h | h
    · exact absurd k h
    · exact pk_box1 h
  · exact pk_own1 h
theorem newV_pk {v : V} (h : newV v = true) : pk v = false := by
  cases v <;> simp_all [newV, pk]
theorem ovl_mem : ∀ (u : Ov) (g : Nat → Sl) (i : Nat), ovl u g i = g i ∨ ∃ s, (i, s) ∈ u ∧ ovl u g i = s
  | [], g, i => Or.inl rfl
  | (j, s) :: u, g, i => by
    by_cases h : i = j
    · right
      exact ⟨s, by simp [h], by simp [ovl, h]⟩
    · rcases ovl_mem u g i with q | ⟨s', q1, q2⟩
      · left; simp [ovl, h, q]
      · right; exact ⟨s', by simp [q1], by simp [ovl, h, q2]⟩
theorem Pins.ovl {args : List Value} {g : Nat → Sl} {a : Act} {u : Ov} (h : Pins args g a) (k : pinsOk g u = true) : Pins args (ovl u g) a := by
  intro i v hi hk
  refine h i v hi ?_
  rcases ovl_mem u g i with q | ⟨s, q1, q2⟩
  · rw [q] at hk; exact hk
  · rw [q2] at hk
    have := List.all_eq_true.mp k (i, s) q1
    exact pin1_pk this hk
theorem Pins.put {args : List Value} {g : Nat → Sl} {a : Act} {d : Nat} {s : Sl} {val : Value} (h : Pins args g a) (k : newV s.v = true) : Pins args (Go.Pi.ovl [(d, s)] g) (a.put (some d) val) := by
  intro i v hi hk
  by_cases hid : i = d
  · subst hid
    rw [ovl1_same, newV_pk k] at hk
    simp at hk
  · rw [ovl1_ne _ _ _ hid] at hk
    rw [put_getD]
    simp only [hid, false_and, if_false]
    exact h i v hi hk
theorem want_sound {F : Nat → Prop} {B : Nat → List Nat} {H : List Nat} {g : Nat → Sl} {a : Act} {w : World} (s : Sim F B H g a w) {ops : Array Oper} {o : Oper} {b : Bool} (h : want ops.toList o.guard g = some b) :
    Region.wanted o (yielded ops a.tmps) = b := by
  unfold want at h
  unfold Region.wanted
  split at h
  · rename_i hg
    injection h with h
    rw [hg, ← h]
  · rename_i j c hg
    rw [hg]
    simp only [Option.bind_eq_some_iff] at h
    obtain ⟨d, ⟨o', h1, h2⟩, h⟩ := h
    unfold wantV at h
    split at h
    · rename_i x hv
      injection h with h
      have hr := s.rep d
      rw [hv] at hr
      simp only [SRep] at hr
      have hb := rep_bool hr.1
      have hlt : d < a.tmps.size := s.inb (by rw [hv]; simp)
      have hget : a.tmps[d]? = some (.bool x) := by
        rw [Array.getElem?_eq_getElem hlt]
        rw [← Array.getElem?_eq_getElem hlt] at *
        simp only [Array.getD_eq_getD_getElem?] at hb
        rw [Array.getElem?_eq_getElem hlt] at hb ⊢
        simpa using hb
      simp only [Array.getElem?_toList] at h1
      have hy : yielded ops a.tmps j = some x := by
        unfold yielded
        rw [h1]
        simp only [Option.bind_some, h2, hget]
      simp only [hy, ← h]
      cases x <;> cases c <;> rfl
    · rename_i hv
      injection h with h
      have hr := s.rep d
      rw [hv] at hr
      simp only [SRep] at hr
      obtain ⟨vs, hb, hvs⟩ := hr
      simp only [SRepL] at hvs
      obtain ⟨rfl, _⟩ := hvs
      have hlt : d < a.tmps.size := s.inb (by rw [hv]; simp)
      have hget : a.tmps[d]? = some (.tuple #[]) := by
        simp only [Array.getD_eq_getD_getElem?] at hb
        rw [Array.getElem?_eq_getElem hlt] at hb ⊢
        simpa using hb
      simp only [Array.getElem?_toList] at h1
      have hy : yielded ops a.tmps j = none := by
        unfold yielded
        rw [h1]
        simp only [Option.bind_some, h2, hget]
      simp only [hy, ← h]
      rfl
    · simp at h
theorem one_sound {C : Cfg} {cl : Cl} {F : Nat → Prop} {B : Nat → List Nat} {g : Nat → Sl} {a : Act} {w : World} {o : Oper} {hh : Bool} {u : Ov} {args : List Value} {ops : Array Oper}
    (hcl : CallOK C.P cl) (s : Sim F B [] g a w) (hp : Pins args g a) (hd : ∀ d, o.dst = some d → d < a.tmps.size) (h : one C cl hh ops.toList o g = some u) {K : Act → World → Prop} {Q : Exit → Act → World → Prop}
    (k : ∀ a' w' F' B', Sim F' B' [] (ovl u g) a' w' → Ext F (Own B []) w F' (Own B' []) w' → Pins args (ovl u g) a' → a'.tmps.size = a.tmps.size → K a' w') :
    if Region.wanted o (yielded ops a.tmps) then o.wp C.P a w K Q ∨ (o.asks C.P a w ∧ LetsOut Q) else K (a.put o.dst undef) w := by
  unfold one at h
  simp only [Option.bind_eq_some_iff] at h
  obtain ⟨b, hb, h⟩ := h
  rw [want_sound s hb]
  cases b with
  | true =>
    simp only [if_true] at h ⊢
    left
    simp only [Option.bind_eq_some_iff] at h
    obtain ⟨⟨V, u1⟩, h1, h⟩ := h
    simp only at h
    split at h
    case isFalse => simp at h
    rename_i hpins
    simp only [Option.map_eq_some_iff] at h
    obtain ⟨p, hput, rfl⟩ := h
    unfold Oper.wp
    refine Sound.act hcl s h1 K Q ?_
    rintro val w' ⟨F', B', Hn, s1, rep, loc, mvc, e1⟩
    have hp1 := hp.ovl hpins
    unfold put at hput
    cases hdst : o.dst with
    | none =>
      rw [hdst] at hput
      simp only [Option.some.injEq] at hput
      subst hput
      rw [List.nil_append] at k
      exact k a w' F' B' (s1.less (by simp) List.nodup_nil) (e1.less (by simp)) hp1 rfl
    | some d =>
      rw [hdst] at hput
      simp only at hput
      split at hput
      case isFalse => simp at hput
      rename_i hc
      injection hput with hput
      subst hput
      rw [ovl_app] at k
      have s1' : Sim F' B' (Hn ++ []) (ovl u1 g) a w' := by simpa using s1
      obtain ⟨q1, q2⟩ := s1'.put (d := d) (V := V) (val := val) hc.1 (hd d hdst) rep loc (fun i hi y hy => mvc d hdst i hi y hy)
      rw [List.append_nil] at q2
      exact k _ w' F' _ q1 (e1.trans q2) (hp1.put hc.2) (put_size _ _ _)
  | false =>
    simp only [Bool.false_eq_true, if_false] at h ⊢
    unfold put at h
    cases hdst : o.dst with
    | none =>
      rw [hdst] at h
      simp only [Option.some.injEq] at h
      subst h
      exact k a w F B s (Ext.refl _ _ _) hp rfl
    | some d =>
      rw [hdst] at h
      simp only at h
      split at h
      case isFalse => simp at h
      rename_i hc
      injection h with h
      subst h
      have s1' : Sim F B ([] ++ []) g a w := s
      obtain ⟨q1, q2⟩ := s1'.put (d := d) (V := .tup []) (val := undef) hc.1 (hd d hdst) (by simp only [SRep]; exact ⟨[], rfl, by simp [SRepL]⟩) trivial (by simp)
      exact k _ w F _ q1 (by simpa using q2) (hp.put rfl) (put_size _ _ _)
theorem seqOps_sound {C : Cfg} {cl : Cl} {hf : Nat → Bool} {args : List Value} {ops : Array Oper} (hcl : CallOK C.P cl) {Q : Exit → Act → World → Prop} :
    ∀ (os : List Oper) (j : Nat) (k : Nat) {F : Nat → Prop} {B : Nat → List Nat} {g : Nat → Sl} {a : Act} {w : World} {u : Ov}, (∀ i o, os[i]? = some o → ops[j + i]? = some o) → (∀ o ∈ os, ∀ d, o.dst = some d → d < a.tmps.size) →
      Sim F B [] g a w → Pins args g a → seqOps C cl hf ops.toList g k os = some u →
      (∀ a' w' F' B', Sim F' B' [] (ovl u g) a' w' → Ext F (Own B []) w F' (Own B' []) w' → Pins args (ovl u g) a' → a'.tmps.size = a.tmps.size → Q .normal a' w') →
      wpOps C.P ops Q (List.range' j os.length) a w
  | [], j, k, F, B, g, a, w, u, _, _, s, hp, h, K => by
    simp only [seqOps, Option.some.injEq] at h
    subst h
    simp only [List.length_nil, List.range'_zero, wpOps]
    exact K a w F B s (Ext.refl _ _ _) hp rfl
  | o :: os, j, k, F, B, g, a, w, u, ho, hd, s, hp, h, K => by
    simp only [seqOps, Option.bind_eq_some_iff, Option.map_eq_some_iff] at h
    obtain ⟨u1, h1, u2, h2, rfl⟩ := h
    have hj : ops[j]? = some o := by have := ho 0 o (by simp); simpa using this
    simp only [List.length_cons, List.range'_succ, wpOps, hj]
    refine one_sound (args := args) hcl s hp (hd o (by simp)) h1 ?_
    intro a' w' F' B' s1 e1 p1 hsz
    refine seqOps_sound hcl os (j + 1) (k + 1) (fun i o' hi => by have := ho (i + 1) o' (by simpa using hi); rw [← this]; congr 1; omega) (fun o' ho' d hdd => by rw [hsz]; exact hd o' (by simp [ho']) d hdd) s1 p1 h2 ?_
    intro a2 w2 F2 B2 s2 e2 p2 hsz2
    rw [← ovl_app] at s2 p2
    exact K a2 w2 F2 B2 s2 (e1.trans e2) p2 (hsz2.trans hsz)
end Go.Pi

/- Code. -/
namespace Go.Pi
open Go
set_option linter.unusedSimpArgs false
set_option linter.unusedVariables false

def Settled (σ : St) : Prop := ∀ v ∈ σ, settle v = v
structure StSim (n : Nat) (args : List Value) (F : Nat → Prop) (B : Nat → List Nat) (σ : St) (a : Act) (w : World) : Prop where
  sim : Sim F B [] (getS σ) a w
  pins : Pins args (getS σ) a
  tz : a.tmps.size = n
  ln : σ.length = n
  st : Settled σ
theorem settle_settle (v : V) : settle (settle v) = settle v := by cases v <;> rfl
theorem pk_settle {v : V} (h : pk (settle v) = true) : pk v = true := by cases v <;> simp_all [settle, pk]
theorem Sim.settle {F : Nat → Prop} {B : Nat → List Nat} {H : List Nat} {g g' : Nat → Sl} {a : Act} {w : World} (s : Sim F B H g a w) (h : ∀ i, (g' i).v = settle (g i).v) : Sim F B H g' a w := by
  refine ⟨?_, ?_, s.nd, s.dj, s.nF, s.lt, s.ltF, s.hnd, s.hB, s.hF, s.hlt, ?_, s.df⟩
  · intro i
    have hr := s.rep i
    rw [h i]
    cases hv : (g i).v <;> rw [hv] at hr <;> simp only [Go.Pi.settle] <;> simp only [SRep] at hr ⊢ <;> exact hr
  · intro i
    have hl := s.loc i
    unfold Loc at hl ⊢
    rw [h i]
    cases hv : (g i).v <;> rw [hv] at hl <;> simp only [Go.Pi.settle]
    rename_i d
    intro y hy
    apply hl y
    rw [h d] at hy
    cases hd : (g d).v <;> rw [hd] at hy <;> simp [Go.Pi.settle] at hy ⊢
    exact hy
  · intro i hi
    rw [h i, s.sz i hi]
    rfl
theorem fold_length : ∀ (u : Ov) (σ : St), (fold σ u).length = σ.length
  | [], σ => rfl
  | (j, s) :: u, σ => by simp [fold, fold_length u σ]
theorem getS_v (σ : St) (i : Nat) : (getS σ i).v = σ.getD i .gone := rfl
theorem fold_get {σ : St} (hs : Settled σ) : ∀ (u : Ov) (i : Nat), i < σ.length → (fold σ u).getD i .gone = settle (ovl u (getS σ) i).v
  | [], i, hi => by
    simp only [fold, ovl, getS_v]
    rw [List.getD_eq_getElem?_getD, List.getElem?_eq_getElem hi]
    exact (hs _ (List.getElem_mem hi)).symm
  | (j, s) :: u, i, hi => by
    have ih := fold_get hs u i hi
    simp only [fold, ovl]
    rw [List.getD_eq_getElem?_getD, List.getElem?_set]
    by_cases h : j = i
    · subst h
      simp [fold_length, hi]
    · rw [if_neg h, ← List.getD_eq_getElem?_getD, ih, if_neg (fun e => h e.symm)]
theorem fold_settled {σ : St} (hs : Settled σ) : ∀ (u : Ov), Settled (fold σ u)
  | [] => hs
  | (j, s) :: u => by
    intro v hv
    simp only [fold] at hv
    rcases List.mem_or_eq_of_mem_set hv with hv | hv
    · exact fold_settled hs u v hv
    · rw [hv, settle_settle]
theorem StSim.fold {n : Nat} {args : List Value} {F F' : Nat → Prop} {B B' : Nat → List Nat} {σ : St} {a a' : Act} {w w' : World} {u : Ov} (s : StSim n args F B σ a w) (h : Sim F' B' [] (ovl u (getS σ)) a' w') (hp : Pins args (ovl u (getS σ)) a') (hz : a'.tmps.size = a.tmps.size) :
    StSim n args F' B' (fold σ u) a' w' := by
  have hv : ∀ i, (getS (Go.Pi.fold σ u) i).v = settle (ovl u (getS σ) i).v := by
    intro i
    rcases Nat.lt_or_ge i σ.length with hi | hi
    · exact fold_get s.st u i hi
    · have h1 : (ovl u (getS σ) i).v = .gone := h.sz i (by rw [hz, s.tz, ← s.ln]; exact hi)
      rw [h1, getS_v, List.getD_eq_getElem?_getD, List.getElem?_eq_none (by rw [fold_length]; exact hi)]
      rfl
  refine ⟨h.settle hv, ?_, hz.trans s.tz, by rw [fold_length]; exact s.ln, fold_settled s.st u⟩
  intro i v hi hk
  rw [hv i] at hk
  exact hp i v hi (pk_settle hk)
theorem trim_length (keep : List Nat) : ∀ (i : Nat) (σ : St), (trim keep i σ).length = σ.length
  | _, [] => rfl
  | i, v :: σ => by simp [trim, trim_length keep (i + 1) σ]
theorem trim_get (keep : List Nat) : ∀ (k : Nat) (σ : St) (i : Nat), (trim keep k σ).getD i .gone = σ.getD i .gone ∨ (trim keep k σ).getD i .gone = .gone
  | _, [], i => Or.inl rfl
  | k, v :: σ, 0 => by
    simp only [trim]
    split
    · exact Or.inl rfl
    · exact Or.inr rfl
  | k, v :: σ, i + 1 => by
    have := trim_get keep (k + 1) σ i
    simpa [trim] using this
theorem Sim.forget {F : Nat → Prop} {B : Nat → List Nat} {g g' : Nat → Sl} {a : Act} {w : World} (s : Sim F B [] g a w) (hs : ∀ i r iv cv hop off, (g' i).v ≠ .wp r iv cv hop off) (hs' : ∀ i r iv cv hop off n ag, (g' i).v ≠ .ref r iv cv hop off n ag)
    (h : ∀ i, (g' i).v = (g i).v ∨ (g' i).v = .gone) : ∃ B', Sim F B' [] g' a w ∧ ∀ i b, b ∈ B' i → b ∈ B i := by
  have key : ∀ i, ∃ L, SRep w F (g' i).v (a.tmps.getD i undef) L ∧ (L = B i ∨ L = []) := by
    intro i
    rcases h i with q | q
    · exact ⟨B i, by rw [q]; exact s.rep i, Or.inl rfl⟩
    · exact ⟨[], by rw [q]; simp [SRep], Or.inr rfl⟩
  let B' : Nat → List Nat := fun i => Classical.choose (key i)
  have hB1 : ∀ i, SRep w F (g' i).v (a.tmps.getD i undef) (B' i) := fun i => (Classical.choose_spec (key i)).1
  have hB2 : ∀ i, B' i = B i ∨ B' i = [] := fun i => (Classical.choose_spec (key i)).2
  have hsub : ∀ i b, b ∈ B' i → b ∈ B i := by
    intro i b hb
    rcases hB2 i with q | q
    · rwa [q] at hb
    · rw [q] at hb; simp at hb
  refine ⟨B', ⟨hB1, ?_, ?_, fun i j b hi hj => s.dj i j b (hsub i b hi) (hsub j b hj), fun i b hb => s.nF i b (hsub i b hb), fun i b hb => s.lt i b (hsub i b hb), s.ltF, s.hnd, by simp, s.hF, s.hlt, ?_, s.df⟩, hsub⟩
  · intro i
    have hl := s.loc i
    unfold Loc at hl ⊢
    rcases h i with q | q
    · rw [← q] at hl
      split <;> rename_i hv
      · exact absurd hv (hs i _ _ _ _ _)
      · exact absurd hv (hs' i _ _ _ _ _ _ _)
      · rename_i d
        rw [hv] at hl
        intro y hy
        apply hl y
        rcases h d with q2 | q2
        · rw [← q2]; exact hy
        · rw [q2] at hy; simp at hy
      · trivial
    · rw [q]
      trivial
  · intro i
    rcases hB2 i with q | q
    · rw [q]; exact s.nd i
    · rw [q]; exact List.nodup_nil
  · intro i hi
    rcases h i with q | q
    · rw [q]; exact s.sz i hi
    · exact q
theorem Settled.get {σ : St} (h : Settled σ) (i : Nat) : settle (σ.getD i .gone) = σ.getD i .gone := by
  rw [List.getD_eq_getElem?_getD]
  cases hi : σ[i]? with
  | none => rfl
  | some v => exact h v (List.mem_of_getElem? hi)
theorem StSim.trim {n : Nat} {args : List Value} {F : Nat → Prop} {B : Nat → List Nat} {σ : St} {a : Act} {w : World} (s : StSim n args F B σ a w) (keep : List Nat) :
    ∃ B', StSim n args F B' (trim keep 0 σ) a w ∧ Ext F (Own B []) w F (Own B' []) w := by
  have ht : ∀ v ∈ Go.Pi.trim keep 0 σ, settle v = v := by
    intro v hv
    obtain ⟨i, hi⟩ := List.mem_iff_getElem?.mp hv
    have h1 := trim_get keep 0 σ i
    rw [List.getD_eq_getElem?_getD, hi] at h1
    simp only [Option.getD_some] at h1
    rcases h1 with h1 | h1
    · rw [h1]; exact s.st.get i
    · rw [h1]; rfl
  have hst : Settled (Go.Pi.trim keep 0 σ) := ht
  have hnw : ∀ i r iv cv hop off, (getS (Go.Pi.trim keep 0 σ) i).v ≠ .wp r iv cv hop off := by
    intro i r iv cv hop off e
    have := hst.get i
    rw [getS_v] at e
    rw [e] at this
    simp [settle] at this
  have hnr : ∀ i r iv cv hop off m ag, (getS (Go.Pi.trim keep 0 σ) i).v ≠ .ref r iv cv hop off m ag := by
    intro i r iv cv hop off m ag e
    have := hst.get i
    rw [getS_v] at e
    rw [e] at this
    simp [settle] at this
  obtain ⟨B', s1, hsub⟩ := s.sim.forget hnw hnr (fun i => trim_get keep 0 σ i)
  refine ⟨B', ⟨s1, ?_, s.tz, by rw [trim_length]; exact s.ln, hst⟩, ⟨rfl, rfl, rfl, Nat.le_refl _, fun _ _ _ => rfl, fun _ h => h, fun _ h => Or.inl h, ?_⟩⟩
  · intro i v hi hk
    rcases trim_get keep 0 σ i with q | q
    · rw [getS_v, q] at hk
      exact s.pins i v hi hk
    · rw [getS_v, q] at hk
      simp [pk] at hk
  · intro b hb
    rcases hb with ⟨i, hb⟩ | hb
    · exact Or.inl (Or.inl ⟨i, hsub i b hb⟩)
    · simp at hb

/-! ### Code -/
def exitOf : Ex → Exit
  | .nx => .normal
  | .ex id => .exit id
  | .rt => .ret
/-- A region whose order is drawn. -/
def DrawOK (C : Cfg) (cl : Cl) : Prop :=
  ∀ (h : Nat → Bool) (n : Nat) (args : List Value) (id : Nat) (ops : Array Oper) (F : Nat → Prop) (B : Nat → List Nat) (σ : St) (a : Act) (w : World) (u : Ov) (Q : Exit → Act → World → Prop),
    (∀ o ∈ ops.toList, ∀ d, o.dst = some d → d < n) → StSim n args F B σ a w → regionEv C cl h ops.toList true (getS σ) = some u →
    (∀ a' w' F' B', StSim n args F' B' (fold σ u) a' w' → Ext F (Own B []) w F' (Own B' []) w' → Q .normal a' w') → (Code.region id ops true).wp C.P Q a w
theorem ev_sound {C : Cfg} {cl : Cl} {f : FuncId} {m n : Nat} {args : List Value} (hcl : CallOK C.P cl) (hdr : DrawOK C cl) : ∀ (c : Code) {σ σ' : St} {ex : Ex} {F : Nat → Prop} {B : Nat → List Nat} {a : Act} {w : World} {Q : Exit → Act → World → Prop},
    ev C cl f m c σ = some (ex, σ') → dstOk n c = true → StSim n args F B σ a w →
    (∀ a' w' F' B', StSim n args F' B' σ' a' w' → Ext F (Own B []) w F' (Own B' []) w' → Q (exitOf ex) a' w') → c.wp C.P Q a w
  | .skip, σ, σ', ex, F, B, a, w, Q, h, _, s, K => by
    simp only [ev, Option.some.injEq, Prod.mk.injEq] at h
    obtain ⟨rfl, rfl⟩ := h
    exact wp_skip (K a w F B s (Ext.refl _ _ _))
  | .label l, σ, σ', ex, F, B, a, w, Q, h, _, s, K => by
    simp only [ev, Option.some.injEq, Prod.mk.injEq] at h
    obtain ⟨rfl, rfl⟩ := h
    exact wp_label (K a w F B s (Ext.refl _ _ _))
  | .exit id, σ, σ', ex, F, B, a, w, Q, h, _, s, K => by
    simp only [ev, Option.some.injEq, Prod.mk.injEq] at h
    obtain ⟨rfl, rfl⟩ := h
    exact wp_exit (K a w F B s (Ext.refl _ _ _))
  | .ret, σ, σ', ex, F, B, a, w, Q, h, _, s, K => by
    simp only [ev, Option.some.injEq, Prod.mk.injEq] at h
    obtain ⟨rfl, rfl⟩ := h
    exact wp_ret (K a w F B s (Ext.refl _ _ _))
  | .region id ops draw, σ, σ', ex, F, B, a, w, Q, h, hd, s, K => by
    simp only [ev, Option.map_eq_some_iff, Prod.mk.injEq] at h
    obtain ⟨u, hu, rfl, rfl⟩ := h
    have hdst : ∀ o ∈ ops.toList, ∀ d, o.dst = some d → d < n := by
      intro o ho d hod
      simp only [dstOk, List.all_eq_true] at hd
      have := hd o ho
      rw [hod] at this
      simpa using this
    cases draw with
    | true => exact hdr _ n args id ops F B σ a w u Q hdst s hu K
    | false =>
      refine wp_region ?_
      simp only [regionEv, Bool.false_eq_true, if_false] at hu
      have := seqOps_sound (args := args) (Q := Q) hcl ops.toList 0 0 (fun i o hi => by simpa using hi) (fun o ho d hod => by rw [s.tz]; exact hdst o ho d hod) s.sim s.pins hu
        (fun a' w' F' B' s1 e1 p1 hz => K a' w' F' B' (s.fold s1 p1 hz) e1)
      rw [Array.length_toList, ← List.range_eq_range'] at this
      exact this
  | .seq x y, σ, σ', ex, F, B, a, w, Q, h, hd, s, K => by
    simp only [dstOk, Bool.and_eq_true] at hd
    simp only [ev, andThen] at h
    refine wp_seq ?_
    cases hx : ev C cl f m x σ with
    | none => rw [hx] at h; simp at h
    | some r =>
      obtain ⟨ex1, σ1⟩ := r
      rw [hx] at h
      cases ex1 with
      | nx =>
        simp only at h
        refine ev_sound hcl hdr x hx hd.1 s fun a1 w1 F1 B1 s1 e1 => ?_
        exact ev_sound hcl hdr y h hd.2 s1 fun a2 w2 F2 B2 s2 e2 => K a2 w2 F2 B2 s2 (e1.trans e2)
      | ex i =>
        simp only [Option.some.injEq, Prod.mk.injEq] at h
        obtain ⟨rfl, rfl⟩ := h
        exact ev_sound hcl hdr x hx hd.1 s fun a1 w1 F1 B1 s1 e1 => K a1 w1 F1 B1 s1 e1
      | rt =>
        simp only [Option.some.injEq, Prod.mk.injEq] at h
        obtain ⟨rfl, rfl⟩ := h
        exact ev_sound hcl hdr x hx hd.1 s fun a1 w1 F1 B1 s1 e1 => K a1 w1 F1 B1 s1 e1
  | .cond c x y, σ, σ', ex, F, B, a, w, Q, h, hd, s, K => by
    simp only [dstOk, Bool.and_eq_true] at hd
    simp only [ev, Option.bind_eq_some_iff] at h
    obtain ⟨d, hc, h⟩ := h
    obtain ⟨M, hM⟩ := s.sim.peek hc
    unfold condD at h
    split at h
    · rename_i t
      refine wp_cond (rep_bool hM) ?_
      cases t with
      | true => exact ev_sound hcl hdr x (by simpa using h) hd.1 s K
      | false => exact ev_sound hcl hdr y (by simpa using h) hd.2 s K
    · simp at h
  | .block id x, σ, σ', ex, F, B, a, w, Q, h, hd, s, K => by
    simp only [dstOk] at hd
    simp only [ev] at h
    refine wp_block ?_
    cases hx : ev C cl f m x σ with
    | none => rw [hx] at h; simp [endBlock] at h
    | some r =>
      obtain ⟨ex1, σ1⟩ := r
      rw [hx] at h
      refine ev_sound hcl hdr x hx hd s fun a1 w1 F1 B1 s1 e1 => ?_
      cases ex1 with
      | nx =>
        simp only [endBlock, Option.some.injEq, Prod.mk.injEq] at h
        obtain ⟨rfl, rfl⟩ := h
        exact K a1 w1 F1 B1 s1 e1
      | ex i =>
        simp only [endBlock] at h
        simp only [exitOf, Exit.inBlock]
        split at h
        · rename_i hi
          simp only [Option.some.injEq, Prod.mk.injEq] at h
          obtain ⟨rfl, rfl⟩ := h
          rw [if_pos hi]
          exact K a1 w1 F1 B1 s1 e1
        · rename_i hi
          simp only [Option.some.injEq, Prod.mk.injEq] at h
          obtain ⟨rfl, rfl⟩ := h
          rw [if_neg hi]
          exact K a1 w1 F1 B1 s1 e1
      | rt =>
        simp only [endBlock, Option.some.injEq, Prod.mk.injEq] at h
        obtain ⟨rfl, rfl⟩ := h
        exact K a1 w1 F1 B1 s1 e1
  | .loop x, σ, σ', ex, F, B, a, w, Q, h, hd, s, K => by
    simp only [dstOk] at hd
    simp only [ev] at h
    refine wp_loop_rounds m ?_
    have key : ∀ (k : Nat) {σ : St} {F1 : Nat → Prop} {B1 : Nat → List Nat} {a : Act} {w1 : World}, iter (C.keep f) (ev C cl f m x) k σ = some (ex, σ') → StSim n args F1 B1 σ a w1 → Ext F (Own B []) w F1 (Own B1 []) w1 → Code.rounds C.P x Q k a w1 := by
      intro k
      induction k with
      | zero => intro σ F1 B1 a w1 h _ _; simp [iter] at h
      | succ k ih =>
        intro σ F1 B1 a w1 h s e
        rw [rounds_succ]
        obtain ⟨B2, s2, e2⟩ := s.trim (C.keep f)
        simp only [iter] at h
        cases hx : ev C cl f m x (Go.Pi.trim (C.keep f) 0 σ) with
        | none => rw [hx] at h; simp at h
        | some r =>
          obtain ⟨ex1, σ1⟩ := r
          rw [hx] at h
          refine ev_sound hcl hdr x hx hd s2 fun a3 w3 F3 B3 s3 e3 => ?_
          cases ex1 with
          | nx =>
            simp only at h
            exact ih h s3 ((e.trans e2).trans e3)
          | ex i =>
            simp only [Option.some.injEq, Prod.mk.injEq] at h
            obtain ⟨rfl, rfl⟩ := h
            exact K a3 w3 F3 B3 s3 ((e.trans e2).trans e3)
          | rt =>
            simp only [Option.some.injEq, Prod.mk.injEq] at h
            obtain ⟨rfl, rfl⟩ := h
            exact K a3 w3 F3 B3 s3 ((e.trans e2).trans e3)
    exact key m h s (Ext.refl _ _ _)
  | .goto _, σ, σ', ex, F, B, a, w, Q, h, _, s, K => by simp [ev] at h
  | .refuse _, σ, σ', ex, F, B, a, w, Q, h, _, s, K => by simp [ev] at h
  | .scope _, σ, σ', ex, F, B, a, w, Q, h, _, s, K => by simp [ev] at h
  | .rangeFunc _ _ _ _, σ, σ', ex, F, B, a, w, Q, h, _, s, K => by simp [ev] at h
end Go.Pi

/- Functions. -/
namespace Go.Pi
open Go
set_option linter.unusedSimpArgs false
set_option linter.unusedVariables false

def Parts (B : Nat → List Nat) : List Nat → List Nat → Prop
  | [], R => R = []
  | t :: ts, R => ∃ L R', R = L ++ R' ∧ L.Nodup ∧ (∀ b ∈ L, b ∈ B t) ∧ Parts B ts R'
theorem Parts.append {B : Nat → List Nat} : ∀ {ts us R S : List Nat}, Parts B ts R → Parts B us S → Parts B (ts ++ us) (R ++ S)
  | [], us, R, S, h, k => by
    simp only [Parts] at h
    subst h
    simpa using k
  | t :: ts, us, R, S, h, k => by
    simp only [Parts] at h
    obtain ⟨L, R', rfl, h2, h3, h4⟩ := h
    simp only [List.cons_append, Parts]
    exact ⟨L, R' ++ S, by simp, h2, h3, h4.append k⟩
theorem Parts.mem {B : Nat → List Nat} : ∀ {ts R : List Nat}, Parts B ts R → ∀ b ∈ R, ∃ t ∈ ts, b ∈ B t
  | [], R, h => by
    simp only [Parts] at h
    subst h
    simp
  | t :: ts, R, h => by
    simp only [Parts] at h
    obtain ⟨L, R', rfl, h2, h3, h4⟩ := h
    intro b hb
    rcases List.mem_append.mp hb with hb | hb
    · exact ⟨t, by simp, h3 b hb⟩
    · obtain ⟨t', q1, q2⟩ := h4.mem b hb
      exact ⟨t', by simp [q1], q2⟩
theorem Parts.nodup {B : Nat → List Nat} (dj : ∀ i j b, b ∈ B i → b ∈ B j → i = j) : ∀ {ts R : List Nat}, Parts B ts R → ts.Nodup → R.Nodup
  | [], R, h, _ => by
    simp only [Parts] at h
    subst h
    exact List.nodup_nil
  | t :: ts, R, h, hn => by
    simp only [Parts] at h
    obtain ⟨L, R', rfl, h2, h3, h4⟩ := h
    rw [List.nodup_cons] at hn
    rw [List.nodup_append]
    refine ⟨h2, h4.nodup dj hn.2, ?_⟩
    rintro b hb c hc rfl
    obtain ⟨t', q1, q2⟩ := h4.mem b hc
    have := dj t t' b (h3 b hb) q2
    exact hn.1 (by rw [this]; exact q1)
theorem SRepL.spread {w : World} {F : Nat → Prop} : ∀ {xs : List V} {vs : List Value} {O : List Nat}, SRepL w F xs vs O → O.Nodup →
    ∃ B : Nat → List Nat, (∀ i, SRep w F (xs.getD i .gone) (vs.getD i undef) (B i)) ∧ (∀ i, (B i).Nodup) ∧ (∀ i j b, b ∈ B i → b ∈ B j → i = j) ∧ (∀ i b, b ∈ B i → b ∈ O) ∧ ∀ i, xs.length ≤ i → B i = []
  | [], vs, O, h, _ => ⟨fun _ => [], by intro i; simp [SRep], by simp, by simp, by simp, by simp⟩
  | x :: xs, vs, O, h, hn => by
    simp only [SRepL] at h
    obtain ⟨v, vs', B1, B2, rfl, rfl, h3, h4⟩ := h
    have hnd := List.nodup_append.mp hn
    obtain ⟨B, k1, k2, k3, k4, k5⟩ := SRepL.spread h4 hnd.2.1
    refine ⟨fun i => match i with | 0 => B1 | i + 1 => B i, ?_, ?_, ?_, ?_, ?_⟩
    · intro i
      cases i with
      | zero => simpa using h3
      | succ i => simpa using k1 i
    · intro i
      cases i with
      | zero => exact hnd.1
      | succ i => exact k2 i
    · intro i j b hi hj
      cases i with
      | zero =>
        cases j with
        | zero => rfl
        | succ j => exact absurd rfl (hnd.2.2 b hi b (k4 j b hj))
      | succ i =>
        cases j with
        | zero => exact absurd rfl (hnd.2.2 b hj b (k4 i b hi))
        | succ j => rw [k3 i j b hi hj]
    · intro i b hb
      cases i with
      | zero => exact List.mem_append.mpr (Or.inl hb)
      | succ i => exact List.mem_append.mpr (Or.inr (k4 i b hb))
    · intro i hi
      cases i with
      | zero => simp at hi
      | succ i => exact k5 i (by simpa using hi)
theorem fBody_run {P : Program} {f : FuncId} {nt : Nat} {rs : List ResultVar} {c : Code} (h : fBody P f = some (nt, rs, c)) : ∃ fn, P.funcs[f]? = some fn ∧ fn.body = some c ∧ fn.ntmps = nt ∧ fn.results.toList = rs ∧ dstOk nt c = true := by
  unfold fBody at h
  split at h
  · rename_i fn hf
    simp only [Option.bind_eq_some_iff] at h
    obtain ⟨c', hb, h⟩ := h
    split at h
    · rename_i hd
      injection h with h
      injection h with h1 h
      injection h with h2 h3
      subst h1 h2 h3
      exact ⟨fn, hf, hb, rfl, rfl, hd⟩
    · simp at h
  · simp at h
theorem okArg_start {args : List V} (h : args.all okArg = true) (n i : Nat) : ((args ++ List.replicate n V.gone).getD i V.gone = V.gone) ∨ okArg ((args ++ List.replicate n V.gone).getD i V.gone) = true := by
  rw [List.getD_eq_getElem?_getD]
  rcases Nat.lt_or_ge i args.length with hi | hi
  · right
    rw [List.getElem?_append_left hi, List.getElem?_eq_getElem hi]
    exact List.all_eq_true.mp h _ (List.getElem_mem hi)
  · left
    rw [List.getElem?_append_right hi]
    cases hx : (List.replicate n V.gone)[i - args.length]? with
    | none => rfl
    | some v =>
      have := List.mem_replicate.mp (List.mem_of_getElem? hx)
      simpa using this.2
/-- The state at a function's beginning. -/
theorem start_sim {w : World} {F : Nat → Prop} {O : List Nat} {as : List V} {vals : List Value} (nt : Nat) (hr : SRepL w F as vals O) (hn : O.Nodup) (hO : ∀ b ∈ O, ¬ F b ∧ b < w.heap.size) (hF : ∀ b, F b → b < w.heap.size) (hok : as.all okArg = true) (hlen : as.length ≤ nt) :
    ∃ B, StSim nt vals F B (as ++ List.replicate (nt - as.length) .gone) { tmps := vals.toArray ++ Array.replicate (nt - vals.toArray.size) undef, defers := [] } w ∧ ∀ b, Own B [] b → b ∈ O := by
  obtain ⟨B, k1, k2, k3, k4, k5⟩ := hr.spread hn
  have hvl := hr.length
  have hstart : ∀ i, (as ++ List.replicate (nt - as.length) V.gone).getD i .gone = as.getD i .gone := by
    intro i
    rw [List.getD_eq_getElem?_getD, List.getD_eq_getElem?_getD]
    rcases Nat.lt_or_ge i as.length with hi | hi
    · rw [List.getElem?_append_left hi]
    · rw [List.getElem?_append_right hi, List.getElem?_eq_none hi]
      cases hx : (List.replicate (nt - as.length) V.gone)[i - as.length]? with
      | none => rfl
      | some v =>
        have := List.mem_replicate.mp (List.mem_of_getElem? hx)
        simpa using this.2
  have htm : ∀ i, i < as.length → (vals.toArray ++ Array.replicate (nt - vals.toArray.size) undef).getD i undef = vals.getD i undef := by
    intro i hi
    rw [Array.getD_eq_getD_getElem?, Array.getElem?_append_left (by simp; omega), List.getD_eq_getElem?_getD]
    simp
  have hokd : ∀ i, as.getD i .gone = .gone ∨ okArg (as.getD i .gone) = true := by
    intro i
    rw [← hstart i]
    exact okArg_start hok _ i
  have hszt : (vals.toArray ++ Array.replicate (nt - vals.toArray.size) undef).size = nt := by
    simp
    omega
  refine ⟨B, ⟨?_, ?_, hszt, by simp; omega, ?_⟩, ?_⟩
  · refine ⟨?_, ?_, k2, k3, fun i b hb => (hO b (k4 i b hb)).1, fun i b hb => (hO b (k4 i b hb)).2, hF, List.nodup_nil, by simp, by simp, by simp, ?_, rfl⟩
    · intro i
      rw [getS_v, hstart]
      rcases Nat.lt_or_ge i as.length with hi | hi
      · rw [htm i hi]
        exact k1 i
      · rw [k5 i hi, List.getD_eq_getElem?_getD, List.getElem?_eq_none hi]
        simp [SRep]
    · intro i
      unfold Loc
      rw [getS_v, hstart]
      rcases hokd i with q | q
      · rw [q]; trivial
      · cases hv : as.getD i .gone <;> rw [hv] at q <;> simp [okArg] at q <;> trivial
    · intro i hi
      rw [hszt] at hi
      rw [getS_v, hstart, List.getD_eq_getElem?_getD, List.getElem?_eq_none (by omega)]
      rfl
  · intro i v hi _
    have hlt : i < vals.length := (List.getElem?_eq_some_iff.mp hi).1
    show (vals.toArray ++ Array.replicate (nt - vals.toArray.size) undef).getD i undef = v
    rw [htm i (by omega), List.getD_eq_getElem?_getD, hi]
    rfl
  · intro v hv
    rcases List.mem_append.mp hv with hv | hv
    · have := List.all_eq_true.mp hok v hv
      cases v <;> simp_all [okArg, settle]
    · rw [(List.mem_replicate.mp hv).2]; rfl
  · rintro b (⟨i, hb⟩ | hb)
    · exact k4 i b hb
    · simp at hb
theorem outV_eq {v V : V} (h : outV v = some V) : v = V ∧ okRes V = true := by
  unfold outV at h
  split at h <;> simp only [Option.some.injEq, reduceCtorEq] at h <;> subst h <;> exact ⟨rfl, rfl⟩
def resF (a : Act) : ResultVar → Sem Value
  | .tmp t => pure (a.tmps.getD t undef)
  | .cell c t => do loadVar t (← asAddr (a.tmps.getD c undef))
/-- The results. -/
theorem res_sound {P : Program} {F : Nat → Prop} {B : Nat → List Nat} {σ : St} {a : Act} {w : World} (s : Sim F B [] (getS σ) a w) : ∀ {rs : List ResultVar} {xs : List (V × Nat)}, resVs P σ rs = some xs →
    ∃ vs R, (rs.mapM (resF a)).run P w = .ok vs w ∧ SRepL w F (xs.map (·.1)) vs R ∧ Parts B (xs.map (·.2)) R ∧ ∀ x ∈ xs, okRes x.1 = true
  | [], xs, h => by
    simp only [resVs, Option.some.injEq] at h
    subst h
    exact ⟨[], [], rfl, SRepL.nil, rfl, by simp⟩
  | r :: rs, xs, h => by
    simp only [resVs, Option.bind_eq_some_iff, Option.map_eq_some_iff] at h
    obtain ⟨⟨V, t⟩, h1, xs', h2, rfl⟩ := h
    obtain ⟨vs, R, k1, k2, k3, k4⟩ := res_sound s h2
    have one : ∃ v L, (resF a r).run P w = .ok v w ∧ SRep w F V v L ∧ L.Nodup ∧ (∀ b ∈ L, b ∈ B t) ∧ okRes V = true := by
      unfold resV at h1
      cases r with
      | tmp t' =>
        simp only [Option.map_eq_some_iff] at h1
        obtain ⟨V', h1, h3⟩ := h1
        injection h3 with h3 h4
        subst h3 h4
        obtain ⟨e, ok⟩ := outV_eq h1
        have hr := s.rep t'
        rw [getS_v, e] at hr
        exact ⟨_, _, rfl, hr, s.nd t', fun b hb => hb, ok⟩
      | cell c t' =>
        simp only [Option.bind_eq_some_iff] at h1
        obtain ⟨⟨n, ag⟩, ht, h1⟩ := h1
        simp only at h1
        unfold cellV at h1
        split at h1
        · rename_i x hv
          split at h1
          · rename_i hc
            injection h1 with h1
            injection h1 with h3 h4
            subst h3 h4
            have hr := s.rep c
            rw [getS_v, hv] at hr
            simp only [SRep] at hr
            obtain ⟨b, u, ty, B', e1, e2, e3, e4⟩ := hr
            obtain ⟨_, _, _, q4⟩ := e3.cells
            have hu : ofCells ag u.cells.toList = u := by rw [← hc.2]; exact ofCells_self e3
            have hl := run_loadVar (P := P) (w := w) (b := b) (o := 0) (us := u.cells.toList) ht (by simp [q4, hc.1]) (fun e => by
              rw [← hc.1, D.width, D.cells_one (by rw [hc.2]; exact e)]; rfl) (fun k hk => by rw [cell_cells e2]; simp)
            rw [hu] at hl
            have hnd := s.nd c
            rw [e4] at hnd
            refine ⟨u, B', ?_, srep_toV e3, (List.nodup_cons.mp hnd).2, fun b' hb' => by rw [e4]; simp [hb'], ?_⟩
            · simp only [resF, Sem.run_bind, e1, asAddr, Sem.run_pure, Result.andThen_ok, hl]
            · unfold toV
              split <;> rfl
          · simp at h1
        · simp at h1
    obtain ⟨v, L, q1, q2, q3, q4, q5⟩ := one
    refine ⟨v :: vs, L ++ R, ?_, SRepL.cons q2 k2, ⟨L, R, rfl, q3, q4, k3⟩, ?_⟩
    · rw [List.mapM_cons]
      simp only [Sem.run_bind, q1, k1, Result.andThen_ok, Sem.run_pure]
    · intro x hx
      rcases List.mem_cons.mp hx with hx | hx
      · rw [hx]; exact q5
      · exact k4 x hx
theorem back_sound {F : Nat → Prop} {B : Nat → List Nat} {σ : St} {a : Act} {w : World} {allv : List Value} (s : Sim F B [] (getS σ) a w) (hp : Pins allv (getS σ) a) : ∀ {as : List V} {i : Nat} {vals : List Value} {ys : List (D × Nat)}, vals.length = as.length → (∀ k v, vals[k]? = some v → allv[i + k]? = some v) →
    backsL σ i as = some ys → ∃ O, Back w F as vals (ys.map (·.1)) O ∧ Parts B (ys.map (·.2)) O
  | [], i, vals, ys, hl, _, h => by
    simp only [backsL, Option.some.injEq] at h
    subst h
    have : vals = [] := nil_of_len (by simpa using hl)
    exact ⟨[], by simp only [Back]; exact ⟨this, rfl, trivial⟩, rfl⟩
  | arg :: as, i, vals, ys, hl, hv, h => by
    cases vals with
    | nil => simp at hl
    | cons val vals =>
      have hval : allv[i]? = some val := by have := hv 0 val rfl; simpa using this
      have hrest : ∀ k v, vals[k]? = some v → allv[i + 1 + k]? = some v := by
        intro k v hk
        have := hv (k + 1) v (by simpa using hk)
        rw [← this]
        congr 1
        omega
      have skip : isLink arg = false → backsL σ (i + 1) as = some ys → ∃ O, Back w F (arg :: as) (val :: vals) (ys.map (·.1)) O ∧ Parts B (ys.map (·.2)) O := by
        intro h1 h2
        obtain ⟨O, k1, k2⟩ := back_sound s hp (by simpa using hl) hrest h2
        exact ⟨O, by simp only [Back]; exact ⟨val, vals, rfl, Or.inl ⟨h1, k1⟩⟩, k2⟩
      have link : ∀ (y : D) (t : Nat) (ys' : List (D × Nat)) (M : List Nat), isLink arg = true → backsL σ (i + 1) as = some ys' → ys = (y, t) :: ys' → SRep w F (withD arg y) val M → M.Nodup → (∀ b ∈ M, b ∈ B t) →
          ∃ O, Back w F (arg :: as) (val :: vals) (ys.map (·.1)) O ∧ Parts B (ys.map (·.2)) O := by
        intro y t ys' M h1 h2 h3 h4 h5 h6
        subst h3
        obtain ⟨O, k1, k2⟩ := back_sound s hp (by simpa using hl) hrest h2
        exact ⟨M ++ O, by simp only [Back, List.map_cons]; exact ⟨val, vals, rfl, Or.inr ⟨h1, y, _, M, O, rfl, rfl, h4, k1⟩⟩, ⟨M, O, rfl, h5, h6, k2⟩⟩
      have hri := s.rep i
      rw [getS_v] at hri
      cases arg <;> simp only [backsL] at h
      case own p x =>
        simp only [Option.bind_eq_some_iff, Option.map_eq_some_iff] at h
        obtain ⟨⟨y, t⟩, h1, ys', h2, rfl⟩ := h
        unfold bkOwn at h1
        split at h1
        · rename_i z hz
          injection h1 with h1
          injection h1 with h3 h4
          subst h3 h4
          rw [hz] at hri
          have := hp i val hval (by rw [getS_v, hz]; rfl)
          rw [this] at hri
          exact link _ _ ys' (B i) rfl h2 rfl (by simpa only [withD, SRep] using hri) (s.nd i) (fun b hb => hb)
        · rename_i d hz
          unfold bkBox at h1
          split at h1
          · rename_i q z hq
            split at h1
            · rename_i hc
              injection h1 with h1
              injection h1 with h3 h4
              subst h3 h4
              obtain ⟨rfl, hag⟩ := hc
              have hval' := hp i val hval (by rw [getS_v, hz]; rfl)
              have hl := s.loc i
              unfold Loc at hl
              rw [getS_v, hz] at hl
              obtain ⟨vs, b, ty, l1, l2, l3⟩ := hl z (by rw [getS_v, hq])
              have hrd := s.rep d
              rw [getS_v, hq] at hrd
              simp only [SRep] at hrd
              obtain ⟨b', u, ty', B', e1, e2, e3, e4⟩ := hrd
              rw [l2] at e1
              injection e1 with e1
              injection e1 with e1
              injection e1 with e1
              subst e1
              rw [l3] at e2
              injection e2 with e2
              injection e2 with e2
              have hu : u = val := by
                rw [← hval', l1]
                cases z <;> simp [D.isAgg] at hag
                simp only [Rep] at e3
                obtain ⟨us, r1, _⟩ := e3
                rw [r1] at e2 ⊢
                rw [e2]
                rfl
              subst hu
              have hnd := s.nd d
              rw [e4] at hnd
              exact link _ _ ys' B' rfl h2 rfl (by simpa only [withD, SRep] using e3) (List.nodup_cons.mp hnd).2 (fun c hc => by rw [e4]; simp [hc])
            · simp at h1
          · simp at h1
        · simp at h1
      case box p x =>
        simp only [Option.bind_eq_some_iff, Option.map_eq_some_iff] at h
        obtain ⟨⟨y, t⟩, h1, ys', h2, rfl⟩ := h
        unfold bkPtr at h1
        split at h1
        · rename_i z hz
          injection h1 with h1
          injection h1 with h3 h4
          subst h3 h4
          rw [hz] at hri
          have := hp i val hval (by rw [getS_v, hz]; rfl)
          rw [this] at hri
          exact link _ _ ys' (B i) rfl h2 rfl (by simpa only [withD, SRep] using hri) (s.nd i) (fun b hb => hb)
        · simp at h1
      all_goals exact skip rfl h
theorem fn_sound {C : Cfg} {cl : Cl} {f : FuncId} {n : Nat} (hcl : CallOK C.P cl) (hdr : DrawOK C cl) {as : List V} {res : V} {ys : List D} (h : body C cl n f as = some (res, ys)) : FnOK C.P f as res ys := by
  unfold body at h
  simp only [Option.bind_eq_some_iff] at h
  obtain ⟨⟨nt, rs, c⟩, hb, h⟩ := h
  simp only at h
  split at h
  · simp at h
  rename_i hok
  simp only [Bool.not_eq_true, Bool.not_eq_false', Bool.and_eq_true, decide_eq_true_eq] at hok
  obtain ⟨hok, hargs⟩ := hok
  simp only [Option.bind_eq_some_iff] at h
  obtain ⟨σ', hend, hfin⟩ := h
  obtain ⟨fn, hf, hfb, hnt, hrs, hdst⟩ := fBody_run hb
  intro w F O vals hrep hnd hO hF
  obtain ⟨B, s0, hOwn⟩ := start_sim nt hrep hnd hO hF hok hargs
  refine calls_of_wp hf hfb ?_
  rw [hnt]
  have fin : ∀ a' w' F' B', StSim nt vals F' B' σ' a' w' → Ext F (Own B []) w F' (Own B' []) w' → a'.defers = [] ∧ ∃ v, (results fn a'.tmps).run C.P w' = .ok v w' ∧
      (∃ v' F'' R O', Ending.returned v = .returned v' ∧ SRep w' F'' res v' R ∧ Back w' F'' as vals ys O' ∧ (R ++ O').Nodup ∧ (∀ b ∈ R ++ O', ¬ F'' b ∧ b < w'.heap.size) ∧ (∀ b, F'' b → b < w'.heap.size) ∧ okRes res = true ∧ Ext F (fun b => b ∈ O) w F'' (fun b => b ∈ R ++ O') w') := by
    intro a' w' F' B' s1 e1
    refine ⟨s1.sim.df, ?_⟩
    unfold finish at hfin
    simp only [Option.bind_eq_some_iff] at hfin
    obtain ⟨xs, hxs, zs, hzs, hfin⟩ := hfin
    split at hfin
    case isFalse => simp at hfin
    rename_i hnub
    injection hfin with hfin
    injection hfin with h1 h2
    subst h1 h2
    obtain ⟨vs, R, q1, q2, q3, q4⟩ := res_sound (P := C.P) s1.sim hxs
    obtain ⟨O', r1, r2⟩ := back_sound s1.sim s1.pins hrep.length (fun k v hk => by simpa using hk) hzs
    have hparts := q3.append r2
    have hRn := hparts.nodup s1.sim.dj (nub_nodup hnub)
    have hRm := hparts.mem
    have hres : (results fn a'.tmps).run C.P w' = .ok (if h : vs.toArray.size = 1 then vs.toArray[0] else .tuple vs.toArray) w' := by
      have e : results fn a'.tmps = (do let vs ← fn.results.mapM (resF a'); pure (if h : vs.size = 1 then vs[0] else .tuple vs)) := rfl
      rw [e, Array.mapM_eq_mapM_toList, hrs]
      simp only [Sem.run_bind, Sem.run_map, q1, Result.andThen_ok, Sem.run_pure]
    refine ⟨_, hres, _, F', R, O', rfl, ?_, r1, hRn, ?_, s1.sim.ltF, ?_, ?_⟩
    · have hl := q2.length
      unfold tupV
      split
      · rename_i x
        simp only [List.map_cons, List.map_nil, SRepL] at q2
        obtain ⟨v, vs', B1, B2, rfl, rfl, p1, rfl, rfl⟩ := q2
        simpa using p1
      · rename_i hne
        have hne1 : vs.length ≠ 1 := by
          intro e
          rw [List.length_map] at hl
          rw [e] at hl
          obtain ⟨x, hx⟩ := List.length_eq_one_iff.mp hl.symm
          exact hne x hx
        rw [dif_neg (by simpa using hne1)]
        simp only [SRep]
        exact ⟨vs, rfl, q2⟩
    · intro b hb
      obtain ⟨t, _, h2⟩ := hRm b hb
      exact ⟨s1.sim.nF t b h2, s1.sim.lt t b h2⟩
    · unfold tupV
      split
      · exact q4 _ (by simp)
      · rfl
    · refine ⟨e1.os, e1.tape, e1.output, e1.size, fun b hb hn => e1.keep b hb fun ho => hn (hOwn b ho), e1.mono, fun b hb => ?_, fun b hb => ?_⟩
      · rcases e1.newF b hb with q | q | q
        · exact Or.inl q
        · exact Or.inr (Or.inl (hOwn b q))
        · exact Or.inr (Or.inr q)
      · obtain ⟨t, _, h2⟩ := hRm b hb
        rcases e1.newO b (Or.inl ⟨t, h2⟩) with q | q
        · exact Or.inl (hOwn b q)
        · exact Or.inr q
  unfold atEnd at hend
  split at hend
  · rename_i σ1 hev
    injection hend with hend
    subst hend
    exact ev_sound hcl hdr c hev hdst s0 fun a' w' F' B' s1 e1 => fin a' w' F' B' s1 e1
  · rename_i σ1 hev
    injection hend with hend
    subst hend
    exact ev_sound hcl hdr c hev hdst s0 fun a' w' F' B' s1 e1 => fin a' w' F' B' s1 e1
  · simp at hend
end Go.Pi

/- The interpreter is sound. -/
namespace Go.Pi
open Go

/-- Functions that are given by contract. -/
def ExtOK (C : Cfg) : Prop := ∀ f h as res ys, C.ext f = some h → h as = some (res, ys) → FnOK C.P f as res ys
theorem run_sound {C : Cfg} (hx : ExtOK C) (hdr : ∀ cl, CallOK C.P cl → DrawOK C cl) : ∀ n, CallOK C.P (run C n)
  | 0 => fun f as res ys fl h _ => by simp [run] at h
  | n + 1 => fun f as res ys fl h hf => by
    simp only [run] at h
    split at h
    · rename_i k hk
      exact hx f k as res ys hk h
    · exact fn_sound (run_sound hx hdr n) (hdr _ (run_sound hx hdr n)) h
end Go.Pi
