/- Part 2 of an interpreter over value trees, shown sound for the model. -/
import Derived.Test.YtgclannlnahaeaaP1
import Derived.Laws.Cells
import Derived.Laws.CopyRow
import Derived.Laws.Strings
import Derived.Laws.StructEq
import Derived.Laws.IdiomStrings
import Derived.Laws.BytesArg
import Derived.Laws.Slices
import Derived.Laws.AppendOwn
set_option linter.unusedVariables false
set_option linter.unusedSimpArgs false
set_option linter.unusedSectionVars false
/- Operations: moves, assignments, loads, stores, addresses. -/
namespace Go.Pi
open Go
set_option linter.unusedSimpArgs false
set_option linter.unusedVariables false

def Mvc (g' : Nat → Sl) (a : Act) (w' : World) (dst : Option Tmp) (V : V) (val : Value) : Prop :=
  ∀ d, dst = some d → ∀ i, (g' i).v = .mv d → ∀ y, V = .box (i + 2) y → ∃ vs b t, a.tmps.getD i undef = .agg vs ∧ val = .pointer (some ⟨b, 0, none⟩) ∧ w'.heap[b]? = some (.cells vs t (0, 0))
/-- A value is there, in a state that the interpreter tells. -/
def Res (F : Nat → Prop) (B : Nat → List Nat) (g' : Nat → Sl) (a : Act) (w : World) (dst : Option Tmp) (V : V) (val : Value) (w' : World) : Prop :=
  ∃ F' B' Hn, Sim F' B' Hn g' a w' ∧ SRep w' F' V val Hn ∧ LocV g' a w' V val ∧ Mvc g' a w' dst V val ∧ Ext F (Own B []) w F' (Own B' Hn) w'
def Sound (P : Program) (F : Nat → Prop) (B : Nat → List Nat) (g : Nat → Sl) (a : Act) (w : World) (o : Oper) (V : V) (u : Ov) : Prop :=
  ∀ (next : Act → World → Prop) (Q : Exit → Act → World → Prop), (∀ val w', Res F B (ovl u g) a w o.dst V val w' → next (a.put o.dst val) w') → o.upon P a next Q ((execOp a.eval o).run P w)
theorem Sound.value {P : Program} {F : Nat → Prop} {B : Nat → List Nat} {g : Nat → Sl} {a : Act} {w w' : World} {o : Oper} {V : V} {u : Ov} {val : Value}
    (h : (execOp a.eval o).run P w = .ok (.value val) w') (r : Res F B (ovl u g) a w o.dst V val w') : Sound P F B g a w o V u := by
  intro next Q k
  rw [h]
  exact k val w' r
theorem Sound.skip {P : Program} {F : Nat → Prop} {B : Nat → List Nat} {g : Nat → Sl} {a : Act} {w w' : World} {o : Oper} {V : V} {u : Ov}
    (h : (execOp a.eval o).run P w = .ok .skip w') (r : Res F B (ovl u g) a w o.dst V undef w') : Sound P F B g a w o V u := by
  intro next Q k
  rw [h]
  exact k undef w' r

theorem D.ownsNot {w : World} {F : Nat → Prop} {x : D} {v : Value} {B : List Nat} (h : Rep w F x v B) (hx : x.owns = false) : B = [] := by
  have key : ∀ (xs : List D) (vs : List Value) (B : List Nat), RepL w F xs vs B → (∀ c ∈ xs, c.isAgg = false) → (∀ c ∈ xs, c.own1 = false) → B = [] := by
    intro xs
    induction xs with
    | nil => intro vs B h _ _; simp only [RepL] at h; exact h.2
    | cons x xs ih =>
      intro vs B h k1 k2
      simp only [RepL] at h
      obtain ⟨v, vs', B1, B2, h1, h2, h3, h4⟩ := h
      rw [h2, h3.noOwn (k2 x (by simp)) (k1 x (by simp)), ih vs' B2 h4 (fun c hc => k1 c (by simp [hc])) (fun c hc => k2 c (by simp [hc]))]
      rfl
  obtain ⟨h1, h2, _, _⟩ := h.cells
  refine key _ _ _ h1 h2 ?_
  intro c hc
  cases x <;> simp_all [D.owns, D.cells]
theorem srep_toV {w : World} {F : Nat → Prop} {y : D} {v : Value} {M : List Nat} (h : Rep w F y v M) : SRep w F (toV y) v M := by
  unfold toV
  split
  · simpa [SRep] using h
  · rename_i hy
    have : M = [] := D.ownsNot h (by simpa using hy)
    subst this
    simp only [SRep]
    exact ⟨h, trivial⟩
theorem locV_toV (g : Nat → Sl) (a : Act) (w : World) (y : D) (v : Value) : LocV g a w (toV y) v := by
  unfold toV
  split <;> trivial
theorem mvc_toV (g : Nat → Sl) (a : Act) (w : World) (dst : Option Tmp) (y : D) (v : Value) : Mvc g a w dst (toV y) v := by
  intro d _ i _ z hz
  unfold toV at hz
  split at hz <;> simp at hz
theorem mvc_of {g : Nat → Sl} {a : Act} {w : World} {dst : Option Tmp} {V : V} {v : Value} (h : ∀ i y, V ≠ .box (i + 2) y) : Mvc g a w dst V v :=
  fun _ _ i _ y hy => absurd hy (h i y)
theorem ofCells_self {w : World} {F : Nat → Prop} {x : D} {v : Value} {B : List Nat} (h : Rep w F x v B) : ofCells x.isAgg v.cells.toList = v := by
  cases hx : x.isAgg with
  | false => simp [ofCells, cells_one (h.one hx)]
  | true =>
    cases x <;> simp [D.isAgg] at hx
    simp only [Rep] at h
    obtain ⟨vs, h1, _⟩ := h
    subst h1
    simp [ofCells, Value.cells]

theorem Sim.moveV {F : Nat → Prop} {B : Nat → List Nat} {g : Nat → Sl} {a : Act} {w : World} (s : Sim F B [] g a w) {mv : Bool} {o : Operand} {V : V} {u : Ov} {dst : Option Tmp}
    (h : moveV mv g o = some (V, u)) : Res F B (ovl u g) a w dst V (a.eval o) w := by
  unfold Go.Pi.moveV at h
  split at h
  · rename_i c
    simp only [Option.map_eq_some_iff] at h
    obtain ⟨x, h1, h2⟩ := h
    injection h2 with h2 h3
    subst h2 h3
    exact ⟨F, B, [], s, srep_toV (rep_ofVal h1), locV_toV _ _ _ _ _, mvc_toV _ _ _ _ _ _, Ext.refl _ _ _⟩
  · rename_i f
    injection h with h
    injection h with h2 h3
    subst h2 h3
    exact ⟨F, B, [], s, by simp only [SRep]; exact ⟨rep_func f, trivial⟩, trivial, mvc_of (by simp), Ext.refl _ _ _⟩
  · simp at h
  · rename_i t
    have hr := s.rep t
    have hl := s.loc t
    unfold moveS at h
    split at h
    · rename_i iv cv x hs
      injection h with h
      injection h with h2 h3
      subst h2 h3
      rw [hs] at hr
      exact ⟨F, B, [], s, by simp only [SRep] at hr ⊢; exact ⟨hr.1, trivial⟩, trivial, mvc_of (by simp), Ext.refl _ _ _⟩
    · rename_i iv cv p x hs
      have hv : (g t).v = .own p x := by rw [hs]
      rw [hs] at hr
      split at h
      · injection h with h
        injection h with h2 h3
        subst h2 h3
        obtain ⟨q1, q2⟩ := s.moved (t := t) (by rw [hv]; simp)
        rw [hs] at q1
        simp only [List.append_nil] at q1 q2
        exact ⟨F, _, B t, q1, by show SRep w F _ (a.tmps.getD t undef) _; simpa only [SRep] using hr, trivial, mvc_of (by simp), q2⟩
      · injection h with h
        injection h with h2 h3
        subst h2 h3
        simp only [SRep] at hr
        refine ⟨F, B, [], s, by simp [SRep], ?_, mvc_of (by simp), Ext.refl _ _ _⟩
        simp only [LocV]
        refine ⟨by simp [ovl, hs], by simp [ovl, hs], fun _ _ => ⟨(a.tmps.getD t undef).cells.toList, ?_, ?_, ?_⟩⟩
        · have := hr.cells.2.2.2
          simpa using this
        · simp only [ovl]
          rw [hv]
          exact ⟨_, rfl, fun k hk => by simp⟩
        · exact (ofCells_self hr).symm
    · rename_i iv cv p x hs
      have hv : (g t).v = .box p x := by rw [hs]
      rw [hs] at hr
      injection h with h
      injection h with h2 h3
      subst h2 h3
      simp only [SRep] at hr
      obtain ⟨b, uu, t', B', e1, e2, e3, e4⟩ := hr
      refine ⟨F, B, [], s, by simp [SRep], ?_, mvc_of (by simp), Ext.refl _ _ _⟩
      simp only [LocV, ovl]
      exact ⟨by simp [hs], by simp [hs], fun _ _ => ⟨b, 0, ⟨⟨p, x, hv⟩, e1, rfl⟩, e1⟩⟩
    · rename_i iv cv x hs
      injection h with h
      injection h with h2 h3
      subst h2 h3
      rw [hs] at hr
      exact ⟨F, B, [], s, by simp only [SRep] at hr ⊢; exact ⟨hr.1, trivial⟩, trivial, mvc_of (by simp), Ext.refl _ _ _⟩
    · rename_i iv cv r iv' cv' hop off hs
      have hv : (g t).v = .wp r iv' cv' hop off := by rw [hs]
      injection h with h
      injection h with h2 h3
      subst h2 h3
      unfold Loc at hl
      rw [hv] at hl
      exact ⟨F, B, [], s, by simp [SRep], hl, mvc_of (by simp), Ext.refl _ _ _⟩
    · rename_i iv cv r iv' cv' hop off n ag hs
      have hv : (g t).v = .ref r iv' cv' hop off n ag := by rw [hs]
      injection h with h
      injection h with h2 h3
      subst h2 h3
      unfold Loc at hl
      rw [hv] at hl
      exact ⟨F, B, [], s, by simp [SRep], hl, mvc_of (by simp), Ext.refl _ _ _⟩
    · rename_i iv cv vs hs
      have hv : (g t).v = .tup vs := by rw [hs]
      rw [hs] at hr
      injection h with h
      injection h with h2 h3
      subst h2 h3
      obtain ⟨q1, q2⟩ := s.moved (t := t) (by rw [hv]; simp)
      rw [hs] at q1
      simp only [List.append_nil] at q1 q2
      exact ⟨F, _, B t, q1, hr, trivial, mvc_of (by simp), q2⟩
    · simp at h
theorem Sim.toV {F : Nat → Prop} {B : Nat → List Nat} {g : Nat → Sl} {a : Act} {w : World} (s : Sim F B [] g a w) {mv : Bool} {o : Operand} {y : D} {u : Ov} {dst : Option Tmp}
    (h : Go.Pi.take mv g o = some (y, u)) : Res F B (ovl u g) a w dst (Go.Pi.toV y) (a.eval o) w := by
  obtain ⟨F', B', M, q1, q2, q3⟩ := s.take h
  simp only [List.append_nil] at q1 q3
  exact ⟨F', B', M, q1, srep_toV q2, locV_toV _ _ _ _ _, mvc_toV _ _ _ _ _ _, q3⟩
theorem Sim.assignV {F : Nat → Prop} {B : Nat → List Nat} {g : Nat → Sl} {a : Act} {w : World} (s : Sim F B [] g a w) {mv : Bool} {o : Operand} {V : V} {u : Ov} {dst : Option Tmp}
    (h : assignV mv g o = some (V, u)) : Res F B (ovl u g) a w dst V (a.eval o) w := by
  unfold Go.Pi.assignV at h
  split at h
  · rename_i t
    have hr := s.rep t
    unfold assignS at h
    split at h
    · rename_i iv cv p x hs
      have hv : (g t).v = .box p x := by rw [hs]
      split at h
      · rename_i hp
        injection h with h
        injection h with h2 h3
        subst h2 h3
        obtain ⟨q1, q2⟩ := s.moved (t := t) (by rw [hv]; simp)
        rw [hs] at q1 hr
        simp only [List.append_nil] at q1 q2
        exact ⟨F, _, B t, q1, by show SRep w F _ (a.tmps.getD t undef) _; simpa only [SRep] using hr, trivial, mvc_of (by simp), q2⟩
      · simp at h
    · rename_i iv cv x hs
      injection h with h
      injection h with h2 h3
      subst h2 h3
      rw [hs] at hr
      exact ⟨F, B, [], s, by simp only [SRep] at hr ⊢; exact ⟨hr.1, trivial⟩, trivial, mvc_of (by simp), Ext.refl _ _ _⟩
    · simp only [Option.map_eq_some_iff] at h
      obtain ⟨⟨y, u'⟩, h1, h2⟩ := h
      injection h2 with h2 h3
      subst h2 h3
      exact s.toV (mv := mv) (o := .tmp t) h1
  · rename_i c
    simp only [Option.map_eq_some_iff] at h
    obtain ⟨x, h1, h2⟩ := h
    injection h2 with h2 h3
    subst h2 h3
    exact ⟨F, B, [], s, srep_toV (rep_ofVal h1), locV_toV _ _ _ _ _, mvc_toV _ _ _ _ _ _, Ext.refl _ _ _⟩
  · rename_i f
    injection h with h
    injection h with h2 h3
    subst h2 h3
    exact ⟨F, B, [], s, by simp only [SRep]; exact ⟨rep_func f, trivial⟩, trivial, mvc_of (by simp), Ext.refl _ _ _⟩
  · simp at h
end Go.Pi

/- Operations on data alone. -/
namespace Go.Pi
open Go
set_option linter.unusedSimpArgs false
set_option linter.unusedVariables false

theorem Sim.peek {F : Nat → Prop} {B : Nat → List Nat} {H : List Nat} {g : Nat → Sl} {a : Act} {w : World} (s : Sim F B H g a w) {o : Operand} {y : D} (h : peek g o = some y) :
    ∃ M, Rep w F y (a.eval o) M := by
  unfold Go.Pi.peek at h
  split at h
  · exact ⟨[], rep_ofVal h⟩
  · injection h with h
    subst h
    exact ⟨[], rep_func _⟩
  · simp at h
  · rename_i t
    have hr := s.rep t
    have hl := s.loc t
    unfold peekS at h
    split at h
    · rename_i x hv
      injection h with h
      subst h
      rw [hv] at hr
      simp only [SRep] at hr
      exact ⟨[], hr.1⟩
    · rename_i p x hv
      injection h with h
      subst h
      rw [hv] at hr
      simp only [SRep] at hr
      exact ⟨_, hr⟩
    · rename_i r iv cv hop off n ag hv
      unfold Loc at hl
      rw [hv] at hl
      obtain ⟨_, _, hl⟩ := hl
      unfold refD at h
      split at h
      · rename_i hiv
        simp only [Option.bind_eq_some_iff] at h
        obtain ⟨x, hx, row, hrow, hy⟩ := h
        obtain ⟨us, k1, k2, k3⟩ := hl hiv.1 hiv.2
        obtain ⟨us', M, p1, p2, p3, p4, p5, p6⟩ := (s.rep r).read hx hrow hy
        have := p2.unique k2 (by omega)
        subst this
        exact ⟨M, by show Rep w F y (a.tmps.getD t undef) M; rw [k3]; exact p4⟩
      · simp at h
    · simp at h
theorem rep_int {w : World} {F : Nat → Prop} {k : IntKind} {n : Int} {v : Value} {M : List Nat} (h : Rep w F (.int k n) v M) : v = .int k n := by simp only [Rep] at h; exact h.1
theorem rep_bool {w : World} {F : Nat → Prop} {b : Bool} {v : Value} {M : List Nat} (h : Rep w F (.bool b) v M) : v = .bool b := by simp only [Rep] at h; exact h.1
theorem rep_str {w : World} {F : Nat → Prop} {s : List UInt8} {v : Value} {M : List Nat} (h : Rep w F (.str s) v M) : v = .string ⟨s.toArray⟩ := by simp only [Rep] at h; exact h.1
theorem mk_toList (s : List UInt8) : (⟨s.toArray⟩ : ByteArray).toList = s := by rw [ByteArray.toList_eq]
theorem mk_append (s t : List UInt8) : (⟨s.toArray⟩ : ByteArray) ++ (⟨t.toArray⟩ : ByteArray) = ⟨(s ++ t).toArray⟩ := by
  apply ByteArray.ext
  rw [ByteArray.data_append]
  simp
theorem mk_size (s : List UInt8) : (⟨s.toArray⟩ : ByteArray).size = s.length := by simp [ByteArray.size]
/-- What an operation on data yields: a plain value, no memory. -/
def Yield (P : Program) (w : World) (F : Nat → Prop) (s : Sem Value) (d : D) : Prop := ∃ v, s.run P w = .ok v w ∧ Rep w F d v []
theorem yi {P : Program} {w : World} {F : Nat → Prop} {s : Sem Value} {k : IntKind} {n : Int} (h : s.run P w = .ok (.int k n) w) : Yield P w F s (.int k n) := ⟨_, h, by simp [Rep]⟩
theorem yb {P : Program} {w : World} {F : Nat → Prop} {s : Sem Value} {b : Bool} (h : s.run P w = .ok (.bool b) w) : Yield P w F s (.bool b) := ⟨_, h, by simp [Rep]⟩
theorem run_intBin {P : Program} {w : World} {F : Nat → Prop} {op : BinOp} {t : TypeId} {k : IntKind} {x y : Int} {d : D} (h1 : op ≠ .shl) (h2 : op ≠ .shr) (h : intBin op k x y = some d) :
    Yield P w F (binOp op t (.int k x) (.int k y)) d := by
  cases op <;> simp [intBin] at h h1 h2
  case quo => obtain ⟨hy, rfl⟩ := h; exact yi (by simp [binOp, Op.intDiv, hy])
  case rem => obtain ⟨hy, rfl⟩ := h; exact yi (by simp [binOp, Op.intDiv, hy])
  all_goals (subst h; first | exact yi (by simp [binOp, Op.intArith, Op.intBits, Op.intCmp]) | exact yb (by simp [binOp, Op.intArith, Op.intBits, Op.intCmp]))
theorem run_strBin {P : Program} {w : World} {F : Nat → Prop} {op : BinOp} {t : TypeId} {x y : List UInt8} {d : D} (h : strBin op x y = some d) :
    Yield P w F (binOp op t (.string ⟨x.toArray⟩) (.string ⟨y.toArray⟩)) d := by
  cases op <;> simp [strBin] at h
  case add =>
    obtain ⟨hy, rfl⟩ := h
    refine ⟨.string ⟨(x ++ y).toArray⟩, ?_, by simp [Rep]⟩
    have hm : IntKind.i64.max = 9223372036854775807 := rfl
    have hn : ¬ ((((⟨x.toArray⟩ : ByteArray).size + (⟨y.toArray⟩ : ByteArray).size : Nat) : Int) > IntKind.i64.max) := by
      rw [mk_size, mk_size, hm]; omega
    simp only [binOp, Op.stringOp, if_neg hn, mk_append]
    rfl
  all_goals (subst h; exact yb (by simp [binOp, Op.stringOp, mk_toList]))
theorem sh_bool {P : Program} {t : TypeId} (h : sh P t = .bool) : P.underlying t = some .bool := by
  unfold sh at h; split at h <;> first | assumption | simp at h
theorem sh_int {P : Program} {t : TypeId} {k : IntKind} (h : sh P t = .int k) : P.underlying t = some (.int k) := by
  unfold sh at h
  split at h <;> first | (simp at h; done) | (simp at h; subst h; assumption)
theorem sh_str {P : Program} {t : TypeId} (h : sh P t = .str) : P.underlying t = some .string := by
  unfold sh at h; split at h <;> first | assumption | simp at h
theorem sh_sl {P : Program} {t : TypeId} {b : Bool} (h : sh P t = .sl b) : ∃ e, P.underlying t = some (.slice e) ∧ (b = true → P.underlying e = some (.int .u8) ∧ ∃ i, P.info? e = some i ∧ i.size = 1) := by
  unfold sh at h
  split at h <;> first | (simp at h; done) | skip
  rename_i e he
  refine ⟨e, he, fun hb => ?_⟩
  subst hb
  simp only [Sh.sl.injEq] at h
  split at h
  · rename_i i h1 h2
    exact ⟨h1, i, h2, by simpa using h⟩
  · simp at h
theorem isAgg_plain {P : Program} {t : TypeId} (ht : tPlain P t = true) (w : World) : (isAgg t).run P w = .ok false w := by
  unfold tPlain at ht
  split at ht
  · rename_i h; simp [isAgg, run_underlying (sh_bool h)]
  · rename_i h; simp [isAgg, run_underlying (sh_int h)]
  · rename_i h; simp [isAgg, run_underlying (sh_str h)]
  · simp at ht
theorem run_eq1 {P : Program} {w : World} {F : Nat → Prop} {x y : D} {vx vy : Value} {Mx My : List Nat} {t : TypeId} {b : Bool} (n : Nat) (hx : Rep w F x vx Mx) (hy : Rep w F y vy My)
    (h : eq1 (sh P t) x y = some b) : (Op.equalIn (n + 1) t vx vy).run P w = .ok b w := by
  unfold eq1 at h
  split at h
  · rename_i k k1 a k2 c h1
    rw [rep_int hx, rep_int hy]
    split at h
    · rename_i hk
      subst hk
      injection h with h
      subst h
      simp [Op.equalIn, run_underlying (sh_int h1)]
    · simp at h
  · rename_i a c h1
    injection h with h
    subst h
    rw [rep_bool hx, rep_bool hy]
    simp [Op.equalIn, run_underlying (sh_bool h1)]
  · rename_i a c h1
    injection h with h
    subst h
    rw [rep_str hx, rep_str hy]
    simp only [Op.equalIn, Sem.run_bind, run_underlying (sh_str h1), Result.andThen_ok, Sem.run_pure, beq_toListBytes, mk_toList]
  · simp at h
theorem run_part {P : Program} {w : World} {t : TypeId} (ht : tPlain P t = true) {cs : Array Value} {i : Nat} {v : Value} (h : cs[i]? = some v) : (part t cs i).run P w = .ok v w := by
  simp [part, isAgg_plain ht, h]
theorem run_eqL {P : Program} {w : World} {F : Nat → Prop} (d : Nat) (vx vy : Array Value) : ∀ (fs : List Field) (k : Nat) (xs ys : List D) (us zs : List Value) (Mx My : List Nat) (b : Bool),
    plainFs P k fs = true → RepL w F xs us Mx → RepL w F ys zs My → (∀ j, j < us.length → vx[k + j]? = us[j]?) → (∀ j, j < zs.length → vy[k + j]? = zs[j]?) →
    eqL (fs.map fun f => sh P f.type) xs ys = some b → (Op.eqFields (d + 1) vx vy fs).run P w = .ok b w
  | [], k, xs, ys, us, zs, Mx, My, b, _, _, _, _, _, h => by
    cases xs <;> cases ys <;> simp [eqL] at h
    subst h
    simp [Op.eqFields]
  | f :: fs, k, xs, ys, us, zs, Mx, My, b, hp, hx, hy, hvx, hvy, h => by
    cases xs with
    | nil => cases ys <;> simp [eqL] at h
    | cons x xs =>
      cases ys with
      | nil => simp [eqL] at h
      | cons y ys =>
        simp only [List.map_cons, eqL, Option.bind_eq_some_iff, Option.map_eq_some_iff] at h
        obtain ⟨b1, h1, b2, h2, rfl⟩ := h
        simp only [plainFs, Bool.and_eq_true] at hp
        obtain ⟨⟨⟨p1, p2⟩, p3⟩, p4⟩ := hp
        simp only [RepL] at hx hy
        obtain ⟨v, us', B1, B2, rfl, rfl, q3, q4⟩ := hx
        obtain ⟨z, zs', C1, C2, rfl, rfl, r3, r4⟩ := hy
        have hoff : f.offset = k := by simpa using p3
        have hn : f.name ≠ "_" := by simpa using p1
        have g1 : vx[k]? = some v := by have := hvx 0 (by simp); simpa using this
        have g2 : vy[k]? = some z := by have := hvy 0 (by simp); simpa using this
        have ih := run_eqL d vx vy fs (k + 1) xs ys us' zs' B2 C2 b2 p4 q4 r4
          (fun j hj => by have := hvx (j + 1) (by simp; omega); rw [Nat.add_assoc, Nat.add_comm 1 j]; simpa using this)
          (fun j hj => by have := hvy (j + 1) (by simp; omega); rw [Nat.add_assoc, Nat.add_comm 1 j]; simpa using this) h2
        rw [Op.eqFields]
        simp only [if_pos hn, hoff, Sem.run_bind, run_part p2 g1, run_part p2 g2, Result.andThen_ok, run_eq1 d q3 r3 h1]
        cases b1
        · simp
        · simpa using ih
theorem run_eqAgg {P : Program} {w : World} {F : Nat → Prop} {t : TypeId} {xs ys : List D} {vx vy : Value} {Mx My : List Nat} {b : Bool} {ss : List Sh} (hx : Rep w F (.agg xs) vx Mx) (hy : Rep w F (.agg ys) vy My)
    (ht : tEq P t = some ss) (h : eqL ss xs ys = some b) : (Op.equal t vx vy).run P w = .ok b w ∧ ∀ op xo yo, (eqGuard op t xo yo vx vy).run P w = .ok () w := by
  unfold tEq at ht
  split at ht
  · rename_i fs hu
    split at ht
    · rename_i hc
      injection ht with ht
      subst ht
      simp only [Bool.and_eq_true, Bool.not_eq_true'] at hc
      obtain ⟨⟨c1, c2⟩, c3⟩ := hc
      simp only [Rep] at hx hy
      obtain ⟨us, rfl, _, hx⟩ := hx
      obtain ⟨zs, rfl, _, hy⟩ := hy
      have hr := run_eqL (P := P) (w := w) 9998 us.toArray zs.toArray fs.toList 0 xs ys us zs Mx My b c3 hx hy (fun j hj => by simp) (fun j hj => by simp) h
      have hf : P.fieldsOf t = fs := by simp [Program.fieldsOf, hu]
      constructor
      · unfold Op.equal Op.maxDepth
        rw [show (10000 : Nat) = 9999 + 1 from rfl, run_equalIn_struct (P := P) w 9999 t us.toArray zs.toArray (by rw [hf]; exact hu) c1, hf]
        exact hr
      · intro op xo yo
        exact run_eqGuard_agg w op t xo yo _ _ c2
    · simp at ht
  · simp at ht

theorem guard_int {P : Program} {w : World} (op : BinOp) (t : TypeId) (xo yo : Operand) (k : IntKind) (n : Int) (v : Value) : (eqGuard op t xo yo (.int k n) v).run P w = .ok () w := by
  unfold eqGuard; split <;> simp
theorem guard_str {P : Program} {w : World} (op : BinOp) (t : TypeId) (xo yo : Operand) (s : ByteArray) (v : Value) : (eqGuard op t xo yo (.string s) v).run P w = .ok () w := by
  unfold eqGuard; split <;> simp
theorem guard_bool {P : Program} {w : World} (op : BinOp) (t : TypeId) (xo yo : Operand) (b : Bool) (v : Value) : (eqGuard op t xo yo (.bool b) v).run P w = .ok () w := by
  unfold eqGuard; split <;> simp
theorem yield_guard {P : Program} {w : World} {F : Nat → Prop} {op : BinOp} {t : TypeId} {xo yo : Operand} {vx vy : Value} {d : D} (h1 : (eqGuard op t xo yo vx vy).run P w = .ok () w) (h2 : Yield P w F (binOp op t vx vy) d) :
    Yield P w F (do eqGuard op t xo yo vx vy; binOp op t vx vy) d := by
  obtain ⟨v, q1, q2⟩ := h2
  exact ⟨v, by simp only [Sem.run_bind, h1, Result.andThen_ok, q1], q2⟩
theorem run_eqBool {P : Program} {w : World} {t : TypeId} {a b : Bool} (ht : sh P t = .bool) : (Op.equal t (.bool a) (.bool b)).run P w = .ok (a == b) w := by
  unfold Op.equal Op.maxDepth
  rw [show (10000 : Nat) = 9999 + 1 from rfl]
  exact run_equalIn_bool' w 9999 t a b (sh_bool ht)
theorem run_binD {P : Program} {w : World} {F : Nat → Prop} {op : BinOp} {t : TypeId} {x y d : D} {vx vy : Value} {Mx My : List Nat} (xo yo : Operand) (hx : Rep w F x vx Mx) (hy : Rep w F y vy My)
    (h : binD P op t x y = some d) : Yield P w F (do eqGuard op t xo yo vx vy; binOp op t vx vy) d := by
  unfold binD at h
  split at h
  · rename_i k a k' b
    rw [rep_int hx, rep_int hy]
    refine yield_guard (guard_int ..) ?_
    split at h
    · simp at h
    · rename_i hb
      injection h with h
      subst h
      exact yi (by simp [binOp, Op.shift, hb])
  · rename_i k a k' b
    rw [rep_int hx, rep_int hy]
    refine yield_guard (guard_int ..) ?_
    split at h
    · simp at h
    · rename_i hb
      injection h with h
      subst h
      exact yi (by simp [binOp, Op.shift, hb])
  · rename_i k a k' b n1 n2
    rw [rep_int hx, rep_int hy]
    refine yield_guard (guard_int ..) ?_
    split at h
    · rename_i hk
      subst hk
      exact run_intBin (fun e => n1 e) (fun e => n2 e) h
    · simp at h
  · rename_i a b
    rw [rep_str hx, rep_str hy]
    exact yield_guard (guard_str ..) (run_strBin h)
  · rename_i a b
    rw [rep_bool hx, rep_bool hy]
    refine yield_guard (guard_bool ..) ?_
    split at h
    · rename_i ht
      injection h with h
      subst h
      exact yb (by simp only [binOp, Sem.run_bind, run_eqBool ht, Result.andThen_ok, Sem.run_pure])
    · simp at h
  · rename_i a b
    rw [rep_bool hx, rep_bool hy]
    refine yield_guard (guard_bool ..) ?_
    split at h
    · rename_i ht
      injection h with h
      subst h
      exact yb (by simp only [binOp, Sem.run_bind, run_eqBool ht, Result.andThen_ok, Sem.run_pure])
    · simp at h
  · rename_i a b
    simp only [Option.bind_eq_some_iff, Option.map_eq_some_iff] at h
    obtain ⟨ss, h1, c, h2, rfl⟩ := h
    obtain ⟨q1, q2⟩ := run_eqAgg (P := P) hx hy h1 h2
    refine yield_guard (q2 ..) ?_
    simp only [Rep] at hx hy
    obtain ⟨us, rfl, _⟩ := hx
    obtain ⟨zs, rfl, _⟩ := hy
    exact yb (by simp only [binOp, Sem.run_bind, q1, Result.andThen_ok, Sem.run_pure])
  · rename_i a b
    simp only [Option.bind_eq_some_iff, Option.map_eq_some_iff] at h
    obtain ⟨ss, h1, c, h2, rfl⟩ := h
    obtain ⟨q1, q2⟩ := run_eqAgg (P := P) hx hy h1 h2
    refine yield_guard (q2 ..) ?_
    simp only [Rep] at hx hy
    obtain ⟨us, rfl, _⟩ := hx
    obtain ⟨zs, rfl, _⟩ := hy
    exact yb (by simp only [binOp, Sem.run_bind, q1, Result.andThen_ok, Sem.run_pure])
  · simp at h
theorem run_unD {P : Program} {w : World} {F : Nat → Prop} {op : UnOp} {x d : D} {vx : Value} {Mx : List Nat} (hx : Rep w F x vx Mx) (h : unD op x = some d) : Yield P w F (Op.unary op vx) d := by
  unfold unD at h
  split at h
  · injection h with h; subst h; rw [rep_bool hx]; exact yb (by simp [Op.unary])
  · injection h with h; subst h; rw [rep_int hx]; exact yi (by simp [Op.unary, Op.intArith])
  · injection h with h; subst h; rw [rep_int hx]; exact yi (by simp [Op.unary, Op.intBits])
  · simp at h
end Go.Pi

/- Loads, stores, addresses. -/
namespace Go.Pi
open Go
set_option linter.unusedSimpArgs false
set_option linter.unusedVariables false

theorem tLoad_run {P : Program} {t : TypeId} {n : Nat} {ag : Bool} (h : tLoad P t = some (n, ag)) (w : World) :
    (isAgg t).run P w = .ok ag w ∧ (sizeOf t).run P w = .ok n w := by
  unfold tLoad at h
  split at h
  · rename_i i fs h1 h2
    simp only [Option.some.injEq, Prod.mk.injEq] at h
    obtain ⟨rfl, rfl⟩ := h
    exact ⟨by simp [isAgg, run_underlying h2], by simp [sizeOf, typeInfo, h1]⟩
  · rename_i i m e h1 h2
    simp only [Option.some.injEq, Prod.mk.injEq] at h
    obtain ⟨rfl, rfl⟩ := h
    exact ⟨by simp [isAgg, run_underlying h2], by simp [sizeOf, typeInfo, h1]⟩
  · rename_i i d n1 n2 h1 h2
    simp only [Option.some.injEq, Prod.mk.injEq] at h
    obtain ⟨rfl, rfl⟩ := h
    refine ⟨?_, by simp [sizeOf, typeInfo, h1]⟩
    simp only [isAgg, Sem.run_bind, run_underlying h2, Result.andThen_ok]
    rfl
  · simp at h
theorem add_mk (b o n : Nat) : (⟨b, o, none⟩ : Addr).add n = ⟨b, o + n, none⟩ := by
  unfold Addr.add
  split <;> simp_all
theorem run_loadVar {P : Program} {t : TypeId} {n : Nat} {ag : Bool} {w : World} {b o : Nat} {us : List Value} (h : tLoad P t = some (n, ag)) (hl : us.length = n) (h1 : ag = false → n = 1)
    (hc : ∀ k, k < us.length → w.cell? ⟨b, o + k, none⟩ = us[k]?) : (loadVar t ⟨b, o, none⟩).run P w = .ok (ofCells ag us) w := by
  obtain ⟨q1, q2⟩ := tLoad_run h w
  cases ag with
  | true =>
    have hr := run_loadCells_list (P := P) w ⟨b, o, none⟩ us (by
      intro j v hj
      have hlt := (List.getElem?_eq_some_iff.mp hj).1
      rw [add_mk, hc j hlt]
      exact hj)
    simp only [loadVar, Sem.run_bind, q1, q2, Result.andThen_ok, if_true, ← hl, hr, Sem.run_pure, ofCells]
  | false =>
    rw [h1 rfl] at hl
    obtain ⟨u, rfl⟩ := List.length_eq_one_iff.mp hl
    have := hc 0 (by simp)
    simp only [Nat.add_zero, List.getElem?_cons_zero] at this
    simp only [loadVar, Sem.run_bind, q1, Result.andThen_ok, Bool.false_eq_true, if_false, run_load, this, ofCells, List.headD_cons]

theorem PVals.mem {w : World} {v : V} {val : Value} {hop : Hop} {off : Nat} {us : List Value} {b o : Nat} (h : PVals w v val hop off us) (k : PAddr w v val hop b o) :
    ∀ j, j < us.length → w.cell? ⟨b, o + off + j, none⟩ = us[j]? := by
  intro j hj
  cases hop with
  | none =>
    obtain ⟨cs, h1, h2⟩ := h
    obtain ⟨⟨p, x, k1⟩, k2, k3⟩ := k
    subst k1 k2 k3
    simp only [rootVals] at h1
    split at h1
    · rename_i cs' t fr hh
      injection h1 with h1
      subst h1
      rw [cell_cells hh, Nat.zero_add]
      exact h2 j hj
    · simp at h1
  | some q =>
    obtain ⟨b', o', h1, h2⟩ := h
    obtain ⟨rfl, rfl⟩ := h1.unique k
    exact h2 j hj
theorem Sim.place {F : Nat → Prop} {B : Nat → List Nat} {H : List Nat} {g : Nat → Sl} {a : Act} {w : World} (s : Sim F B H g a w) {p : Operand} {r off : Nat} {hop : Hop} (h : placeOf g p = some (r, hop, off)) :
    ∃ b o, PAddr w (g r).v (a.tmps.getD r undef) hop b o ∧ a.eval p = .pointer (some ⟨b, o + off, none⟩) := by
  unfold placeOf at h
  split at h
  · rename_i t
    have hr := s.rep t
    have hl := s.loc t
    unfold placeS at h
    split at h
    · rename_i pp x hv
      injection h with h
      simp only [Prod.mk.injEq] at h
      obtain ⟨rfl, rfl, rfl⟩ := h
      rw [hv] at hr
      simp only [SRep] at hr
      obtain ⟨b, u, t', B', e1, _⟩ := hr
      exact ⟨b, 0, ⟨⟨pp, x, hv⟩, e1, rfl⟩, e1⟩
    · rename_i r' iv cv hop' off' hv
      split at h
      · rename_i hc
        injection h with h
        simp only [Prod.mk.injEq] at h
        obtain ⟨rfl, rfl, rfl⟩ := h
        unfold Loc at hl
        rw [hv] at hl
        exact hl.2.2 hc.1 hc.2
      · simp at h
    · simp at h
  · simp at h
theorem ofCells_width {w : World} {F : Nat → Prop} {y : D} {ag : Bool} {us : List Value} {M : List Nat} (h : Rep w F y (ofCells ag us) M) (hy : y.isAgg = ag) (hl : us.length = y.width) :
    ag = false → us.length = 1 := by
  intro e
  subst e
  rw [hl]
  simp [D.width, D.cells_one hy]
theorem Sound.load {P : Program} {F : Nat → Prop} {B : Nat → List Nat} {g : Nat → Sl} {a : Act} {w : World} {o : Oper} {V : V} {t : TypeId} {p : Operand} {n : Nat} {ag : Bool} (s : Sim F B [] g a w)
    (ho : o.op = .load t p) (ht : tLoad P t = some (n, ag)) (h : loadV g p n ag = some V) : Sound P F B g a w o V [] := by
  have key : ∀ (b off : Nat) (us : List Value), a.eval p = .pointer (some ⟨b, off, none⟩) → us.length = n → (ag = false → n = 1) → (∀ k, k < us.length → w.cell? ⟨b, off + k, none⟩ = us[k]?) →
      (execOp a.eval o).run P w = .ok (.value (ofCells ag us)) w := by
    intro b off us e1 e2 e3 e4
    simp only [execOp, ho, Sem.run_bind, Instr.loadAt, Instr.sureAddr, e1, Sem.run_pure, Result.andThen_ok, run_loadVar ht e2 e3 e4]
  have hpl : ∀ r hop off, placeOf g p = some (r, hop, off) → refV g r hop off n ag = some V → Sound P F B g a w o V [] := by
    intro r hop off e1 e2
    unfold refV at e2
    simp only [Option.bind_eq_some_iff, Option.map_eq_some_iff] at e2
    obtain ⟨x, hx, row, hrow, y, hy, rfl⟩ := e2
    obtain ⟨us, M, k1, k2, k3, k4, k5, k6⟩ := (s.rep r).read hx hrow hy
    obtain ⟨b, o', p1, p2⟩ := s.place e1
    refine Sound.value (key b (o' + off) us p2 k1 (fun e => by rw [← k1]; exact ofCells_width k4 k6 (by omega) e) (fun k hk => k2.mem p1 k hk)) ?_
    unfold asRef
    split
    · refine ⟨F, B, [], s, by simp [SRep], ?_, mvc_of (by simp), Ext.refl _ _ _⟩
      simp only [LocV]
      exact ⟨Nat.le_refl _, Nat.le_refl _, fun _ _ => ⟨us, k1, k2, rfl⟩⟩
    · rename_i hno
      have : M = [] := D.ownsNot k4 (by simpa using hno)
      subst this
      exact ⟨F, B, [], s, by simp only [SRep]; exact ⟨k4, trivial⟩, trivial, mvc_of (by simp), Ext.refl _ _ _⟩
  unfold loadV at h
  split at h
  · rename_i t'
    unfold loadS at h
    split at h
    · rename_i x hv
      split at h
      · rename_i hc
        injection h with h
        subst h
        have hr := s.rep t'
        rw [hv] at hr
        simp only [SRep] at hr
        obtain ⟨⟨b, off, u, e1, e2, e3, e4⟩, _⟩ := hr
        obtain ⟨_, _, _, q4⟩ := e4.cells
        have hu : ofCells ag u.cells.toList = u := by rw [← hc.2]; exact ofCells_self e4
        have := key b off u.cells.toList e1 (by simp [q4, hc.1]) (fun e => by
          rw [← hc.1, D.width, D.cells_one (by rw [hc.2]; exact e)]; rfl) (fun k hk => by have := e3 k (by simpa using hk); simpa using this)
        rw [hu] at this
        refine Sound.value this ⟨F, B, [], s, by simp only [SRep]; exact ⟨e4, trivial⟩, trivial, mvc_of (by simp), Ext.refl _ _ _⟩
      · simp at h
    · simp only [Option.bind_eq_some_iff] at h
      obtain ⟨⟨r, hop, off⟩, h1, h2⟩ := h
      exact hpl r hop off h1 h2
  · simp at h
end Go.Pi

/- Writes to memory at a place. -/
namespace Go.Pi
open Go
set_option linter.unusedSimpArgs false
set_option linter.unusedVariables false

theorem rootVals_world {w w' : World} {F : Nat → Prop} {V : V} {val : Value} {B : List Nat} (hr : SRep w F V val B) (eB : ∀ b ∈ B, w'.heap[b]? = w.heap[b]?) :
    rootVals w' V val = rootVals w V val := by
  cases V <;> simp only [rootVals]
  simp only [SRep] at hr
  obtain ⟨b, u, t, B', e1, e2, e3, e4⟩ := hr
  rw [e1]
  simp only
  rw [eB b (by rw [e4]; simp)]
theorem PAddr.world {w w' : World} {F : Nat → Prop} {V : V} {val : Value} {B : List Nat} {hop : Hop} {b o : Nat} (hr : SRep w F V val B) (eB : ∀ b ∈ B, w'.heap[b]? = w.heap[b]?)
    (h : PAddr w V val hop b o) : PAddr w' V val hop b o := by
  cases hop with
  | none => exact h
  | some q =>
    obtain ⟨k, i⟩ := q
    obtain ⟨x, cs, ob, xs, e, n, c, o0, q1, q2, q3⟩ := h
    exact ⟨x, cs, ob, xs, e, n, c, o0, q1, by rw [rootVals_world hr eB]; exact q2, q3⟩
theorem PVals.world {w w' : World} {F : Nat → Prop} {V : V} {val : Value} {B : List Nat} {hop : Hop} {off : Nat} {us : List Value} (hr : SRep w F V val B) (eB : ∀ b ∈ B, w'.heap[b]? = w.heap[b]?)
    (eF : Agree w w' F) (h : PVals w V val hop off us) : PVals w' V val hop off us := by
  cases hop with
  | none =>
    obtain ⟨cs, q1, q2⟩ := h
    exact ⟨cs, by rw [rootVals_world hr eB]; exact q1, q2⟩
  | some q =>
    obtain ⟨b, o, q1, q2⟩ := h
    refine ⟨b, o, q1.world hr eB, fun k hk' => ?_⟩
    rw [← q2 k hk']
    obtain ⟨k', i⟩ := q
    obtain ⟨x, cs, ob, xs, e, n, c, o0, r1, r2, r3, r4, r5, r6⟩ := q1
    apply cell_of_agree
    obtain ⟨cs', B0, e1, e2, e3, e4, e5⟩ := hr.cells r1
    rw [r2] at e1
    injection e1 with e1
    subst e1
    cases ob with
    | true =>
      obtain ⟨b', len, cap, cur, t, rv, L, M, R, p1, p2, p3, p4, p5, _⟩ := e2.hop r3 r4
      simp only [Array.getElem?_toList] at p1
      rw [r5] at p1
      injection p1 with p1
      injection p1 with p1 _ _
      injection p1 with p1
      injection p1 with p1 _
      subst p1
      exact eB _ (e5 _ (by rw [p4]; simp [p5]))
    | false =>
      obtain ⟨v, L, M, R, g1, g2, g3, _⟩ := e2.at r3
      simp only [Rep] at g3
      obtain ⟨A, c', m, rvs, g4, _, g5, _, g6⟩ := g3
      simp only [Array.getElem?_toList] at g1
      rw [r5] at g1
      injection g1 with g1
      subst g1
      injection g4 with g4 _ _
      rcases g6 with g6 | ⟨b', o', g6, g7, g8⟩
      · subst g6; simp at r4
      · rw [g6] at g4
        injection g4 with g4
        injection g4 with g4 _
        subst g4
        exact eF _ g7

/-- A root's memory and data change: only its own blocks are other, and what was in hand goes into it. -/
theorem Sim.renew {F : Nat → Prop} {B : Nat → List Nat} {H H' : List Nat} {g : Nat → Sl} {a : Act} {w w' : World} (s : Sim F B H g a w) {r : Nat} {x x' : D} (hx : rootD (g r).v = some x)
    {Br' : List Nat} (hrep : SRep w' F (withD (g r).v x') (a.tmps.getD r undef) Br') (hsz : w.heap.size ≤ w'.heap.size)
    (hk : ∀ b, b < w.heap.size → b ∉ B r → b ∉ H → w'.heap[b]? = w.heap[b]?)
    (hm : ∀ p y, (g r).v = .box p y → 2 ≤ p → ∀ b0, a.tmps.getD r undef = .pointer (some ⟨b0, 0, none⟩) → w'.heap[b0]? = w.heap[b0]?)
    (h1 : Br'.Nodup) (h2 : ∀ b ∈ Br', b ∈ B r ∨ b ∈ H ∨ (w.heap.size ≤ b ∧ b < w'.heap.size)) (h3 : H'.Nodup) (h4 : ∀ b ∈ H', b ∉ Br' ∧ (b ∈ H ∨ b ∈ B r ∨ (w.heap.size ≤ b ∧ b < w'.heap.size))) :
    Sim F (upd B r Br') H' (ovl [(r, ⟨(g r).iv, (g r).cv + 1, withD (g r).v x'⟩)] g) a w' := by
  have eF : Agree w w' F := fun b hb => hk b (s.ltF b hb) (fun hh => s.nF r b hh hb) (fun hh => s.hF b hh hb)
  have eB : ∀ i, i ≠ r → ∀ b ∈ B i, w'.heap[b]? = w.heap[b]? := fun i hi b hb => hk b (s.lt i b hb) (fun hh => hi (s.dj i r b hb hh)) (fun hh => s.hB b hh i hb)
  have hkeep : ∀ q, KeepR g a w (ovl [(r, ⟨(g r).iv, (g r).cv + 1, withD (g r).v x'⟩)] g) a w' q := by
    intro q
    by_cases hq : q = r
    · subst hq
      refine ⟨by rw [ovl1_same]; exact Nat.le_refl _, by rw [ovl1_same]; simp, ?_, fun _ h => by rw [ovl1_same] at h; simp at h, fun _ h => by rw [ovl1_same] at h; simp at h⟩
      intro _ b o h
      rw [ovl1_same]
      obtain ⟨⟨p, y, e1⟩, e2, e3⟩ := h
      rw [e1]
      exact ⟨⟨p, x', rfl⟩, e2, e3⟩
    · refine ⟨by rw [ovl1_ne _ _ _ hq]; exact Nat.le_refl _, by rw [ovl1_ne _ _ _ hq]; exact Nat.le_refl _, fun _ b o h => ?_, fun _ _ hop b o h => ?_, fun _ _ hop off us h => ?_⟩
      · rw [ovl1_ne _ _ _ hq]; exact h
      · rw [ovl1_ne _ _ _ hq]; exact h.world (s.rep q) (eB q hq)
      · rw [ovl1_ne _ _ _ hq]; exact h.world (s.rep q) (eB q hq) eF
  have hin : ∀ i b, b ∈ upd B r Br' i → (i ≠ r ∧ b ∈ B i) ∨ (i = r ∧ b ∈ Br') := by
    intro i b hb
    by_cases hi : i = r
    · subst hi; rw [upd_same] at hb; exact Or.inr ⟨rfl, hb⟩
    · rw [upd_ne _ _ _ hi] at hb; exact Or.inl ⟨hi, hb⟩
  refine ⟨?_, ?_, ?_, ?_, ?_, ?_, fun b hb => Nat.lt_of_lt_of_le (s.ltF b hb) hsz, h3, ?_, ?_, ?_, ?_, s.df⟩
  · intro i
    by_cases hi : i = r
    · subst hi; rw [ovl1_same, upd_same]; exact hrep
    · rw [ovl1_ne _ _ _ hi, upd_ne _ _ _ hi]
      exact SRep.frame (fun _ h => h) eF _ _ _ (eB i hi) (s.rep i)
  · intro i
    by_cases hi : i = r
    · subst hi
      unfold Loc
      rw [ovl1_same]
      cases hv : (g i).v <;> simp [hv, rootD, withD] at hx ⊢
    · refine (s.loc i).keep (by rw [ovl1_ne _ _ _ hi]) rfl hkeep ?_
      intro d hd y hy
      by_cases hdr : d = r
      · subst hdr
        rw [ovl1_same] at hy
        cases hv : (g d).v <;> simp [hv, withD] at hy
        rename_i p z
        obtain ⟨hp, _⟩ := hy
        subst hp
        refine ⟨⟨z, rfl⟩, rfl, fun b cs t hb hc => ?_⟩
        rw [hm _ _ hv (by omega) b hb]
        exact hc
      · rw [ovl1_ne _ _ _ hdr] at hy
        refine ⟨⟨y, hy⟩, rfl, fun b cs t hb hc => ?_⟩
        have hr := s.rep d
        rw [hy] at hr
        simp only [SRep] at hr
        obtain ⟨b', u, t', B', e1, e2, e3, e4⟩ := hr
        rw [hb] at e1
        injection e1 with e1
        injection e1 with e1
        injection e1 with e1
        subst e1
        rw [eB d hdr b (by rw [e4]; simp)]
        exact hc
  · intro i
    by_cases hi : i = r
    · subst hi; rw [upd_same]; exact h1
    · rw [upd_ne _ _ _ hi]; exact s.nd i
  · intro i j b hi hj
    rcases hin i b hi with ⟨p1, p2⟩ | ⟨p1, p2⟩ <;> rcases hin j b hj with ⟨q1, q2⟩ | ⟨q1, q2⟩
    · exact s.dj i j b p2 q2
    · subst q1
      rcases h2 b q2 with q | q | q
      · exact s.dj i j b p2 q
      · exact absurd p2 (s.hB b q i)
      · have := s.lt i b p2; omega
    · subst p1
      rcases h2 b p2 with q | q | q
      · exact s.dj i j b q q2
      · exact absurd q2 (s.hB b q j)
      · have := s.lt j b q2; omega
    · omega
  · intro i b hb hF
    rcases hin i b hb with ⟨p1, p2⟩ | ⟨p1, p2⟩
    · exact s.nF i b p2 hF
    · rcases h2 b p2 with q | q | q
      · exact s.nF r b q hF
      · exact s.hF b q hF
      · have := s.ltF b hF; omega
  · intro i b hb
    rcases hin i b hb with ⟨p1, p2⟩ | ⟨p1, p2⟩
    · exact Nat.lt_of_lt_of_le (s.lt i b p2) hsz
    · rcases h2 b p2 with q | q | q
      · exact Nat.lt_of_lt_of_le (s.lt r b q) hsz
      · exact Nat.lt_of_lt_of_le (s.hlt b q) hsz
      · exact q.2
  · intro b hb i hi
    obtain ⟨k1, k2⟩ := h4 b hb
    rcases hin i b hi with ⟨p1, p2⟩ | ⟨p1, p2⟩
    · rcases k2 with k2 | k2 | k2
      · exact s.hB b k2 i p2
      · exact p1 (s.dj i r b p2 k2)
      · have := s.lt i b p2; omega
    · exact k1 p2
  · intro b hb hF
    obtain ⟨k1, k2 | k2 | k2⟩ := h4 b hb
    · exact s.hF b k2 hF
    · exact s.nF r b k2 hF
    · have := s.ltF b hF; omega
  · intro b hb
    obtain ⟨k1, k2 | k2 | k2⟩ := h4 b hb
    · exact Nat.lt_of_lt_of_le (s.hlt b k2) hsz
    · exact Nat.lt_of_lt_of_le (s.lt r b k2) hsz
    · exact k2.2
  · intro i hi
    by_cases hir : i = r
    · subst hir
      have := s.sz i hi
      rw [this] at hx
      simp [rootD] at hx
    · rw [ovl1_ne _ _ _ hir]; exact s.sz i hi
theorem setRow_size (w : World) (b : Nat) (cs : Array Value) : (w.setRow b cs).heap.size = w.heap.size := by simp [World.setRow]
/-- A write at a place; what is written goes from the hand to the root. -/
theorem Sim.write {F : Nat → Prop} {B : Nat → List Nat} {Hn H : List Nat} {g : Nat → Sl} {a : Act} {w : World} (s : Sim F B (Hn ++ H) g a w) {r off : Nat} {hop : Hop} {x : D} {ys cs' : List D}
    (hx : rootD (g r).v = some x) (hset : setAt x.cells hop off ys = some cs') (hys : ∀ c ∈ ys, c.isAgg = false) (hpin : hop = none → pinOf (g r).v < 2) {us : List Value} (hus : RepL w F ys us Hn)
    {b o : Nat} (ha : PAddr w (g r).v (a.tmps.getD r undef) hop b o) :
    ∃ B' cur t, w.heap[b]? = some (.cells cur t (0, 0)) ∧ o + off + us.length ≤ cur.size ∧ (∀ v ∈ us, oneC v = true) ∧
      Sim F B' H (ovl [(r, ⟨(g r).iv, (g r).cv + 1, withD (g r).v (x.mk cs')⟩)] g) a (w.setRow b (cur.toList.take (o + off) ++ us ++ cur.toList.drop (o + off + us.length)).toArray) ∧
      Ext F (Own B (Hn ++ H)) w F (Own B' H) (w.setRow b (cur.toList.take (o + off) ++ us ++ cur.toList.drop (o + off + us.length)).toArray) := by
  have hul := hus.length
  have hHn := List.nodup_append.mp s.hnd
  obtain ⟨b', o', cur, t, L, M, R, k1, k2, k3, k4, k5, k6, k6', k7⟩ := (s.rep r).store hx (s.nd r) hset hys (by
    intro e
    subst e
    obtain ⟨⟨p, y, e1⟩, _⟩ := ha
    rw [e1] at hx
    simp [rootD] at hx
    exact ⟨p, by rw [e1, hx]⟩)
  obtain ⟨rfl, rfl⟩ := ha.unique k1
  have hbB : b ∈ B r := by rw [k5]; simp [k2]
  refine ⟨upd B r (L ++ Hn ++ R), cur, t, k3, by omega, hus.ones hys, ?_, ?_⟩
  · have hnd : (L ++ M ++ R).Nodup := by rw [← k5]; exact s.nd r
    have hLM := List.nodup_append.mp hnd
    have hL := List.nodup_append.mp hLM.1
    have hbLR : ∀ c ∈ L ++ R, c ∈ B r := by
      intro c hc
      rw [k5]
      rcases List.mem_append.mp hc with hc | hc <;> simp [hc]
    have hdj : ∀ c ∈ Hn, c ∉ L ++ R := fun c hc hh => s.hB c (by simp [hc]) r (hbLR c hh)
    have hoth : ∀ c, c ≠ b → (w.setRow b (cur.toList.take (o + off) ++ us ++ cur.toList.drop (o + off + us.length)).toArray).heap[c]? = w.heap[c]? := fun c hc => setRow_other w b c _ hc
    refine s.renew hx ?_ (by rw [setRow_size]; exact Nat.le_refl _) ?_ ?_ ?_ ?_ hHn.2.1 ?_
    · have hF' : Agree w (w.setRow b (cur.toList.take (o + off) ++ us ++ cur.toList.drop (o + off + us.length)).toArray) F := fun c hc => hoth c (by rintro rfl; exact s.nF r c hbB hc)
      refine k7 _ F Hn us _ t (fun _ h => h) hF' (fun c _ hc => hoth c hc) (setRow_heap w b cur _ t (0, 0) k3) ?_ ?_ ?_ hul ?_
      · simp
        omega
      · intro k hk
        simp only [List.getElem?_toArray]
        rcases hk with hk | hk
        · rw [List.append_assoc, List.getElem?_append_left (by simp; omega), List.getElem?_take_of_lt hk]
          simp
        · rw [List.getElem?_append_right (by simp; omega), List.getElem?_drop]
          simp only [Array.getElem?_toList]
          congr 1
          simp
          omega
      · intro k hk
        simp only [List.getElem?_toArray]
        rw [List.append_assoc, List.getElem?_append_right (by simp; omega), List.getElem?_append_left (by simp; omega)]
        congr 1
        simp
        omega
      · exact RepL.frame (fun _ h => h) hF' _ _ _ (fun c hc => hoth c (by rintro rfl; exact s.hB c (by simp [hc]) r hbB)) hus
    · intro c _ hc _
      exact hoth c (by rintro rfl; exact hc hbB)
    · intro p y hv hp b0 hb0
      apply hoth
      rintro rfl
      cases hop with
      | none => have := hpin rfl; rw [hv] at this; simp only [pinOf] at this; omega
      | some q =>
        refine k6' (by simp) p ?_ b0 hb0 rfl
        rw [hv] at hx ⊢
        simp only [rootD, Option.some.injEq] at hx
        rw [hx]
    · rw [List.nodup_append, List.nodup_append]
      refine ⟨⟨hL.1, hHn.1, ?_⟩, hLM.2.1, ?_⟩
      · rintro c hc d hd rfl
        exact hdj c hd (by simp [hc])
      · rintro c hc d hd rfl
        rcases List.mem_append.mp hc with hc | hc
        · exact hLM.2.2 c (by simp [hc]) c hd rfl
        · exact hdj c hc (by simp [hd])
    · intro c hc
      rcases List.mem_append.mp hc with hc | hc
      · rcases List.mem_append.mp hc with hc | hc
        · exact Or.inl (hbLR c (by simp [hc]))
        · exact Or.inr (Or.inl (by simp [hc]))
      · exact Or.inl (hbLR c (by simp [hc]))
    · intro c hc
      refine ⟨?_, Or.inl (by simp [hc])⟩
      intro hh
      rcases List.mem_append.mp hh with hh | hh
      · rcases List.mem_append.mp hh with hh | hh
        · exact s.hB c (by simp [hc]) r (hbLR c (by simp [hh]))
        · exact hHn.2.2 c hh c hc rfl
      · exact s.hB c (by simp [hc]) r (hbLR c (by simp [hh]))
  · refine ⟨by simp, rfl, rfl, by rw [setRow_size]; exact Nat.le_refl _, ?_, fun _ h => h, fun _ h => Or.inl h, ?_⟩
    · intro c _ hc
      exact setRow_other w b c _ (by rintro rfl; exact hc (Or.inl ⟨r, hbB⟩))
    · intro c hc
      left
      rcases hc with ⟨i, hi⟩ | hc
      · by_cases hir : i = r
        · subst hir
          rw [upd_same] at hi
          rcases List.mem_append.mp hi with hi | hi
          · rcases List.mem_append.mp hi with hi | hi
            · exact Or.inl ⟨i, by rw [k5]; simp [hi]⟩
            · exact Or.inr (by simp [hi])
          · exact Or.inl ⟨i, by rw [k5]; simp [hi]⟩
        · rw [upd_ne _ _ _ hir] at hi; exact Or.inl ⟨i, hi⟩
      · exact Or.inr (by simp [hc])
end Go.Pi

/- Operations: stores, new variables, addresses, fields, elements. -/
namespace Go.Pi
open Go
set_option linter.unusedSimpArgs false
set_option linter.unusedVariables false

theorem oneC' {v : Value} (h : oneC v = true) : v.oneCell' = true := by cases v <;> simp_all [oneC, Value.oneCell']
theorem ovl_cons' (p : Nat × Sl) (u : Ov) (g : Nat → Sl) : ovl (p :: u) g = ovl [p] (ovl u g) := by
  funext i
  obtain ⟨j, s⟩ := p
  rfl
theorem ovl_app (u u' : Ov) (g : Nat → Sl) : ovl (u' ++ u) g = ovl u' (ovl u g) := by
  induction u' with
  | nil => rfl
  | cons p u' ih => rw [List.cons_append, ovl_cons', ih, ← ovl_cons']
theorem Sound.store {P : Program} {F : Nat → Prop} {B : Nat → List Nat} {g : Nat → Sl} {a : Act} {w : World} {o : Oper} {V : V} {u : Ov} {t : TypeId} {p x : Operand} {n : Nat} {ag mv : Bool} (s : Sim F B [] g a w)
    (ho : o.op = .store t p x) (ht : tLoad P t = some (n, ag)) (h : storeV mv g p x n = some (V, u)) : Sound P F B g a w o V u := by
  unfold storeV at h
  simp only [Option.bind_eq_some_iff] at h
  obtain ⟨⟨y, u1⟩, h1, h⟩ := h
  simp only at h
  split at h
  case isFalse => simp at h
  rename_i hw
  simp only [Option.bind_eq_some_iff] at h
  obtain ⟨⟨r, hop, off⟩, h2, h⟩ := h
  unfold storeAt at h
  split at h
  · simp at h
  rename_i hpin
  simp only [Option.map_eq_some_iff] at h
  obtain ⟨sl, h3, h4⟩ := h
  injection h4 with h4 h5
  subst h4 h5
  unfold putAt at h3
  simp only [Option.bind_eq_some_iff, Option.map_eq_some_iff] at h3
  obtain ⟨z, hz, cs', hset, rfl⟩ := h3
  obtain ⟨F', B', M, s1, rep, e1⟩ := s.take h1
  obtain ⟨b, o', pa, pe⟩ := s1.place h2
  obtain ⟨c1, c2, c3, c4⟩ := rep.cells
  obtain ⟨B'', cur, ty, k1, k2, k3, k4, k5⟩ := s1.write (H := []) hz hset c2 (by
    intro e
    subst e
    simp only [true_and] at hpin
    omega) c1 pa
  obtain ⟨q1, q2⟩ := tLoad_run ht w
  refine Sound.skip (w' := w.setRow b (cur.toList.take (o' + off) ++ (a.eval x).cells.toList ++ cur.toList.drop (o' + off + (a.eval x).cells.toList.length)).toArray) ?_ ?_
  · have hst := run_storeCells_at (P := P) b (o' + off) ty (a.eval x).cells.toList 0 cur w k1 (by simpa using k2) (fun v hv => oneC' (k3 v hv))
    simp only [Nat.add_zero] at hst
    simp only [execOp, ho, Sem.run_bind, Instr.storeAt, Instr.sureAddr, pe, Sem.run_pure, Result.andThen_ok, storeVar, q2, c4, hw, ne_eq, not_true, if_false, hst]
  · rw [ovl_cons']
    exact ⟨F', B'', [], k4, by simp [SRep], trivial, mvc_of (by simp), e1.trans k5⟩

/-! ### New variables -/
theorem Sim.alloc {F : Nat → Prop} {B : Nat → List Nat} {H : List Nat} {g : Nat → Sl} {a : Act} {w : World} (s : Sim F B H g a w) (ob : Obj) :
    Sim F B (w.heap.size :: H) g a (w.alloc ob) ∧ Ext F (Own B H) w F (Own B (w.heap.size :: H)) (w.alloc ob) := by
  have hn : w.heap.size ∉ H := fun hh => Nat.lt_irrefl _ (s.hlt _ hh)
  constructor
  · refine s.world (by rw [al_size]; omega) (fun b hb _ => al_old w ob hb) (List.nodup_cons.mpr ⟨hn, s.hnd⟩) ?_
    intro b hb
    rcases List.mem_cons.mp hb with hb | hb
    · right
      rw [al_size, hb]
      omega
    · exact Or.inl hb
  · refine ⟨rfl, rfl, rfl, by rw [al_size]; omega, fun b hb _ => al_old w ob hb, fun _ h => h, fun _ h => Or.inl h, ?_⟩
    intro b hb
    rcases hb with hb | hb
    · exact Or.inl (Or.inl hb)
    · rcases List.mem_cons.mp hb with hb | hb
      · exact Or.inr (by omega)
      · exact Or.inl (Or.inr hb)
theorem Sim.newBox {F : Nat → Prop} {B : Nat → List Nat} {g : Nat → Sl} {a : Act} {w : World} {M : List Nat} {x : D} {v : Value} (s : Sim F B M g a w) (hr : Rep w F x v M) (t : TypeId) (pin : Nat) :
    SRep (w.alloc (.cells v.cells t)) F (.box pin x) (.pointer (some ⟨w.heap.size, 0, none⟩)) (w.heap.size :: M) := by
  simp only [SRep]
  exact ⟨w.heap.size, v, t, M, rfl, al_new w _, Rep.frame (fun _ h => h) (fun b hb => al_old w _ (s.ltF b hb)) _ _ _ (fun b hb => al_old w _ (s.hlt b hb)) hr, rfl⟩
theorem tZero_run {P : Program} {t : TypeId} {z : D} (h : tZero P t = some z) (w : World) : ∃ v, (zeroValue t).run P w = .ok v w ∧ ofVal v = some z ∧ ∃ i, P.info? t = some i ∧ v.cells.size = i.size ∧ i.zero = some v := by
  unfold tZero at h
  simp only [Option.bind_eq_some_iff] at h
  obtain ⟨i, h1, v, h2, h3⟩ := h
  split at h3
  · rename_i h4
    exact ⟨v, by simp [zeroValue, typeInfo, h1, h2], h3, i, h1, h4, h2⟩
  · simp at h3
theorem run_newVar (P : Program) (w : World) (t : TypeId) (v : Value) : (newVar t v).run P w = .ok ⟨w.heap.size, 0, none⟩ (w.alloc (.cells v.cells t)) := by
  rfl
theorem Sound.alloc {P : Program} {F : Nat → Prop} {B : Nat → List Nat} {g : Nat → Sl} {a : Act} {w : World} {o : Oper} {t : TypeId} {z : D} (s : Sim F B [] g a w)
    (ho : o.op = .alloc t) (h : tZero P t = some z) : Sound P F B g a w o (.box 0 z) [] := by
  obtain ⟨v, h1, h2, _⟩ := tZero_run h w
  obtain ⟨s1, e1⟩ := s.alloc (.cells v.cells t)
  refine Sound.value (val := .pointer (some ⟨w.heap.size, 0, none⟩)) (w' := w.alloc (.cells v.cells t)) ?_ ⟨F, B, [w.heap.size], s1, s.newBox (rep_ofVal h2) t 0, trivial, mvc_of (by simp), e1⟩
  simp only [execOp, ho, Sem.run_bind, Instr.alloc, h1, Result.andThen_ok, run_newVar, Sem.run_pure]
theorem Sound.box {P : Program} {F : Nat → Prop} {B : Nat → List Nat} {g : Nat → Sl} {a : Act} {w : World} {o : Oper} {t : TypeId} {x : Operand} {mv : Bool} {V : V} {u : Ov} (s : Sim F B [] g a w)
    (ho : o.op = .box t x) (h : boxV mv g o.dst x = some (V, u)) : Sound P F B g a w o V u := by
  have hrun : (execOp a.eval o).run P w = .ok (.value (.pointer (some ⟨w.heap.size, 0, none⟩))) (w.alloc (.cells (a.eval x).cells t)) := by
    simp only [execOp, ho, Sem.run_bind, Instr.box, run_newVar, Result.andThen_ok, Sem.run_pure]
  have plain : ∀ y, Go.Pi.take mv g x = some (y, u) → Sound P F B g a w o (.box 0 y) u := by
    intro y hy
    obtain ⟨F', B', M, s1, rep, e1⟩ := s.take hy
    simp only [List.append_nil] at s1 e1
    obtain ⟨s2, e2⟩ := s1.alloc (.cells (a.eval x).cells t)
    exact Sound.value hrun ⟨F', B', _, s2, s1.newBox rep t 0, trivial, mvc_of (by simp), e1.trans e2⟩
  unfold boxV at h
  split at h
  · rename_i t'
    unfold boxS at h
    split at h
    · rename_i iv cv cs hs
      simp only [Option.bind_eq_some_iff] at h
      obtain ⟨d, hd, h⟩ := h
      split at h
      case isFalse => simp at h
      rename_i hp
      injection h with h
      injection h with h4 h5
      subst h4 h5
      have hv : (g t').v = .own 1 (.agg cs) := by rw [hs]
      have hr := s.rep t'
      rw [hv] at hr
      simp only [SRep] at hr
      obtain ⟨s1, e1⟩ := s.reslot (V' := .mv d) (Br' := []) (H' := B t') (F' := F) (by simp [SRep]) (fun _ h => h) (s.inb (by rw [hv]; simp)) (by simp) (by simp) (by simp)
        (fun d' hd' y hy => by injection hd' with hd'; subst hd'; rw [hy] at hp; simp [pinOf] at hp) (by simp) (by simp) (s.nd t') (fun b hb => Or.inr ⟨hb, by simp⟩) (fun _ h => Or.inl h)
      rw [hs] at s1
      obtain ⟨s2, e2⟩ := s1.alloc (.cells (a.eval (.tmp t')).cells t)
      have e : a.eval (.tmp t') = a.tmps.getD t' undef := rfl
      refine Sound.value hrun ⟨F, _, _, s2, s1.newBox (v := a.eval (.tmp t')) (by rw [e]; exact hr) t _, trivial, ?_, e1.trans e2⟩
      intro d' hd' i hi y hy
      injection hy with hy1 hy2
      have hi' : i = t' := by omega
      subst hi'
      simp only [Rep] at hr
      obtain ⟨vs, r1, _⟩ := hr
      refine ⟨vs.toArray, w.heap.size, t, r1, rfl, ?_⟩
      rw [al_new, e, r1]
      rfl
    · simp only [Option.map_eq_some_iff] at h
      obtain ⟨⟨y, u'⟩, h1, h2⟩ := h
      injection h2 with h4 h5
      subst h4 h5
      exact plain y (by simpa [Go.Pi.take] using h1)
  · simp only [Option.map_eq_some_iff] at h
    obtain ⟨⟨y, u'⟩, h1, h2⟩ := h
    injection h2 with h4 h5
    subst h4 h5
    exact plain y h1
end Go.Pi

/- Operations: fields, elements, parts. -/
namespace Go.Pi
open Go
set_option linter.unusedSimpArgs false
set_option linter.unusedVariables false

theorem Sound.plain {P : Program} {F : Nat → Prop} {B : Nat → List Nat} {g : Nat → Sl} {a : Act} {w : World} {o : Oper} {y : D} {val : Value} (s : Sim F B [] g a w)
    (h : (execOp a.eval o).run P w = .ok (.value val) w) (hr : Rep w F y val []) : Sound P F B g a w o (.v y) [] :=
  Sound.value h ⟨F, B, [], s, by simp only [SRep]; exact ⟨hr, trivial⟩, trivial, mvc_of (by simp), Ext.refl _ _ _⟩
theorem tFld_run {P : Program} {t : TypeId} {f off n : Nat} {ag : Bool} (h : tFld P t f = some (off, n, ag)) :
    ∃ fs fl, P.underlying t = some (.struct fs) ∧ fs[f]? = some fl ∧ fl.offset = off ∧ tLoad P fl.type = some (n, ag) ∧ n ≠ 0 := by
  unfold tFld at h
  split at h
  · rename_i fs hu
    simp only [Option.bind_eq_some_iff] at h
    obtain ⟨fl, h1, ⟨n', ag'⟩, h2, h3⟩ := h
    simp only at h3
    split at h3
    · simp at h3
    · rename_i h0
      simp only [Option.some.injEq, Prod.mk.injEq] at h3
      obtain ⟨rfl, rfl, rfl⟩ := h3
      exact ⟨fs, fl, hu, h1, rfl, h2, h0⟩
  · simp at h
theorem run_fieldAt {P : Program} {t : TypeId} {f off n : Nat} {ag : Bool} (h : tFld P t f = some (off, n, ag)) (w : World) (b o : Nat) :
    (Instr.fieldAt t (.pointer (some ⟨b, o, none⟩)) f).run P w = .ok (.pointer (some ⟨b, o + off, none⟩)) w := by
  obtain ⟨fs, fl, h1, h2, h3, h4, h5⟩ := tFld_run h
  subst h3
  simp only [Instr.fieldAt, Sem.run_bind, run_underlying h1, Result.andThen_ok, h2, Instr.sureAddr, Sem.run_pure, fieldPlace, (tLoad_run h4 w).2, h5, if_false, add_mk]
theorem ofCells_cells {w : World} {F : Nat → Prop} {y : D} {ag : Bool} {us : List Value} {M : List Nat} (h : Rep w F y (ofCells ag us) M) (hy : y.isAgg = ag) (hl : us.length = y.width) :
    (ofCells ag us).cells = us.toArray := by
  cases ag with
  | true => rfl
  | false =>
    have := ofCells_width h hy hl rfl
    obtain ⟨u, rfl⟩ := List.length_eq_one_iff.mp this
    exact cells_one (h.one hy)
theorem append_nil3 {L M R : List Nat} (h : ([] : List Nat) = L ++ M ++ R) : L = [] ∧ M = [] ∧ R = [] := by
  have h1 := List.append_eq_nil_iff.mp h.symm
  have h2 := List.append_eq_nil_iff.mp h1.1
  exact ⟨h2.1, h2.2, h1.2⟩
/-- Part of a read-only variable. -/
theorem Rep.sub {w : World} {F : Nat → Prop} {x y : D} {u : Value} {off n : Nat} {ag : Bool} (h : Rep w F x u []) (hy : subD x.cells off n ag = some y) :
    ∃ us : List Value, us.length = n ∧ (∀ k, k < n → u.cells[off + k]? = us[k]?) ∧ Rep w F y (ofCells ag us) [] ∧ y.width = n ∧ y.isAgg = ag ∧ off + n ≤ x.cells.length := by
  obtain ⟨h1, h2, _, h4⟩ := h.cells
  have hle : off + n ≤ x.cells.length := by
    unfold subD at hy
    split at hy
    · assumption
    · simp at hy
  obtain ⟨us, L, M, R, k1, k2, k3, k4, k5⟩ := h1.mid off n hle
  obtain ⟨rfl, rfl, rfl⟩ := append_nil3 k3
  obtain ⟨q1, q2, q3, q4, q5⟩ := rep_ofCells hy h2 k4
  exact ⟨us, k1, fun k hk => by rw [← k2 k hk]; simp, q1, q2, q3, hle⟩
theorem Sound.fieldAddr {P : Program} {F : Nat → Prop} {B : Nat → List Nat} {g : Nat → Sl} {a : Act} {w : World} {o : Oper} {t : TypeId} {x : Operand} {f : Nat} {V : V} (s : Sim F B [] g a w)
    (ho : o.op = .fieldAddr t x f) (h : fieldAddrV P g t x f = some V) : Sound P F B g a w o V [] := by
  unfold fieldAddrV at h
  simp only [Option.bind_eq_some_iff] at h
  obtain ⟨⟨off', n, ag⟩, ht, h⟩ := h
  have hrun : ∀ b off, a.eval x = .pointer (some ⟨b, off, none⟩) → (execOp a.eval o).run P w = .ok (.value (.pointer (some ⟨b, off + off', none⟩))) w := by
    intro b off e
    simp only [execOp, ho, Sem.run_bind, e, run_fieldAt ht, Result.andThen_ok, Sem.run_pure]
  simp only at h
  split at h
  case h_2 => simp at h
  rename_i s'
  have hr := s.rep s'
  have hl := s.loc s'
  unfold faS at h
  split at h
  · rename_i iv cv y hs
    simp only [Option.map_eq_some_iff] at h
    obtain ⟨z, hz, rfl⟩ := h
    rw [hs] at hr
    simp only [SRep] at hr
    obtain ⟨⟨b, off, u, e1, e2, e3, e4⟩, _⟩ := hr
    obtain ⟨us, k1, k2, k3, k4, k5, k6⟩ := e4.sub hz
    have hc := ofCells_cells k3 k5 (by omega)
    have hu := e4.cells.2.2.2
    refine Sound.value (hrun b off e1) ⟨F, B, [], s, ?_, trivial, mvc_of (by simp), Ext.refl _ _ _⟩
    simp only [SRep]
    refine ⟨⟨b, off + off', ofCells ag us, rfl, e2, ?_, k3⟩, trivial⟩
    intro i hi
    rw [hc] at hi ⊢
    simp only [List.size_toArray] at hi
    simp only [List.getElem?_toArray]
    rw [← k2 i (by omega), ← e3 (off' + i) (by simp only [D.width] at hu; omega), Nat.add_assoc]
  · rename_i iv cv p y hs
    have hv : (g s').v = .box p y := by rw [hs]
    injection h with h
    subst h
    rw [hs] at hr
    simp only [SRep] at hr
    obtain ⟨b, u, t', B', e1, e2, e3, e4⟩ := hr
    refine Sound.value (hrun b 0 e1) ⟨F, B, [], s, by simp [SRep], ?_, mvc_of (by simp), Ext.refl _ _ _⟩
    simp only [LocV, ovl]
    exact ⟨by simp [hs], by simp [hs], fun _ _ => ⟨b, 0, ⟨⟨p, y, hv⟩, e1, rfl⟩, by simp⟩⟩
  · rename_i iv cv r iv' cv' hop off hs
    have hv : (g s').v = .wp r iv' cv' hop off := by rw [hs]
    unfold live at h
    split at h
    case isFalse => simp at h
    rename_i hc
    injection h with h
    subst h
    unfold Loc at hl
    rw [hv] at hl
    obtain ⟨l1, l2, l3⟩ := hl
    obtain ⟨b, o', p1, p2⟩ := l3 hc.1 hc.2
    refine Sound.value (hrun b (o' + off) p2) ⟨F, B, [], s, by simp [SRep], ?_, mvc_of (by simp), Ext.refl _ _ _⟩
    simp only [LocV, ovl]
    exact ⟨l1, l2, fun _ _ => ⟨b, o', p1, by rw [Nat.add_assoc]⟩⟩
  · simp at h

/-! ### Fields of values -/
theorem run_partOf {P : Program} {t : TypeId} {n off : Nat} {ag : Bool} {w : World} {cs : Array Value} {us : List Value} (h : tLoad P t = some (n, ag)) (hl : us.length = n) (h1 : ag = false → n = 1)
    (hc : ∀ k, k < n → cs[off + k]? = us[k]?) : (part t cs off).run P w = .ok (ofCells ag us) w := by
  obtain ⟨q1, q2⟩ := tLoad_run h w
  cases ag with
  | true =>
    have : cs.extract off (off + n) = us.toArray := by
      apply Array.ext_getElem?
      intro i
      rw [Array.getElem?_extract]
      simp only [List.getElem?_toArray]
      rcases Nat.lt_or_ge i n with hi | hi
      · have hs := hc i hi
        have hlt : off + i < cs.size := by
          rcases Nat.lt_or_ge (off + i) cs.size with q | q
          · exact q
          · rw [Array.getElem?_eq_none q, List.getElem?_eq_getElem (by omega)] at hs
            simp at hs
        rw [if_pos (by omega), hs]
      · rw [if_neg (by omega), List.getElem?_eq_none (by omega)]
    simp only [part, Sem.run_bind, q1, q2, Result.andThen_ok, if_true, Sem.run_pure, ofCells, this]
  | false =>
    rw [h1 rfl] at hl hc
    obtain ⟨u, rfl⟩ := List.length_eq_one_iff.mp hl
    have := hc 0 (by omega)
    simp only [Nat.add_zero, List.getElem?_cons_zero] at this
    simp only [part, Sem.run_bind, q1, Result.andThen_ok, Bool.false_eq_true, if_false, this, Sem.run_pure, ofCells, List.headD_cons]
theorem PVals.sub {w : World} {v : V} {val : Value} {hop : Hop} {off off' : Nat} {us us0 : List Value} (h : PVals w v val hop off us0) (k : PVals w v val hop (off + off') us) (hl : off' + us.length ≤ us0.length) :
    ∀ j, j < us.length → us0[off' + j]? = us[j]? := by
  intro j hj
  cases hop with
  | none =>
    obtain ⟨cs, h1, h2⟩ := h
    obtain ⟨cs', k1, k2⟩ := k
    rw [h1] at k1
    injection k1 with k1
    subst k1
    rw [← k2 j hj, ← h2 (off' + j) (by omega), Nat.add_assoc]
  | some q =>
    obtain ⟨b, o, h1, h2⟩ := h
    obtain ⟨b', o', k1, k2⟩ := k
    obtain ⟨rfl, rfl⟩ := h1.unique k1
    rw [← k2 j hj, ← h2 (off' + j) (by omega)]
    congr 2
    omega
theorem Sound.field {P : Program} {F : Nat → Prop} {B : Nat → List Nat} {g : Nat → Sl} {a : Act} {w : World} {o : Oper} {t : TypeId} {x : Operand} {f : Nat} {V : V} (s : Sim F B [] g a w)
    (ho : o.op = .field t x f) (h : fieldV P g t x f = some V) : Sound P F B g a w o V [] := by
  unfold fieldV at h
  simp only [Option.bind_eq_some_iff] at h
  obtain ⟨⟨off', n, ag⟩, ht, h⟩ := h
  obtain ⟨fs, fl, t1, t2, t3, t4, t5⟩ := tFld_run ht
  have hrun : ∀ cs us, a.eval x = .agg cs → us.length = n → (ag = false → n = 1) → (∀ k, k < n → cs[off' + k]? = us[k]?) → (execOp a.eval o).run P w = .ok (.value (ofCells ag us)) w := by
    intro cs us e1 e2 e3 e4
    simp only [execOp, ho, Sem.run_bind, Instr.field, run_underlying t1, t2, e1, asAgg, Sem.run_pure, Result.andThen_ok, t3, run_partOf t4 e2 e3 e4]
  simp only at h
  split at h
  case h_2 => simp at h
  rename_i s'
  have hr := s.rep s'
  have hl := s.loc s'
  have href : ∀ r hop off cs, a.eval (.tmp s') = .agg cs → (∀ us, us.length = n → PVals w (g r).v (a.tmps.getD r undef) hop off us → ∀ k, k < n → cs[off' + k]? = us[k]?) → refV g r hop off n ag = some V → Sound P F B g a w o V [] := by
    intro r hop off cs e1 e2 e3
    unfold refV at e3
    simp only [Option.bind_eq_some_iff, Option.map_eq_some_iff] at e3
    obtain ⟨z, hz, row, hrow, y, hy, rfl⟩ := e3
    obtain ⟨us, M, k1, k2, k3, k4, k5, k6⟩ := (s.rep r).read hz hrow hy
    refine Sound.value (hrun cs us e1 k1 (fun e => by rw [← k1]; exact ofCells_width k4 k6 (by omega) e) (e2 us k1 k2)) ?_
    unfold asRef
    split
    · refine ⟨F, B, [], s, by simp [SRep], ?_, mvc_of (by simp), Ext.refl _ _ _⟩
      simp only [LocV]
      exact ⟨Nat.le_refl _, Nat.le_refl _, fun _ _ => ⟨us, k1, k2, rfl⟩⟩
    · rename_i hno
      have : M = [] := D.ownsNot k4 (by simpa using hno)
      subst this
      exact ⟨F, B, [], s, by simp only [SRep]; exact ⟨k4, trivial⟩, trivial, mvc_of (by simp), Ext.refl _ _ _⟩
  unfold fdS at h
  split at h
  · rename_i cs hv
    simp only [Option.map_eq_some_iff] at h
    obtain ⟨z, hz, rfl⟩ := h
    rw [hv] at hr
    simp only [SRep] at hr
    obtain ⟨us, k1, k2, k3, k4, k5, k6⟩ := Rep.sub (x := .agg cs) hr.1 hz
    have hr1 := hr.1
    simp only [Rep] at hr1
    obtain ⟨vs, e1, _⟩ := hr1
    refine Sound.plain s (hrun vs.toArray us e1 k1 (fun e => by rw [← k1]; exact ofCells_width k3 k5 (by omega) e) (fun k hk => ?_)) k3
    have := k2 k hk
    rw [e1] at this
    exact this
  · rename_i p cs hv
    rw [hv] at hr
    simp only [SRep, Rep] at hr
    obtain ⟨vs, e1, _⟩ := hr
    refine href s' none off' vs.toArray e1 ?_ h
    intro us hl hp k hk
    obtain ⟨cs', p1, p2⟩ := hp
    rw [hv, e1] at p1
    simp only [rootVals, Value.cells] at p1
    injection p1 with p1
    subst p1
    exact p2 k (by omega)
  · rename_i r iv cv hop off k hv
    split at h
    case isFalse => simp at h
    rename_i hc
    unfold Loc at hl
    rw [hv] at hl
    obtain ⟨us0, l1, l2, l3⟩ := hl.2.2 hc.1 hc.2.1
    refine href r hop (off + off') us0.toArray l3 ?_ h
    intro us hl hp j hj
    simp only [List.getElem?_toArray]
    exact l2.sub hp (by omega) j (by omega)
  · simp at h
end Go.Pi

/- Operations: elements, results' parts, nil checks, choices, operators. -/
namespace Go.Pi
open Go
set_option linter.unusedSimpArgs false
set_option linter.unusedVariables false

theorem tElem_run {P : Program} {t : TypeId} {m bytes : Nat} (h : tElem P t = some (m, bytes)) :
    ∃ e i, P.underlying t = some (.slice e) ∧ P.info? e = some i ∧ i.size = m ∧ i.bytes = bytes := by
  unfold tElem at h
  split at h
  · rename_i e hu
    simp only [Option.map_eq_some_iff] at h
    obtain ⟨i, h1, h2⟩ := h
    injection h2 with h2 h3
    exact ⟨e, i, hu, h1, h2, h3⟩
  · simp at h
theorem run_info {P : Program} {e : TypeId} {i : TypeInfo} (h : P.info? e = some i) (w : World) : (sizeOf e).run P w = .ok i.size w := by simp [sizeOf, typeInfo, h]
theorem run_indexAt {P : Program} {t : TypeId} {m bytes : Nat} (h : tElem P t = some (m, bytes)) (w : World) (b o len cap : Nat) (k : IntKind) (j : Int) (h0 : 0 ≤ j) (h1 : j.toNat < len) :
    (Instr.indexAt t (.slice (some ⟨b, o, none⟩) len cap) (.int k j)).run P w = .ok (.pointer (some ⟨b, o + j.toNat * m, none⟩)) w := by
  obtain ⟨e, i, h2, h3, h4, h5⟩ := tElem_run h
  subst h4
  have h6 : 0 ≤ j ∧ j < (len : Int) := ⟨h0, by omega⟩
  simp only [Instr.indexAt, Sem.run_bind, asIntOf, Sem.run_pure, Result.andThen_ok, run_underlying h2, h6, and_self, if_true, run_info h3, add_mk]
theorem rep_asInt {w : World} {F : Nat → Prop} {x : D} {v : Value} {M : List Nat} {j : Int} (h : Rep w F x v M) (hj : asInt x = some j) : ∃ k, v = .int k j := by
  cases x <;> simp [asInt] at hj
  subst hj
  exact ⟨_, rep_int h⟩
/-- An element of a read-only slice. -/
theorem Rep.roElem {w : World} {F : Nat → Prop} {o : Bool} {xs : List D} {v : Value} {j : Nat} {e : D} (h : Rep w F (.sl o xs) v []) (hj : xs[j]? = some e) :
    ∃ b o' cap rv, v = .slice (some ⟨b, o', none⟩) xs.length cap ∧ F b ∧ AtCells w b (o' + j * e.width) rv.cells ∧ Rep w F e rv [] := by
  have key : ∀ (A : Option Addr) (c m : Nat) (rvs : List Value) (b o' : Nat), v = .slice A xs.length c → RepL w F xs rvs [] → A = some ⟨b, o', none⟩ → F b → Rows w b o' m rvs →
      ∃ b o' cap rv, v = .slice (some ⟨b, o', none⟩) xs.length cap ∧ F b ∧ AtCells w b (o' + j * e.width) rv.cells ∧ Rep w F e rv [] := by
    intro A c m rvs b o' h1 h3 h5 h6 h7
    subst h5
    obtain ⟨rv, L, M, R, g1, g2, g3, _⟩ := h3.at hj
    obtain ⟨rfl, rfl, rfl⟩ := append_nil3 g2
    obtain ⟨q1, q2⟩ := h7 j rv g1
    have hw := g3.cells.2.2.2
    refine ⟨b, o', c, rv, h1, h6, ?_, g3⟩
    intro i hi
    rw [← hw, q1]
    exact q2 i (by omega)
  cases o with
  | true =>
    simp only [Rep] at h
    obtain ⟨A, c, m, rvs, B', h1, h2, h3, h4⟩ := h
    rcases h4 with ⟨h4, _⟩ | ⟨b, cur, t, h4, h5, h6, h7, h8, h9⟩
    · subst h4; simp at hj
    · simp at h8
  | false =>
    simp only [Rep] at h
    obtain ⟨A, c, m, rvs, h1, h2, h3, h4, h5⟩ := h
    rcases h5 with h5 | ⟨b, o, h5, h6, h7⟩
    · subst h5; simp at hj
    · exact key A c m rvs b o h1 h3 h5 h6 h7
theorem Sound.indexAddr {P : Program} {F : Nat → Prop} {B : Nat → List Nat} {g : Nat → Sl} {a : Act} {w : World} {o : Oper} {t : TypeId} {x ix : Operand} {V : V} (s : Sim F B [] g a w)
    (ho : o.op = .indexAddr t x ix) (h : indexAddrV P g t x ix = some V) : Sound P F B g a w o V [] := by
  unfold indexAddrV at h
  simp only [Option.bind_eq_some_iff] at h
  obtain ⟨⟨m, bytes⟩, ht, n, hn, j, hj, h⟩ := h
  obtain ⟨M, hM⟩ := s.peek hn
  obtain ⟨kk, hix⟩ := rep_asInt hM hj
  have hrun : ∀ b off len cap, a.eval x = .slice (some ⟨b, off, none⟩) len cap → 0 ≤ j → j.toNat < len → (execOp a.eval o).run P w = .ok (.value (.pointer (some ⟨b, off + j.toNat * m, none⟩))) w := by
    intro b off len cap e1 e2 e3
    simp only [execOp, ho, Sem.run_bind, e1, hix, run_indexAt ht w b off len cap kk j e2 e3, Result.andThen_ok, Sem.run_pure]
  unfold iaT at h
  split at h
  case h_2 => simp at h
  rename_i s'
  split at h
  case isFalse => simp at h
  rename_i h0
  have ro : ∀ (ob : Bool) (xs : List D), Rep w F (.sl ob xs) (a.eval (.tmp s')) [] → elemAt m xs j.toNat .rp = some V → Sound P F B g a w o V [] := by
    intro ob xs hr he
    unfold elemAt at he
    simp only [Option.bind_eq_some_iff] at he
    obtain ⟨e, he, h1⟩ := he
    split at h1
    case isFalse => simp at h1
    rename_i hm
    injection h1 with h1
    subst h1
    obtain ⟨b, o', cap, rv, e1, e2, e3, e4⟩ := hr.roElem he
    rw [hm] at e3
    refine Sound.value (hrun b o' _ cap e1 h0 (List.getElem?_eq_some_iff.mp he).1) ⟨F, B, [], s, ?_, trivial, mvc_of (by simp), Ext.refl _ _ _⟩
    simp only [SRep]
    exact ⟨⟨b, _, rv, rfl, e2, e3, e4⟩, trivial⟩
  have hr := s.rep s'
  have hl := s.loc s'
  unfold iaS at h
  split at h
  · rename_i iv cv ob xs hs
    rw [hs] at hr
    simp only [SRep] at hr
    exact ro ob xs hr.1 h
  · rename_i iv cv p xs hs
    have hv : (g s').v = .own p (.sl true xs) := by rw [hs]
    rw [hs] at hr
    simp only [SRep] at hr
    unfold elemAt at h
    simp only [Option.bind_eq_some_iff] at h
    obtain ⟨e, he, h1⟩ := h
    split at h1
    case isFalse => simp at h1
    rename_i hm
    injection h1 with h1
    subst h1
    obtain ⟨b, cap, cur, t', rv, L, Bx, R, e1, e2, _⟩ := hr.elem he
    refine Sound.value (hrun b 0 _ cap e1 h0 (List.getElem?_eq_some_iff.mp he).1) ⟨F, B, [], s, by simp [SRep], ?_, mvc_of (by simp), Ext.refl _ _ _⟩
    simp only [LocV, ovl]
    refine ⟨by simp [hs], by simp [hs], fun _ _ => ⟨b, 0 + j.toNat * m, ⟨.sl true xs, #[a.tmps.getD s' undef], true, xs, e, xs.length, cap, 0, by rw [hv]; rfl, ?_, rfl, he, by rw [e1]; rfl, by rw [hm]⟩, rfl⟩⟩
    rw [hv, e1]
    rfl
  · rename_i iv cv p xs hs
    rw [hs] at hr
    simp only [SRep] at hr
    have hB : B s' = [] := by
      have := hr
      simp only [Rep] at this
      obtain ⟨A, c, m', rvs, _, _, _, hb, _⟩ := this
      exact hb
    rw [hB] at hr
    exact ro false xs hr h
  · rename_i iv cv r iv' cv' hop off n' ag hs
    have hv : (g s').v = .ref r iv' cv' hop off n' ag := by rw [hs]
    simp only [Option.bind_eq_some_iff] at h
    obtain ⟨y, hy, h⟩ := h
    unfold refD at hy
    split at hy
    case isFalse => simp at hy
    rename_i hc
    simp only [Option.bind_eq_some_iff] at hy
    obtain ⟨z, hz, row, hrow, hsub⟩ := hy
    obtain ⟨us, M', k1, k2, k3, k4, k5, k6⟩ := (s.rep r).read hz hrow hsub
    unfold Loc at hl
    rw [hv] at hl
    obtain ⟨us', l1, l2, l3⟩ := hl.2.2 hc.1 hc.2
    have hus := k2.unique l2 (by omega)
    subst hus
    unfold iaRef at h
    split at h
    · rename_i xs
      unfold elemAt at h
      simp only [Option.bind_eq_some_iff] at h
      obtain ⟨e, he, h1⟩ := h
      split at h1
      case isFalse => simp at h1
      rename_i hm
      injection h1 with h1
      subst h1
      obtain ⟨b, cap, cur, t', rv, L, Bx, R, e1, e2, _⟩ := k4.elem he
      have hag : ag = false := by rw [← k6]; rfl
      subst hag
      have hn1 : n' = 1 := by rw [← k5]; rfl
      subst hn1
      refine Sound.value (hrun b 0 _ cap (by rw [show a.eval (.tmp s') = a.tmps.getD s' undef from rfl, l3]; exact e1) h0 (List.getElem?_eq_some_iff.mp he).1) ⟨F, B, [], s, by simp [SRep], ?_, mvc_of (by simp), Ext.refl _ _ _⟩
      simp only [LocV, ovl]
      refine ⟨by omega, by omega, fun _ _ => ⟨b, 0 + j.toNat * m, ?_, rfl⟩⟩
      obtain ⟨cs, p1, p2⟩ := k2
      simp only [rowAt, Option.some.injEq] at hrow
      subst hrow
      refine ⟨z, cs, true, xs, e, xs.length, cap, 0, hz, p1, ?_, he, ?_, by rw [hm]⟩
      · unfold subD at hsub
        split at hsub
        · simpa using hsub
        · simp at hsub
      · have := p2 0 (by omega)
        obtain ⟨u, rfl⟩ := List.length_eq_one_iff.mp k1
        simp only [Nat.add_zero, List.getElem?_cons_zero] at this
        rw [this]
        simp only [ofCells, Bool.false_eq_true, if_false, List.headD_cons] at e1
        rw [e1]
    · rename_i xs
      have hM : M' = [] := by
        have := k4
        simp only [Rep] at this
        obtain ⟨A, c, m', rvs, _, _, _, hb, _⟩ := this
        exact hb
      subst hM
      refine ro false xs ?_ h
      rw [show a.eval (.tmp s') = a.tmps.getD s' undef from rfl, l3]
      exact k4
    · simp at h
  · simp at h
theorem Sound.index {P : Program} {F : Nat → Prop} {B : Nat → List Nat} {g : Nat → Sl} {a : Act} {w : World} {o : Oper} {t : TypeId} {x ix : Operand} {V : V} (s : Sim F B [] g a w)
    (ho : o.op = .index t x ix) (h : indexV P g t x ix = some V) : Sound P F B g a w o V [] := by
  unfold indexV at h
  split at h
  case isFalse => simp at h
  rename_i ht
  simp only [Option.bind_eq_some_iff] at h
  obtain ⟨y, hy, n, hn, j, hj, h⟩ := h
  obtain ⟨M, hM⟩ := s.peek hy
  obtain ⟨M', hM'⟩ := s.peek hn
  obtain ⟨kk, hix⟩ := rep_asInt hM' hj
  unfold byteAt at h
  split at h
  · rename_i str
    split at h
    case isFalse => simp at h
    rename_i h0
    simp only [Option.map_eq_some_iff] at h
    obtain ⟨b, hb, rfl⟩ := h
    have hx := rep_str hM
    have hs : (⟨str.toArray⟩ : ByteArray)[j.toNat]? = some b := by
      obtain ⟨hlt, he⟩ := List.getElem?_eq_some_iff.mp hb
      have hsz : j.toNat < (⟨str.toArray⟩ : ByteArray).size := by rw [mk_size]; exact hlt
      rw [getElem?_pos (⟨str.toArray⟩ : ByteArray) j.toNat hsz]
      simp only [ByteArray.getElem_eq_getElem_data, List.getElem_toArray, he]
    refine Sound.plain s (val := .int .u8 b.toNat) ?_ (by simp [byteD, Rep])
    simp only [execOp, ho, Sem.run_bind, Instr.index, hix, hx, asIntOf, Sem.run_pure, Result.andThen_ok, run_underlying (sh_str ht), h0, if_true, hs]
  · simp at h
end Go.Pi

/- Operations: parts of results, nil checks, choices, operators, conversions, slices, closures. -/
namespace Go.Pi
open Go
set_option linter.unusedSimpArgs false
set_option linter.unusedVariables false

theorem SRepL.get {w : World} {F : Nat → Prop} : ∀ {xs : List V} {vs : List Value} {B : List Nat} {k : Nat} {x : V}, SRepL w F xs vs B → xs[k]? = some x →
    ∃ v L M R, vs[k]? = some v ∧ B = L ++ M ++ R ∧ SRep w F x v M ∧ SRepL w F (xs.set k .gone) vs (L ++ R)
  | [], _, _, _, _, _, h => by simp at h
  | y :: ys, vs, B, 0, x, h, hk => by
    simp only [SRepL] at h
    obtain ⟨v, vs', B1, B2, h1, h2, h3, h4⟩ := h
    subst h1 h2
    simp only [List.getElem?_cons_zero, Option.some.injEq] at hk
    subst hk
    refine ⟨v, [], B1, B2, rfl, by simp, h3, ?_⟩
    simp only [List.set_cons_zero, SRepL]
    exact ⟨v, vs', [], B2, rfl, rfl, by simp [SRep], h4⟩
  | y :: ys, vs, B, k + 1, x, h, hk => by
    simp only [SRepL] at h
    obtain ⟨v, vs', B1, B2, h1, h2, h3, h4⟩ := h
    subst h1 h2
    simp only [List.getElem?_cons_succ] at hk
    obtain ⟨u, L, M, R, q1, q2, q3, q4⟩ := SRepL.get h4 hk
    subst q2
    refine ⟨u, B1 ++ L, M, R, by simpa using q1, by simp, q3, ?_⟩
    simp only [List.set_cons_succ, SRepL]
    exact ⟨v, vs', B1, L ++ R, rfl, by simp, h3, q4⟩
theorem Sound.extract {P : Program} {F : Nat → Prop} {B : Nat → List Nat} {g : Nat → Sl} {a : Act} {w : World} {o : Oper} {x : Operand} {k : Nat} {V : V} {u : Ov} (s : Sim F B [] g a w)
    (ho : o.op = .extract x k) (h : extractV g x k = some (V, u)) : Sound P F B g a w o V u := by
  unfold extractV at h
  split at h
  case h_2 => simp at h
  rename_i s'
  unfold exS at h
  split at h
  case h_2 => simp at h
  rename_i iv cv vs hs
  have hv : (g s').v = .tup vs := by rw [hs]
  have hr := s.rep s'
  rw [hv] at hr
  simp only [SRep] at hr
  obtain ⟨us, e1, e2⟩ := hr
  simp only [Option.bind_eq_some_iff] at h
  obtain ⟨y, hy, h⟩ := h
  obtain ⟨v, L, M, R, k1, k2, k3, k4⟩ := e2.get hy
  have hrun : (execOp a.eval o).run P w = .ok (.value v) w := by
    have e : a.eval (.tmp s') = .tuple us.toArray := e1
    simp only [execOp, ho, Sem.run_bind, Instr.extract, e, List.getElem?_toArray, k1, Sem.run_pure, Result.andThen_ok]
  have own : ∀ V', (∀ i y, V' ≠ .box (i + 2) y) → LocV (ovl [(s', ⟨iv + 1, cv + 1, .tup (vs.set k .gone)⟩)] g) a w V' v → SRep w F V' v M → Sound P F B g a w o V' [(s', ⟨iv + 1, cv + 1, .tup (vs.set k .gone)⟩)] := by
    intro V' hV hL hrep
    have hnd := s.nd s'
    rw [k2] at hnd
    have hLM := List.nodup_append.mp hnd
    have hL' := List.nodup_append.mp hLM.1
    obtain ⟨s1, e1'⟩ := s.reslot (r := s') (V' := .tup (vs.set k .gone)) (Br' := L ++ R) (H' := M) (F' := F) (by simp only [SRep]; exact ⟨us, e1, k4⟩) (fun _ h => h) (s.inb (by rw [hv]; simp)) (by simp) (by simp) (by simp)
      (by simp) (by
        rw [List.nodup_append]
        exact ⟨hL'.1, hLM.2.1, fun c hc d hd => hLM.2.2 c (by simp [hc]) d hd⟩)
      (fun b hb => by rw [k2]; rcases List.mem_append.mp hb with hb | hb <;> simp [hb]) hL'.2.1
      (fun b hb => Or.inr ⟨by rw [k2]; simp [hb], fun hh => by
        rcases List.mem_append.mp hh with hh | hh
        · exact hL'.2.2 b hh b hb rfl
        · exact hLM.2.2 b (by simp [hb]) b hh rfl⟩) (fun _ h => Or.inl h)
    rw [hs] at s1
    exact Sound.value hrun ⟨F, _, M, s1, hrep, hL, mvc_of hV, e1'⟩
  unfold exT at h
  split at h
  · rename_i z
    injection h with h
    injection h with h2 h3
    subst h2 h3
    simp only [SRep] at k3
    exact Sound.plain s hrun k3.1
  · rename_i z
    injection h with h
    injection h with h2 h3
    subst h2 h3
    exact own _ (by simp) trivial k3
  · rename_i z
    injection h with h
    injection h with h2 h3
    subst h2 h3
    exact own _ (by simp) trivial k3
  · simp at h
theorem Sound.nilCheck {P : Program} {F : Nat → Prop} {B : Nat → List Nat} {g : Nat → Sl} {a : Act} {w : World} {o : Oper} {x : Operand} {V : V} (s : Sim F B [] g a w)
    (ho : o.op = .nilCheck x) (h : nilV g x = some V) : Sound P F B g a w o V [] := by
  unfold nilV at h
  split at h
  case h_2 => simp at h
  rename_i t
  have hr := s.rep t
  have hl := s.loc t
  have hptr : ∀ ad, a.eval (.tmp t) = .pointer (some ad) → (execOp a.eval o).run P w = .ok (.value (.pointer (some ad))) w := by
    intro ad e
    simp only [execOp, ho, e, Sem.run_pure]
  unfold nilS at h
  split at h
  · rename_i iv cv p y hs
    have hv : (g t).v = .box p y := by rw [hs]
    injection h with h
    subst h
    rw [hs] at hr
    simp only [SRep] at hr
    obtain ⟨b, u, t', B', e1, e2, e3, e4⟩ := hr
    refine Sound.value (hptr _ e1) ⟨F, B, [], s, by simp [SRep], ?_, mvc_of (by simp), Ext.refl _ _ _⟩
    simp only [LocV, ovl]
    exact ⟨by simp [hs], by simp [hs], fun _ _ => ⟨b, 0, ⟨⟨p, y, hv⟩, e1, rfl⟩, rfl⟩⟩
  · rename_i iv cv r iv' cv' hop off hs
    have hv : (g t).v = .wp r iv' cv' hop off := by rw [hs]
    unfold live at h
    split at h
    case isFalse => simp at h
    rename_i hc
    injection h with h
    subst h
    unfold Loc at hl
    rw [hv] at hl
    obtain ⟨l1, l2, l3⟩ := hl
    obtain ⟨b, o', p1, p2⟩ := l3 hc.1 hc.2
    refine Sound.value (hptr _ p2) ⟨F, B, [], s, by simp [SRep], ?_, mvc_of (by simp), Ext.refl _ _ _⟩
    simp only [LocV, ovl]
    exact ⟨l1, l2, fun _ _ => ⟨b, o', p1, rfl⟩⟩
  · rename_i iv cv y hs
    injection h with h
    subst h
    rw [hs] at hr
    simp only [SRep] at hr
    obtain ⟨⟨b, off, u, e1, e2, e3, e4⟩, _⟩ := hr
    exact Sound.value (hptr _ e1) ⟨F, B, [], s, by simp only [SRep]; exact ⟨⟨b, off, u, rfl, e2, e3, e4⟩, trivial⟩, trivial, mvc_of (by simp), Ext.refl _ _ _⟩
  · rename_i iv cv f fs cs hs
    injection h with h
    subst h
    rw [hs] at hr
    simp only [SRep] at hr
    have hr1 := hr.1
    simp only [Rep] at hr1
    obtain ⟨vs, ps, rvs, e1, _⟩ := hr1
    refine Sound.plain s (val := .func (.func f) vs.toArray ps.toArray) ?_ (by rw [← e1]; exact hr.1)
    have e : a.eval (.tmp t) = .func (.func f) vs.toArray ps.toArray := e1
    simp only [execOp, ho, e, Sem.run_pure]
  · simp at h
theorem Sound.pick {P : Program} {F : Nat → Prop} {B : Nat → List Nat} {g : Nat → Sl} {a : Act} {w : World} {o : Oper} {c x y : Operand} {V : V} {u : Ov} {mv : Bool} {d : D} (s : Sim F B [] g a w)
    (ho : o.op = .pick c x y) (hc : peek g c = some d) (h : pickV mv g x y d = some (V, u)) : Sound P F B g a w o V u := by
  unfold pickV at h
  split at h
  case h_2 => simp at h
  rename_i b
  obtain ⟨M, hM⟩ := s.peek hc
  have := rep_bool hM
  refine Sound.value (val := a.eval (if b then x else y)) (w' := w) ?_ (s.moveV h)
  simp only [execOp, ho, Sem.run_bind, this, asBool, Sem.run_pure, Result.andThen_ok]
  cases b <;> rfl
theorem Sound.binOp {P : Program} {F : Nat → Prop} {B : Nat → List Nat} {g : Nat → Sl} {a : Act} {w : World} {o : Oper} {op : BinOp} {t t' : TypeId} {x y : Operand} {d1 d2 d : D} (s : Sim F B [] g a w)
    (ho : o.op = .binOp op t x y t') (h1 : peek g x = some d1) (h2 : peek g y = some d2) (h : binD P op t d1 d2 = some d) : Sound P F B g a w o (.v d) [] := by
  obtain ⟨M1, hM1⟩ := s.peek h1
  obtain ⟨M2, hM2⟩ := s.peek h2
  obtain ⟨v, k1, k2⟩ := run_binD x y hM1 hM2 h
  refine Sound.plain s (val := v) ?_ k2
  have e : execOp a.eval o = (do let v ← (do eqGuard op t x y (a.eval x) (a.eval y); Go.binOp op t (a.eval x) (a.eval y)); pure (Next.value v) : Sem Next) := by simp only [execOp, ho]
  rw [e, Sem.run_bind, k1]
  rfl
theorem Sound.unOp {P : Program} {F : Nat → Prop} {B : Nat → List Nat} {g : Nat → Sl} {a : Act} {w : World} {o : Oper} {op : UnOp} {t : TypeId} {x : Operand} {d1 d : D} (s : Sim F B [] g a w)
    (ho : o.op = .unOp op t x) (h1 : peek g x = some d1) (h : unD op d1 = some d) : Sound P F B g a w o (.v d) [] := by
  obtain ⟨M1, hM1⟩ := s.peek h1
  obtain ⟨v, k1, k2⟩ := run_unD (P := P) hM1 h
  refine Sound.plain s (val := v) ?_ k2
  simp only [execOp, ho, Sem.run_bind, k1, Result.andThen_ok, Sem.run_pure]

/-! ### Conversions -/
theorem rep_byte {w : World} {F : Nat → Prop} {x : D} {v : Value} {M : List Nat} {b : UInt8} (h : Rep w F x v M) (hb : unbyte x = some b) : v = .int .u8 (b.toNat : Int) := by
  unfold unbyte at hb
  split at hb
  · rename_i n
    split at hb
    · rename_i hn
      injection hb with hb
      subst hb
      rw [rep_int h]
      congr 1
      simp
      omega
    · simp at hb
  · simp at hb
theorem rep_bytes {w : World} {F : Nat → Prop} : ∀ {xs : List D} {vs : List Value} {M : List Nat} {bs : List UInt8}, RepL w F xs vs M → unbytes xs = some bs → vs = bs.map fun b => .int .u8 (b.toNat : Int)
  | [], vs, M, bs, h, hb => by
    simp [unbytes] at hb
    simp only [RepL] at h
    subst hb
    exact h.1
  | x :: xs, vs, M, bs, h, hb => by
    simp only [unbytes, Option.bind_eq_some_iff, Option.map_eq_some_iff] at hb
    obtain ⟨b, h1, bs', h2, rfl⟩ := hb
    simp only [RepL] at h
    obtain ⟨v, vs', B1, B2, e1, _, e3, e4⟩ := h
    subst e1
    rw [rep_byte e3 h1, rep_bytes e4 h2]
    rfl
theorem byteD_width (x : UInt8) : (byteD x).width = 1 := rfl
theorem byteD_rep {w : World} {F : Nat → Prop} : ∀ (bs : List UInt8), RepL w F (bs.map byteD) (bs.map fun b => .int .u8 (b.toNat : Int)) []
  | [] => RepL.nil
  | b :: bs => by
    have := RepL.cons (w := w) (F := F) (B1 := []) (B2 := []) (x := byteD b) (v := .int .u8 (b.toNat : Int)) (by simp [byteD, Rep]) (byteD_rep bs)
    simpa using this
theorem width_byte {x : D} {b : UInt8} (h : unbyte x = some b) : x.width = 1 := by
  unfold unbyte at h
  split at h
  · rfl
  · simp at h
theorem Sound.convert {P : Program} {F : Nat → Prop} {B : Nat → List Nat} {g : Nat → Sl} {a : Act} {w : World} {o : Oper} {src dst : TypeId} {x : Operand} {y : D} {V : V} (s : Sim F B [] g a w)
    (ho : o.op = .convert src dst x) (h1 : peek g x = some y) (h : convV P src dst y = some V) : Sound P F B g a w o V [] := by
  obtain ⟨M, hM⟩ := s.peek h1
  have pure' : ∀ {d : D} {v : Value}, (Go.convert src dst (a.eval x)).run P w = .ok v w → Rep w F d v [] → Sound P F B g a w o (.v d) [] := by
    intro d v e r
    refine Sound.plain s (val := v) ?_ r
    simp only [execOp, ho, Sem.run_bind, e, Result.andThen_ok, Sem.run_pure]
  unfold convV at h
  split at h
  · rename_i k' k kk n hs hd
    injection h with h
    subst h
    rw [rep_int hM] at pure'
    refine pure' (v := .int k (k.wrap n)) ?_ (by simp [Rep])
    simp [Go.convert, run_underlying (sh_int hs), run_underlying (sh_int hd), Conv.intToInt]
  · rename_i str hs hd
    injection h with h
    subst h
    rw [rep_str hM] at pure'
    refine pure' (v := .string ⟨str.toArray⟩) ?_ (by simp [Rep])
    simp [Go.convert, run_underlying (sh_str hs), run_underlying (sh_str hd)]
  · rename_i str hs hd
    injection h with h
    subst h
    obtain ⟨e, he, hb⟩ := sh_sl hd
    obtain ⟨he8, i, hi, hi1⟩ := hb rfl
    have hrun := run_bytes_of_string w src dst e (⟨str.toArray⟩ : ByteArray) (sh_str hs) he he8
    rw [← rep_str hM] at hrun
    have hsz := mk_size str
    rw [hsz] at hrun
    have hge := grownCap_ge w str.length 0 e
    generalize grownCap w str.length 0 e = cap at hrun hge
    have hbr : ∀ (k : Nat) (b : UInt8), str[k]? = some b → (bytesRow (⟨str.toArray⟩ : ByteArray) cap)[k]? = some (Value.int .u8 (b.toNat : Int)) := by
      intro k b hk
      have hlt := (List.getElem?_eq_some_iff.mp hk).1
      unfold bytesRow
      rw [Array.getElem?_append_left (by simpa using hlt)]
      simp [hk]
    generalize bytesRow (⟨str.toArray⟩ : ByteArray) cap = row at hrun hbr
    obtain ⟨s0, e0⟩ := s.alloc (.cells row e (row.size, row.size + 1))
    have s1 : Sim F B ([w.heap.size] ++ []) g a (w.drew.alloc (.cells row e (row.size, row.size + 1))) :=
      s0.world (by rw [al_size, al_size]; exact Nat.le_refl _) (fun b hb _ => rfl) s0.hnd (fun b hb => Or.inl hb)
    have e1 : Ext F (Own B []) w F (Own B ([w.heap.size] ++ [])) (w.drew.alloc (.cells row e (row.size, row.size + 1))) :=
      { os := rfl, tape := rfl, output := rfl, size := by rw [al_size]; show w.heap.size ≤ w.heap.size + 1; omega, keep := fun b hb hn => e0.keep b hb hn, mono := fun _ h => h, newF := fun _ h => Or.inl h, newO := e0.newO }
    refine Sound.value (val := .slice (some ⟨w.heap.size, 0, none⟩) str.length cap) (w' := w.drew.alloc (.cells row e (row.size, row.size + 1))) ?_
      ⟨_, B, [], s1.freezeHand, ?_, trivial, mvc_of (by simp), e1.freezeHand⟩
    · simp only [execOp, ho, Sem.run_bind, hrun, Result.andThen_ok, Sem.run_pure]
    · simp only [SRep, Rep]
      refine ⟨⟨some ⟨w.heap.size, 0, none⟩, cap, 1, str.map fun b => .int .u8 (b.toNat : Int), by simp, by simpa using hge, byteD_rep str, trivial, Or.inr ⟨w.heap.size, 0, rfl, Or.inr (by simp), ?_⟩⟩, trivial⟩
      intro j rv hj
      simp only [List.getElem?_map, Option.map_eq_some_iff] at hj
      obtain ⟨b, hb, rfl⟩ := hj
      refine ⟨rfl, fun i hi => ?_⟩
      have hi0 : i = 0 := by omega
      subst hi0
      have hnew : (w.drew.alloc (.cells row e (row.size, row.size + 1))).heap[w.heap.size]? = some (.cells row e (row.size, row.size + 1)) := al_new w.drew _
      rw [cell_cells hnew]
      simp only [Nat.zero_add, Nat.mul_one, Nat.add_zero, hbr j b hb]
      rfl
  · rename_i ob xs hs hd
    simp only [Option.map_eq_some_iff] at h
    obtain ⟨bs, hbs, rfl⟩ := h
    obtain ⟨e, he, hb⟩ := sh_sl hs
    obtain ⟨he8, i, hi, hi1⟩ := hb rfl
    have nil' : ∀ l c, a.eval x = .slice none l c → bs = [] → Sound P F B g a w o (.v (.str bs)) [] := by
      intro l c e0 e1
      subst e1
      have := run_convert_bytes_nil (P := P) w src e he he8 l c dst (sh_str hd)
      rw [← e0] at this
      exact pure' this (by simp [Rep]; rfl)
    have row' : ∀ b off len cap (rvs : List Value), a.eval x = .slice (some ⟨b, off, none⟩) len cap → rvs.length = len → rvs = (bs.map fun b => Value.int .u8 (b.toNat : Int)) →
        (∀ j rv, rvs[j]? = some rv → w.cell? ⟨b, off + j, none⟩ = some rv) → Sound P F B g a w o (.v (.str bs)) [] := by
      intro b off len cap rvs e0 e1 e2 e3
      subst e2
      have hl : bs.length = len := by simpa using e1
      have := run_convert_bytes_arg (P := P) w src e he he8 b off len cap (bs.map fun b => (b.toNat : Int)) (by simpa using hl) (by
        intro i hi
        have hlt : i < bs.length := by omega
        rw [e3 i (Value.int .u8 (bs[i].toNat : Int)) (by simp [hlt])]
        simp [List.getD, hlt]) dst (sh_str hd)
      rw [← e0] at this
      refine pure' this ?_
      simp only [Rep, strOfNums, List.map_map]
      refine ⟨?_, trivial⟩
      congr 2
      simp
      apply List.ext_getElem?
      intro i
      simp only [List.getElem?_map]
      cases bs[i]? <;> simp
    have rows1 : ∀ {m b off : Nat} {rvs : List Value}, RepL w F xs rvs [] ∨ (∃ B', RepL w F xs rvs B') → Rows w b off m rvs → ∀ j rv, rvs[j]? = some rv → w.cell? ⟨b, off + j, none⟩ = some rv := by
      intro m b off rvs hR hrow j rv hj
      have hrv : rvs = (bs.map fun b => Value.int .u8 (b.toNat : Int)) := by
        rcases hR with hR | ⟨B', hR⟩ <;> exact rep_bytes hR hbs
      obtain ⟨q1, q2⟩ := hrow j rv hj
      have hc : rv.cells = #[rv] := by
        rw [hrv] at hj
        simp only [List.getElem?_map, Option.map_eq_some_iff] at hj
        obtain ⟨b, _, rfl⟩ := hj
        rfl
      rw [hc] at q1 q2
      simp only [List.size_toArray, List.length_cons, List.length_nil] at q1
      subst q1
      have := q2 0 (by omega)
      simpa using this
    cases ob with
    | true =>
      simp only [Rep] at hM
      obtain ⟨A, c, m, rvs, B', g1, g2, g3, g4⟩ := hM
      rcases g4 with ⟨g4, g5, g6⟩ | ⟨b, cur, t, g4, g5, g6, g7, g8, g9⟩
      · subst g4
        simp [unbytes] at hbs
        subst hbs
        cases A with
        | none => exact nil' _ _ g1 rfl
        | some ad =>
          have := run_convert_bytes_string (P := P) w src dst e (some ad) 0 c he he8 (sh_str hd)
          have hb2 := run_bytesToString (P := P) w ad 0 c [] (by simp [loadCells, loadCellsFrom])
          rw [hb2] at this
          have e0 : a.eval x = .slice (some ad) 0 c := g1
          rw [← e0] at this
          exact pure' this (by simp [Rep]; rfl)
      · subst g4
        exact row' b 0 _ c rvs g1 g3.length (rep_bytes g3 hbs) (rows1 (Or.inr ⟨_, g3⟩) g9)
    | false =>
      simp only [Rep] at hM
      obtain ⟨A, c, m, rvs, g1, g2, g3, g4, g5⟩ := hM
      rcases g5 with g5 | ⟨b, off, g5, g6, g7⟩
      · subst g5
        simp [unbytes] at hbs
        subst hbs
        cases A with
        | none => exact nil' _ _ g1 rfl
        | some ad =>
          have := run_convert_bytes_string (P := P) w src dst e (some ad) 0 c he he8 (sh_str hd)
          have hb2 := run_bytesToString (P := P) w ad 0 c [] (by simp [loadCells, loadCellsFrom])
          rw [hb2] at this
          have e0 : a.eval x = .slice (some ad) 0 c := g1
          rw [← e0] at this
          exact pure' this (by simp [Rep]; rfl)
      · subst g5
        exact row' b off _ c rvs g1 g3.length (rep_bytes g3 hbs) (rows1 (Or.inl g3) g7)
  · simp at h
end Go.Pi

/- Operations: slices of slices, lengths, closures. -/
namespace Go.Pi
open Go
set_option linter.unusedSimpArgs false
set_option linter.unusedVariables false

theorem bnd_some {g : Nat → Sl} {F : Nat → Prop} {B : Nat → List Nat} {H : List Nat} {a : Act} {w : World} (s : Sim F B H g a w) {lo : Option Operand} {l : Option Nat} (h : bnd g lo = some l) :
    (lo = none ∧ l = none) ∨ ∃ o k n, lo = some o ∧ l = some n ∧ a.eval o = .int k (n : Int) := by
  unfold bnd at h
  split at h
  · injection h with h
    exact Or.inl ⟨rfl, h.symm⟩
  · rename_i o
    split at h
    · rename_i k n hp
      split at h
      · rename_i h0
        injection h with h
        obtain ⟨M, hM⟩ := s.peek hp
        refine Or.inr ⟨o, k, n.toNat, rfl, h.symm, ?_⟩
        rw [rep_int hM]
        congr 1
        omega
      · simp at h
    · simp at h
theorem run_bound {P : Program} {w : World} (k : IntKind) (n y : Nat) (code : BoundsCode) (h : n ≤ y) : (Instr.sliceBound (.int k (n : Int)) y code).run P w = .ok n w := by
  rw [run_sliceBound _ _ _ _ _ (by omega) (by omega)]
  simp
theorem run_bound0 {P : Program} {w : World} (k : IntKind) (y : Nat) (code : BoundsCode) : (Instr.sliceBound (.int k 0) y code).run P w = .ok 0 w := run_bound k 0 y code (by omega)
/-- Bounds of a slice expression without the third. -/
theorem run_bounds {P : Program} {w : World} {a : Act} (isSlice : Bool) (len cap : Nat) {lo hi : Option Operand} {l h : Option Nat}
    (hl : (lo = none ∧ l = none) ∨ ∃ o k n, lo = some o ∧ l = some n ∧ a.eval o = .int k (n : Int)) (hh : (hi = none ∧ h = none) ∨ ∃ o k n, hi = some o ∧ h = some n ∧ a.eval o = .int k (n : Int))
    (h1 : l.getD 0 ≤ h.getD len) (h2 : h.getD len ≤ cap) :
    (Instr.sliceBounds isSlice len cap (lo.map a.eval) (hi.map a.eval) none).run P w = .ok (l.getD 0, h.getD len, cap) w := by
  rcases hl with ⟨rfl, rfl⟩ | ⟨o1, k1, n1, rfl, rfl, e1⟩ <;> rcases hh with ⟨rfl, rfl⟩ | ⟨o2, k2, n2, rfl, rfl, e2⟩ <;> simp only [Option.getD_none, Option.getD_some] at h1 h2
  · simp [Instr.sliceBounds]
  · simp [Instr.sliceBounds, e2, run_bound k2 n2 cap _ h2]
  · simp [Instr.sliceBounds, e1, run_bound k1 n1 len _ h1]
  · simp [Instr.sliceBounds, e1, e2, run_bound k2 n2 cap _ h2, run_bound k1 n1 n2 _ h1]
theorem RepL.part1 {w : World} {F : Nat → Prop} {xs : List D} {vs : List Value} (h : RepL w F xs vs []) (l n : Nat) : RepL w F ((xs.take n).drop l) ((vs.take n).drop l) [] := by
  have key : ∀ (k : Nat) (xs : List D) (vs : List Value), RepL w F xs vs [] → RepL w F (xs.take k) (vs.take k) [] ∧ RepL w F (xs.drop k) (vs.drop k) [] := by
    intro k xs vs h
    have e : xs = xs.take k ++ xs.drop k := (List.take_append_drop k xs).symm
    have hl := h.length
    rw [e] at h
    obtain ⟨v1, v2, B1, B2, h1, h2, h3, h4⟩ := RepL.split h
    have := List.append_eq_nil_iff.mp h2.symm
    obtain ⟨rfl, rfl⟩ := this
    have hl1 := h3.length
    subst h1
    simp at hl1
    rcases Nat.le_total k xs.length with q | q
    · have hk : v1.length = k := by omega
      rw [← hk, List.take_left, List.drop_left]
      rw [hk]
      exact ⟨h3, h4⟩
    · have : v1.length = xs.length := by omega
      have h2 : v2 = [] := by
        apply List.eq_nil_of_length_eq_zero
        simp at hl
        omega
      subst h2
      simp only [List.append_nil] at hl ⊢
      rw [List.take_of_length_le (by omega : v1.length ≤ k), List.drop_eq_nil_of_le (by omega : v1.length ≤ k)]
      exact ⟨h3, h4⟩
  exact (key l _ _ (key n _ _ h).1).2
theorem mk_extract (s : List UInt8) (l h : Nat) : (⟨s.toArray⟩ : ByteArray).extract l h = ⟨((s.take h).drop l).toArray⟩ := by
  apply ByteArray.ext
  rw [ByteArray.data_extract]
  simp [List.extract_eq_take_drop, List.drop_take]
theorem Sound.slice {P : Program} {F : Nat → Prop} {B : Nat → List Nat} {g : Nat → Sl} {a : Act} {w : World} {o : Oper} {t : TypeId} {x : Operand} {lo hi mx : Option Operand} {V : V} {u : Ov} (s : Sim F B [] g a w)
    (ho : o.op = .slice t x lo hi mx) (h : sliceV P g t x lo hi mx = some (V, u)) : Sound P F B g a w o V u := by
  unfold sliceV at h
  simp only [Option.bind_eq_some_iff] at h
  obtain ⟨l, hl, hh', hh, m, hm, h⟩ := h
  have kl := bnd_some s hl
  have kh := bnd_some s hh
  have km := bnd_some s hm
  split at h
  · rename_i ht
    have hu := sh_str ht
    split at h
    case h_2 => simp at h
    rename_i str hp
    split at h
    case isFalse => simp at h
    rename_i hc
    obtain ⟨c1, c2, c3⟩ := hc
    injection h with h
    injection h with h2 h3
    subst h2 h3
    obtain ⟨M, hM⟩ := s.peek hp
    have hx := rep_str hM
    have hmx : mx = none := by
      rcases km with ⟨q, _⟩ | ⟨_, _, _, _, q, _⟩
      · exact q
      · rw [q] at c1; simp at c1
    subst hmx
    refine Sound.plain s (val := .string ⟨((str.take (hh'.getD str.length)).drop (l.getD 0)).toArray⟩) ?_ (by simp [Rep])
    have hb := run_bounds (P := P) (w := w) (a := a) false str.length str.length kl kh c2 c3
    simp only [execOp, ho, Sem.run_bind, Instr.sliceAt, run_underlying hu, Result.andThen_ok, Instr.slice, hx, Option.map_none, Option.isSome_none, Bool.false_eq_true, if_false, Sem.run_pure, mk_size, hb, mk_extract]
  · rename_i u8 ht
    obtain ⟨e, he, _⟩ := sh_sl ht
    simp only [Option.bind_eq_some_iff] at h
    obtain ⟨⟨mm, bytes⟩, hte, h⟩ := h
    simp only at h
    obtain ⟨e', i, hu, hi, hi1, hi2⟩ := tElem_run hte
    split at h
    · rename_i hc
      obtain ⟨rfl, rfl, c3⟩ := hc
      split at h
      case h_2 => simp at h
      rename_i ob xs hp
      injection h with h
      injection h with h2 h3
      subst h2 h3
      obtain ⟨M, hM⟩ := s.peek hp
      obtain ⟨A, c, hx⟩ : ∃ A c, a.eval x = .slice A xs.length c := by
        cases ob <;> simp only [Rep] at hM
        · obtain ⟨A, c, m, rvs, h1, _⟩ := hM; exact ⟨A, c, h1⟩
        · obtain ⟨A, c, m, rvs, B', h1, _⟩ := hM; exact ⟨A, c, h1⟩
      have hl0 : ∀ n : Nat, l = some n → n = 0 := by
        intro n hn
        rw [hn] at c3
        exact c3
      refine Sound.value (val := .slice A 0 0) (w' := w) ?_ ⟨F, B, [], s, ?_, trivial, mvc_of (by simp), Ext.refl _ _ _⟩
      rotate_left
      · simp only [SRep, Rep]
        exact ⟨A, 0, 0, [], [], rfl, Nat.le_refl _, RepL.nil, Or.inl ⟨trivial, rfl, trivial⟩⟩
      rcases kh with ⟨_, q⟩ | ⟨o2, k2, n2, rfl, q2, e2⟩
      · simp at q
      rcases km with ⟨_, q⟩ | ⟨o3, k3, n3, rfl, q3, e3⟩
      · simp at q
      simp only [Option.some.injEq] at q2 q3
      subst q2 q3
      have e2' : a.eval o2 = .int k2 0 := by simpa using e2
      have e3' : a.eval o3 = .int k3 0 := by simpa using e3
      rcases kl with ⟨rfl, rfl⟩ | ⟨o1, k1, n1, rfl, q1, e1⟩
      · simp [execOp, ho, Instr.sliceAt, run_underlying hu, Instr.slice, hx, Instr.sliceBounds, e2', e3', run_bound0, run_info hi]
      · have := hl0 n1 q1
        subst this
        have e1' : a.eval o1 = .int k1 0 := by simpa using e1
        simp [execOp, ho, Instr.sliceAt, run_underlying hu, Instr.slice, hx, Instr.sliceBounds, e1', e2', e3', run_bound0, run_info hi]
    · split at h
      · simp at h
      rename_i hms
      split at h
      case h_2 => simp at h
      rename_i ob xs u' htk
      split at h
      case isFalse => simp at h
      rename_i hc
      obtain ⟨c1, c2, c3⟩ := hc
      injection h with h
      injection h with h2 h3
      subst h2 h3
      have hmx : mx = none := by
        rcases km with ⟨q, _⟩ | ⟨_, _, _, _, q, _⟩
        · exact q
        · rw [q] at hms; simp at hms
      subst hmx
      obtain ⟨F', B', M, s1, rep, e1⟩ := s.take htk
      have s2 := s1.freezeHand
      have e2 := e1.freezeHand
      have rep2 := Rep.frz (F' := fun b => F' b ∨ b ∈ M) (fun _ h => Or.inl h) _ _ _ (fun b hb => Or.inr hb) rep
      simp only [Rep, D.frz] at rep2
      obtain ⟨A, c, m, rvs, r1, r2, r3, _, r5⟩ := rep2
      rw [frzL_length] at r1 r2
      have hrl := r3.length
      rw [frzL_length] at hrl
      generalize hL : l.getD 0 = L at c1 c3
      generalize hHH : hh'.getD xs.length = HH at c1 c2
      have hb := run_bounds (P := P) (w := w) (a := a) true xs.length c kl kh (by rw [hL, hHH]; exact c1) (by rw [hHH]; omega)
      rw [hL, hHH] at hb
      refine Sound.value (val := .slice (if c = L then A else A.map (·.add (L * i.size))) (HH - L) (c - L)) (w' := w) ?_ ⟨_, B', [], s2, ?_, trivial, mvc_of (by simp), e2⟩
      · simp only [execOp, ho, Sem.run_bind, Instr.sliceAt, run_underlying hu, Result.andThen_ok, Instr.slice, r1, Option.map_none, Sem.run_pure, hb, run_info hi]
      · simp only [SRep, Rep]
        have hlen : (frzL ((xs.take HH).drop L)).length = HH - L := by rw [frzL_length]; simp; omega
        have hsub : frzL ((xs.take HH).drop L) = ((frzL xs).take HH).drop L := by rw [frzL_map, frzL_map]; simp
        refine ⟨⟨if c = L then A else A.map (·.add (L * i.size)), c - L, m, (rvs.take HH).drop L, by rw [hlen], by rw [hlen]; omega, by rw [hsub]; exact r3.part1 L HH, trivial, ?_⟩, trivial⟩
        by_cases he : HH = L
        · left
          apply List.eq_nil_of_length_eq_zero
          omega
        · right
          rcases r5 with r5 | ⟨b, off, q1, q2, q3⟩
          · have := congrArg List.length r5
            rw [frzL_length] at this
            simp at this
            subst this
            simp at c2
            omega
          · rw [if_neg (by omega), q1]
            have hm : L = 0 ∨ m = i.size := by
              rcases c3 with c3 | c3
              · exact Or.inl c3
              · right
                have hx0 : xs[0]? = some (xs[0]'(by omega)) := by simp
                have hf0 : (frzL xs)[0]? = some (xs[0]'(by omega)).frz := frzL_get hx0
                obtain ⟨rv, L1, M1, R1, g1, g2, g3, _⟩ := r3.at hf0
                have w1 := (q3 0 rv g1).1
                have w2 := g3.cells.2.2.2
                rw [frz_width, c3 _ (List.getElem_mem _)] at w2
                omega
            have hLm : L * i.size = L * m := by
              rcases hm with hm | hm
              · subst hm; simp
              · rw [hm]
            refine ⟨b, off + L * m, by simp [add_mk, hLm], q2, ?_⟩
            intro j rv hj
            have hj' : rvs[L + j]? = some rv := by
              rw [List.getElem?_drop] at hj
              rcases Nat.lt_or_ge (L + j) HH with hlt | hge
              · rwa [List.getElem?_take_of_lt hlt] at hj
              · rw [List.getElem?_eq_none (by simp; omega)] at hj
                simp at hj
            obtain ⟨p1, p2⟩ := q3 (L + j) rv hj'
            refine ⟨p1, fun k hk => ?_⟩
            rw [← p2 k hk, Nat.add_mul]
            congr 2
            omega
  · simp at h
end Go.Pi
