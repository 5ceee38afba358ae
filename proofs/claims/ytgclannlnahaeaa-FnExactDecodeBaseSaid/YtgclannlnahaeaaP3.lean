/- Part 3 of an interpreter over value trees, shown sound for the model. -/
import Derived.Test.YtgclannlnahaeaaP2
import Derived.Deep.AppendSrc
import Derived.Laws.Tables
import Derived.Great.BuildSlice
import Derived.Laws.MakeOwn
set_option linter.unusedVariables false
set_option linter.unusedSimpArgs false
set_option linter.unusedSectionVars false
/- Rows of cells, many operands, new slices. -/
namespace Go.Pi
open Go
set_option linter.unusedSimpArgs false
set_option linter.unusedVariables false

/-! ### Many operands -/
theorem Sim.perm {F : Nat → Prop} {B : Nat → List Nat} {H H' : List Nat} {g : Nat → Sl} {a : Act} {w : World} (s : Sim F B H g a w) (h : H.Perm H') : Sim F B H' g a w :=
  { s with hnd := h.nodup_iff.mp s.hnd, hB := fun b hb => s.hB b (h.mem_iff.mpr hb), hF := fun b hb => s.hF b (h.mem_iff.mpr hb), hlt := fun b hb => s.hlt b (h.mem_iff.mpr hb) }
theorem Ext.perm {F O F' : Nat → Prop} {B : Nat → List Nat} {H H' : List Nat} {w w' : World} (e : Ext F O w F' (Own B H) w') (h : H.Perm H') : Ext F O w F' (Own B H') w' :=
  { e with newO := fun b hb => e.newO b (by
      rcases hb with hb | hb
      · exact Or.inl hb
      · exact Or.inr (h.mem_iff.mpr hb)) }
theorem Sim.takes {a : Act} {w : World} {mv : Bool} : ∀ {os : List Operand} {F : Nat → Prop} {B : Nat → List Nat} {H : List Nat} {g : Nat → Sl} {ys : List D} {u : Ov} (s : Sim F B H g a w)
    (h : takes mv g os = some (ys, u)), ∃ F' B' M, Sim F' B' (M ++ H) (ovl u g) a w ∧ RepL w F' ys (os.map a.eval) M ∧ Ext F (Own B H) w F' (Own B' (M ++ H)) w
  | [], F, B, H, g, ys, u, s, h => by
    simp only [Go.Pi.takes, Option.some.injEq, Prod.mk.injEq] at h
    obtain ⟨rfl, rfl⟩ := h
    exact ⟨F, B, [], s, RepL.nil, Ext.refl _ _ _⟩
  | o :: os, F, B, H, g, ys, u, s, h => by
    simp only [Go.Pi.takes, Option.bind_eq_some_iff, Option.map_eq_some_iff] at h
    obtain ⟨⟨y, u1⟩, h1, ⟨ys', u2⟩, h2, h3⟩ := h
    injection h3 with h3 h4
    subst h3 h4
    obtain ⟨F1, B1, M1, s1, r1, e1⟩ := s.take h1
    obtain ⟨F2, B2, M2, s2, r2, e2⟩ := s1.takes h2
    have hp : (M2 ++ (M1 ++ H)).Perm ((M1 ++ M2) ++ H) := by
      rw [← List.append_assoc]
      exact List.Perm.append_right H List.perm_append_comm
    refine ⟨F2, B2, M1 ++ M2, ?_, ?_, (e1.trans e2).perm hp⟩
    · rw [ovl_app]
      exact s2.perm hp
    · rw [List.map_cons]
      exact RepL.cons (Rep.mono (fun b hb => e2.mono b hb) _ _ _ r1) r2

/-! ### Rows of cells -/
def cat (rvs : List Value) : List Value := (rvs.map fun v => v.cells.toList).flatten
theorem cat_length {m : Nat} : ∀ {rvs : List Value}, (∀ v ∈ rvs, v.cells.size = m) → (cat rvs).length = rvs.length * m
  | [], _ => by simp [cat]
  | v :: vs, h => by
    have := cat_length (rvs := vs) (fun u hu => h u (by simp [hu]))
    simp only [cat, List.map_cons, List.flatten_cons, List.length_append, List.length_cons] at this ⊢
    rw [this]
    simp only [Array.length_toList, h v (by simp), Nat.add_mul, Nat.one_mul]
    omega
theorem cat_app (xs ys : List Value) : cat (xs ++ ys) = cat xs ++ cat ys := by simp [cat]
theorem cat_get {m : Nat} : ∀ {rvs : List Value} (_ : ∀ v ∈ rvs, v.cells.size = m) (j : Nat) (rv : Value) (i : Nat), rvs[j]? = some rv → i < m → (cat rvs)[j * m + i]? = rv.cells[i]?
  | [], _, j, rv, i, h, _ => by simp at h
  | v :: vs, h, 0, rv, i, hj, hi => by
    simp only [List.getElem?_cons_zero, Option.some.injEq] at hj
    subst hj
    have hs := h v (by simp)
    simp only [cat, List.map_cons, List.flatten_cons, Nat.zero_mul, Nat.zero_add]
    rw [List.getElem?_append_left (by simp [hs]; exact hi)]
    simp
  | v :: vs, h, j + 1, rv, i, hj, hi => by
    simp only [List.getElem?_cons_succ] at hj
    have hs := h v (by simp)
    have ih := cat_get (rvs := vs) (fun u hu => h u (by simp [hu])) j rv i hj hi
    have hl : v.cells.toList.length = m := by simp [hs]
    simp only [cat, List.map_cons, List.flatten_cons, Nat.add_mul, Nat.one_mul] at ih ⊢
    rw [List.getElem?_append_right (by omega), hl, ← ih]
    congr 1
    omega
theorem cat_has {m : Nat} {rvs : List Value} (h : ∀ v ∈ rvs, v.cells.size = m) {k : Nat} (hk : k < (cat rvs).length) : 0 < m ∧ ∃ rv, rvs[k / m]? = some rv ∧ k % m < m ∧ k = k / m * m + k % m ∧ (cat rvs)[k]? = rv.cells[k % m]? := by
  have hl := cat_length h
  have hm : 0 < m := by
    rcases Nat.eq_zero_or_pos m with q | q
    · subst q; simp at hl; rw [hl] at hk; simp at hk
    · exact q
  have hlt : k / m < rvs.length := by
    rw [Nat.div_lt_iff_lt_mul hm]
    omega
  have he : k = k / m * m + k % m := by rw [Nat.mul_comm]; exact (Nat.div_add_mod k m).symm
  refine ⟨hm, rvs[k / m], by simp [hlt], Nat.mod_lt _ hm, he, ?_⟩
  rw [← cat_get h (k / m) rvs[k / m] (k % m) (by simp [hlt]) (Nat.mod_lt _ hm), ← he]
theorem Rows.sizes {w : World} {b o m : Nat} {rvs : List Value} (h : Rows w b o m rvs) : ∀ v ∈ rvs, v.cells.size = m := by
  intro v hv
  obtain ⟨j, hj⟩ := List.mem_iff_getElem?.mp hv
  exact (h j v hj).1
theorem Rows.cat {w : World} {b o m : Nat} {rvs : List Value} (h : Rows w b o m rvs) {k : Nat} (hk : k < (cat rvs).length) : w.cell? ⟨b, o + k, none⟩ = (Go.Pi.cat rvs)[k]? := by
  obtain ⟨hm, rv, h1, h2, h3, h4⟩ := cat_has h.sizes hk
  rw [h4, ← (h _ _ h1).2 _ h2]
  congr 2
  omega
theorem Rows.of_cat {w : World} {b o m : Nat} {rvs : List Value} (hs : ∀ v ∈ rvs, v.cells.size = m) (h : ∀ k, k < (Go.Pi.cat rvs).length → w.cell? ⟨b, o + k, none⟩ = (Go.Pi.cat rvs)[k]?) : Rows w b o m rvs := by
  intro j rv hj
  refine ⟨hs rv (List.mem_of_getElem? hj), fun i hi => ?_⟩
  rw [← cat_get hs j rv i hj hi, Nat.add_assoc]
  apply h
  rw [cat_length hs]
  have hlt := (List.getElem?_eq_some_iff.mp hj).1
  have : (j + 1) * m ≤ rvs.length * m := Nat.mul_le_mul_right _ hlt
  rw [Nat.add_mul] at this
  omega
theorem cat_one {w : World} {F : Nat → Prop} : ∀ {xs : List D} {rvs : List Value} {B : List Nat}, RepL w F xs rvs B → ∀ u ∈ cat rvs, oneC u = true
  | [], rvs, B, h => by simp only [RepL] at h; rw [h.1]; simp [cat]
  | x :: xs, rvs, B, h => by
    simp only [RepL] at h
    obtain ⟨v, vs', B1, B2, h1, h2, h3, h4⟩ := h
    subst h1
    intro u hu
    simp only [cat, List.map_cons, List.flatten_cons, List.mem_append] at hu
    rcases hu with hu | hu
    · exact h3.cells.2.2.1 u hu
    · exact cat_one h4 u (by simpa [cat] using hu)
theorem RepL.sizes {w : World} {F : Nat → Prop} {m : Nat} : ∀ {xs : List D} {rvs : List Value} {B : List Nat}, RepL w F xs rvs B → (∀ x ∈ xs, x.width = m) → ∀ v ∈ rvs, v.cells.size = m
  | [], rvs, B, h, _ => by simp only [RepL] at h; rw [h.1]; simp
  | x :: xs, rvs, B, h, k => by
    simp only [RepL] at h
    obtain ⟨v, vs', B1, B2, h1, h2, h3, h4⟩ := h
    subst h1
    intro u hu
    rcases List.mem_cons.mp hu with hu | hu
    · rw [hu, h3.cells.2.2.2]; exact k x (by simp)
    · exact RepL.sizes h4 (fun y hy => k y (by simp [hy])) u hu
theorem RepL.replicate {w : World} {F : Nat → Prop} {z : D} {v : Value} (h : Rep w F z v []) : ∀ n, RepL w F (List.replicate n z) (List.replicate n v) []
  | 0 => RepL.nil
  | n + 1 => by
    have := RepL.cons h (RepL.replicate h n)
    simpa [List.replicate_succ] using this
/-- A row of zero values. -/
theorem zrow {v : Value} (n : Nat) : ((Array.range (n * v.cells.size)).map fun i => v.cells[i % v.cells.size]!).toList = cat (List.replicate n v) := by
  have hs : ∀ u ∈ List.replicate n v, u.cells.size = v.cells.size := by
    intro u hu
    rw [(List.mem_replicate.mp hu).2]
  have hl := cat_length hs
  apply List.ext_getElem?
  intro k
  rcases Nat.lt_or_ge k (n * v.cells.size) with hk | hk
  · obtain ⟨hm, rv, h1, h2, h3, h4⟩ := cat_has hs (k := k) (by rw [hl, List.length_replicate]; exact hk)
    have hrv : rv = v := (List.mem_replicate.mp (List.mem_of_getElem? h1)).2
    subst hrv
    rw [h4]
    simp only [Array.toList_map, Array.toList_range, List.getElem?_map, List.getElem?_range hk, Option.map_some]
    rw [getElem!_pos rv.cells (k % rv.cells.size) h2, Array.getElem?_eq_getElem h2]
  · rw [List.getElem?_eq_none (by simpa using hk), List.getElem?_eq_none (by rw [hl, List.length_replicate]; exact hk)]
/-- A world with one more block, the rest as it was. -/
structure More (w : World) (o : Obj) (w' : World) : Prop where
  old : ∀ b, b < w.heap.size → w'.heap[b]? = w.heap[b]?
  new : w'.heap[w.heap.size]? = some o
  size : w'.heap.size = w.heap.size + 1
  os : w'.os = w.os
  tape : w'.tape = w.tape
  output : w'.output = w.output
theorem More.alloc (w : World) (o : Obj) : More w o (w.alloc o) := ⟨fun b hb => al_old w o hb, al_new w o, al_size w o, rfl, rfl, rfl⟩
theorem More.drew (w : World) (o : Obj) : More w o (w.drew.alloc o) := ⟨fun b hb => al_old w.drew o hb, al_new w.drew o, al_size w.drew o, rfl, rfl, rfl⟩
theorem Sim.more {F : Nat → Prop} {B : Nat → List Nat} {H : List Nat} {g : Nat → Sl} {a : Act} {w w' : World} {ob : Obj} (s : Sim F B H g a w) (m : More w ob w') :
    Sim F B (w.heap.size :: H) g a w' ∧ Ext F (Own B H) w F (Own B (w.heap.size :: H)) w' := by
  have hn : w.heap.size ∉ H := fun hh => Nat.lt_irrefl _ (s.hlt _ hh)
  constructor
  · refine s.world (by rw [m.size]; omega) (fun b hb _ => m.old b hb) (List.nodup_cons.mpr ⟨hn, s.hnd⟩) ?_
    intro b hb
    rcases List.mem_cons.mp hb with hb | hb
    · right
      rw [m.size, hb]
      omega
    · exact Or.inl hb
  · refine ⟨m.os, m.tape, m.output, by rw [m.size]; omega, fun b hb _ => m.old b hb, fun _ h => h, fun _ h => Or.inl h, ?_⟩
    intro b hb
    rcases hb with hb | hb
    · exact Or.inl (Or.inl hb)
    · rcases List.mem_cons.mp hb with hb | hb
      · exact Or.inr (by omega)
      · exact Or.inl (Or.inr hb)
/-- Less in hand. -/
theorem Sim.less {F : Nat → Prop} {B : Nat → List Nat} {H H' : List Nat} {g : Nat → Sl} {a : Act} {w : World} (s : Sim F B H g a w) (h : ∀ b ∈ H', b ∈ H) (hn : H'.Nodup) : Sim F B H' g a w :=
  { s with hnd := hn, hB := fun b hb => s.hB b (h b hb), hF := fun b hb => s.hF b (h b hb), hlt := fun b hb => s.hlt b (h b hb) }
theorem Ext.less {F O F' : Nat → Prop} {B : Nat → List Nat} {H H' : List Nat} {w w' : World} (e : Ext F O w F' (Own B H) w') (h : ∀ b ∈ H', b ∈ H) : Ext F O w F' (Own B H') w' :=
  { e with newO := fun b hb => e.newO b (by
      rcases hb with hb | hb
      · exact Or.inl hb
      · exact Or.inr (h b hb)) }
/-- A new row as an owned slice. -/
theorem Sim.newRow {F : Nat → Prop} {B : Nat → List Nat} {g : Nat → Sl} {a : Act} {w w' : World} {M H : List Nat} {xs : List D} {rvs : List Value} {m : Nat} {t : TypeId} {cs : Array Value} (s : Sim F B (M ++ H) g a w) (hr : RepL w F xs rvs M) (hw : ∀ x ∈ xs, x.width = m)
    (mo : More w (.cells cs t (0, 0)) w') (c : Nat) (h1 : ∀ k, k < (Go.Pi.cat rvs).length → cs[k]? = (Go.Pi.cat rvs)[k]?) (h0 : xs = [] → c = 0) (h2 : xs.length ≤ c) (h3 : c * m ≤ cs.size) :
    ∃ M', Sim F B (M' ++ H) g a w' ∧ Rep w' F (.sl true xs) (.slice (some ⟨w.heap.size, 0, none⟩) xs.length c) M' ∧ Ext F (Own B (M ++ H)) w F (Own B (M' ++ H)) w' := by
  obtain ⟨s1, e1⟩ := s.more mo
  by_cases hx : xs = []
  · subst hx
    have hM : M = [] := by simp only [RepL] at hr; exact hr.2
    subst hM
    refine ⟨[], s1.less (fun b hb => by simp at hb; simp [hb]) (by simpa using s.hnd), ?_, e1.less (fun b hb => by simp at hb; simp [hb])⟩
    simp only [Rep]
    exact ⟨_, c, m, [], [], rfl, by simp, RepL.nil, Or.inl ⟨trivial, h0 rfl, trivial⟩⟩
  · refine ⟨w.heap.size :: M, s1, ?_, e1⟩
    simp only [Rep]
    refine ⟨_, c, m, rvs, M, rfl, h2, RepL.frame (fun _ h => h) (fun b hb => mo.old b (s.ltF b hb)) _ _ _ (fun b hb => mo.old b (s.hlt b (by simp [hb]))) hr,
      Or.inr ⟨w.heap.size, cs, t, rfl, mo.new, hx, h3, rfl, Rows.of_cat (hr.sizes hw) fun k hk => ?_⟩⟩
    rw [cell_cells mo.new, Nat.zero_add]
    exact h1 k hk
end Go.Pi

/- New values of parts. -/
namespace Go.Pi
open Go
set_option linter.unusedSimpArgs false
set_option linter.unusedVariables false

theorem foldl_put : ∀ (vs : List Value) (k off : Nat) (cells : Array Value), off + k + vs.length ≤ cells.size →
    ((vs.zipIdx k).foldl (fun (cs : Array Value) (x : Value × Nat) => cs.setIfInBounds (off + x.2) x.1) cells).toList = cells.toList.take (off + k) ++ vs ++ cells.toList.drop (off + k + vs.length)
  | [], k, off, cells, _ => by simp
  | v :: vs, k, off, cells, h => by
    simp only [List.length_cons] at h
    rw [List.zipIdx_cons, List.foldl_cons, foldl_put vs (k + 1) off _ (by simp; omega)]
    simp only [Array.toList_setIfInBounds, List.length_cons]
    have hlt : off + k < cells.toList.length := by simp; omega
    have e : cells.toList.take (off + k + 1) = cells.toList.take (off + k) ++ [cells.toList[off + k]] := by
      rw [List.take_add_one]; simp [List.getElem?_eq_getElem hlt]
    have hmin : (cells.toList.take (off + k)).length = off + k := by rw [List.length_take]; omega
    rw [show off + (k + 1) = off + k + 1 by omega, List.take_set, e, List.set_append_right _ _ (by omega), hmin, Nat.sub_self, List.set_cons_zero,
      List.drop_set_of_lt (by omega), show off + k + 1 + vs.length = off + k + (vs.length + 1) by omega]
    simp
theorem fold_eq (v : Value) (off : Nat) (cells : Array Value) (h : off + v.cells.size ≤ cells.size) :
    v.cells.zipIdx.foldl (fun cs (c, j) => cs.setIfInBounds (off + j) c) cells = (cells.toList.take off ++ v.cells.toList ++ cells.toList.drop (off + v.cells.size)).toArray := by
  apply Array.ext'
  have := foldl_put v.cells.toList 0 off cells (by simpa using h)
  simp only [Nat.add_zero, Array.length_toList] at this
  rw [← this, ← Array.foldl_toList]
  simp [Array.toList_zipIdx]
theorem sub3 {L M' R L' : List Nat} (h : (L ++ M' ++ R).Nodup) : (L ++ R).Nodup := by
  have h1 := List.nodup_append.mp h
  have h2 := List.nodup_append.mp h1.1
  rw [List.nodup_append]
  exact ⟨h2.1, h1.2.1, fun c hc d hd => h1.2.2 c (by simp [hc]) d hd⟩
theorem nd_swap {L M R B1 B2 : List Nat} (h : (L ++ M ++ R ++ (B1 ++ B2)).Nodup) : ((L ++ B1 ++ R) ++ B2).Nodup := by
  have hp : (L ++ M ++ R ++ (B1 ++ B2)).Perm (M ++ ((L ++ B1 ++ R) ++ B2)) := by
    rw [List.perm_iff_count]
    intro a
    simp only [List.count_append]
    omega
  exact (List.nodup_append.mp (hp.nodup_iff.mp h)).2.1
theorem fillS_sound {w : World} {F : Nat → Prop} {pl : List (Nat × Nat)} : ∀ {is : List Nat} {ys cs cs' : List D} {vals : Array Value} {vs : List Value} {Bc By : List Nat}, fillS pl cs is ys = some cs' →
    RepL w F cs vals.toList Bc → (∀ c ∈ cs, c.isAgg = false) → RepL w F ys vs By → (Bc ++ By).Nodup →
    ∃ vals' M', Instr.fill (pl.toArray[·]?) vals (is.zip vs) = some vals' ∧ RepL w F cs' vals'.toList M' ∧ (∀ b ∈ M', b ∈ Bc ++ By) ∧ M'.Nodup ∧ (∀ c ∈ cs', c.isAgg = false)
  | [], [], cs, cs', vals, vs, Bc, By, h, hc, hf, hy, hn => by
    simp only [fillS, Option.some.injEq] at h
    subst h
    exact ⟨vals, Bc, by simp [Instr.fill], hc, fun b hb => by simp [hb], (List.nodup_append.mp hn).1, hf⟩
  | [], y :: ys, cs, cs', vals, vs, Bc, By, h, hc, hf, hy, hn => by simp [fillS] at h
  | i :: is, [], cs, cs', vals, vs, Bc, By, h, hc, hf, hy, hn => by simp [fillS] at h
  | i :: is, y :: ys, cs, cs', vals, vs, Bc, By, h, hc, hf, hy, hn => by
    simp only [fillS, Option.bind_eq_some_iff] at h
    obtain ⟨⟨off, n⟩, hpl, h⟩ := h
    simp only at h
    split at h
    case isFalse => simp at h
    rename_i hw
    obtain ⟨hw1, hw2⟩ := hw
    simp only [RepL] at hy
    obtain ⟨v, vs', B1, B2, e1, e2, e3, e4⟩ := hy
    subst e1 e2
    obtain ⟨c1, c2, c3, c4⟩ := e3.cells
    have hyl : y.cells.length = n := hw1
    obtain ⟨us, L, M, R, k1, k2, k3, k4, k5⟩ := hc.mid off n hw2
    subst k3
    have hlen : vals.size = cs.length := by have := hc.length; simpa using this
    have h1 := k5 w F y.cells v.cells.toList B1 (fun _ h => h) (fun _ _ => rfl) (fun _ _ => rfl) hyl c1
    have hnd : ((L ++ B1 ++ R) ++ B2).Nodup := nd_swap hn
    obtain ⟨vals', M', r1, r2, r3, r4, r5⟩ := fillS_sound (vals := (vals.toList.take off ++ v.cells.toList ++ vals.toList.drop (off + n)).toArray) h h1 (flat_spl _ _ off hf c2) e4 hnd
    refine ⟨vals', M', ?_, r2, fun b hb => ?_, r4, r5⟩
    · simp only [List.zip_cons_cons, Instr.fill, List.getElem?_toArray, hpl]
      have hvs : v.cells.size = n := by rw [c4, hw1]
      have hno : ¬ (off + n > vals.size) := by omega
      simp only [hvs, ne_eq, not_true, decide_false, hno, Bool.or_self, Bool.false_eq_true, if_false]
      rw [fold_eq v off vals (by omega), hvs]
      simpa only [List.getElem?_toArray] using r1
    · have := r3 b hb
      simp only [List.mem_append] at this ⊢
      grind
theorem cat_set {m : Nat} : ∀ {rvs : List Value} (_ : ∀ v ∈ rvs, v.cells.size = m) (i : Nat) (v : Value), i < rvs.length → v.cells.size = m →
    cat (rvs.set i v) = (cat rvs).take (i * m) ++ v.cells.toList ++ (cat rvs).drop (i * m + m)
  | [], _, i, v, h, _ => by simp at h
  | u :: us, h, 0, v, _, hv => by
    have hu : u.cells.toList.length = m := by simp [h u (by simp)]
    simp only [List.set_cons_zero, cat, List.map_cons, List.flatten_cons, Nat.zero_mul, List.take_zero, List.nil_append, Nat.zero_add]
    rw [List.drop_append_of_le_length (by omega), List.drop_of_length_le (by omega), List.nil_append]
  | u :: us, h, i + 1, v, hi, hv => by
    have hu : u.cells.toList.length = m := by simp [h u (by simp)]
    have ih := cat_set (rvs := us) (fun x hx => h x (by simp [hx])) i v (by simpa using hi) hv
    simp only [cat] at ih
    simp only [List.set_cons_succ, cat, List.map_cons, List.flatten_cons, ih]
    have e : (i + 1) * m = u.cells.toList.length + i * m := by rw [hu, Nat.add_mul]; omega
    rw [e, List.take_length_add_append, Nat.add_assoc, List.drop_length_add_append]
    simp
theorem fillR_sound {w : World} {F : Nat → Prop} {m : Nat} : ∀ {is : List Nat} {ys rs rs' : List D} {rvs : List Value} {vs : List Value} {Bc By : List Nat}, fillR m rs is ys = some rs' →
    RepL w F rs rvs Bc → (∀ x ∈ rs, x.width = m) → RepL w F ys vs By → (Bc ++ By).Nodup →
    ∃ rvs' M', Instr.fill (fun i => some (i * m, m)) (cat rvs).toArray (is.zip vs) = some (cat rvs').toArray ∧ RepL w F rs' rvs' M' ∧ (∀ b ∈ M', b ∈ Bc ++ By) ∧ M'.Nodup ∧ (∀ x ∈ rs', x.width = m) ∧ rs'.length = rs.length
  | [], [], rs, rs', rvs, vs, Bc, By, h, hc, hf, hy, hn => by
    simp only [fillR, Option.some.injEq] at h
    subst h
    exact ⟨rvs, Bc, by simp [Instr.fill], hc, fun b hb => by simp [hb], (List.nodup_append.mp hn).1, hf, rfl⟩
  | [], y :: ys, rs, rs', rvs, vs, Bc, By, h, hc, hf, hy, hn => by simp [fillR] at h
  | i :: is, [], rs, rs', rvs, vs, Bc, By, h, hc, hf, hy, hn => by simp [fillR] at h
  | i :: is, y :: ys, rs, rs', rvs, vs, Bc, By, h, hc, hf, hy, hn => by
    simp only [fillR] at h
    split at h
    case isFalse => simp at h
    rename_i hw
    obtain ⟨hw1, hw2⟩ := hw
    simp only [RepL] at hy
    obtain ⟨v, vs', B1, B2, e1, e2, e3, e4⟩ := hy
    subst e1 e2
    have c4 := e3.cells.2.2.2
    have hi : rs[i]? = some rs[i] := by simp [hw2]
    obtain ⟨us, L, M, R, k1, k2, k3, k4, k5⟩ := hc.mid i 1 (by omega)
    subst k3
    have hs := hc.sizes hf
    have hrl := hc.length
    have h1 := k5 w F [y] [v] B1 (fun _ h => h) (fun _ _ => rfl) (fun _ _ => rfl) rfl (RepL.one e3)
    have e6 : rvs.take i ++ [v] ++ rvs.drop (i + 1) = rvs.set i v := by
      rw [List.set_eq_take_append_cons_drop, if_pos (by omega)]
      simp
    rw [e6, ← set_eq_spl] at h1
    have hnd : ((L ++ B1 ++ R) ++ B2).Nodup := nd_swap hn
    have hf' : ∀ x ∈ rs.set i y, x.width = m := by
      intro x hx
      rcases List.mem_or_eq_of_mem_set hx with hx | hx
      · exact hf x hx
      · rw [hx]; exact hw1
    obtain ⟨rvs', M', r1, r2, r3, r4, r5, r6⟩ := fillR_sound h h1 hf' e4 hnd
    refine ⟨rvs', M', ?_, r2, fun b hb => ?_, r4, r5, by rw [r6, List.length_set]⟩
    · have hvs : v.cells.size = m := by rw [c4, hw1]
      have hlen := cat_length hs
      have hle : i * m + m ≤ (cat rvs).length := by
        rw [hlen]
        have : (i + 1) * m ≤ rvs.length * m := Nat.mul_le_mul_right _ (by omega)
        rw [Nat.add_mul] at this
        omega
      simp only [List.zip_cons_cons, Instr.fill]
      have hno : ¬ (i * m + m > (cat rvs).toArray.size) := by simp; omega
      simp only [hvs, ne_eq, not_true, decide_false, hno, Bool.or_self, Bool.false_eq_true, if_false]
      rw [fold_eq v (i * m) (cat rvs).toArray (by simp; omega), hvs]
      simp only
      rw [← cat_set hs i v (by omega) hvs]
      exact r1
    · have := r3 b hb
      simp only [List.mem_append] at this ⊢
      grind
theorem zip_eval (a : Act) (parts : Array (Nat × Operand)) : (parts.map fun (i, x) => (i, a.eval x)).toList = (parts.toList.map (·.1)).zip ((parts.toList.map (·.2)).map a.eval) := by
  rw [Array.toList_map]
  generalize parts.toList = l
  induction l with
  | nil => rfl
  | cons p l ih => simpa using ih
theorem Sound.build {P : Program} {F : Nat → Prop} {B : Nat → List Nat} {g : Nat → Sl} {a : Act} {w : World} {o : Oper} {t : TypeId} {parts : Array (Nat × Operand)} {mv : Bool} {V : V} {u : Ov} (s : Sim F B [] g a w)
    (ho : o.op = .build t parts) (h : buildV P mv g t parts.toList = some (V, u)) : Sound P F B g a w o V u := by
  unfold buildV at h
  simp only [Option.bind_eq_some_iff] at h
  obtain ⟨⟨ys, u1⟩, h1, z, hz, pl, hpl, h⟩ := h
  simp only at h
  split at h
  case h_2 => simp at h
  rename_i cs
  simp only [Option.map_eq_some_iff] at h
  obtain ⟨cs', hfill, h⟩ := h
  injection h with h2 h3
  subst h2 h3
  obtain ⟨F', B', M, s1, rep, e1⟩ := s.takes h1
  simp only [List.append_nil] at s1 e1
  obtain ⟨v, hzr, hzv, i, hi, hsz, hiz⟩ := tZero_run hz w
  have hrz : Rep w F' (.agg cs) v [] := rep_ofVal hzv
  obtain ⟨z1, z2, z3, z4⟩ := hrz.cells
  obtain ⟨vals', M', r1, r2, r3, r4, r5⟩ := fillS_sound (vals := v.cells) hfill z1 z2 rep (by simpa using s1.hnd)
  have hbuilt : P.built t (parts.map fun (i, x) => (i, a.eval x)).toList = some vals' := by
    unfold Program.built tPlaces at *
    split at hpl
    · rename_i fs hu
      simp only [hi, hu, hiz, hpl, zip_eval, List.map_map] at r1 ⊢
      exact r1
    · simp at hpl
  have s2 : Sim F' B' M' (ovl u1 g) a w := s1.less (fun b hb => by simpa using r3 b hb) r4
  refine Sound.value (val := .agg vals') (w' := w) ?_ ⟨F', B', M', s2, ?_, locV_toV _ _ _ _ _, mvc_toV _ _ _ _ _ _, e1.less (fun b hb => by simpa using r3 b hb)⟩
  · simp only [execOp, ho, Sem.run_bind, run_build w t _ vals' hbuilt, Result.andThen_ok, Sem.run_pure]
  · have := Rep.agg r2 r5
    exact srep_toV (by simpa using this)
theorem tElemZ_run {P : Program} {t : TypeId} {m bytes : Nat} {z : D} (ht : tElem P t = some (m, bytes)) (h : tElemZ P t = some z) :
    ∃ e i v, P.underlying t = some (.slice e) ∧ P.info? e = some i ∧ i.size = m ∧ i.bytes = bytes ∧ i.zero = some v ∧ ofVal v = some z ∧ v.cells.size = m := by
  obtain ⟨e, i, h1, h2, h3, h4⟩ := tElem_run ht
  unfold tElemZ at h
  rw [h1] at h
  unfold tZero at h
  simp only [h2, Option.bind_eq_some_iff, Option.bind_some] at h
  obtain ⟨v, k1, k2⟩ := h
  split at k2
  · rename_i k3
    exact ⟨e, i, v, h1, h2, h3, h4, k1, k2, by omega⟩
  · simp at k2
theorem Sound.buildSlice {P : Program} {F : Nat → Prop} {B : Nat → List Nat} {g : Nat → Sl} {a : Act} {w : World} {o : Oper} {t : TypeId} {len : Nat} {parts : Array (Nat × Operand)} {mv : Bool} {V : V} {u : Ov} (s : Sim F B [] g a w)
    (ho : o.op = .buildSlice t len parts) (h : buildSliceV P mv g t len parts.toList = some (V, u)) : Sound P F B g a w o V u := by
  unfold buildSliceV at h
  simp only [Option.bind_eq_some_iff] at h
  obtain ⟨⟨ys, u1⟩, h1, ⟨m, bytes⟩, ht, z, hz, h⟩ := h
  simp only at h
  split at h
  case isFalse => simp at h
  rename_i hc
  obtain ⟨c1, c2⟩ := hc
  simp only [Option.map_eq_some_iff] at h
  obtain ⟨rs', hfill, h⟩ := h
  injection h with h2 h3
  subst h2 h3
  obtain ⟨F', B', M, s1, rep, e1⟩ := s.takes h1
  simp only [List.append_nil] at s1 e1
  obtain ⟨e, i, v, k1, k2, k3, k4, k5, k6, k7⟩ := tElemZ_run ht hz
  subst k3
  have hrz : Rep w F' z v [] := rep_ofVal k6
  obtain ⟨rvs', M', r1, r2, r3, r4, r5, r6⟩ := fillR_sound (rvs := List.replicate len v) hfill (RepL.replicate hrz len) (fun x hx => by rw [(List.mem_replicate.mp hx).2]; exact c2) rep (by simpa using s1.hnd)
  rw [List.length_replicate] at r6
  have hzr := zrow (v := v) len
  rw [k7] at hzr
  have hrow : (if len * i.size = 0 then (#[] : Array Value) else v.cells) = v.cells ∨ len * i.size = 0 := by
    by_cases q : len * i.size = 0
    · exact Or.inr q
    · left; simp [q]
  have hrun : (Instr.buildSlice t len (parts.map fun (i, x) => (i, a.eval x))).run P w = .ok (.slice (some ⟨w.heap.size, 0, none⟩) len len) (w.alloc (.cells (cat rvs').toArray e)) := by
    have hfl : ∀ (zc : Array Value), ((Array.range (len * i.size)).map fun j => zc[j % zc.size]!) = (cat (List.replicate len v)).toArray →
        Instr.fill (fun j => some (j * i.size, i.size)) ((Array.range (len * i.size)).map (zc[· % zc.size]!)) (parts.map fun (i, x) => (i, a.eval x)).toList = some (cat rvs').toArray := by
      intro zc hzc
      rw [hzc, zip_eval]
      exact r1
    by_cases q : len * i.size = 0
    · have h0 : (cat (List.replicate len v)) = [] := by rw [← hzr, q]; simp
      have h2 := hfl #[] (by rw [h0, q]; simp)
      simp [Instr.buildSlice, run_underlying k1, sizeOf, typeInfo, k2, show ¬ len * i.size > 16777216 by omega, q, newRow] at h2 ⊢
      simp [h2]
    · have h2 := hfl v.cells (by apply Array.ext'; rw [← hzr, k7])
      exact run_buildSlice w t e len _ _ i v k1 k2 k5 (by omega) q h2
  have s2 : Sim F' B' (M' ++ []) (ovl u1 g) a w := s1.less (fun b hb => by simpa using r3 b (by simpa using hb)) (by simpa using r4)
  have hcl := cat_length (r2.sizes r5)
  have hrl := r2.length
  obtain ⟨M2, s3, rep3, e3⟩ := s2.newRow r2 r5 (More.alloc w (.cells (cat rvs').toArray e)) rs'.length (fun k hk => by simp) (fun h => by rw [h]; rfl) (Nat.le_refl _) (by
    simp only [List.size_toArray]
    rw [hcl, hrl]
    exact Nat.le_refl _)
  refine Sound.value (w' := w.alloc (.cells (cat rvs').toArray e)) (val := .slice (some ⟨w.heap.size, 0, none⟩) len len) ?_ ⟨F', B', M2, by simpa using s3, ?_, trivial, mvc_of (by simp), ?_⟩
  · simp only [execOp, ho, Sem.run_bind, hrun, Result.andThen_ok, Sem.run_pure]
  · rw [r6] at rep3
    exact rep3
  · have e1' : Ext F (Own B []) w F' (Own B' (M' ++ [])) w := e1.less (fun b hb => by simpa using r3 b (by simpa using hb))
    have := e1'.trans e3
    simpa using this
end Go.Pi

/- Operations: make, append. -/
namespace Go.Pi
open Go
set_option linter.unusedSimpArgs false
set_option linter.unusedVariables false

theorem Sound.makeSlice {P : Program} {F : Nat → Prop} {B : Nat → List Nat} {g : Nat → Sl} {a : Act} {w : World} {o : Oper} {t : TypeId} {l c : Operand} {V : V} {u : Ov} (s : Sim F B [] g a w)
    (ho : o.op = .makeSlice t l c) (h : makeSliceV P g t l c = some (V, u)) : Sound P F B g a w o V u := by
  unfold makeSliceV at h
  split at h
  case h_2 => simp at h
  rename_i n cc hl hc
  simp only [Option.bind_eq_some_iff] at h
  obtain ⟨⟨m, bytes⟩, ht, z, hz, h⟩ := h
  simp only at h
  split at h
  case isFalse => simp at h
  rename_i hcond
  obtain ⟨rfl, h0, h1, h2, h3⟩ := hcond
  injection h with h
  injection h with h4 h5
  subst h4 h5
  obtain ⟨M1, hM1⟩ := s.peek hl
  obtain ⟨M2, hM2⟩ := s.peek hc
  obtain ⟨e, i, v, k1, k2, k3, k4, k5, k6, k7⟩ := tElemZ_run ht hz
  subst k3 k4
  have hrz : Rep w F z v [] := rep_ofVal k6
  have hrun := run_make (P := P) w t e i v k1 k2 k5 .i64 .i64 n n h0 (Int.le_refl _) (by rw [Int.mul_comm]; omega) (by omega)
  have hzr := zrow (v := v) n.toNat
  rw [k7] at hzr
  have hmade : (madeCells v.cells (n.toNat * i.size)).toList = cat (List.replicate n.toNat v) := by
    rw [← hzr]
    simp only [madeCells, k7]
  have hrep : RepL w F (List.replicate n.toNat z) (List.replicate n.toNat v) [] := RepL.replicate hrz n.toNat
  have hw : ∀ x ∈ List.replicate n.toNat z, x.width = i.size := fun x hx => by rw [(List.mem_replicate.mp hx).2]; exact h3
  have s1 : Sim F B ([] ++ []) g a w := s
  obtain ⟨M', s2, rep, e1⟩ := s1.newRow hrep hw (More.alloc w (.cells (madeCells v.cells (n.toNat * i.size)) e)) n.toNat (fun k hk => by rw [← hmade]; simp) (fun h => by
      have := congrArg List.length h; simpa using this) (by simp) (by rw [size_madeCells]; exact Nat.le_refl _)
  rw [List.length_replicate] at rep
  refine Sound.value (w' := w.alloc (.cells (madeCells v.cells (n.toNat * i.size)) e)) (val := .slice (some ⟨w.heap.size, 0, none⟩) n.toNat n.toNat) ?_ ⟨F, B, M', by rw [List.append_nil] at s2; exact s2, rep, trivial, mvc_of (by simp), by simpa using e1⟩
  simp only [execOp, ho, Sem.run_bind, rep_int hM1, rep_int hM2, hrun, Result.andThen_ok, Sem.run_pure]

/-! ### append -/
def srcD (P : Program) (m : Nat) (tx : TypeId) (b : D) : Option (List D) :=
  match b, sh P tx with
  | .sl _ ys, .sl _ => some ys
  | .str s, .str => if m = 1 then some (s.map byteD) else none
  | _, _ => none
theorem cat_bytes : ∀ (bs : List UInt8), cat (bs.map fun b => Value.int .u8 (b.toNat : Int)) = bs.map fun b => Value.int .u8 (b.toNat : Int)
  | [] => rfl
  | b :: bs => by
    have ih := cat_bytes bs
    simp only [cat] at ih
    simp only [List.map_cons, cat, List.flatten_cons, ih]
    rfl
theorem src_of {P : Program} {w : World} {F : Nat → Prop} {m : Nat} {tx : TypeId} {b : D} {ys : List D} {val : Value} {M : List Nat} (h : srcD P m tx b = some ys) (hr : Rep w F b val M) (hw : ∀ y ∈ ys, y.width = m) :
    ∃ rvs M2, Src P m tx val ys.length (cat rvs) w ∧ RepL w F ys rvs M2 ∧ (∀ b ∈ M2, b ∈ M) ∧ (M.Nodup → M2.Nodup) := by
  unfold srcD at h
  split at h
  · rename_i ob ys' u8 ht
    injection h with h
    subst h
    obtain ⟨e', he', _⟩ := sh_sl ht
    have key : ∀ (A : Option Addr) (c : Nat) (rvs : List Value) (M2 : List Nat), val = .slice A ys'.length c → RepL w F ys' rvs M2 → (ys' ≠ [] → ∃ b o m', A = some ⟨b, o, none⟩ ∧ Rows w b o m' rvs) → Src P m tx val ys'.length (cat rvs) w := by
      intro A c rvs M2 e1 e2 e3
      subst e1
      have hsz := e2.sizes hw
      have hl := cat_length hsz
      have hrl := e2.length
      cases A with
      | none =>
        have : ys' = [] := by
          by_cases q : ys' = []
          · exact q
          · obtain ⟨b, o, m', q1, _⟩ := e3 q; simp at q1
        subst this
        have : rvs = [] := List.eq_nil_of_length_eq_zero (by simpa using hrl)
        subst this
        exact Src.ofNil w he' c
      | some ad =>
        refine Src.ofSlice w he' ad _ c _ (by rw [hl, hrl]) (fun j u hj => ?_) (fun u hu => oneC' (cat_one e2 u hu))
        have hlt := (List.getElem?_eq_some_iff.mp hj).1
        have hne : ys' ≠ [] := by
          rintro rfl
          have : rvs = [] := List.eq_nil_of_length_eq_zero (by simpa using hrl)
          subst this
          simp [cat] at hlt
        obtain ⟨b, o, m', q1, q2⟩ := e3 hne
        injection q1 with q1
        subst q1
        rw [add_mk, q2.cat hlt]
        exact hj
    cases ob with
    | true =>
      simp only [Rep] at hr
      obtain ⟨A, c, m', rvs, B', g1, g2, g3, g4⟩ := hr
      rcases g4 with ⟨g4, g5, g6⟩ | ⟨b, cur, t, g4, g5, g6, g7, g8, g9⟩
      · subst g4
        refine ⟨rvs, [], key A c rvs _ g1 g3 (by simp), ?_, by simp, by simp⟩
        have : rvs = [] := by simp only [RepL] at g3; exact g3.1
        subst this
        exact RepL.nil
      · exact ⟨rvs, B', key A c rvs _ g1 g3 (fun _ => ⟨b, 0, m', g4, g9⟩), g3, fun b hb => by rw [g8]; simp [hb], fun hn => by rw [g8] at hn; exact (List.nodup_cons.mp hn).2⟩
    | false =>
      simp only [Rep] at hr
      obtain ⟨A, c, m', rvs, g1, g2, g3, g4, g5⟩ := hr
      refine ⟨rvs, [], key A c rvs _ g1 g3 (fun hne => ?_), g3, by simp, by simp⟩
      rcases g5 with g5 | ⟨b, o, g5, g6, g7⟩
      · exact absurd g5 hne
      · exact ⟨b, o, m', g5, g7⟩
  · rename_i str ht
    split at h
    case isFalse => simp at h
    rename_i hm
    subst hm
    injection h with h
    subst h
    rw [rep_str hr]
    have e : cat (str.map fun b => Value.int .u8 (b.toNat : Int)) = byteCells ⟨str.toArray⟩ := by
      rw [cat_bytes]
      simp [byteCells]
    refine ⟨str.map fun b => Value.int .u8 (b.toNat : Int), [], ?_, byteD_rep str, by simp, by simp⟩
    rw [e]
    have := Src.ofString (P := P) w (sh_str ht) (⟨str.toArray⟩ : ByteArray)
    rw [mk_size] at this
    simpa using this
  · simp at h
theorem run_append_row {P : Program} (w : World) (t tx ty e : TypeId) (i : TypeInfo) (ht : P.underlying t = some (.slice e)) (hi : P.info? e = some i) (b sLen sCap : Nat) (x : Value) (n : Nat) (news : List Value) (hs : Src P i.size tx x n news w)
    (cur : Array Value) (te : TypeId) (hb : w.heap[b]? = some (.cells cur te (0, 0))) (hroom : sLen + n ≤ sCap) (hfit : sLen * i.size + news.length ≤ cur.size) :
    (Builtin.append_ #[t, tx] ty #[.slice (some ⟨b, 0, none⟩) sLen sCap, x]).run P w = .ok (.slice (some ⟨b, 0, none⟩) (sLen + n) sCap)
      (w.setRow b (cur.toList.take (sLen * i.size) ++ news ++ cur.toList.drop (sLen * i.size + news.length)).toArray) := by
  have hst := run_storeCells_at P b (sLen * i.size) te news 0 cur w hb (by simpa using hfit) hs.one
  simp only [Nat.add_zero] at hst
  rcases hs.kind with ⟨e', hk⟩ | hk <;> simp [Builtin.append_, run_underlying ht, run_underlying hk, sizeOf, typeInfo, hi, hs.len, hroom, hs.cells, Addr.add_lit, hst]
theorem run_append_same {P : Program} (w : World) (t tx ty e : TypeId) (i : TypeInfo) (ht : P.underlying t = some (.slice e)) (hi : P.info? e = some i) (A : Option Addr) (sLen sCap : Nat) (x : Value) (hs : Src P i.size tx x 0 [] w) (hroom : sLen ≤ sCap) :
    (Builtin.append_ #[t, tx] ty #[.slice A sLen sCap, x]).run P w = .ok (.slice A sLen sCap) w := by
  rcases hs.kind with ⟨e', hk⟩ | hk <;> cases A <;> simp [Builtin.append_, run_underlying ht, run_underlying hk, sizeOf, typeInfo, hi, hs.len, hroom, hs.cells, storeCells]
theorem appendV_eq {P : Program} {mv : Bool} {g : Nat → Sl} {t tx : TypeId} {s x : Operand} {V : V} {u : Ov} (h : appendV P mv g t tx s x = some (V, u)) :
    ∃ xs u1 b u2 m bytes z ys, Go.Pi.take true g s = some (.sl true xs, u1) ∧ Go.Pi.take mv (ovl u1 g) x = some (b, u2) ∧ tElem P t = some (m, bytes) ∧ tElemZ P t = some z ∧ srcD P m tx b = some ys ∧
      (∀ x ∈ xs, x.width = m) ∧ (∀ y ∈ ys, y.width = m) ∧ z.width = m ∧ (xs.length + ys.length) * bytes ≤ 140737488355328 ∧ xs.length + ys.length ≤ 140737488355328 ∧
      V = .own 0 (.sl true (xs ++ ys)) ∧ u = u2 ++ u1 := by
  unfold appendV at h
  simp only [Option.bind_eq_some_iff] at h
  obtain ⟨⟨a, u1⟩, h1, ⟨b, u2⟩, h2, ⟨m, bytes⟩, h3, z, h4, h⟩ := h
  simp only at h
  split at h
  case h_2 => simp at h
  rename_i xs
  obtain ⟨ys, h5, h⟩ := Option.bind_eq_some_iff.mp h
  split at h
  case isFalse => simp at h
  rename_i hc
  obtain ⟨c1, c2, c3, c4, c5⟩ := hc
  injection h with h
  injection h with h6 h7
  exact ⟨xs, u1, b, u2, m, bytes, z, ys, h1, h2, h3, h4, h5, c1, c2, c3, c4, c5, h6.symm, h7.symm⟩
theorem nil_of_len {α : Type} {l : List α} (h : l.length = 0) : l = [] := List.eq_nil_of_length_eq_zero h
theorem Sim.append {P : Program} {F : Nat → Prop} {B : Nat → List Nat} {g : Nat → Sl} {a : Act} {w : World} {t tx ty : TypeId} {sx x : Operand} {mv : Bool} {V : V} {u : Ov} {dst : Option Tmp} (s : Sim F B [] g a w)
    (h : appendV P mv g t tx sx x = some (V, u)) : ∃ val w', (Builtin.append_ #[t, tx] ty #[a.eval sx, a.eval x]).run P w = .ok val w' ∧ Res F B (ovl u g) a w dst V val w' := by
  obtain ⟨xs, u1, b, u2, m, bytes, z, ys, h1, h2, h3, h4, h5, c1, c2, c3, c4, c5, rfl, rfl⟩ := appendV_eq h
  obtain ⟨e, i, v, k1, k2, k3, k4, k5, k6, k7⟩ := tElemZ_run h3 h4
  subst k3 k4
  obtain ⟨F1, B1, Mx, s1, rx, e1⟩ := s.take h1
  obtain ⟨F2, B2, My, s2, ry, e2⟩ := s1.take h2
  have e12 := e1.trans e2
  simp only [List.append_nil] at s2 e12
  have rx2 : Rep w F2 (.sl true xs) (a.eval sx) Mx := Rep.mono (fun b hb => e2.mono b hb) _ _ _ rx
  obtain ⟨rvy, M2, hsrc, ry2, hM2, hM2n⟩ := src_of h5 ry c2
  have hnd := List.nodup_append.mp s2.hnd
  have hM2n := hM2n hnd.1
  have hyl := ry2.length
  simp only [Rep] at rx2
  obtain ⟨A, c, m', rvx, Bx, g1, g2, g3, g4⟩ := rx2
  have hxl := g3.length
  rw [g1]
  have hBx : ∀ q ∈ Bx, q ∈ Mx := by
    rcases g4 with ⟨q1, q2, q3⟩ | ⟨b', cur, te, q4, q5, q6, q7, q8, q9⟩
    · subst q1
      intro q hq
      simp only [RepL] at g3
      rw [g3.2] at hq
      simp at hq
    · intro q hq
      rw [q8]
      simp [hq]
  have hBxn : Bx.Nodup := by
    rcases g4 with ⟨q1, q2, q3⟩ | ⟨b', cur, te, q4, q5, q6, q7, q8, q9⟩
    · subst q1
      simp only [RepL] at g3
      rw [g3.2]
      exact List.nodup_nil
    · have := hnd.2.1
      rw [q8] at this
      exact (List.nodup_cons.mp this).2
  have hdisj : ∀ p ∈ Mx, ∀ q ∈ M2, p ≠ q := fun p hp q hq hpq => hnd.2.2 q (hM2 q hq) p hp hpq.symm
  have hxyn : (Bx ++ M2).Nodup := by
    rw [List.nodup_append]
    exact ⟨hBxn, hM2n, fun p hp q hq => hdisj p (hBx p hp) q hq⟩
  have hxys : ∀ q ∈ Bx ++ M2, q ∈ My ++ Mx := by
    intro q hq
    rcases List.mem_append.mp hq with hq | hq
    · exact List.mem_append.mpr (Or.inr (hBx q hq))
    · exact List.mem_append.mpr (Or.inl (hM2 q hq))
  have hrxy : RepL w F2 (xs ++ ys) (rvx ++ rvy) (Bx ++ M2) := g3.append ry2
  have hwxy : ∀ q ∈ xs ++ ys, q.width = i.size := by
    intro q hq
    rcases List.mem_append.mp hq with hq | hq
    · exact c1 q hq
    · exact c2 q hq
  have hcx := cat_length (g3.sizes c1)
  have hcy := cat_length (ry2.sizes c2)
  have hg : ovl (u2 ++ u1) g = ovl u2 (ovl u1 g) := ovl_app u1 u2 g
  rw [hg]
  rcases Nat.lt_or_ge c (xs.length + ys.length) with hroom | hroom
  · -- a new row
    have hold : (Builtin.firstCells i.size xs.length (.slice A xs.length c)).run P w.drew = .ok (cat rvx).toArray w.drew := by
      rcases g4 with ⟨q1, q2, q3⟩ | ⟨b', cur, te, q4, q5, q6, q7, q8, q9⟩
      · subst q1
        have : rvx = [] := nil_of_len (by simpa using hxl)
        subst this
        cases A with
        | none => exact run_firstCells_none _ _ _ _ _
        | some ad => exact run_firstCells_some _ _ _ _ _ _ _ (by simp [cat]) (by simp [cat])
      · subst q4
        refine run_firstCells_some _ _ _ _ _ _ _ (by rw [hcx, hxl]) (fun j u hj => ?_)
        have hlt := (List.getElem?_eq_some_iff.mp hj).1
        rw [add_mk, cell_cells (w := w.drew) q5, ← cell_cells q5, q9.cat hlt]
        exact hj
    have hrun := run_append_grow_src (P := P) w t tx ty e i v k1 k2 k5 A xs.length c (cat rvx) hold (a.eval x) ys.length (cat rvy) hsrc hroom (by omega) (growslice_fits hroom c4)
    have hge := grownCap_ge w (xs.length + ys.length) c e
    generalize grownCap w (xs.length + ys.length) c e = cap at hrun hge
    have s3 : Sim F2 B2 ((Bx ++ M2) ++ []) (ovl u2 (ovl u1 g)) a w := s2.less (fun q hq => hxys q (by simpa using hq)) (by simpa using hxyn)
    have hzs := size_zeroCells v.cells (cap - (xs.length + ys.length))
    rw [k7] at hzs
    obtain ⟨M', s4, rep, e4⟩ := s3.newRow hrxy hwxy (More.drew w (.cells ((cat rvx ++ cat rvy).toArray ++ Builtin.zeroCells v.cells (cap - (xs.length + ys.length))) e)) cap (fun k hk => by
        rw [cat_app] at hk ⊢
        rw [Array.getElem?_append_left (by simpa using hk)]
        simp) (fun hn => by
        have := congrArg List.length hn
        rw [List.length_append, List.length_nil] at this
        omega) (by simpa using hge) (by
        rw [Array.size_append, hzs]
        simp only [List.size_toArray, List.length_append, hcx, hcy]
        have key : rvx.length + rvy.length + (cap - (xs.length + ys.length)) = cap := by omega
        rw [← Nat.add_mul, ← Nat.add_mul, key]
        exact Nat.le_refl _)
    rw [List.length_append] at rep
    rw [List.append_nil] at s4
    refine ⟨_, _, hrun, F2, B2, M', s4, by simpa only [SRep] using rep, trivial, mvc_of (by simp), ?_⟩
    have e12' : Ext F (Own B []) w F2 (Own B2 ((Bx ++ M2) ++ [])) w := e12.less (fun q hq => hxys q (by simpa using hq))
    have := e12'.trans e4
    rw [List.append_nil] at this
    exact this
  · rcases g4 with ⟨q1, q2, q3⟩ | ⟨b', cur, te, q4, q5, q6, q7, q8, q9⟩
    · -- nothing
      subst q1
      have hys : ys = [] := nil_of_len (by simp at hroom; omega)
      subst hys
      have : rvy = [] := nil_of_len (by simpa using hyl)
      subst this
      have := run_append_same (P := P) w t tx ty e i k1 k2 A 0 c (a.eval x) hsrc (Nat.zero_le _)
      refine ⟨_, _, this, F2, B2, [], s2.less (by simp) List.nodup_nil, ?_, trivial, mvc_of (by simp), e12.less (by simp)⟩
      simp only [SRep, Rep, List.append_nil]
      exact ⟨A, c, 0, [], [], rfl, by simp, RepL.nil, Or.inl ⟨trivial, q2, trivial⟩⟩
    · -- room
      subst q4
      have hm' : m' = i.size := by
        obtain ⟨y, hy⟩ : ∃ y, y ∈ rvx := by
          cases rvx with
          | nil =>
            have : xs = [] := nil_of_len (by simpa using hxl.symm)
            exact absurd this q6
          | cons y _ => exact ⟨y, by simp⟩
        rw [← q9.sizes y hy, g3.sizes c1 y hy]
      subst hm'
      have hfit : xs.length * i.size + (cat rvy).length ≤ cur.size := by
        rw [hcy, hyl, ← Nat.add_mul]
        exact Nat.le_trans (Nat.mul_le_mul_right _ hroom) q7
      have hrun := run_append_row (P := P) w t tx ty e i k1 k2 b' xs.length c (a.eval x) ys.length (cat rvy) hsrc cur te q5 hroom hfit
      have hbMx : b' ∈ Mx := by rw [q8]; simp
      have hbnot : b' ∉ Bx ++ M2 := by
        intro hh
        rcases List.mem_append.mp hh with hh | hh
        · have := hnd.2.1
          rw [q8] at this
          exact (List.nodup_cons.mp this).1 hh
        · exact hdisj b' hbMx b' hh rfl
      generalize hcur : (cur.toList.take (xs.length * i.size) ++ cat rvy ++ cur.toList.drop (xs.length * i.size + (cat rvy).length)).toArray = cur' at hrun
      have hsz' : cur'.size = cur.size := by
        rw [← hcur]
        simp
        omega
      have hoth : ∀ q, q ≠ b' → (w.setRow b' cur').heap[q]? = w.heap[q]? := fun q hq => setRow_other w b' q _ hq
      have hnew := setRow_heap w b' cur cur' te (0, 0) q5
      have hbF : ¬ F2 b' := s2.hF b' (by simp [hbMx])
      have hbB : ∀ j, b' ∉ B2 j := s2.hB b' (by simp [hbMx])
      have s3 : Sim F2 B2 (b' :: (Bx ++ M2)) (ovl u2 (ovl u1 g)) a (w.setRow b' cur') := by
        refine s2.world (by rw [setRow_size]; exact Nat.le_refl _) (fun q _ hq => hoth q (by rintro rfl; exact hq (by simp [hbMx]))) (List.nodup_cons.mpr ⟨hbnot, hxyn⟩) ?_
        intro q hq
        rcases List.mem_cons.mp hq with hq | hq
        · left; rw [hq]; simp [hbMx]
        · left; exact hxys q hq
      have e3 : Ext F2 (Own B2 (My ++ Mx)) w F2 (Own B2 (b' :: (Bx ++ M2))) (w.setRow b' cur') := by
        refine ⟨rfl, rfl, rfl, by rw [setRow_size]; exact Nat.le_refl _, fun q _ hq => hoth q (by rintro rfl; exact hq (Or.inr (by simp [hbMx]))), fun _ h => h, fun _ h => Or.inl h, ?_⟩
        intro q hq
        left
        rcases hq with hq | hq
        · exact Or.inl hq
        · rcases List.mem_cons.mp hq with hq | hq
          · right; rw [hq]; simp [hbMx]
          · right; exact hxys q hq
      refine ⟨_, _, hrun, F2, B2, b' :: (Bx ++ M2), s3, ?_, trivial, mvc_of (by simp), e12.trans e3⟩
      simp only [SRep, Rep]
      refine ⟨some ⟨b', 0, none⟩, c, i.size, rvx ++ rvy, Bx ++ M2, by rw [List.length_append], by rw [List.length_append]; exact hroom,
        RepL.frame (fun _ h => h) (fun q hq => hoth q (by rintro rfl; exact hbF hq)) _ _ _ (fun q hq => hoth q (by rintro rfl; exact hbnot hq)) hrxy,
        Or.inr ⟨b', cur', te, rfl, hnew, by simp [q6], by rw [hsz']; exact q7, rfl, Rows.of_cat (hrxy.sizes hwxy) fun k hk => ?_⟩⟩
      rw [cell_cells hnew, Nat.zero_add, cat_app, ← hcur]
      simp only [List.getElem?_toArray]
      rw [cat_app, List.length_append, hcx, hxl] at hk
      have htl : (cur.toList.take (xs.length * i.size)).length = xs.length * i.size := by
        rw [List.length_take]
        simp
        omega
      rcases Nat.lt_or_ge k (xs.length * i.size) with hk1 | hk1
      · rw [List.append_assoc, List.getElem?_append_left (by omega), List.getElem?_append_left (by rw [hcx, hxl]; exact hk1), List.getElem?_take_of_lt hk1, ← q9.cat (by rw [hcx, hxl]; exact hk1), cell_cells q5]
        simp
      · rw [List.append_assoc, List.getElem?_append_right (by omega), htl, List.getElem?_append_left (by omega), List.getElem?_append_right (by rw [hcx, hxl]; exact hk1), hcx, hxl]
end Go.Pi

/- Operations: closures, lengths, greatest and least. -/
namespace Go.Pi
open Go
set_option linter.unusedSimpArgs false
set_option linter.unusedVariables false

theorem Ptrs.cons {w : World} {F : Nat → Prop} {ps rvs : List Value} {b o : Nat} {u : Value} (h : Ptrs w F ps rvs) (hb : F b) (ha : AtCells w b o u.cells) : Ptrs w F (.pointer (some ⟨b, o, none⟩) :: ps) (u :: rvs) := by
  refine ⟨by simp [h.1], ?_⟩
  intro i p rv hp hr
  cases i with
  | zero =>
    simp only [List.getElem?_cons_zero, Option.some.injEq] at hp hr
    subst hp hr
    exact ⟨b, o, rfl, hb, ha⟩
  | succ i =>
    simp only [List.getElem?_cons_succ] at hp hr
    exact h.2 i p rv hp hr
theorem Sim.capV {F : Nat → Prop} {B : Nat → List Nat} {H : List Nat} {g : Nat → Sl} {a : Act} {w : World} (s : Sim F B H g a w) {o : Operand} {y : D} {u : Ov} (h : capV g o = some (y, u)) :
    ∃ F' B' b off rv, Sim F' B' H (ovl u g) a w ∧ a.eval o = .pointer (some ⟨b, off, none⟩) ∧ F' b ∧ AtCells w b off rv.cells ∧ Rep w F' y rv [] ∧ Ext F (Own B H) w F' (Own B' H) w := by
  unfold Go.Pi.capV at h
  split at h
  case h_2 => simp at h
  rename_i t
  have hr := s.rep t
  unfold capS at h
  split at h
  · rename_i iv cv x hs
    injection h with h
    injection h with h1 h2
    subst h1 h2
    rw [hs] at hr
    simp only [SRep] at hr
    obtain ⟨⟨b, off, rv, e1, e2, e3, e4⟩, _⟩ := hr
    exact ⟨F, B, b, off, rv, s, e1, e2, e3, e4, Ext.refl _ _ _⟩
  · rename_i iv cv x hs
    injection h with h
    injection h with h1 h2
    subst h1 h2
    have hv : (g t).v = .box 0 x := by rw [hs]
    rw [hv] at hr
    simp only [SRep] at hr
    obtain ⟨b, rv, ty, B', e1, e2, e3, e4⟩ := hr
    have hF : ∀ c, F c → (fun c => F c ∨ c ∈ B t) c := fun c hc => Or.inl hc
    have hrep : Rep w (fun c => F c ∨ c ∈ B t) x.frz rv [] := Rep.frz hF _ _ _ (fun c hc => Or.inr (by rw [e4]; simp [hc])) e3
    have hat : AtCells w b 0 rv.cells := by
      intro i hi
      rw [cell_cells e2, Nat.zero_add]
    obtain ⟨s1, x1⟩ := s.reslot (r := t) (V' := .rp x.frz) (F' := fun c => F c ∨ c ∈ B t) (Br' := []) (H' := H)
      (by simp only [SRep]; exact ⟨⟨b, 0, rv, e1, Or.inr (by rw [e4]; simp), hat, hrep⟩, trivial⟩) hF (s.inb (by rw [hv]; simp)) (by simp) (by simp) (by simp) (by simp) (by simp) (by simp) s.hnd
      (fun c hc => Or.inl hc) (fun c hc => by
        rcases hc with hc | hc
        · exact Or.inl hc
        · exact Or.inr ⟨hc, by simp, fun hh => s.hB c hh t hc⟩)
    rw [hs] at s1
    exact ⟨_, _, b, 0, rv, s1, e1, Or.inr (by rw [e4]; simp), hat, hrep, x1⟩
  · simp at h
theorem Sim.capsV {a : Act} {w : World} {H : List Nat} : ∀ {os : List Operand} {F : Nat → Prop} {B : Nat → List Nat} {g : Nat → Sl} {ys : List D} {u : Ov} (s : Sim F B H g a w)
    (h : capsV g os = some (ys, u)), ∃ F' B' rvs, Sim F' B' H (ovl u g) a w ∧ RepL w F' ys rvs [] ∧ Ptrs w F' (os.map a.eval) rvs ∧ Ext F (Own B H) w F' (Own B' H) w
  | [], F, B, g, ys, u, s, h => by
    simp only [Go.Pi.capsV, Option.some.injEq, Prod.mk.injEq] at h
    obtain ⟨rfl, rfl⟩ := h
    exact ⟨F, B, [], s, RepL.nil, ⟨rfl, by simp⟩, Ext.refl _ _ _⟩
  | o :: os, F, B, g, ys, u, s, h => by
    simp only [Go.Pi.capsV, Option.bind_eq_some_iff, Option.map_eq_some_iff] at h
    obtain ⟨⟨y, u1⟩, h1, ⟨ys', u2⟩, h2, h3⟩ := h
    injection h3 with h3 h4
    subst h3 h4
    obtain ⟨F1, B1, b, off, rv, s1, e1, e2, e3, e4, x1⟩ := s.capV h1
    obtain ⟨F2, B2, rvs, s2, r2, p2, x2⟩ := s1.capsV h2
    refine ⟨F2, B2, rv :: rvs, by rw [ovl_app]; exact s2, RepL.cons (B1 := []) (B2 := []) (Rep.mono (fun c hc => x2.mono c hc) _ _ _ e4) r2, ?_, x1.trans x2⟩
    rw [List.map_cons, e1]
    exact p2.cons (x2.mono b e2) e3
theorem Sound.makeFunc {P : Program} {F : Nat → Prop} {B : Nat → List Nat} {g : Nat → Sl} {a : Act} {w : World} {o : Oper} {fn : Fn} {first caps : Array Operand} {mv : Bool} {V : V} {u : Ov} (s : Sim F B [] g a w)
    (ho : o.op = .makeFunc fn first caps) (h : makeFuncV mv g fn first.toList caps.toList = some (V, u)) : Sound P F B g a w o V u := by
  unfold makeFuncV at h
  split at h
  case h_2 => simp at h
  rename_i f
  simp only [Option.bind_eq_some_iff, Option.map_eq_some_iff] at h
  obtain ⟨⟨fs, u1⟩, h1, ⟨cs, u2⟩, h2, h3⟩ := h
  injection h3 with h3 h4
  subst h3 h4
  obtain ⟨F1, B1, M, s1, r1, e1⟩ := s.takes h1
  have s2 := s1.freezeHand
  have e2 := e1.freezeHand
  have r2 := RepL.frz (F' := fun b => F1 b ∨ b ∈ M) (fun _ h => Or.inl h) _ _ _ (fun b hb => Or.inr hb) r1
  obtain ⟨F3, B3, rvs, s3, r3, p3, e3⟩ := s2.capsV h2
  have ef : (first.map a.eval) = (first.toList.map a.eval).toArray := by apply Array.ext'; simp
  have ec : (caps.map a.eval) = (caps.toList.map a.eval).toArray := by apply Array.ext'; simp
  refine Sound.value (val := .func (.func f) (first.toList.map a.eval).toArray (caps.toList.map a.eval).toArray) (w' := w) ?_ ⟨F3, B3, [], by rw [ovl_app]; exact s3, ?_, trivial, mvc_of (by simp), e2.trans e3⟩
  · simp only [execOp, ho, Sem.run_bind, Instr.makeFunc, ef, ec, Sem.run_pure, Result.andThen_ok]
  · simp only [SRep, Rep]
    exact ⟨⟨_, _, rvs, rfl, RepL.mono (fun b hb => e3.mono b hb) _ _ _ r2, r3, p3, trivial⟩, trivial⟩

/-! ### Builtins -/
theorem arr1 {α : Type} {c : Array α} {x : α} (h : c.toList = [x]) : c = #[x] := by
  apply Array.ext'
  simpa using h
theorem arr2 {α : Type} {c : Array α} {x y : α} (h : c.toList = [x, y]) : c = #[x, y] := by
  apply Array.ext'
  simpa using h
theorem run_builtin {P : Program} {a : Act} {w : World} {o : Oper} {c : Call} {b : Builtin} (ho : o.op = .call c) (hc : c.callee = .builtin b) :
    (execOp a.eval o).run P w = (Go.builtin b c.argTypes o.type (c.args.map fun | .const _ => true | _ => false) (c.args.map a.eval)).run P w := by
  simp only [execOp, ho, resolve, hc, Sem.run_bind, Sem.run_pure, Result.andThen_ok, invoke]
  rfl
theorem Sound.bcall {C : Cfg} {F : Nat → Prop} {B : Nat → List Nat} {g : Nat → Sl} {a : Act} {w : World} {o : Oper} {c : Call} {b : Builtin} {hh : Bool} {V : V} {u : Ov} (s : Sim F B [] g a w)
    (ho : o.op = .call c) (hc : c.callee = .builtin b) (h : bcall C hh g b c.args.toList c.argTypes.toList = some (V, u)) : Sound C.P F B g a w o V u := by
  have hrun := fun P => run_builtin (P := P) (a := a) (w := w) ho hc
  unfold Go.Pi.bcall at h
  split at h
  · rename_i x t hx ht
    simp only [Option.map_eq_some_iff] at h
    obtain ⟨v, h1, h2⟩ := h
    injection h2 with h2 h3
    subst h2 h3
    rw [arr1 hx, arr1 ht] at hrun
    unfold lenV at h1
    simp only [Option.bind_eq_some_iff] at h1
    obtain ⟨y, hy, h1⟩ := h1
    obtain ⟨M, hM⟩ := s.peek hy
    unfold lenD at h1
    split at h1
    · rename_i str hs
      injection h1 with h1
      subst h1
      refine Sound.plain s (val := goInt str.length) ?_ (by simp [Rep, goInt])
      rw [hrun]
      simp [Go.builtin, Builtin.len_, run_underlying (sh_str hs), rep_str hM, mk_size]
    · rename_i ob xs hs
      injection h1 with h1
      subst h1
      obtain ⟨e, he, _⟩ := sh_sl hs
      obtain ⟨A, cc, hxv⟩ : ∃ A cc, a.eval x = .slice A xs.length cc := by
        cases ob <;> simp only [Rep] at hM
        · obtain ⟨A, c, m, rvs, h1, _⟩ := hM; exact ⟨A, c, h1⟩
        · obtain ⟨A, c, m, rvs, B', h1, _⟩ := hM; exact ⟨A, c, h1⟩
      refine Sound.plain s (val := goInt xs.length) ?_ (by simp [Rep, goInt])
      rw [hrun]
      simp [Go.builtin, Builtin.len_, run_underlying he, hxv]
    · simp at h1
  · rename_i s' x t tx hx ht
    rw [arr2 hx, arr2 ht] at hrun
    obtain ⟨val, w', k1, k2⟩ := s.append (ty := o.type) (dst := o.dst) h
    refine Sound.value ?_ k2
    rw [hrun]
    simp [Go.builtin, k1]
  · rename_i x y _ hx
    simp only [Option.map_eq_some_iff] at h
    obtain ⟨v, h1, h2⟩ := h
    injection h2 with h2 h3
    subst h2 h3
    rw [arr2 hx] at hrun
    unfold mmV at h1
    simp only [Option.bind_eq_some_iff] at h1
    obtain ⟨d1, hd1, d2, hd2, h1⟩ := h1
    obtain ⟨M1, hM1⟩ := s.peek hd1
    obtain ⟨M2, hM2⟩ := s.peek hd2
    unfold mmD at h1
    split at h1
    · rename_i k p k' q
      split at h1
      · rename_i hk
        subst hk
        injection h1 with h1
        subst h1
        refine Sound.plain s (val := .int k (if q > p then q else p)) ?_ (by simp [Rep])
        rw [hrun]
        simp [Go.builtin, Builtin.max_, Builtin.max2, rep_int hM1, rep_int hM2]
      · simp at h1
    · simp at h1
  · rename_i x y _ hx
    simp only [Option.map_eq_some_iff] at h
    obtain ⟨v, h1, h2⟩ := h
    injection h2 with h2 h3
    subst h2 h3
    rw [arr2 hx] at hrun
    unfold mmV at h1
    simp only [Option.bind_eq_some_iff] at h1
    obtain ⟨d1, hd1, d2, hd2, h1⟩ := h1
    obtain ⟨M1, hM1⟩ := s.peek hd1
    obtain ⟨M2, hM2⟩ := s.peek hd2
    unfold mmD at h1
    split at h1
    · rename_i k p k' q
      split at h1
      · rename_i hk
        subst hk
        injection h1 with h1
        subst h1
        refine Sound.plain s (val := .int k (if q < p then q else p)) ?_ (by simp [Rep])
        rw [hrun]
        simp [Go.builtin, Builtin.min_, Builtin.min2, rep_int hM1, rep_int hM2]
      · simp at h1
    · simp at h1
  · simp at h
end Go.Pi
