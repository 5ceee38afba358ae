/- Part 1 of an interpreter over value trees, shown sound for the model. -/
import Derived.Test.YtgclannlnahaeaaP0
import Derived.Below
set_option linter.unusedVariables false
set_option linter.unusedSimpArgs false
set_option linter.unusedSectionVars false
/- What a value tree says of a value in memory, and which blocks it owns. -/
namespace Go.Pi
open Go

/-! ### Memory -/
def oneC : Value → Bool
  | .agg _ => false
  | .tuple _ => false
  | _ => true
/-- A row of elements of m cells each, from a cell of a block on. -/
def Rows (w : World) (b o m : Nat) (rvs : List Value) : Prop :=
  ∀ j rv, rvs[j]? = some rv → rv.cells.size = m ∧ ∀ i, i < m → w.cell? ⟨b, o + j * m + i, none⟩ = rv.cells[i]?
def AtCells (w : World) (b o : Nat) (cs : Array Value) : Prop := ∀ i, i < cs.size → w.cell? ⟨b, o + i, none⟩ = cs[i]?
/-- Pointers to read-only variables. -/
def Ptrs (w : World) (F : Nat → Prop) (ps rvs : List Value) : Prop :=
  ps.length = rvs.length ∧ ∀ (i : Nat) (p rv : Value), ps[i]? = some p → rvs[i]? = some rv → ∃ b o, p = .pointer (some ⟨b, o, none⟩) ∧ F b ∧ AtCells w b o rv.cells

mutual
def Rep (w : World) (F : Nat → Prop) : D → Value → List Nat → Prop
  | .int k n, v, B => v = .int k n ∧ B = []
  | .bool x, v, B => v = .bool x ∧ B = []
  | .str s, v, B => v = .string ⟨s.toArray⟩ ∧ B = []
  | .sl true xs, v, B => ∃ A c m rvs B', v = .slice A xs.length c ∧ xs.length ≤ c ∧ RepL w F xs rvs B' ∧
      ((xs = [] ∧ c = 0 ∧ B = []) ∨
        ∃ b cur t, A = some ⟨b, 0, none⟩ ∧ w.heap[b]? = some (.cells cur t (0, 0)) ∧ xs ≠ [] ∧ c * m ≤ cur.size ∧ B = b :: B' ∧ Rows w b 0 m rvs)
  | .sl false xs, v, B => ∃ A c m rvs, v = .slice A xs.length c ∧ xs.length ≤ c ∧ RepL w F xs rvs [] ∧ B = [] ∧
      (xs = [] ∨ ∃ b o, A = some ⟨b, o, none⟩ ∧ F b ∧ Rows w b o m rvs)
  | .agg cs, v, B => ∃ vs : List Value, v = .agg vs.toArray ∧ (∀ x ∈ cs, x.isAgg = false) ∧ RepL w F cs vs B
  | .fn f fs cs, v, B => ∃ vs ps rvs : List Value, v = .func (.func f) vs.toArray ps.toArray ∧ RepL w F fs vs [] ∧ RepL w F cs rvs [] ∧ Ptrs w F ps rvs ∧ B = []
  | .nilfn, v, B => v = .nilFunc ∧ B = []
  | .ghost, v, B => oneC v = true ∧ B = []
def RepL (w : World) (F : Nat → Prop) : List D → List Value → List Nat → Prop
  | [], vs, B => vs = [] ∧ B = []
  | x :: xs, vs, B => ∃ v vs' B1 B2, vs = v :: vs' ∧ B = B1 ++ B2 ∧ Rep w F x v B1 ∧ RepL w F xs vs' B2
end

/-! ### What a step leaves alone -/
/-- On some blocks two worlds agree. -/
def Agree (w w' : World) (S : Nat → Prop) : Prop := ∀ b, S b → w'.heap[b]? = w.heap[b]?
theorem cell_of_agree {w w' : World} {b o : Nat} (h : w'.heap[b]? = w.heap[b]?) : w'.cell? ⟨b, o, none⟩ = w.cell? ⟨b, o, none⟩ := by
  unfold World.cell?
  simp only [h]
theorem Rows.agree {w w' : World} {b o m : Nat} {rvs : List Value} (h : Rows w b o m rvs) (e : w'.heap[b]? = w.heap[b]?) : Rows w' b o m rvs :=
  fun j rv hj => ⟨(h j rv hj).1, fun i hi => by rw [cell_of_agree e]; exact (h j rv hj).2 i hi⟩
theorem AtCells.agree {w w' : World} {b o : Nat} {cs : Array Value} (h : AtCells w b o cs) (e : w'.heap[b]? = w.heap[b]?) : AtCells w' b o cs :=
  fun i hi => by rw [cell_of_agree e]; exact h i hi
theorem Ptrs.agree {w w' : World} {F F' : Nat → Prop} {ps rvs : List Value} (h : Ptrs w F ps rvs) (e : Agree w w' F) (hF : ∀ b, F b → F' b) : Ptrs w' F' ps rvs :=
  ⟨h.1, fun i p rv hp hr => by
    obtain ⟨b, o, e1, e2, e3⟩ := h.2 i p rv hp hr
    exact ⟨b, o, e1, hF _ e2, e3.agree (e b e2)⟩⟩

mutual
theorem Rep.frame {w w' : World} {F F' : Nat → Prop} (hF : ∀ b, F b → F' b) (eF : Agree w w' F) :
    ∀ (x : D) (v : Value) (B : List Nat), (∀ b ∈ B, w'.heap[b]? = w.heap[b]?) → Rep w F x v B → Rep w' F' x v B
  | .int _ _, _, _, _, h => by simpa only [Rep] using h
  | .bool _, _, _, _, h => by simpa only [Rep] using h
  | .str _, _, _, _, h => by simpa only [Rep] using h
  | .nilfn, _, _, _, h => by simpa only [Rep] using h
  | .ghost, _, _, _, h => by simpa only [Rep] using h
  | .sl true xs, v, B, e, h => by
    simp only [Rep] at h ⊢
    obtain ⟨A, c, m, rvs, B', h1, h2, h3, h4⟩ := h
    rcases h4 with ⟨h4, h5, h6⟩ | ⟨b, cur, t, h4, h5, h6, h7, h8, h9⟩
    · refine ⟨A, c, m, [], [], h1, h2, ?_, Or.inl ⟨h4, h5, h6⟩⟩
      subst h4
      simp [RepL]
    · subst h8
      refine ⟨A, c, m, rvs, B', h1, h2, RepL.frame hF eF xs rvs B' (fun b hb => e b (by simp [hb])) h3, Or.inr ⟨b, cur, t, h4, ?_, h6, h7, rfl, h9.agree (e b (by simp))⟩⟩
      rw [e b (by simp)]
      exact h5
  | .sl false xs, v, B, _, h => by
    simp only [Rep] at h ⊢
    obtain ⟨A, c, m, rvs, h1, h2, h3, h4, h5⟩ := h
    refine ⟨A, c, m, rvs, h1, h2, RepL.frame hF eF xs rvs [] (by simp) h3, h4, ?_⟩
    rcases h5 with h5 | ⟨b, o, h5, h6, h7⟩
    · exact Or.inl h5
    · exact Or.inr ⟨b, o, h5, hF _ h6, h7.agree (eF b h6)⟩
  | .agg cs, v, B, e, h => by
    simp only [Rep] at h ⊢
    obtain ⟨vs, h1, h2, h3⟩ := h
    exact ⟨vs, h1, h2, RepL.frame hF eF cs vs B e h3⟩
  | .fn f fs cs, v, B, _, h => by
    simp only [Rep] at h ⊢
    obtain ⟨vs, ps, rvs, h1, h2, h3, h4, h5⟩ := h
    exact ⟨vs, ps, rvs, h1, RepL.frame hF eF fs vs [] (by simp) h2, RepL.frame hF eF cs rvs [] (by simp) h3, h4.agree eF hF, h5⟩
theorem RepL.frame {w w' : World} {F F' : Nat → Prop} (hF : ∀ b, F b → F' b) (eF : Agree w w' F) :
    ∀ (xs : List D) (vs : List Value) (B : List Nat), (∀ b ∈ B, w'.heap[b]? = w.heap[b]?) → RepL w F xs vs B → RepL w' F' xs vs B
  | [], _, _, _, h => by simpa only [RepL] using h
  | x :: xs, vs, B, e, h => by
    simp only [RepL] at h ⊢
    obtain ⟨v, vs', B1, B2, h1, h2, h3, h4⟩ := h
    subst h2
    exact ⟨v, vs', B1, B2, h1, rfl, Rep.frame hF eF x v B1 (fun b hb => e b (by simp [hb])) h3, RepL.frame hF eF xs vs' B2 (fun b hb => e b (by simp [hb])) h4⟩
end

theorem frzL_length : ∀ xs : List D, (frzL xs).length = xs.length
  | [] => rfl
  | x :: xs => by simp [frzL, frzL_length xs]
theorem D.frz_isAgg : ∀ x : D, x.frz.isAgg = x.isAgg
  | .int _ _ => rfl
  | .bool _ => rfl
  | .str _ => rfl
  | .sl _ _ => rfl
  | .agg _ => rfl
  | .fn _ _ _ => rfl
  | .nilfn => rfl
  | .ghost => rfl
theorem frzL_isAgg : ∀ (xs : List D), (∀ x ∈ xs, x.isAgg = false) → ∀ x ∈ frzL xs, x.isAgg = false
  | [], _ => by simp [frzL]
  | y :: ys, h => by
    intro x hx
    simp only [frzL, List.mem_cons] at hx
    rcases hx with hx | hx
    · rw [hx, D.frz_isAgg]; exact h y (by simp)
    · exact frzL_isAgg ys (fun z hz => h z (by simp [hz])) x hx
theorem RepL.mono {w : World} {F F' : Nat → Prop} (hF : ∀ b, F b → F' b) (xs : List D) (vs : List Value) (B : List Nat) (h : RepL w F xs vs B) : RepL w F' xs vs B :=
  RepL.frame hF (fun _ _ => rfl) xs vs B (fun _ _ => rfl) h
theorem Rep.mono {w : World} {F F' : Nat → Prop} (hF : ∀ b, F b → F' b) (x : D) (v : Value) (B : List Nat) (h : Rep w F x v B) : Rep w F' x v B :=
  Rep.frame hF (fun _ _ => rfl) x v B (fun _ _ => rfl) h

mutual
/-- Shared and frozen: the owned blocks become read-only ones. -/
theorem Rep.frz {w : World} {F F' : Nat → Prop} (hF : ∀ b, F b → F' b) :
    ∀ (x : D) (v : Value) (B : List Nat), (∀ b ∈ B, F' b) → Rep w F x v B → Rep w F' x.frz v []
  | .int _ _, _, _, _, h => by simp only [Rep, D.frz] at h ⊢; exact ⟨h.1, trivial⟩
  | .bool _, _, _, _, h => by simp only [Rep, D.frz] at h ⊢; exact ⟨h.1, trivial⟩
  | .str _, _, _, _, h => by simp only [Rep, D.frz] at h ⊢; exact ⟨h.1, trivial⟩
  | .nilfn, _, _, _, h => by simp only [Rep, D.frz] at h ⊢; exact ⟨h.1, trivial⟩
  | .ghost, _, _, _, h => by simp only [Rep, D.frz] at h ⊢; exact ⟨h.1, trivial⟩
  | .sl true xs, v, B, e, h => by
    simp only [Rep, D.frz] at h ⊢
    obtain ⟨A, c, m, rvs, B', h1, h2, h3, h4⟩ := h
    rcases h4 with ⟨h4, h5, h6⟩ | ⟨b, cur, t, h4, h5, h6, h7, h8, h9⟩
    · subst h4
      exact ⟨A, c, m, [], by simpa [frzL] using h1, by simp [frzL], by simp [frzL, RepL], trivial, Or.inl (by simp [frzL])⟩
    · subst h8
      exact ⟨A, c, m, rvs, by rw [frzL_length]; exact h1, by rw [frzL_length]; exact h2, RepL.frz hF xs rvs B' (fun b hb => e b (by simp [hb])) h3, trivial, Or.inr ⟨b, 0, h4, e b (by simp), h9⟩⟩
  | .sl false xs, v, B, _, h => by
    simp only [Rep, D.frz] at h ⊢
    obtain ⟨A, c, m, rvs, h1, h2, h3, h4, h5⟩ := h
    refine ⟨A, c, m, rvs, by rw [frzL_length]; exact h1, by rw [frzL_length]; exact h2, RepL.frz hF xs rvs [] (by simp) h3, trivial, ?_⟩
    rcases h5 with h5 | ⟨b, o, h5, h6, h7⟩
    · subst h5; exact Or.inl (by simp [frzL])
    · exact Or.inr ⟨b, o, h5, hF _ h6, h7⟩
  | .agg cs, v, B, e, h => by
    simp only [Rep, D.frz] at h ⊢
    obtain ⟨vs, h1, h2, h3⟩ := h
    exact ⟨vs, h1, frzL_isAgg cs h2, RepL.frz hF cs vs B e h3⟩
  | .fn f fs cs, v, B, _, h => by
    simp only [Rep, D.frz] at h ⊢
    obtain ⟨vs, ps, rvs, h1, h2, h3, h4, h5⟩ := h
    exact ⟨vs, ps, rvs, h1, RepL.mono hF fs vs [] h2, RepL.mono hF cs rvs [] h3, h4.agree (fun _ _ => rfl) hF, trivial⟩
theorem RepL.frz {w : World} {F F' : Nat → Prop} (hF : ∀ b, F b → F' b) :
    ∀ (xs : List D) (vs : List Value) (B : List Nat), (∀ b ∈ B, F' b) → RepL w F xs vs B → RepL w F' (frzL xs) vs []
  | [], _, _, _, h => by simp only [RepL, frzL] at h ⊢; exact ⟨h.1, trivial⟩
  | x :: xs, vs, B, e, h => by
    simp only [RepL, frzL] at h ⊢
    obtain ⟨v, vs', B1, B2, h1, h2, h3, h4⟩ := h
    subst h2
    exact ⟨v, vs', [], [], h1, rfl, Rep.frz hF x v B1 (fun b hb => e b (by simp [hb])) h3, RepL.frz hF xs vs' B2 (fun b hb => e b (by simp [hb])) h4⟩
end

/-! ### Lists of cells -/
theorem RepL.length {w : World} {F : Nat → Prop} : ∀ {xs : List D} {vs : List Value} {B : List Nat}, RepL w F xs vs B → vs.length = xs.length
  | [], vs, B, h => by simp only [RepL] at h; simp [h.1]
  | x :: xs, vs, B, h => by
    simp only [RepL] at h
    obtain ⟨v, vs', B1, B2, h1, h2, h3, h4⟩ := h
    subst h1
    simp [RepL.length h4]
theorem RepL.nil {w : World} {F : Nat → Prop} : RepL w F [] [] [] := by simp [RepL]
theorem RepL.cons {w : World} {F : Nat → Prop} {x : D} {xs : List D} {v : Value} {vs : List Value} {B1 B2 : List Nat} (h : Rep w F x v B1) (k : RepL w F xs vs B2) :
    RepL w F (x :: xs) (v :: vs) (B1 ++ B2) := by
  simp only [RepL]
  exact ⟨v, vs, B1, B2, rfl, rfl, h, k⟩
theorem RepL.one {w : World} {F : Nat → Prop} {x : D} {v : Value} {B : List Nat} (h : Rep w F x v B) : RepL w F [x] [v] B := by
  have := RepL.cons h RepL.nil
  simpa using this
theorem RepL.of_one {w : World} {F : Nat → Prop} {x : D} {vs : List Value} {B : List Nat} (h : RepL w F [x] vs B) : ∃ v, vs = [v] ∧ Rep w F x v B := by
  simp only [RepL] at h
  obtain ⟨v, vs', B1, B2, h1, h2, h3, h4, h5⟩ := h
  subst h4 h5 h2
  exact ⟨v, h1, by simpa using h3⟩
theorem RepL.append {w : World} {F : Nat → Prop} : ∀ {xs ys : List D} {vs us : List Value} {B C : List Nat}, RepL w F xs vs B → RepL w F ys us C → RepL w F (xs ++ ys) (vs ++ us) (B ++ C)
  | [], ys, vs, us, B, C, h, k => by
    simp only [RepL] at h
    obtain ⟨rfl, rfl⟩ := h
    simpa using k
  | x :: xs, ys, vs, us, B, C, h, k => by
    simp only [RepL] at h
    obtain ⟨v, vs', B1, B2, h1, h2, h3, h4⟩ := h
    subst h1 h2
    simp only [List.cons_append, List.append_assoc]
    exact RepL.cons h3 (RepL.append h4 k)
theorem RepL.split {w : World} {F : Nat → Prop} : ∀ {xs ys : List D} {vs : List Value} {B : List Nat}, RepL w F (xs ++ ys) vs B →
    ∃ v1 v2 B1 B2, vs = v1 ++ v2 ∧ B = B1 ++ B2 ∧ RepL w F xs v1 B1 ∧ RepL w F ys v2 B2
  | [], ys, vs, B, h => ⟨[], vs, [], B, rfl, rfl, RepL.nil, h⟩
  | x :: xs, ys, vs, B, h => by
    simp only [List.cons_append, RepL] at h
    obtain ⟨v, vs', B1, B2, h1, h2, h3, h4⟩ := h
    obtain ⟨v1, v2, C1, C2, k1, k2, k3, k4⟩ := RepL.split h4
    subst h1 h2 k1 k2
    exact ⟨v :: v1, v2, B1 ++ C1, C2, rfl, by simp, RepL.cons h3 k3, k4⟩
/-- Three parts. -/
theorem RepL.part {w : World} {F : Nat → Prop} {xs : List D} {vs : List Value} {B : List Nat} (h : RepL w F xs vs B) (off n : Nat) (hn : off + n ≤ xs.length) :
    ∃ u1 u u2 L M R, vs = u1 ++ u ++ u2 ∧ u1.length = off ∧ u.length = n ∧ B = L ++ M ++ R ∧ RepL w F (xs.take off) u1 L ∧ RepL w F ((xs.drop off).take n) u M ∧ RepL w F (xs.drop (off + n)) u2 R := by
  have e : xs = (xs.take off ++ (xs.drop off).take n) ++ xs.drop (off + n) := by
    rw [← List.take_add, List.take_append_drop]
  rw [e] at h
  obtain ⟨v1, u2, B1, R, h1, h2, h3, h4⟩ := RepL.split h
  obtain ⟨u1, u, L, M, k1, k2, k3, k4⟩ := RepL.split h3
  subst h1 h2 k1 k2
  refine ⟨u1, u, u2, L, M, R, rfl, ?_, ?_, rfl, k3, k4, h4⟩
  · rw [k3.length]; simp; omega
  · rw [k4.length]; simp; omega
theorem spl_eq : ∀ (ys row : List D) (off : Nat), off + ys.length ≤ row.length → spl row off ys = row.take off ++ ys ++ row.drop (off + ys.length)
  | [], row, off, _ => by simp [spl]
  | y :: ys, row, off, h => by
    simp only [List.length_cons] at h
    rw [spl, spl_eq ys _ _ (by simp; omega)]
    have h1 : (row.set off y).take (off + 1) = row.take off ++ [y] := by
      have hlt : off < row.length := by omega
      have e : row.take (off + 1) = row.take off ++ [row[off]] := by
        rw [List.take_add_one]; simp [List.getElem?_eq_getElem hlt]
      rw [List.take_set, e, List.set_append_right _ _ (by simp; omega)]
      simp [Nat.min_eq_left (Nat.le_of_lt hlt)]
    have h2 : (row.set off y).drop (off + 1 + ys.length) = row.drop (off + (ys.length + 1)) := by
      rw [List.drop_set_of_lt (by omega)]
      congr 1
      omega
    rw [h1, h2]
    simp
theorem spl_length (ys row : List D) (off : Nat) (h : off + ys.length ≤ row.length) : (spl row off ys).length = row.length := by
  rw [spl_eq ys row off h]
  simp
  omega
theorem RepL.spl {w : World} {F : Nat → Prop} {xs ys : List D} {u1 u2 us : List Value} {L M R : List Nat} (off : Nat) (h : off + ys.length ≤ xs.length)
    (h1 : RepL w F (xs.take off) u1 L) (hy : RepL w F ys us M) (h2 : RepL w F (xs.drop (off + ys.length)) u2 R) : RepL w F (spl xs off ys) (u1 ++ us ++ u2) (L ++ M ++ R) := by
  rw [spl_eq ys xs off h]
  exact (h1.append hy).append h2
end Go.Pi

/- Parts of what is told: cells, elements; what a change of one part leaves of the rest. -/
namespace Go.Pi
open Go

theorem Rep.one {w : World} {F : Nat → Prop} : ∀ {x : D} {v : Value} {B : List Nat}, Rep w F x v B → x.isAgg = false → oneC v = true
  | .int _ _, _, _, h, _ => by simp only [Rep] at h; rw [h.1]; rfl
  | .bool _, _, _, h, _ => by simp only [Rep] at h; rw [h.1]; rfl
  | .str _, _, _, h, _ => by simp only [Rep] at h; rw [h.1]; rfl
  | .nilfn, _, _, h, _ => by simp only [Rep] at h; rw [h.1]; rfl
  | .ghost, _, _, h, _ => by simp only [Rep] at h; exact h.1
  | .sl true _, _, _, h, _ => by simp only [Rep] at h; obtain ⟨A, c, m, rvs, B', h1, _⟩ := h; rw [h1]; rfl
  | .sl false _, _, _, h, _ => by simp only [Rep] at h; obtain ⟨A, c, m, rvs, h1, _⟩ := h; rw [h1]; rfl
  | .fn _ _ _, _, _, h, _ => by simp only [Rep] at h; obtain ⟨vs, ps, rvs, h1, _⟩ := h; rw [h1]; rfl
  | .agg _, _, _, _, h => by simp [D.isAgg] at h
theorem cells_one {v : Value} (h : oneC v = true) : v.cells = #[v] := by
  cases v <;> simp_all [oneC, Value.cells]
theorem D.cells_one {x : D} (h : x.isAgg = false) : x.cells = [x] := by
  cases x <;> simp_all [D.isAgg, D.cells]
theorem RepL.ones {w : World} {F : Nat → Prop} : ∀ {xs : List D} {vs : List Value} {B : List Nat}, RepL w F xs vs B → (∀ x ∈ xs, x.isAgg = false) → ∀ v ∈ vs, oneC v = true
  | [], vs, B, h, _ => by simp only [RepL] at h; simp [h.1]
  | x :: xs, vs, B, h, k => by
    simp only [RepL] at h
    obtain ⟨v, vs', B1, B2, h1, h2, h3, h4⟩ := h
    subst h1
    intro u hu
    simp only [List.mem_cons] at hu
    rcases hu with hu | hu
    · rw [hu]; exact h3.one (k x (by simp))
    · exact RepL.ones h4 (fun y hy => k y (by simp [hy])) u hu
/-- A value's cells as data. -/
theorem Rep.cells {w : World} {F : Nat → Prop} {x : D} {v : Value} {B : List Nat} (h : Rep w F x v B) :
    RepL w F x.cells v.cells.toList B ∧ (∀ c ∈ x.cells, c.isAgg = false) ∧ (∀ u ∈ v.cells.toList, oneC u = true) ∧ v.cells.size = x.width := by
  cases hx : x.isAgg with
  | false =>
    have h1 := h.one hx
    rw [D.cells_one hx, Go.Pi.cells_one h1]
    refine ⟨RepL.one h, by simp [hx], by simp [h1], ?_⟩
    simp [D.width, D.cells_one hx]
  | true =>
    cases x <;> simp [D.isAgg] at hx
    simp only [Rep] at h
    obtain ⟨vs, h1, h2, h3⟩ := h
    subst h1
    simp only [Value.cells, D.cells]
    refine ⟨by simpa using h3, h2, by simpa using h3.ones h2, ?_⟩
    simp [D.width, D.cells, h3.length]
theorem Rep.agg {w : World} {F : Nat → Prop} {cs : List D} {vs : List Value} {B : List Nat} (h : RepL w F cs vs B) (k : ∀ x ∈ cs, x.isAgg = false) : Rep w F (.agg cs) (.agg vs.toArray) B := by
  simp only [Rep]
  exact ⟨vs, rfl, k, h⟩
/-- The value of the same form with other cells. -/
def vmk (v : Value) (us : List Value) : Value :=
  match v with
  | .agg _ => .agg us.toArray
  | _ => us.headD undef
theorem vmk_self (v : Value) : vmk v v.cells.toList = v := by
  cases v <;> simp [vmk, Value.cells]
theorem Rep.remk {w w' : World} {F F' : Nat → Prop} {x : D} {v : Value} {B B' : List Nat} {cs : List D} {us : List Value} (h : Rep w F x v B)
    (hl : cs.length = x.width) (hc : RepL w' F' cs us B') (hn : ∀ c ∈ cs, c.isAgg = false) : Rep w' F' (x.mk cs) (vmk v us) B' := by
  cases hx : x.isAgg with
  | false =>
    have h1 := h.one hx
    have hw : x.width = 1 := by simp [D.width, D.cells_one hx]
    rw [hw] at hl
    obtain ⟨y, rfl⟩ := List.length_eq_one_iff.mp hl
    obtain ⟨u, rfl, hu⟩ := hc.of_one
    have e1 : x.mk [y] = y := by cases x <;> simp_all [D.isAgg, D.mk]
    have e2 : vmk v [u] = u := by cases v <;> simp_all [oneC, vmk]
    rw [e1, e2]
    exact hu
  | true =>
    cases x <;> simp [D.isAgg] at hx
    simp only [Rep] at h
    obtain ⟨vs, h1, h2, h3⟩ := h
    subst h1
    exact Rep.agg hc hn
theorem D.mk_width {x : D} {cs : List D} (h : cs.length = x.width) (hn : ∀ c ∈ cs, c.isAgg = false) : (x.mk cs).width = x.width := by
  cases hx : x.isAgg with
  | false =>
    have hw : x.width = 1 := by simp [D.width, D.cells_one hx]
    rw [hw] at h
    obtain ⟨y, rfl⟩ := List.length_eq_one_iff.mp h
    have e1 : x.mk [y] = y := by cases x <;> simp_all [D.isAgg, D.mk]
    rw [e1, hw, D.width, D.cells_one (hn y (by simp))]
    rfl
  | true =>
    cases x <;> simp [D.isAgg] at hx
    simp only [D.mk, D.width, D.cells]
    simpa [D.width, D.cells] using h
theorem D.mk_cells {x : D} {cs : List D} (h : cs.length = x.width) (hn : ∀ c ∈ cs, c.isAgg = false) : (x.mk cs).cells = cs := by
  cases hx : x.isAgg with
  | false =>
    have hw : x.width = 1 := by simp [D.width, D.cells_one hx]
    rw [hw] at h
    obtain ⟨y, rfl⟩ := List.length_eq_one_iff.mp h
    have e1 : x.mk [y] = y := by cases x <;> simp_all [D.isAgg, D.mk]
    rw [e1, D.cells_one (hn y (by simp))]
  | true => cases x <;> simp_all [D.isAgg, D.mk, D.cells]
theorem D.mk_isAgg {x : D} {cs : List D} (h : cs.length = x.width) (hn : ∀ c ∈ cs, c.isAgg = false) : (x.mk cs).isAgg = x.isAgg := by
  cases hx : x.isAgg with
  | false =>
    have hw : x.width = 1 := by simp [D.width, D.cells_one hx]
    rw [hw] at h
    obtain ⟨y, rfl⟩ := List.length_eq_one_iff.mp h
    have e1 : x.mk [y] = y := by cases x <;> simp_all [D.isAgg, D.mk]
    rw [e1]
    exact hn y (by simp)
  | true => cases x <;> simp_all [D.isAgg, D.mk]

/-! ### One element of an owned slice -/
theorem set_eq_spl (xs : List D) (i : Nat) (x : D) : xs.set i x = spl xs i [x] := rfl
theorem Rows.head {w : World} {b o m : Nat} {rvs : List Value} (h : Rows w b o m rvs) {j : Nat} {rv : Value} (hj : rvs[j]? = some rv) : rv.cells.size = m := (h j rv hj).1
theorem cell_cells {w : World} {b o : Nat} {cur : Array Value} {t : TypeId} {fr : Nat × Nat} (h : w.heap[b]? = some (.cells cur t fr)) : w.cell? ⟨b, o, none⟩ = cur[o]? := by
  simp [World.cell?, h]

theorem app_mid (u1 u2 : List Value) (r r' : Value) (j : Nat) (h : j ≠ u1.length) : (u1 ++ [r] ++ u2)[j]? = (u1 ++ [r'] ++ u2)[j]? := by
  simp only [List.append_assoc, List.singleton_append]
  rcases Nat.lt_or_ge j u1.length with hl | hg
  · rw [List.getElem?_append_left hl, List.getElem?_append_left hl]
  · obtain ⟨q, hq⟩ : ∃ q, j - u1.length = q + 1 := ⟨j - u1.length - 1, by omega⟩
    rw [List.getElem?_append_right hg, List.getElem?_append_right hg, hq, List.getElem?_cons_succ, List.getElem?_cons_succ]

theorem Rep.elem {w : World} {F : Nat → Prop} {xs : List D} {v : Value} {B : List Nat} {i : Nat} {x : D} (h : Rep w F (.sl true xs) v B) (hi : xs[i]? = some x) :
    ∃ b cap cur t rv L Bx R, v = .slice (some ⟨b, 0, none⟩) xs.length cap ∧ w.heap[b]? = some (.cells cur t (0, 0)) ∧ i * x.width + x.width ≤ cur.size ∧
      B = b :: (L ++ Bx ++ R) ∧ rv.cells.size = x.width ∧ (∀ k, k < x.width → cur[i * x.width + k]? = rv.cells[k]?) ∧ Rep w F x rv Bx ∧
      ∀ (w' : World) (F' : Nat → Prop) (x' : D) (rv' : Value) (Bx' : List Nat) (cur' : Array Value) (t' : TypeId), (∀ c, F c → F' c) → Agree w w' F →
        (∀ c ∈ L ++ R, w'.heap[c]? = w.heap[c]?) → w'.heap[b]? = some (.cells cur' t' (0, 0)) → cur'.size = cur.size →
        (∀ k, k < i * x.width ∨ i * x.width + x.width ≤ k → cur'[k]? = cur[k]?) → (∀ k, k < x.width → cur'[i * x.width + k]? = rv'.cells[k]?) →
        rv'.cells.size = x.width → Rep w' F' x' rv' Bx' → Rep w' F' (.sl true (xs.set i x')) v (b :: (L ++ Bx' ++ R)) := by
  simp only [Rep] at h
  obtain ⟨A, c, m, rvs, B', h1, h2, h3, h4⟩ := h
  have hlt : i < xs.length := (List.getElem?_eq_some_iff.mp hi).1
  rcases h4 with ⟨h4, _⟩ | ⟨b, cur, t, h4, h5, h6, h7, h8, h9⟩
  · subst h4; simp at hi
  · subst h4 h8
    obtain ⟨u1, u, u2, L, M, R, k1, k2, k3, k4, k5, k6, k7⟩ := h3.part i 1 (by omega)
    have e1 : (xs.drop i).take 1 = [x] := by
      rw [List.drop_eq_getElem_cons hlt]
      have := (List.getElem?_eq_some_iff.mp hi).2
      simp [this]
    rw [e1] at k6
    obtain ⟨rv, rfl, hrv⟩ := k6.of_one
    subst k1 k4
    have hj : (u1 ++ [rv] ++ u2)[i]? = some rv := by
      rw [List.append_assoc, List.getElem?_append_right (by omega)]
      simp [k2]
    obtain ⟨hm, hcells⟩ := h9 i rv hj
    have hw := hrv.cells.2.2.2
    have hmw : m = x.width := by omega
    subst hmw
    refine ⟨b, c, cur, t, rv, L, M, R, h1, h5, ?_, rfl, hm, ?_, hrv, ?_⟩
    · have : (i + 1) * x.width ≤ c * x.width := Nat.mul_le_mul_right _ (by omega)
      rw [Nat.add_mul] at this
      omega
    · intro k hk
      have := hcells k hk
      rw [cell_cells h5] at this
      simpa using this
    · intro w' F' x' rv' Bx' cur' t' hF eF eLR hb hs hout hin hsz hx'
      simp only [Rep]
      have hRL : RepL w' F' (spl xs i [x']) (u1 ++ [rv'] ++ u2) (L ++ Bx' ++ R) :=
        RepL.spl i (by simp; omega) (RepL.frame hF eF _ _ _ (fun c hc => eLR c (by simp [hc])) k5) (RepL.one hx')
          (RepL.frame hF eF _ _ _ (fun c hc => eLR c (by simp [hc])) (by simpa using k7))
      refine ⟨some ⟨b, 0, none⟩, c, x.width, u1 ++ [rv'] ++ u2, L ++ Bx' ++ R, by simpa using h1, by simpa using h2, hRL, Or.inr ⟨b, cur', t', rfl, hb, ?_, by omega, rfl, ?_⟩⟩
      · intro e
        have h0 := congrArg List.length e
        rw [List.length_set, List.length_nil] at h0
        omega
      · intro j r hr
        by_cases hji : j = i
        · subst hji
          have e2 : (u1 ++ [rv'] ++ u2)[j]? = some rv' := by
            rw [List.append_assoc, List.getElem?_append_right (by omega)]
            simp [k2]
          rw [e2] at hr
          injection hr with hr
          subst hr
          refine ⟨hsz, fun k hk => ?_⟩
          rw [cell_cells hb]
          have := hin k hk
          simpa using this
        · have e2 : (u1 ++ [rv'] ++ u2)[j]? = (u1 ++ [rv] ++ u2)[j]? := by
            exact app_mid u1 u2 rv' rv j (by omega)
          rw [e2] at hr
          obtain ⟨q1, q2⟩ := h9 j r hr
          refine ⟨q1, fun k hk => ?_⟩
          have := q2 k hk
          rw [cell_cells h5] at this
          rw [cell_cells hb, ← this]
          apply hout
          simp only [Nat.zero_add]
          rcases Nat.lt_or_gt_of_ne hji with hlt' | hgt
          · left
            have : (j + 1) * x.width ≤ i * x.width := Nat.mul_le_mul_right _ hlt'
            rw [Nat.add_mul] at this
            omega
          · right
            have : (i + 1) * x.width ≤ j * x.width := Nat.mul_le_mul_right _ hgt
            rw [Nat.add_mul] at this
            omega
end Go.Pi

/- Slots and memory: the relation between the interpreter's state and the model's. -/
namespace Go.Pi
open Go

mutual
def SRep (w : World) (F : Nat → Prop) : V → Value → List Nat → Prop
  | .v x, v, B => Rep w F x v [] ∧ B = []
  | .own _ x, v, B => Rep w F x v B
  | .box _ x, v, B => ∃ b u t B', v = .pointer (some ⟨b, 0, none⟩) ∧ w.heap[b]? = some (.cells u.cells t (0, 0)) ∧ Rep w F x u B' ∧ B = b :: B'
  | .rp x, v, B => (∃ b o u, v = .pointer (some ⟨b, o, none⟩) ∧ F b ∧ AtCells w b o u.cells ∧ Rep w F x u []) ∧ B = []
  | .tup xs, v, B => ∃ vs : List Value, v = .tuple vs.toArray ∧ SRepL w F xs vs B
  | .mv _, _, B => B = []
  | .wp _ _ _ _ _, _, B => B = []
  | .ref _ _ _ _ _ _ _, _, B => B = []
  | .gone, _, B => B = []
def SRepL (w : World) (F : Nat → Prop) : List V → List Value → List Nat → Prop
  | [], vs, B => vs = [] ∧ B = []
  | x :: xs, vs, B => ∃ v vs' B1 B2, vs = v :: vs' ∧ B = B1 ++ B2 ∧ SRep w F x v B1 ∧ SRepL w F xs vs' B2
end

mutual
theorem SRep.frame {w w' : World} {F F' : Nat → Prop} (hF : ∀ b, F b → F' b) (eF : Agree w w' F) :
    ∀ (x : V) (v : Value) (B : List Nat), (∀ b ∈ B, w'.heap[b]? = w.heap[b]?) → SRep w F x v B → SRep w' F' x v B
  | .v x, v, B, _, h => by
    simp only [SRep] at h ⊢
    exact ⟨Rep.frame hF eF x v [] (by simp) h.1, h.2⟩
  | .own _ x, v, B, e, h => by
    simp only [SRep] at h ⊢
    exact Rep.frame hF eF x v B e h
  | .box _ x, v, B, e, h => by
    simp only [SRep] at h ⊢
    obtain ⟨b, u, t, B', h1, h2, h3, h4⟩ := h
    subst h4
    exact ⟨b, u, t, B', h1, by rw [e b (by simp)]; exact h2, Rep.frame hF eF x u B' (fun c hc => e c (by simp [hc])) h3, rfl⟩
  | .rp x, v, B, _, h => by
    simp only [SRep] at h ⊢
    obtain ⟨⟨b, o, u, h1, h2, h3, h4⟩, h5⟩ := h
    exact ⟨⟨b, o, u, h1, hF _ h2, h3.agree (eF b h2), Rep.frame hF eF x u [] (by simp) h4⟩, h5⟩
  | .tup xs, v, B, e, h => by
    simp only [SRep] at h ⊢
    obtain ⟨vs, h1, h2⟩ := h
    exact ⟨vs, h1, SRepL.frame hF eF xs vs B e h2⟩
  | .mv _, _, _, _, h => by simpa only [SRep] using h
  | .wp _ _ _ _ _, _, _, _, h => by simpa only [SRep] using h
  | .ref _ _ _ _ _ _ _, _, _, _, h => by simpa only [SRep] using h
  | .gone, _, _, _, h => by simpa only [SRep] using h
theorem SRepL.frame {w w' : World} {F F' : Nat → Prop} (hF : ∀ b, F b → F' b) (eF : Agree w w' F) :
    ∀ (xs : List V) (vs : List Value) (B : List Nat), (∀ b ∈ B, w'.heap[b]? = w.heap[b]?) → SRepL w F xs vs B → SRepL w' F' xs vs B
  | [], _, _, _, h => by simpa only [SRepL] using h
  | x :: xs, vs, B, e, h => by
    simp only [SRepL] at h ⊢
    obtain ⟨v, vs', B1, B2, h1, h2, h3, h4⟩ := h
    subst h2
    exact ⟨v, vs', B1, B2, h1, rfl, SRep.frame hF eF x v B1 (fun b hb => e b (by simp [hb])) h3, SRepL.frame hF eF xs vs' B2 (fun b hb => e b (by simp [hb])) h4⟩
end

/-! ### Places -/
/-- The cells of a root: its own value's, or its block's. -/
def rootVals (w : World) (v : V) (val : Value) : Option (Array Value) :=
  match v with
  | .own _ _ => some val.cells
  | .box _ _ =>
    match val with
    | .pointer (some ad) =>
      match w.heap[ad.block]? with
      | some (.cells cs _ _) => some cs
      | _ => none
    | _ => none
  | _ => none
/-- Where the cells of a place lie in memory. -/
def PAddr (w : World) (v : V) (val : Value) (hop : Hop) (b o : Nat) : Prop :=
  match hop with
  | none => (∃ p x, v = .box p x) ∧ val = .pointer (some ⟨b, 0, none⟩) ∧ o = 0
  | some (k, i) => ∃ x cs ob xs e n c o0, rootD v = some x ∧ rootVals w v val = some cs ∧ x.cells[k]? = some (.sl ob xs) ∧ xs[i]? = some e ∧
      cs[k]? = some (.slice (some ⟨b, o0, none⟩) n c) ∧ o = o0 + i * e.width
/-- The cells that stand at a place. -/
def PVals (w : World) (v : V) (val : Value) (hop : Hop) (off : Nat) (us : List Value) : Prop :=
  match hop with
  | none => ∃ cs, rootVals w v val = some cs ∧ ∀ k, k < us.length → cs[off + k]? = us[k]?
  | some _ => ∃ b o, PAddr w v val hop b o ∧ ∀ k, k < us.length → w.cell? ⟨b, o + off + k, none⟩ = us[k]?
def ofCells (ag : Bool) (us : List Value) : Value := if ag then .agg us.toArray else us.headD undef

def Loc (g : Nat → Sl) (a : Act) (w : World) (i : Nat) : Prop :=
  match (g i).v with
  | .wp r iv cv hop off => iv ≤ (g r).iv ∧ cv ≤ (g r).cv ∧ ((g r).iv = iv → (hop = none ∨ (g r).cv = cv) →
      ∃ b o, PAddr w (g r).v (a.tmps.getD r undef) hop b o ∧ a.tmps.getD i undef = .pointer (some ⟨b, o + off, none⟩))
  | .ref r iv cv hop off n ag => iv ≤ (g r).iv ∧ cv ≤ (g r).cv ∧ ((g r).iv = iv → (g r).cv = cv →
      ∃ us : List Value, us.length = n ∧ PVals w (g r).v (a.tmps.getD r undef) hop off us ∧ a.tmps.getD i undef = ofCells ag us)
  | .mv d => ∀ y, (g d).v = .box (i + 2) y → ∃ vs b t, a.tmps.getD i undef = .agg vs ∧ a.tmps.getD d undef = .pointer (some ⟨b, 0, none⟩) ∧ w.heap[b]? = some (.cells vs t (0, 0))
  | _ => True

structure Sim (F : Nat → Prop) (B : Nat → List Nat) (H : List Nat) (g : Nat → Sl) (a : Act) (w : World) : Prop where
  rep : ∀ i, SRep w F (g i).v (a.tmps.getD i undef) (B i)
  loc : ∀ i, Loc g a w i
  nd : ∀ i, (B i).Nodup
  dj : ∀ i j b, b ∈ B i → b ∈ B j → i = j
  nF : ∀ i b, b ∈ B i → ¬ F b
  lt : ∀ i b, b ∈ B i → b < w.heap.size
  ltF : ∀ b, F b → b < w.heap.size
  hnd : H.Nodup
  hB : ∀ b ∈ H, ∀ i, b ∉ B i
  hF : ∀ b ∈ H, ¬ F b
  hlt : ∀ b ∈ H, b < w.heap.size
  sz : ∀ i, a.tmps.size ≤ i → (g i).v = .gone
  df : a.defers = []
/-- The blocks that are owned. -/
def Own (B : Nat → List Nat) (H : List Nat) (b : Nat) : Prop := (∃ i, b ∈ B i) ∨ b ∈ H

/-- What became of the world, of what is frozen and of what is owned. -/
structure Ext (F O : Nat → Prop) (w : World) (F' O' : Nat → Prop) (w' : World) : Prop where
  os : w'.os = w.os
  tape : w'.tape = w.tape
  output : w'.output = w.output
  size : w.heap.size ≤ w'.heap.size
  keep : ∀ b, b < w.heap.size → ¬ O b → w'.heap[b]? = w.heap[b]?
  mono : ∀ b, F b → F' b
  newF : ∀ b, F' b → F b ∨ O b ∨ w.heap.size ≤ b
  newO : ∀ b, O' b → O b ∨ w.heap.size ≤ b
theorem Ext.refl (F O : Nat → Prop) (w : World) : Ext F O w F O w :=
  ⟨rfl, rfl, rfl, Nat.le_refl _, fun _ _ _ => rfl, fun _ h => h, fun _ h => Or.inl h, fun _ h => Or.inl h⟩
theorem Ext.trans {F F1 F2 O O1 O2 : Nat → Prop} {w w1 w2 : World} (h : Ext F O w F1 O1 w1) (k : Ext F1 O1 w1 F2 O2 w2) : Ext F O w F2 O2 w2 where
  os := k.os.trans h.os
  tape := k.tape.trans h.tape
  output := k.output.trans h.output
  size := Nat.le_trans h.size k.size
  keep b hb hn := by
    rw [k.keep b (Nat.lt_of_lt_of_le hb h.size) ?_, h.keep b hb hn]
    intro hi
    rcases h.newO b hi with hj | hge
    · exact hn hj
    · omega
  mono b hb := k.mono b (h.mono b hb)
  newF b hb := by
    rcases k.newF b hb with hb | hi | hb
    · exact h.newF b hb
    · rcases h.newO b hi with hj | hge
      · exact Or.inr (Or.inl hj)
      · exact Or.inr (Or.inr hge)
    · exact Or.inr (Or.inr (Nat.le_trans h.size hb))
  newO b hb := by
    rcases k.newO b hb with hj | hge
    · exact h.newO b hj
    · exact Or.inr (Nat.le_trans h.size hge)
theorem Sim.agree {F F' O' : Nat → Prop} {B : Nat → List Nat} {H : List Nat} {g : Nat → Sl} {a : Act} {w w' : World} (s : Sim F B H g a w) (h : Ext F (Own B H) w F' O' w') : Agree w w' F :=
  fun b hb => h.keep b (s.ltF b hb) fun ho => by
    rcases ho with ⟨i, hi⟩ | hi
    · exact s.nF i b hi hb
    · exact s.hF b hi hb

/-! ### A step on some slots -/
structure KeepR (g : Nat → Sl) (a : Act) (w : World) (g' : Nat → Sl) (a' : Act) (w' : World) (r : Nat) : Prop where
  iv : (g r).iv ≤ (g' r).iv
  cv : (g r).cv ≤ (g' r).cv
  box : (g' r).iv = (g r).iv → ∀ b o, PAddr w (g r).v (a.tmps.getD r undef) none b o → PAddr w' (g' r).v (a'.tmps.getD r undef) none b o
  addr : (g' r).iv = (g r).iv → (g' r).cv = (g r).cv → ∀ hop b o, PAddr w (g r).v (a.tmps.getD r undef) hop b o → PAddr w' (g' r).v (a'.tmps.getD r undef) hop b o
  vals : (g' r).iv = (g r).iv → (g' r).cv = (g r).cv → ∀ hop off us, PVals w (g r).v (a.tmps.getD r undef) hop off us → PVals w' (g' r).v (a'.tmps.getD r undef) hop off us
theorem Loc.keep {g g' : Nat → Sl} {a a' : Act} {w w' : World} {i : Nat} (h : Loc g a w i) (e : (g' i).v = (g i).v) (et : a'.tmps.getD i undef = a.tmps.getD i undef)
    (k : ∀ r, KeepR g a w g' a' w' r)
    (hm : ∀ d, (g i).v = .mv d → ∀ y, (g' d).v = .box (i + 2) y → (∃ y', (g d).v = .box (i + 2) y') ∧ a'.tmps.getD d undef = a.tmps.getD d undef ∧
      ∀ b cs t, a.tmps.getD d undef = .pointer (some ⟨b, 0, none⟩) → w.heap[b]? = some (.cells cs t (0, 0)) → w'.heap[b]? = some (.cells cs t (0, 0))) : Loc g' a' w' i := by
  unfold Loc at h ⊢
  rw [e]
  split
  · rename_i r iv cv hop off hv
    rw [hv] at h
    obtain ⟨h1, h2, h3⟩ := h
    have kr := k r
    refine ⟨Nat.le_trans h1 kr.iv, Nat.le_trans h2 kr.cv, fun q1 q2 => ?_⟩
    have e1 : (g r).iv = iv := by have := kr.iv; omega
    rcases q2 with q2 | q2
    · subst q2
      obtain ⟨b, o, p1, p2⟩ := h3 e1 (Or.inl rfl)
      exact ⟨b, o, kr.box (q1.trans e1.symm) b o p1, et.trans p2⟩
    · have e2 : (g r).cv = cv := by have := kr.cv; omega
      obtain ⟨b, o, p1, p2⟩ := h3 e1 (Or.inr e2)
      exact ⟨b, o, kr.addr (q1.trans e1.symm) (q2.trans e2.symm) hop b o p1, et.trans p2⟩
  · rename_i r iv cv hop off n ag hv
    rw [hv] at h
    obtain ⟨h1, h2, h3⟩ := h
    have kr := k r
    refine ⟨Nat.le_trans h1 kr.iv, Nat.le_trans h2 kr.cv, fun q1 q2 => ?_⟩
    have e1 : (g r).iv = iv := by have := kr.iv; omega
    have e2 : (g r).cv = cv := by have := kr.cv; omega
    obtain ⟨us, p1, p2, p3⟩ := h3 e1 e2
    exact ⟨us, p1, kr.vals (q1.trans e1.symm) (q2.trans e2.symm) hop off us p2, et.trans p3⟩
  · rename_i d hv
    rw [hv] at h
    intro y hy
    obtain ⟨⟨y', hy'⟩, q1, q2⟩ := hm d hv y hy
    obtain ⟨vs, b, t, p1, p2, p3⟩ := h y' hy'
    exact ⟨vs, b, t, et.trans p1, q1.trans p2, q2 b vs t p2 p3⟩
  · trivial
end Go.Pi

/- Places: what stands there, and what a change there leaves. -/
namespace Go.Pi
open Go

theorem take1_drop {α : Type} {xs : List α} {i : Nat} {x : α} (hi : xs[i]? = some x) : (xs.drop i).take 1 = [x] := by
  obtain ⟨hlt, he⟩ := List.getElem?_eq_some_iff.mp hi
  rw [List.drop_eq_getElem_cons hlt]
  simp [he]
/-- One cell of a row, and the row with another in its place. -/
theorem RepL.at {w : World} {F : Nat → Prop} {xs : List D} {vs : List Value} {B : List Nat} {i : Nat} {x : D} (h : RepL w F xs vs B) (hi : xs[i]? = some x) :
    ∃ v L M R, vs[i]? = some v ∧ B = L ++ M ++ R ∧ Rep w F x v M ∧
      ∀ (w' : World) (F' : Nat → Prop) (y : D) (M' : List Nat), (∀ c, F c → F' c) → Agree w w' F → (∀ c ∈ L ++ R, w'.heap[c]? = w.heap[c]?) →
        Rep w' F' y v M' → RepL w' F' (xs.set i y) vs (L ++ M' ++ R) := by
  have hlt : i < xs.length := (List.getElem?_eq_some_iff.mp hi).1
  obtain ⟨u1, u, u2, L, M, R, k1, k2, k3, k4, k5, k6, k7⟩ := h.part i 1 (by omega)
  rw [take1_drop hi] at k6
  obtain ⟨v, rfl, hv⟩ := k6.of_one
  subst k1 k4
  refine ⟨v, L, M, R, ?_, rfl, hv, ?_⟩
  · rw [List.append_assoc, List.getElem?_append_right (by omega)]
    simp [k2]
  · intro w' F' y M' hF eF e hy
    exact RepL.spl i (by simp; omega) (RepL.frame hF eF _ _ _ (fun c hc => e c (by simp [hc])) k5) (RepL.one hy) (RepL.frame hF eF _ _ _ (fun c hc => e c (by simp [hc])) (by simpa using k7))

/-- Part of a row, and the row with another part in its place. -/
theorem RepL.mid {w : World} {F : Nat → Prop} {xs : List D} {vs : List Value} {B : List Nat} (h : RepL w F xs vs B) (off n : Nat) (hn : off + n ≤ xs.length) :
    ∃ us L M R, us.length = n ∧ (∀ k, k < n → vs[off + k]? = us[k]?) ∧ B = L ++ M ++ R ∧ RepL w F ((xs.drop off).take n) us M ∧
      ∀ (w' : World) (F' : Nat → Prop) (ys : List D) (us' : List Value) (M' : List Nat), (∀ c, F c → F' c) → Agree w w' F → (∀ c ∈ L ++ R, w'.heap[c]? = w.heap[c]?) →
        ys.length = n → RepL w' F' ys us' M' → RepL w' F' (Go.Pi.spl xs off ys) (vs.take off ++ us' ++ vs.drop (off + n)) (L ++ M' ++ R) := by
  obtain ⟨u1, u, u2, L, M, R, k1, k2, k3, k4, k5, k6, k7⟩ := h.part off n hn
  subst k1 k4
  refine ⟨u, L, M, R, k3, ?_, rfl, k6, ?_⟩
  · intro k hk
    rw [List.append_assoc, List.getElem?_append_right (by omega), List.getElem?_append_left (by omega)]
    congr 1
    omega
  · intro w' F' ys us' M' hF eF e hl hy
    have e1 : (u1 ++ u ++ u2).take off = u1 := by
      rw [List.append_assoc, List.take_append_of_le_length (by omega), ← k2, List.take_length]
    have e2 : (u1 ++ u ++ u2).drop (off + n) = u2 := by
      rw [← k2, ← k3, ← List.length_append, List.drop_left]
    rw [e1, e2]
    exact RepL.spl off (by omega) (RepL.frame hF eF _ _ _ (fun c hc => e c (by simp [hc])) k5) hy (RepL.frame hF eF _ _ _ (fun c hc => e c (by simp [hc])) (by rw [hl]; exact k7))
theorem mid_self (vs us : List Value) (off n : Nat) (hl : us.length = n) (h : ∀ k, k < n → vs[off + k]? = us[k]?) (hn : off + n ≤ vs.length) : vs.take off ++ us ++ vs.drop (off + n) = vs := by
  apply List.ext_getElem?
  intro i
  rcases Nat.lt_or_ge i off with h1 | h1
  · rw [List.append_assoc, List.getElem?_append_left (by simp; omega), List.getElem?_take_of_lt h1]
  · rcases Nat.lt_or_ge i (off + n) with h2 | h2
    · rw [List.append_assoc, List.getElem?_append_right (by simp; omega), List.getElem?_append_left (by simp; omega)]
      obtain ⟨k, rfl⟩ : ∃ k, i = off + k := ⟨i - off, by omega⟩
      rw [h k (by omega)]
      congr 1
      simp
      omega
    · rw [List.getElem?_append_right (by simp; omega), List.getElem?_drop]
      congr 1
      simp
      omega
theorem flat_set {cs : List D} (h : ∀ c ∈ cs, c.isAgg = false) (i : Nat) (y : D) (hy : y.isAgg = false) : ∀ c ∈ cs.set i y, c.isAgg = false := by
  intro c hc
  rcases List.mem_or_eq_of_mem_set hc with hc | hc
  · exact h c hc
  · rw [hc]; exact hy
theorem flat_spl : ∀ (ys cs : List D) (off : Nat), (∀ c ∈ cs, c.isAgg = false) → (∀ c ∈ ys, c.isAgg = false) → ∀ c ∈ spl cs off ys, c.isAgg = false
  | [], cs, off, h, _ => by simpa [spl] using h
  | y :: ys, cs, off, h, k => by
    rw [spl]
    exact flat_spl ys _ _ (flat_set h off y (k y (by simp))) (fun c hc => k c (by simp [hc]))

/-- The element behind a hop, from an owned slice: its row, and the root with another element in its place. -/
theorem RepL.hop {w : World} {F : Nat → Prop} {cs : List D} {vs : List Value} {B : List Nat} {o i : Nat} {xs : List D} {x : D} (h : RepL w F cs vs B)
    (ho : cs[o]? = some (.sl true xs)) (hi : xs[i]? = some x) :
    ∃ b len cap cur t rv L M R, vs[o]? = some (.slice (some ⟨b, 0, none⟩) len cap) ∧ w.heap[b]? = some (.cells cur t (0, 0)) ∧ i * x.width + x.width ≤ cur.size ∧
      B = L ++ M ++ R ∧ b ∈ L ∧ rv.cells.size = x.width ∧ (∀ k, k < x.width → cur[i * x.width + k]? = rv.cells[k]?) ∧ Rep w F x rv M ∧
      ∀ (w' : World) (F' : Nat → Prop) (x' : D) (rv' : Value) (M' : List Nat) (cur' : Array Value) (t' : TypeId), (∀ c, F c → F' c) → Agree w w' F →
        (∀ c ∈ L ++ R, c ≠ b → w'.heap[c]? = w.heap[c]?) → B.Nodup → w'.heap[b]? = some (.cells cur' t' (0, 0)) → cur'.size = cur.size →
        (∀ k, k < i * x.width ∨ i * x.width + x.width ≤ k → cur'[k]? = cur[k]?) → (∀ k, k < x.width → cur'[i * x.width + k]? = rv'.cells[k]?) →
        rv'.cells.size = x.width → Rep w' F' x' rv' M' → RepL w' F' (cs.set o (.sl true (xs.set i x'))) vs (L ++ M' ++ R) := by
  obtain ⟨v, L1, M1, R1, h1, h2, h3, h4⟩ := h.at ho
  obtain ⟨b, cap, cur, t, rv, L, M, R, k1, k2, k3, k4, k5, k6, k7, k8⟩ := h3.elem hi
  subst k1 h2 k4
  refine ⟨b, xs.length, cap, cur, t, rv, L1 ++ b :: L, M, R ++ R1, h1, k2, k3, by simp, by simp, k5, k6, k7, ?_⟩
  intro w' F' x' rv' M' cur' t' hF eF e nd hb hs hout hin hsz hx
  have hnd : b ∉ L1 ∧ b ∉ L ∧ b ∉ R ∧ b ∉ R1 := by
    simp only [List.nodup_append, List.nodup_cons, List.mem_append, List.mem_cons, List.append_assoc, List.cons_append] at nd
    refine ⟨fun hh => ?_, fun hh => ?_, fun hh => ?_, fun hh => ?_⟩
    · have := nd.2.2 b hh b (Or.inl rfl); exact this rfl
    · exact nd.2.1.1 (Or.inl hh)
    · exact nd.2.1.1 (Or.inr (Or.inr (Or.inl hh)))
    · exact nd.2.1.1 (Or.inr (Or.inr (Or.inr hh)))
  have hi1 : ∀ c ∈ L ++ R, w'.heap[c]? = w.heap[c]? := by
    intro c hc
    refine e c ?_ ?_
    · simp only [List.mem_append, List.mem_cons] at hc ⊢
      rcases hc with hc | hc <;> simp [hc]
    · rintro rfl
      rcases List.mem_append.mp hc with hc | hc
      · exact hnd.2.1 hc
      · exact hnd.2.2.1 hc
  have hi2 : ∀ c ∈ L1 ++ R1, w'.heap[c]? = w.heap[c]? := by
    intro c hc
    refine e c ?_ ?_
    · simp only [List.mem_append, List.mem_cons] at hc ⊢
      rcases hc with hc | hc <;> simp [hc]
    · rintro rfl
      rcases List.mem_append.mp hc with hc | hc
      · exact hnd.1 hc
      · exact hnd.2.2.2 hc
  have hr := k8 w' F' x' rv' M' cur' t' hF eF hi1 hb hs hout hin hsz hx
  have := h4 w' F' _ _ hF eF hi2 hr
  simpa using this
end Go.Pi

/- Roots: reading at a place, changing at a place. -/
namespace Go.Pi
open Go

/-- The cells of a root. -/
theorem SRep.cells {w : World} {F : Nat → Prop} {V : V} {val : Value} {B : List Nat} {x : D} (h : SRep w F V val B) (hx : rootD V = some x) :
    ∃ cs B0, rootVals w V val = some cs ∧ RepL w F x.cells cs.toList B0 ∧ (∀ c ∈ x.cells, c.isAgg = false) ∧ cs.size = x.width ∧ (∀ b ∈ B0, b ∈ B) := by
  cases V <;> simp [rootD] at hx
  · subst hx
    simp only [SRep] at h
    obtain ⟨h1, h2, _, h4⟩ := h.cells
    exact ⟨val.cells, B, rfl, h1, h2, h4, fun _ hb => hb⟩
  · subst hx
    simp only [SRep] at h
    obtain ⟨b, u, t, B', e1, e2, e3, e4⟩ := h
    obtain ⟨h1, h2, _, h4⟩ := e3.cells
    subst e1 e4
    exact ⟨u.cells, B', by simp [rootVals, e2], h1, h2, h4, fun _ hb => by simp [hb]⟩

theorem rep_ofCells {w : World} {F : Nat → Prop} {row : List D} {off n : Nat} {ag : Bool} {y : D} {us : List Value} {M : List Nat} (hy : subD row off n ag = some y)
    (hf : ∀ c ∈ row, c.isAgg = false) (hr : RepL w F ((row.drop off).take n) us M) : Rep w F y (ofCells ag us) M ∧ y.width = n ∧ y.isAgg = ag ∧ off + n ≤ row.length ∧ y.cells = (row.drop off).take n := by
  unfold subD at hy
  split at hy
  · rename_i hle
    split at hy
    · rename_i hag
      injection hy with hy
      subst hy
      have hf' : ∀ c ∈ (row.drop off).take n, c.isAgg = false := fun c hc => hf c (List.mem_of_mem_drop (List.mem_of_mem_take hc))
      refine ⟨by simpa [ofCells, hag] using Rep.agg hr hf', ?_, by simp [D.isAgg, hag], hle, rfl⟩
      simp [D.width, D.cells]
      omega
    · rename_i hag
      split at hy
      · rename_i hn
        subst hn
        rw [take1_drop hy] at hr
        obtain ⟨u, rfl, hu⟩ := hr.of_one
        have hya : y.isAgg = false := hf y (List.mem_of_getElem? hy)
        refine ⟨by simpa [ofCells, hag] using hu, by simp [D.width, D.cells_one hya], by simp [hya, hag], hle, ?_⟩
        rw [take1_drop hy, D.cells_one hya]
      · simp at hy
  · simp at hy
theorem rowAt_flat {w : World} {F : Nat → Prop} {cs : List D} {vs : List Value} {B : List Nat} {hop : Hop} {row : List D} (h : RepL w F cs vs B) (hf : ∀ c ∈ cs, c.isAgg = false)
    (hr : rowAt cs hop = some row) : ∀ c ∈ row, c.isAgg = false := by
  cases hop with
  | none => simp [rowAt] at hr; subst hr; exact hf
  | some p =>
    obtain ⟨o, i⟩ := p
    simp only [rowAt] at hr
    split at hr
    · rename_i ob xs ho
      rw [Option.map_eq_some_iff] at hr
      obtain ⟨x, hi, rfl⟩ := hr
      cases ob with
      | true =>
        obtain ⟨b, len, cap, cur, t, rv, L, M, R, _, _, _, _, _, _, _, k7, _⟩ := h.hop ho hi
        exact k7.cells.2.1
      | false =>
        obtain ⟨v, L, M, R, _, _, h3, _⟩ := h.at ho
        simp only [Rep] at h3
        obtain ⟨A, c, m, rvs, _, _, h5, _, _⟩ := h3
        obtain ⟨rv, L', M', R', _, _, h8, _⟩ := h5.at hi
        exact h8.cells.2.1
    · simp at hr

/-- What stands at a place. -/
theorem SRep.read {w : World} {F : Nat → Prop} {V : V} {val : Value} {B : List Nat} {x : D} {hop : Hop} {row : List D} {off n : Nat} {ag : Bool} {y : D}
    (h : SRep w F V val B) (hx : rootD V = some x) (hr : rowAt x.cells hop = some row) (hy : subD row off n ag = some y) :
    ∃ us M, us.length = n ∧ PVals w V val hop off us ∧ (∀ b ∈ M, b ∈ B) ∧ Rep w F y (ofCells ag us) M ∧ y.width = n ∧ y.isAgg = ag := by
  obtain ⟨cs, B0, e1, e2, e3, e4, e5⟩ := h.cells hx
  have hflat := rowAt_flat e2 e3 hr
  have hle : off + n ≤ row.length := by
    unfold subD at hy
    split at hy
    · assumption
    · simp at hy
  cases hop with
  | none =>
    simp [rowAt] at hr
    subst hr
    obtain ⟨us, L, M, R, k1, k2, k3, k4, _⟩ := e2.mid off n hle
    obtain ⟨q1, q2, q3, _⟩ := rep_ofCells hy hflat k4
    refine ⟨us, M, k1, ⟨cs, e1, fun k hk => ?_⟩, fun b hb => e5 b (by rw [k3]; simp [hb]), q1, q2, q3⟩
    have := k2 k (by omega)
    simpa using this
  | some p =>
    obtain ⟨o, i⟩ := p
    simp only [rowAt] at hr
    split at hr
    · rename_i ob xs ho
      rw [Option.map_eq_some_iff] at hr
      obtain ⟨e, hi, rfl⟩ := hr
      cases ob with
      | true =>
        obtain ⟨b, len, cap, cur, t, rv, L, M, R, p1, p2, p3, p4, _, p6, p7, p8, _⟩ := e2.hop ho hi
        obtain ⟨r1, _, _, _⟩ := p8.cells
        obtain ⟨us, L', M', R', k1, k2, k3, k4, _⟩ := r1.mid off n hle
        obtain ⟨q1, q2, q3, _⟩ := rep_ofCells hy hflat k4
        refine ⟨us, M', k1, ⟨b, 0 + i * e.width, ⟨x, cs, true, xs, e, len, cap, 0, hx, e1, ho, hi, by simpa using p1, rfl⟩, fun k hk => ?_⟩, fun c hc => e5 c ?_, q1, q2, q3⟩
        · rw [Nat.zero_add, cell_cells p2, Nat.add_assoc, p7 (off + k) (by simp [D.width] at *; omega)]
          have := k2 k (by omega)
          simpa using this
        · rw [p4, k3]; simp [hc]
      | false =>
        obtain ⟨v, L, M, R, g1, g2, g3, _⟩ := e2.at ho
        simp only [Rep] at g3
        obtain ⟨A, c, m, rvs, g4, _, g5, _, g6⟩ := g3
        rcases g6 with g6 | ⟨b, o', g6, g7, g8⟩
        · subst g6; simp at hi
        · subst g4 g6
          obtain ⟨rv, L', M', R', f1, f2, f3, _⟩ := g5.at hi
          obtain ⟨d1, d2⟩ := g8 i rv f1
          obtain ⟨r1, _, _, r4⟩ := f3.cells
          obtain ⟨us, L2, M2, R2, k1, k2, k3, k4, _⟩ := r1.mid off n hle
          obtain ⟨q1, q2, q3, _⟩ := rep_ofCells hy hflat k4
          have hM : M' = [] := by
            have : ∀ (P Q S : List Nat), ([] : List Nat) = P ++ Q ++ S → Q = [] := by
              intro P Q S hh
              have := congrArg List.length hh
              simp at this
              exact List.eq_nil_of_length_eq_zero (by omega)
            exact this _ _ _ f2
          refine ⟨us, M2, k1, ⟨b, o' + i * e.width, ⟨x, cs, false, xs, e, _, c, o', hx, e1, ho, hi, by simpa using g1, rfl⟩, fun k hk => ?_⟩, fun q hq => ?_, q1, q2, q3⟩
          · have hm : m = e.width := by omega
            subst hm
            have h1 := d2 (off + k) (by simp [D.width] at *; omega)
            have h2 := k2 k (by omega)
            rw [← Nat.add_assoc] at h1
            rw [h1]
            simpa using h2
          · rw [hM] at k3
            have := congrArg List.length k3
            simp at this
            have : M2 = [] := List.eq_nil_of_length_eq_zero (by omega)
            simp [this] at hq
    · simp at hr

theorem withD_root {v : V} {x y : D} (h : rootD v = some x) : rootD (withD v y) = some y := by
  cases v <;> simp_all [rootD, withD]
/-- A root with other data in its cells, the values of its cells unchanged or not. -/
theorem SRep.withCells {w : World} {F : Nat → Prop} {V : V} {val : Value} {B : List Nat} {x : D} (h : SRep w F V val B) (hx : rootD V = some x) :
    ∃ (cs : Array Value) (Bx Bl : List Nat), rootVals w V val = some cs ∧ RepL w F x.cells cs.toList Bx ∧ (∀ c ∈ x.cells, c.isAgg = false) ∧ B = Bl ++ Bx ∧ (∀ p, V = .box p x → ∃ b0, val = .pointer (some ⟨b0, 0, none⟩) ∧ b0 ∈ Bl) ∧
      ∀ (w' : World) (F' : Nat → Prop) (cs' : List D) (B' : List Nat), cs'.length = x.width → (∀ c ∈ cs', c.isAgg = false) → (∀ c ∈ Bl, w'.heap[c]? = w.heap[c]?) → RepL w' F' cs' cs.toList B' →
        SRep w' F' (withD V (x.mk cs')) val (Bl ++ B') := by
  cases V <;> simp [rootD] at hx
  · subst hx
    simp only [SRep] at h
    obtain ⟨h1, h2, _, h4⟩ := h.cells
    refine ⟨val.cells, B, [], rfl, h1, h2, rfl, by simp, ?_⟩
    intro w' F' cs' B' hl hf _ hr
    simp only [withD, SRep, List.nil_append]
    have := Rep.remk h hl hr hf
    rwa [vmk_self] at this
  · subst hx
    simp only [SRep] at h
    obtain ⟨b, u, t, B', e1, e2, e3, e4⟩ := h
    obtain ⟨h1, h2, _, h4⟩ := e3.cells
    subst e1 e4
    refine ⟨u.cells, B', [b], by simp [rootVals, e2], h1, h2, rfl, fun _ _ => ⟨b, rfl, by simp⟩, ?_⟩
    intro w' F' cs' B' hl hf hb hr
    simp only [withD, SRep]
    have := Rep.remk e3 hl hr hf
    rw [vmk_self] at this
    exact ⟨b, u, t, B', rfl, by rw [hb b (by simp)]; exact e2, this, rfl⟩
theorem setAt_length {cs : List D} {hop : Hop} {off : Nat} {ys cs' : List D} (h : setAt cs hop off ys = some cs') : cs'.length = cs.length := by
  unfold setAt at h
  split at h
  · split at h
    · injection h with h; subst h; exact spl_length _ _ _ (by assumption)
    · simp at h
  · split at h
    · split at h
      · split at h
        · injection h with h; subst h; simp
        · simp at h
      · simp at h
    · simp at h
theorem SRep.same {w : World} {F : Nat → Prop} {V : V} {val : Value} {B : List Nat} {x : D} {hop : Hop} {off : Nat} {ys cs' : List D}
    (h : SRep w F V val B) (hx : rootD V = some x) (nd : B.Nodup) (hset : setAt x.cells hop off ys = some cs') (hys : ∀ c ∈ ys, c.isAgg = false) :
    ∃ us L M R row, us.length = ys.length ∧ PVals w V val hop off us ∧ B = L ++ M ++ R ∧ rowAt x.cells hop = some row ∧ (∀ c ∈ row, c.isAgg = false) ∧ off + ys.length ≤ row.length ∧
      RepL w F ((row.drop off).take ys.length) us M ∧ (∀ c ∈ cs', c.isAgg = false) ∧ (∀ p, V = .box p x → ∃ b0, val = .pointer (some ⟨b0, 0, none⟩) ∧ b0 ∈ L) ∧
      ∀ (w' : World) (F' : Nat → Prop) (M' : List Nat), (∀ c, F c → F' c) → Agree w w' F → (∀ c ∈ L ++ R, w'.heap[c]? = w.heap[c]?) → RepL w' F' ys us M' →
        SRep w' F' (withD V (x.mk cs')) val (L ++ M' ++ R) := by
  have hlen := setAt_length hset
  obtain ⟨cs, Bx, Bl, g1, g2, g3, g4, g4b, g5⟩ := h.withCells hx
  subst g4
  have hvl : cs.toList.length = x.cells.length := g2.length
  cases hop with
  | none =>
    simp only [setAt] at hset
    split at hset
    · rename_i hle
      injection hset with hset
      subst hset
      obtain ⟨us, L, M, R, k1, k2, k3, k4, k5⟩ := g2.mid off ys.length hle
      subst k3
      refine ⟨us, Bl ++ L, M, R, x.cells, k1, ⟨cs, g1, fun k hk => ?_⟩, by simp, rfl, g3, hle, k4, flat_spl _ _ _ g3 hys, fun p hp => by obtain ⟨b0, q1, q2⟩ := g4b p hp; exact ⟨b0, q1, by simp [q2]⟩, ?_⟩
      · have := k2 k (by omega)
        simpa using this
      · intro w' F' M' hF eF e hr
        have h1 := k5 w' F' ys us M' hF eF (fun c hc => e c (by rcases List.mem_append.mp hc with hc | hc <;> simp [hc])) rfl hr
        rw [mid_self _ us off ys.length k1 k2 (by omega)] at h1
        have := g5 w' F' _ _ hlen (flat_spl _ _ _ g3 hys) (fun c hc => e c (by simp [hc])) h1
        simpa using this
    · simp at hset
  | some p =>
    obtain ⟨o, i⟩ := p
    simp only [setAt] at hset
    split at hset
    · rename_i xs ho
      split at hset
      · rename_i e hi
        split at hset
        · rename_i hle
          injection hset with hset
          subst hset
          obtain ⟨b, len, cap, cur, t, rv, L, M, R, p1, p2, p3, p4, p5, p6, p7, p8, p9⟩ := g2.hop ho hi
          obtain ⟨r1, r2, _, r4⟩ := p8.cells
          obtain ⟨us, L2, M2, R2, k1, k2, k3, k4, k5⟩ := r1.mid off ys.length hle
          subst p4 k3
          have hfl : ∀ c ∈ x.cells.set o (D.sl true (xs.set i (e.mk (spl e.cells off ys)))), c.isAgg = false := flat_set g3 _ _ rfl
          refine ⟨us, Bl ++ (L ++ L2), M2, R2 ++ R, e.cells, k1, ⟨b, 0 + i * e.width, ⟨x, cs, true, xs, e, len, cap, 0, hx, g1, ho, hi, by simpa using p1, rfl⟩, fun k hk => ?_⟩, by simp, by simp [rowAt, ho, hi], r2, hle, k4, hfl, fun p hp => by obtain ⟨b0, q1, q2⟩ := g4b p hp; exact ⟨b0, q1, by simp [q2]⟩, ?_⟩
          · rw [Nat.zero_add, cell_cells p2, Nat.add_assoc, p7 (off + k) (by simp [D.width] at *; omega)]
            have := k2 k (by omega)
            simpa using this
          · intro w' F' M' hF eF ee hr
            have h1 := k5 w' F' ys us M' hF eF (fun c hc => ee c (by rcases List.mem_append.mp hc with hc | hc <;> simp [hc])) rfl hr
            rw [mid_self _ us off ys.length k1 k2 (by simp [D.width] at *; omega)] at h1
            have hx' := Rep.remk p8 (spl_length _ _ _ hle) h1 (flat_spl _ _ _ r2 hys)
            rw [vmk_self] at hx'
            have nd' := (List.nodup_append.mp nd).2.1
            have h2 := p9 w' F' _ rv _ cur t hF eF (fun c hc _ => ee c (by rcases List.mem_append.mp hc with hc | hc <;> simp [hc])) nd'
              (by rw [ee b (by simp [p5])]; exact p2) rfl (fun _ _ => rfl) p7 p6 hx'
            have := g5 w' F' _ _ hlen hfl (fun c hc => ee c (by simp [hc])) h2
            simpa using this
        · simp at hset
      · simp at hset
    · simp at hset

theorem vmk_cells {u : Value} {us : List Value} (h : us.length = u.cells.size) (ho : ∀ v ∈ us, oneC v = true) (hu : (∃ cs, u = .agg cs) ∨ oneC u = true) : (vmk u us).cells = us.toArray := by
  rcases hu with ⟨cs, rfl⟩ | hu
  · rfl
  · rw [cells_one hu] at h
    obtain ⟨v, rfl⟩ := List.length_eq_one_iff.mp h
    have : vmk u [v] = v := by cases u <;> simp_all [oneC, vmk]
    rw [this, cells_one (ho v (by simp))]
theorem Rep.form {w : World} {F : Nat → Prop} {x : D} {u : Value} {B : List Nat} (h : Rep w F x u B) : (∃ cs, u = .agg cs) ∨ oneC u = true := by
  cases hx : x.isAgg with
  | false => exact Or.inr (h.one hx)
  | true =>
    cases x <;> simp [D.isAgg] at hx
    simp only [Rep] at h
    obtain ⟨vs, h1, _⟩ := h
    exact Or.inl ⟨_, h1⟩
/-- A list whose part is another one. -/
theorem cells_eq_mid {cur cur' : Array Value} {us' : List Value} {p n : Nat} (hn : p + n ≤ cur.size) (hl : us'.length = n)
    (hout : ∀ k, k < p ∨ p + n ≤ k → cur'[k]? = cur[k]?) (hin : ∀ k, k < n → cur'[p + k]? = us'[k]?) : cur'.toList = cur.toList.take p ++ us' ++ cur.toList.drop (p + n) := by
  apply List.ext_getElem?
  intro i
  have e : cur'.toList[i]? = cur'[i]? := by simp
  rw [e]
  rcases Nat.lt_or_ge i p with h1 | h1
  · rw [hout i (Or.inl h1), List.append_assoc, List.getElem?_append_left (by simp; omega), List.getElem?_take_of_lt h1]; simp
  · rcases Nat.lt_or_ge i (p + n) with h2 | h2
    · rw [List.append_assoc, List.getElem?_append_right (by simp; omega), List.getElem?_append_left (by simp; omega)]
      obtain ⟨k, rfl⟩ : ∃ k, i = p + k := ⟨i - p, by omega⟩
      rw [hin k (by omega)]
      congr 1
      simp
      omega
    · rw [hout i (Or.inr h2), List.getElem?_append_right (by simp; omega), List.getElem?_drop]
      simp only [Array.getElem?_toList]
      congr 1
      simp
      omega
theorem SRep.store {w : World} {F : Nat → Prop} {V : V} {val : Value} {B : List Nat} {x : D} {hop : Hop} {off : Nat} {ys cs' : List D}
    (h : SRep w F V val B) (hx : rootD V = some x) (nd : B.Nodup) (hset : setAt x.cells hop off ys = some cs') (hys : ∀ c ∈ ys, c.isAgg = false)
    (hb : hop = none → ∃ p, V = .box p x) :
    ∃ b o cur t L M R, PAddr w V val hop b o ∧ b ∈ L ∧ w.heap[b]? = some (.cells cur t (0, 0)) ∧ o + off + ys.length ≤ cur.size ∧ B = L ++ M ++ R ∧ (∀ c ∈ cs', c.isAgg = false) ∧
      (hop ≠ none → ∀ p, V = .box p x → ∀ b0, val = .pointer (some ⟨b0, 0, none⟩) → b ≠ b0) ∧
      ∀ (w' : World) (F' : Nat → Prop) (M' : List Nat) (us' : List Value) (cur' : Array Value) (t' : TypeId), (∀ c, F c → F' c) → Agree w w' F → (∀ c ∈ L ++ R, c ≠ b → w'.heap[c]? = w.heap[c]?) →
        w'.heap[b]? = some (.cells cur' t' (0, 0)) → cur'.size = cur.size → (∀ k, k < o + off ∨ o + off + ys.length ≤ k → cur'[k]? = cur[k]?) → (∀ k, k < ys.length → cur'[o + off + k]? = us'[k]?) →
        us'.length = ys.length → RepL w' F' ys us' M' → SRep w' F' (withD V (x.mk cs')) val (L ++ M' ++ R) := by
  have hlen := setAt_length hset
  cases hop with
  | none =>
    obtain ⟨p, rfl⟩ := hb rfl
    simp only [SRep] at h
    obtain ⟨b, u, t, B', e1, e2, e3, e4⟩ := h
    obtain ⟨g2, g3, _, g6⟩ := e3.cells
    simp only [setAt] at hset
    split at hset
    · rename_i hle
      injection hset with hset
      subst hset
      obtain ⟨us, L, M, R, k1, k2, k3, k4, k5⟩ := g2.mid off ys.length hle
      subst e4 k3 e1
      have hfl := flat_spl _ _ off g3 hys
      refine ⟨b, 0, u.cells, t, b :: L, M, R, ⟨⟨p, x, rfl⟩, rfl, rfl⟩, by simp, e2, by simp [D.width] at *; omega, by simp, hfl, by simp, ?_⟩
      intro w' F' M' us' cur' t' hF eF ee hb' hs hout hin hl hr
      have hnd : b ∉ L ++ M ++ R := (List.nodup_cons.mp nd).1
      have h1 := k5 w' F' ys us' M' hF eF (fun c hc => ee c (by rcases List.mem_append.mp hc with hc | hc <;> simp [hc]) (by
        rintro rfl
        apply hnd
        rcases List.mem_append.mp hc with hc | hc <;> simp [hc])) rfl hr
      have e5 := cells_eq_mid (p := off) (n := ys.length) (by simp [D.width] at *; omega) hl (fun k hk => hout k (by omega)) (fun k hk => by have := hin k hk; simpa using this)
      rw [← e5] at h1
      have hx' := Rep.remk e3 hlen h1 hfl
      simp only [withD, SRep]
      have hc : (vmk u cur'.toList).cells = cur' := by
        rw [vmk_cells (by simp [hs]) (h1.ones hfl) e3.form]
      exact ⟨b, vmk u cur'.toList, t', L ++ M' ++ R, rfl, by rw [hc]; exact hb', hx', by simp⟩
    · simp at hset
  | some p =>
    obtain ⟨o, i⟩ := p
    obtain ⟨cs, Bx, Bl, g1, g2, g3, g4, g4b, g5⟩ := h.withCells hx
    subst g4
    have hvl : cs.toList.length = x.cells.length := g2.length
    simp only [setAt] at hset
    split at hset
    · rename_i xs ho
      split at hset
      · rename_i e hi
        split at hset
        · rename_i hle
          injection hset with hset
          subst hset
          obtain ⟨b, len, cap, cur, t, rv, L, M, R, p1, p2, p3, p4, p5, p6, p7, p8, p9⟩ := g2.hop ho hi
          obtain ⟨r1, r2, r3, r4⟩ := p8.cells
          obtain ⟨us, L2, M2, R2, k1, k2, k3, k4, k5⟩ := r1.mid off ys.length hle
          subst p4 k3
          have hfl : ∀ c ∈ x.cells.set o (D.sl true (xs.set i (e.mk (spl e.cells off ys)))), c.isAgg = false := flat_set g3 _ _ rfl
          refine ⟨b, 0 + i * e.width, cur, t, Bl ++ (L ++ L2), M2, R2 ++ R, ⟨x, cs, true, xs, e, len, cap, 0, hx, g1, ho, hi, by simpa using p1, rfl⟩, by simp [p5], p2, by omega, by simp, hfl, ?_, ?_⟩
          · intro _ p hp b0 hb0
            obtain ⟨b1, e1, e2⟩ := g4b p hp
            rw [e1] at hb0
            injection hb0 with hb0
            injection hb0 with hb0
            injection hb0 with hb0
            subst hb0
            rintro rfl
            exact (List.nodup_append.mp nd).2.2 _ e2 _ (by simp [p5]) rfl
          intro w' F' M' us' cur' t' hF eF ee hb' hs hout hin hl hr
          have nd' := (List.nodup_append.mp nd).2.1
          have hbM : b ∉ L2 ++ M2 ++ R2 := by
            intro hh
            have h1 := (List.nodup_append.mp nd').1
            exact (List.nodup_append.mp h1).2.2 b p5 b hh rfl
          have hbl : b ∉ Bl := fun hh => (List.nodup_append.mp nd).2.2 b hh b (by simp [p5]) rfl
          have h1 := k5 w' F' ys us' M' hF eF (fun c hc => ee c (by rcases List.mem_append.mp hc with hc | hc <;> simp [hc]) (by
            rintro rfl
            apply hbM
            rcases List.mem_append.mp hc with hc | hc <;> simp [hc])) rfl hr
          have hx' := Rep.remk p8 (spl_length _ _ _ hle) h1 (flat_spl _ _ _ r2 hys)
          have hone : ∀ v ∈ rv.cells.toList.take off ++ us' ++ rv.cells.toList.drop (off + ys.length), oneC v = true := h1.ones (flat_spl _ _ _ r2 hys)
          have hlr : (rv.cells.toList.take off ++ us' ++ rv.cells.toList.drop (off + ys.length)).length = rv.cells.size := by
            simp [D.width] at *; omega
          have hc : (vmk rv (rv.cells.toList.take off ++ us' ++ rv.cells.toList.drop (off + ys.length))).cells = (rv.cells.toList.take off ++ us' ++ rv.cells.toList.drop (off + ys.length)).toArray :=
            vmk_cells hlr hone p8.form
          have h2 := p9 w' F' _ _ _ cur' t' hF eF (fun c hc hne => ee c (by rcases List.mem_append.mp hc with hc | hc <;> simp [hc]) hne) nd' hb' hs
            (fun k hk => hout k (by simp [D.width] at *; omega)) (by
              intro k hk
              rw [hc]
              simp only [List.getElem?_toArray]
              rcases Nat.lt_or_ge k off with q1 | q1
              · rw [List.append_assoc, List.getElem?_append_left (by simp [D.width] at *; omega), List.getElem?_take_of_lt q1, hout _ (by omega), p7 k hk]; simp
              · rcases Nat.lt_or_ge k (off + ys.length) with q2 | q2
                · rw [List.append_assoc, List.getElem?_append_right (by simp; omega), List.getElem?_append_left (by simp [D.width] at *; omega)]
                  obtain ⟨j, rfl⟩ : ∃ j, k = off + j := ⟨k - off, by omega⟩
                  have := hin j (by omega)
                  rw [Nat.zero_add, Nat.add_assoc] at this
                  rw [this]
                  congr 1
                  simp [D.width] at *
                  omega
                · rw [List.getElem?_append_right (by simp [D.width] at *; omega), List.getElem?_drop, hout _ (by omega), p7 k hk]
                  simp only [Array.getElem?_toList]
                  congr 1
                  simp [D.width] at *
                  omega) (by rw [hc]; simp only [List.size_toArray]; rw [hlr]; exact p6) hx'
          have := g5 w' F' _ _ hlen hfl (fun c hc => ee c (by simp [hc]) (by rintro rfl; exact hbl hc)) h2
          simpa using this
        · simp at hset
      · simp at hset
    · simp at hset
end Go.Pi

/- Steps on the slots: taking, freezing, putting. -/
namespace Go.Pi
open Go
set_option linter.unusedSimpArgs false
set_option linter.unusedVariables false

theorem put_getD (a : Act) (d : Nat) (v : Value) (i : Nat) : (a.put (some d) v).tmps.getD i undef = if i = d ∧ d < a.tmps.size then v else a.tmps.getD i undef := by
  simp only [Act.put, Array.getD_eq_getD_getElem?, Array.getElem?_setIfInBounds]
  by_cases h : d = i
  · subst h
    by_cases hd : d < a.tmps.size
    · simp [hd]
    · simp [hd]
  · have : ¬ i = d := fun e => h e.symm
    simp [h, this]
theorem put_size (a : Act) (d : Option Tmp) (v : Value) : (a.put d v).tmps.size = a.tmps.size := by
  cases d <;> simp [Act.put]
theorem put_defers (a : Act) (d : Option Tmp) (v : Value) : (a.put d v).defers = a.defers := by
  cases d <;> rfl

/-! ### Owned parts moved away, or frozen -/
theorem Rep.noOwn {w : World} {F : Nat → Prop} : ∀ {x : D} {v : Value} {B : List Nat}, Rep w F x v B → x.own1 = false → x.isAgg = false → B = []
  | .int _ _, _, _, h, _, _ => by simp only [Rep] at h; exact h.2
  | .bool _, _, _, h, _, _ => by simp only [Rep] at h; exact h.2
  | .str _, _, _, h, _, _ => by simp only [Rep] at h; exact h.2
  | .nilfn, _, _, h, _, _ => by simp only [Rep] at h; exact h.2
  | .ghost, _, _, h, _, _ => by simp only [Rep] at h; exact h.2
  | .sl true _, _, _, _, h, _ => by simp [D.own1] at h
  | .sl false _, _, _, h, _, _ => by simp only [Rep] at h; obtain ⟨_, _, _, _, _, _, _, h4, _⟩ := h; exact h4
  | .fn _ _ _, _, _, h, _, _ => by simp only [Rep] at h; obtain ⟨_, _, _, _, _, _, _, h5⟩ := h; exact h5
  | .agg _, _, _, _, _, h => by simp [D.isAgg] at h
theorem Rep.gone1 {w : World} {F : Nat → Prop} {x : D} {v : Value} {B : List Nat} (h : Rep w F x v B) (hx : x.isAgg = false) : Rep w F x.gone1 v [] := by
  cases h1 : x.own1 with
  | false =>
    have hB := h.noOwn h1 hx
    subst hB
    have : x.gone1 = x := by
      cases x <;> try rfl
      rename_i o xs
      cases o <;> simp_all [D.own1, D.gone1]
    rwa [this]
  | true =>
    have hone := h.one hx
    have : x.gone1 = .ghost := by
      cases x <;> simp_all [D.own1, D.gone1]
      rename_i o xs
      cases o <;> simp_all [D.own1, D.gone1]
    rw [this]
    simp only [Rep]
    exact ⟨hone, trivial⟩
theorem gone1_isAgg (x : D) (h : x.isAgg = false) : x.gone1.isAgg = false := by
  cases x <;> try simp_all [D.gone1, D.isAgg]
  rename_i o xs
  cases o <;> rfl
theorem RepL.gone {w : World} {F : Nat → Prop} : ∀ {xs : List D} {vs : List Value} {B : List Nat}, RepL w F xs vs B → (∀ x ∈ xs, x.isAgg = false) → RepL w F (xs.map D.gone1) vs []
  | [], _, _, h, _ => by simp only [RepL] at h; rw [h.1]; exact RepL.nil
  | x :: xs, vs, B, h, k => by
    simp only [RepL] at h
    obtain ⟨v, vs', B1, B2, h1, h2, h3, h4⟩ := h
    subst h1
    exact RepL.cons (B1 := []) (B2 := []) (h3.gone1 (k x (by simp))) (RepL.gone h4 fun y hy => k y (by simp [hy]))
theorem left_cells {y : D} : y.left.cells = y.cells.map D.gone1 := by
  cases y <;> try rfl
  rename_i o xs
  cases o <;> rfl
theorem frz_cells {y : D} : y.frz.cells = frzL y.cells := by
  cases y <;> simp [D.frz, D.cells, frzL]
theorem frzL_map : ∀ xs : List D, frzL xs = xs.map D.frz
  | [] => rfl
  | x :: xs => by simp [frzL, frzL_map xs]
theorem frz_width (y : D) : y.frz.width = y.width := by
  simp [D.width, frz_cells, frzL_length]

/-- Cells that lead to the same elements. -/
def Like (cs cs' : List D) : Prop :=
  ∀ (k : Nat) (ob : Bool) (xs : List D) (i : Nat) (e : D), cs[k]? = some (.sl ob xs) → xs[i]? = some e → ∃ (ob' : Bool) (xs' : List D) (e' : D), cs'[k]? = some (.sl ob' xs') ∧ xs'[i]? = some e' ∧ e'.width = e.width
theorem Like.refl (cs : List D) : Like cs cs := fun _ ob xs _ e h1 h2 => ⟨ob, xs, e, h1, h2, rfl⟩
theorem PAddr.like {w : World} {v : V} {val : Value} {hop : Hop} {b o : Nat} {x x' : D} (h : PAddr w v val hop b o) (hx : rootD v = some x) (hl : Like x.cells x'.cells) :
    PAddr w (withD v x') val hop b o := by
  cases hop with
  | none =>
    obtain ⟨⟨p, y, h1⟩, h2, h3⟩ := h
    subst h1
    exact ⟨⟨p, x', rfl⟩, h2, h3⟩
  | some q =>
    obtain ⟨k, i⟩ := q
    obtain ⟨y, cs, ob, xs, e, n, c, o0, h1, h2, h3, h4, h5, h6⟩ := h
    rw [hx] at h1
    injection h1 with h1
    subst h1
    obtain ⟨ob', xs', e', k1, k2, k3⟩ := hl k ob xs i e h3 h4
    refine ⟨x', cs, ob', xs', e', n, c, o0, withD_root hx, ?_, k1, k2, h5, by rw [k3]; exact h6⟩
    cases v <;> simp_all [rootD, withD, rootVals]
theorem PVals.like {w : World} {v : V} {val : Value} {hop : Hop} {off : Nat} {us : List Value} {x x' : D} (h : PVals w v val hop off us) (hx : rootD v = some x) (hl : Like x.cells x'.cells) :
    PVals w (withD v x') val hop off us := by
  cases hop with
  | none =>
    obtain ⟨cs, h1, h2⟩ := h
    refine ⟨cs, ?_, h2⟩
    cases v <;> simp_all [rootD, withD, rootVals]
  | some q =>
    obtain ⟨b, o, h1, h2⟩ := h
    exact ⟨b, o, h1.like hx hl, h2⟩
theorem PAddr.unique {w : World} {v : V} {val : Value} {hop : Hop} {b o b' o' : Nat} (h : PAddr w v val hop b o) (k : PAddr w v val hop b' o') : b = b' ∧ o = o' := by
  cases hop with
  | none =>
    obtain ⟨_, h2, h3⟩ := h
    obtain ⟨_, k2, k3⟩ := k
    rw [h2] at k2
    injection k2 with k2
    injection k2 with k2
    injection k2 with k2
    exact ⟨k2, by omega⟩
  | some q =>
    obtain ⟨j, i⟩ := q
    obtain ⟨y, cs, ob, xs, e, n, c, o0, h1, h2, h3, h4, h5, h6⟩ := h
    obtain ⟨y', cs', ob', xs', e', n', c', o0', k1, k2, k3, k4, k5, k6⟩ := k
    rw [h1] at k1; injection k1 with k1; subst k1
    rw [h2] at k2; injection k2 with k2; subst k2
    rw [h3] at k3; injection k3 with k3; injection k3 with k3 k3'; subst k3 k3'
    rw [h4] at k4; injection k4 with k4; subst k4
    rw [h5] at k5; injection k5 with k5; injection k5 with k5 _ _; injection k5 with k5; injection k5 with k5 k5'
    subst k5 k5'
    exact ⟨rfl, by omega⟩
theorem list_ext_len {us us' : List Value} (hl : us.length = us'.length) (h : ∀ k, k < us.length → us[k]? = us'[k]?) : us = us' := by
  apply List.ext_getElem?
  intro i
  rcases Nat.lt_or_ge i us.length with q | q
  · exact h i q
  · rw [List.getElem?_eq_none q, List.getElem?_eq_none (by omega)]
theorem PVals.unique {w : World} {v : V} {val : Value} {hop : Hop} {off : Nat} {us us' : List Value} (h : PVals w v val hop off us) (k : PVals w v val hop off us') (hl : us.length = us'.length) : us = us' := by
  cases hop with
  | none =>
    obtain ⟨cs, h1, h2⟩ := h
    obtain ⟨cs', k1, k2⟩ := k
    rw [h1] at k1; injection k1 with k1; subst k1
    exact list_ext_len hl fun i hi => (h2 i hi).symm.trans (k2 i (by omega))
  | some q =>
    obtain ⟨b, o, h1, h2⟩ := h
    obtain ⟨b', o', k1, k2⟩ := k
    obtain ⟨rfl, rfl⟩ := h1.unique k1
    exact list_ext_len hl fun i hi => (h2 i hi).symm.trans (k2 i (by omega))

def upd (B : Nat → List Nat) (r : Nat) (L : List Nat) : Nat → List Nat := fun i => if i = r then L else B i
theorem upd_same (B : Nat → List Nat) (r : Nat) (L : List Nat) : upd B r L r = L := by simp [upd]
theorem upd_ne (B : Nat → List Nat) (r : Nat) (L : List Nat) {i : Nat} (h : i ≠ r) : upd B r L i = B i := by simp [upd, h]
theorem ovl1_same (r : Nat) (s : Sl) (g : Nat → Sl) : ovl [(r, s)] g r = s := by simp [ovl]
theorem ovl1_ne (r : Nat) (s : Sl) (g : Nat → Sl) {i : Nat} (h : i ≠ r) : ovl [(r, s)] g i = g i := by simp [ovl, h]
theorem KeepR.refl (g : Nat → Sl) (a : Act) (w : World) (r : Nat) : KeepR g a w g a w r :=
  ⟨Nat.le_refl _, Nat.le_refl _, fun _ _ _ h => h, fun _ _ _ _ _ h => h, fun _ _ _ _ _ h => h⟩
theorem KeepR.of_same {g g' : Nat → Sl} {a a' : Act} {w : World} {r : Nat} (h : g' r = g r) (k : a'.tmps.getD r undef = a.tmps.getD r undef) : KeepR g a w g' a' w r :=
  ⟨by rw [h]; exact Nat.le_refl _, by rw [h]; exact Nat.le_refl _, fun _ _ _ q => by rw [h, k]; exact q, fun _ _ _ _ _ q => by rw [h, k]; exact q, fun _ _ _ _ _ q => by rw [h, k]; exact q⟩

/-- A root's data change, its value and all memory as they were. -/
theorem Sim.change {F F' : Nat → Prop} {B : Nat → List Nat} {H H' : List Nat} {g : Nat → Sl} {a : Act} {w : World} (s : Sim F B H g a w) {r : Nat} {x x' : D} (hx : rootD (g r).v = some x)
    {Br' : List Nat} (bump : Nat) (hrep : SRep w F' (withD (g r).v x') (a.tmps.getD r undef) Br') (hlike : bump = 0 → Like x.cells x'.cells) (hmono : ∀ b, F b → F' b)
    (h1 : Br'.Nodup) (h2 : ∀ b ∈ Br', b ∈ B r) (h3 : H'.Nodup) (h4 : ∀ b ∈ H', b ∈ H ∨ (b ∈ B r ∧ b ∉ Br')) (h5 : ∀ b, F' b → F b ∨ (b ∈ B r ∧ b ∉ Br' ∧ b ∉ H')) :
    Sim F' (upd B r Br') H' (ovl [(r, ⟨(g r).iv, (g r).cv + bump, withD (g r).v x'⟩)] g) a w ∧ Ext F (Own B H) w F' (Own (upd B r Br') H') w := by
  have hsub : ∀ i b, b ∈ upd B r Br' i → b ∈ B i := by
    intro i b hb
    by_cases hi : i = r
    · subst hi; rw [upd_same] at hb; exact h2 b hb
    · rwa [upd_ne _ _ _ hi] at hb
  constructor
  · refine ⟨?_, ?_, ?_, ?_, ?_, ?_, ?_, h3, ?_, ?_, ?_, ?_, s.df⟩
    · intro i
      by_cases hi : i = r
      · subst hi; rw [ovl1_same, upd_same]; exact hrep
      · rw [ovl1_ne _ _ _ hi, upd_ne _ _ _ hi]
        exact SRep.frame hmono (fun _ _ => rfl) _ _ _ (fun _ _ => rfl) (s.rep i)
    · intro i
      have hkeep : ∀ q, KeepR g a w (ovl [(r, ⟨(g r).iv, (g r).cv + bump, withD (g r).v x'⟩)] g) a w q := by
        intro q
        by_cases hq : q = r
        · subst hq
          refine ⟨by rw [ovl1_same]; exact Nat.le_refl _, by rw [ovl1_same]; simp, ?_, ?_, ?_⟩
          · intro _ b o h
            rw [ovl1_same]
            obtain ⟨⟨p, y, e1⟩, e2, e3⟩ := h
            rw [e1]
            exact ⟨⟨p, x', rfl⟩, e2, e3⟩
          · intro _ hc hop b o h
            rw [ovl1_same] at hc ⊢
            exact h.like hx (hlike (by simp at hc; omega))
          · intro _ hc hop off us h
            rw [ovl1_same] at hc ⊢
            exact h.like hx (hlike (by simp at hc; omega))
        · exact KeepR.of_same (ovl1_ne _ _ _ hq) rfl
      by_cases hi : i = r
      · subst hi
        unfold Loc
        rw [ovl1_same]
        cases hv : (g i).v <;> simp [hv, rootD, withD] at hx ⊢
      · refine (s.loc i).keep (by rw [ovl1_ne _ _ _ hi]) rfl hkeep ?_
        intro d hd y hy
        refine ⟨?_, rfl, fun _ _ _ _ h => h⟩
        by_cases hdr : d = r
        · subst hdr
          rw [ovl1_same] at hy
          cases hv : (g d).v <;> simp [hv, withD] at hy
          exact ⟨_, by rw [hy.1]⟩
        · rw [ovl1_ne _ _ _ hdr] at hy
          exact ⟨y, hy⟩
    · intro i
      by_cases hi : i = r
      · subst hi; rw [upd_same]; exact h1
      · rw [upd_ne _ _ _ hi]; exact s.nd i
    · intro i j b hi hj
      exact s.dj i j b (hsub i b hi) (hsub j b hj)
    · intro i b hb hF
      rcases h5 b hF with hF | ⟨q1, q2, _⟩
      · exact s.nF i b (hsub i b hb) hF
      · have := s.dj i r b (hsub i b hb) q1
        subst this
        rw [upd_same] at hb
        exact q2 hb
    · intro i b hb; exact s.lt i b (hsub i b hb)
    · intro b hF
      rcases h5 b hF with hF | ⟨q1, _⟩
      · exact s.ltF b hF
      · exact s.lt r b q1
    · intro b hb i hi
      rcases h4 b hb with q | ⟨q1, q2⟩
      · exact s.hB b q i (hsub i b hi)
      · have := s.dj i r b (hsub i b hi) q1
        subst this
        rw [upd_same] at hi
        exact q2 hi
    · intro b hb hF
      rcases h5 b hF with hF | ⟨q1, q2, q3⟩
      · rcases h4 b hb with q | ⟨q1, _⟩
        · exact s.hF b q hF
        · exact s.nF r b q1 hF
      · exact q3 hb
    · intro b hb
      rcases h4 b hb with q | ⟨q1, _⟩
      · exact s.hlt b q
      · exact s.lt r b q1
    · intro i hi
      by_cases hr : i = r
      · subst hr
        have := s.sz i hi
        simp [this, rootD] at hx
      · rw [ovl1_ne _ _ _ hr]; exact s.sz i hi
  · refine ⟨rfl, rfl, rfl, Nat.le_refl _, fun _ _ _ => rfl, hmono, ?_, ?_⟩
    · intro b hb
      rcases h5 b hb with q | ⟨q, _⟩
      · exact Or.inl q
      · exact Or.inr (Or.inl (Or.inl ⟨r, q⟩))
    · intro b hb
      left
      rcases hb with ⟨i, hi⟩ | hb
      · exact Or.inl ⟨i, hsub i b hi⟩
      · rcases h4 b hb with q | ⟨q, _⟩
        · exact Or.inr q
        · exact Or.inl ⟨r, q⟩
end Go.Pi

/- Taking from a place. -/
namespace Go.Pi
open Go
set_option linter.unusedSimpArgs false
set_option linter.unusedVariables false

theorem frzL_get {xs : List D} {i : Nat} {e : D} (h : xs[i]? = some e) : (frzL xs)[i]? = some e.frz := by
  rw [frzL_map]
  simp [h]
theorem like_frz {cs cs' : List D} {hop : Hop} {row : List D} {off n : Nat} (hr : rowAt cs hop = some row) (hn : off + n ≤ row.length) (hf : ∀ c ∈ row, c.isAgg = false)
    (h : setAt cs hop off (frzL ((row.drop off).take n)) = some cs') : Like cs cs' := by
  have hl : (frzL ((row.drop off).take n)).length = n := by rw [frzL_length]; simp; omega
  cases hop with
  | none =>
    simp [rowAt] at hr
    subst hr
    simp only [setAt] at h
    split at h
    · rename_i hle
      injection h with h
      subst h
      rw [spl_eq _ _ _ hle]
      intro k ob xs i e h1 h2
      have hk : k < cs.length := (List.getElem?_eq_some_iff.mp h1).1
      rcases Nat.lt_or_ge k off with q | q
      · refine ⟨ob, xs, e, ?_, h2, rfl⟩
        rw [List.append_assoc, List.getElem?_append_left (by simp; omega), List.getElem?_take_of_lt q]
        exact h1
      · rcases Nat.lt_or_ge k (off + n) with q2 | q2
        · refine ⟨false, frzL xs, e.frz, ?_, frzL_get h2, frz_width e⟩
          rw [List.append_assoc, List.getElem?_append_right (by simp; omega), List.getElem?_append_left (by rw [hl]; simp; omega)]
          have e1 : k - (List.take off cs).length = k - off := by simp; omega
          rw [e1]
          have : ((cs.drop off).take n)[k - off]? = some (D.sl ob xs) := by
            rw [List.getElem?_take_of_lt (by omega), List.getElem?_drop, ← h1]
            congr 1
            omega
          exact frzL_get this
        · refine ⟨ob, xs, e, ?_, h2, rfl⟩
          rw [List.getElem?_append_right (by simp [hl]; omega), List.getElem?_drop, ← h1]
          congr 1
          simp [hl]
          omega
    · simp at h
  | some p =>
    obtain ⟨o, j⟩ := p
    simp only [setAt] at h
    split at h
    · rename_i xs ho
      split at h
      · rename_i e hi
        split at h
        · rename_i hle
          injection h with h
          subst h
          have hrow : row = e.cells := by
            simp [rowAt, ho, hi] at hr
            exact hr.symm
          subst hrow
          intro k ob zs i z h1 h2
          by_cases hk : k = o
          · subst hk
            rw [ho] at h1
            injection h1 with h1
            injection h1 with h1 h1'
            subst h1 h1'
            have hko : k < cs.length := (List.getElem?_eq_some_iff.mp ho).1
            by_cases hij : i = j
            · subst hij
              rw [hi] at h2
              injection h2 with h2
              subst h2
              refine ⟨true, _, _, by rw [List.getElem?_set_self hko], List.getElem?_set_self (List.getElem?_eq_some_iff.mp hi).1, ?_⟩
              refine D.mk_width (spl_length _ _ _ hle) (flat_spl _ _ _ hf ?_)
              exact frzL_isAgg _ fun c hc => hf c (List.mem_of_mem_drop (List.mem_of_mem_take hc))
            · exact ⟨true, _, z, by rw [List.getElem?_set_self hko], by rw [List.getElem?_set_ne (by omega)]; exact h2, rfl⟩
          · exact ⟨ob, zs, z, by rw [List.getElem?_set_ne (by omega)]; exact h1, h2, rfl⟩
        · simp at h
      · simp at h
    · simp at h

/-- What a step from a state has come to: another state, something in hand. -/
def Got (F : Nat → Prop) (B : Nat → List Nat) (H : List Nat) (g' : Nat → Sl) (a : Act) (w : World) (y : D) (val : Value) : Prop :=
  ∃ F' B' M, Sim F' B' (M ++ H) g' a w ∧ Rep w F' y val M ∧ Ext F (Own B H) w F' (Own B' (M ++ H)) w
theorem Sim.placed {F : Nat → Prop} {B : Nat → List Nat} {H : List Nat} {g : Nat → Sl} {a : Act} {w : World} (s : Sim F B H g a w) {r off n : Nat} {hop : Hop} {ag : Bool} {x y : D} {row ys cs' : List D} {us : List Value}
    (hx : rootD (g r).v = some x) (hr : rowAt x.cells hop = some row) (hy : subD row off n ag = some y) (hl : us.length = n) (hp : PVals w (g r).v (a.tmps.getD r undef) hop off us)
    (hset : setAt x.cells hop off ys = some cs') (hn : ys.length = n) (hf : ∀ c ∈ ys, c.isAgg = false) :
    ∃ L M R, B r = L ++ M ++ R ∧ RepL w F y.cells us M ∧ Rep w F y (ofCells ag us) M ∧ (∀ c ∈ y.cells, c.isAgg = false) ∧ y.width = n ∧ y.isAgg = ag ∧ y.cells = (row.drop off).take n ∧ off + n ≤ row.length ∧ (∀ c ∈ row, c.isAgg = false) ∧ cs'.length = x.width ∧ (∀ c ∈ cs', c.isAgg = false) ∧
      ∀ (F' : Nat → Prop) (M' : List Nat), (∀ c, F c → F' c) → RepL w F' ys us M' → SRep w F' (withD (g r).v (x.mk cs')) (a.tmps.getD r undef) (L ++ M' ++ R) := by
  obtain ⟨us', L, M, R, row', k1, k2, k3, k4, k5, k6, k7, k8, k8b, k9⟩ := (s.rep r).same hx (s.nd r) hset hf
  rw [hr] at k4
  injection k4 with k4
  subst k4
  have hu : us' = us := k2.unique hp (by omega)
  subst hu
  rw [hn] at k7
  obtain ⟨q1, q2, q3, q4, q5⟩ := rep_ofCells hy k5 k7
  rw [← q5] at k7
  have hfy : ∀ c ∈ y.cells, c.isAgg = false := by
    rw [q5]; exact fun c hc => k5 c (List.mem_of_mem_drop (List.mem_of_mem_take hc))
  exact ⟨L, M, R, k3, k7, q1, hfy, q2, q3, q5, q4, k5, setAt_length hset, k8, fun F' M' hF h => k9 w F' M' hF (fun _ _ => rfl) (fun _ _ => rfl) h⟩

theorem Sim.takeR {F : Nat → Prop} {B : Nat → List Nat} {H : List Nat} {g : Nat → Sl} {a : Act} {w : World} (s : Sim F B H g a w) {r iv cv off n : Nat} {hop : Hop} {ag mv : Bool} {y z : D} {u : Ov} {us : List Value}
    (hy : refD g r iv cv hop off n ag = some y) (hl : us.length = n) (hp : PVals w (g r).v (a.tmps.getD r undef) hop off us)
    (h : takeR g r hop off mv y = some (z, u)) : Got F B H (ovl u g) a w z (ofCells ag us) := by
  unfold refD at hy
  split at hy
  case isFalse => simp at hy
  case isTrue =>
  simp only [Option.bind_eq_some_iff] at hy
  obtain ⟨x, hx, row, hr, hy⟩ := hy
  obtain ⟨us0, M0, p1, p2, p3, p4, p5, p6⟩ := (s.rep r).read hx hr hy
  obtain ⟨_, hfy, _, _⟩ := p4.cells
  have hrf : ∀ c ∈ row, c.isAgg = false := by
    obtain ⟨cs, B0, e1, e2, e3, e4, e5⟩ := (s.rep r).cells hx
    exact rowAt_flat e2 e3 hr
  unfold Go.Pi.takeR at h
  split at h
  · simp only [Option.map_eq_some_iff] at h
    obtain ⟨sl, hsl, h⟩ := h
    injection h with h1 h2
    subst h1 h2
    unfold putAt at hsl
    simp only [Option.bind_eq_some_iff, Option.map_eq_some_iff] at hsl
    obtain ⟨x', hx', cs', hset, rfl⟩ := hsl
    rw [hx] at hx'
    injection hx' with hx'
    subst hx'
    have hlc : y.left.cells.length = n := by rw [left_cells]; simpa [D.width] using p5
    have hfl : ∀ c ∈ y.left.cells, c.isAgg = false := by
      rw [left_cells]
      intro c hc
      obtain ⟨d, hd, rfl⟩ := List.mem_map.mp hc
      exact gone1_isAgg d (hfy d hd)
    obtain ⟨L, M, R, k1, k2, k3, k4, k5, k6, k7, k8, k9, k10, k11, k12⟩ := s.placed hx hr hy hl hp hset hlc hfl
    have hnew := k12 F [] (fun _ h => h) (by rw [left_cells]; exact k2.gone k4)
    have nd := s.nd r
    rw [k1] at nd
    have hmem : ∀ b, b ∈ L ++ [] ++ R → b ∈ B r ∧ b ∉ M := by
      intro b hb
      simp only [List.append_nil] at hb
      refine ⟨by rw [k1]; rcases List.mem_append.mp hb with q | q <;> simp [q], fun hm => ?_⟩
      rcases List.mem_append.mp hb with q | q
      · exact (List.nodup_append.mp (List.nodup_append.mp nd).1).2.2 b q b hm rfl
      · exact (List.nodup_append.mp nd).2.2 b (by simp [hm]) b q rfl
    have hM : ∀ b ∈ M, b ∈ B r := fun b hb => by rw [k1]; simp [hb]
    obtain ⟨r1, r2⟩ := s.change (F' := F) (H' := M ++ H) (x' := x.mk cs') hx 1 hnew (by simp) (fun _ h => h)
      (by simp only [List.append_nil]; exact (List.Sublist.nodup (List.Sublist.append (List.sublist_append_left L M) (List.Sublist.refl R)) nd))
      (fun b hb => (hmem b hb).1)
      (by
        rw [List.nodup_append]
        refine ⟨(List.nodup_append.mp (List.nodup_append.mp nd).1).2.1, s.hnd, ?_⟩
        rintro b hb c hc rfl
        exact s.hB b hc r (hM b hb))
      (by
        intro b hb
        rcases List.mem_append.mp hb with q | q
        · exact Or.inr ⟨hM b q, fun h => (hmem b h).2 q⟩
        · exact Or.inl q)
      (fun b hb => Or.inl hb)
    exact ⟨F, _, M, r1, k3, r2⟩
  · simp only [Option.map_eq_some_iff] at h
    obtain ⟨sl, hsl, h⟩ := h
    injection h with h1 h2
    subst h1 h2
    unfold putAt at hsl
    simp only [Option.bind_eq_some_iff, Option.map_eq_some_iff] at hsl
    obtain ⟨x', hx', cs', hset, rfl⟩ := hsl
    rw [hx] at hx'
    injection hx' with hx'
    subst hx'
    have hlc : y.frz.cells.length = n := by rw [frz_cells, frzL_length]; simpa [D.width] using p5
    have hfl : ∀ c ∈ y.frz.cells, c.isAgg = false := by
      rw [frz_cells]
      exact frzL_isAgg _ hfy
    obtain ⟨L, M, R, k1, k2, k3, k4, k5, k6, k7, k8, k9, k10, k11, k12⟩ := s.placed hx hr hy hl hp hset hlc hfl
    have hnew := k12 (fun b => F b ∨ b ∈ M) [] (fun _ h => Or.inl h) (by rw [frz_cells]; exact RepL.frz (fun _ h => Or.inl h) _ _ _ (fun _ h => Or.inr h) k2)
    have nd := s.nd r
    rw [k1] at nd
    have hmem : ∀ b, b ∈ L ++ [] ++ R → b ∈ B r ∧ b ∉ M := by
      intro b hb
      simp only [List.append_nil] at hb
      refine ⟨by rw [k1]; rcases List.mem_append.mp hb with q | q <;> simp [q], fun hm => ?_⟩
      rcases List.mem_append.mp hb with q | q
      · exact (List.nodup_append.mp (List.nodup_append.mp nd).1).2.2 b q b hm rfl
      · exact (List.nodup_append.mp nd).2.2 b (by simp [hm]) b q rfl
    have hM : ∀ b ∈ M, b ∈ B r := fun b hb => by rw [k1]; simp [hb]
    have hlike : Like x.cells (x.mk cs').cells := by
      rw [D.mk_cells k10 k11]
      rw [frz_cells, k7] at hset
      exact like_frz hr k8 k9 hset
    obtain ⟨r1, r2⟩ := s.change (F' := fun b => F b ∨ b ∈ M) (H' := H) (x' := x.mk cs') hx 0 hnew (fun _ => hlike) (fun _ h => Or.inl h)
      (by simp only [List.append_nil]; exact (List.Sublist.nodup (List.Sublist.append (List.sublist_append_left L M) (List.Sublist.refl R)) nd))
      (fun b hb => (hmem b hb).1) s.hnd (fun b hb => Or.inl hb)
      (by
        intro b hb
        rcases hb with q | q
        · exact Or.inl q
        · exact Or.inr ⟨hM b q, fun h => (hmem b h).2 q, fun h => s.hB b h r (hM b q)⟩)
    exact ⟨_, _, [], r1, Rep.frz (fun _ h => Or.inl h) _ _ _ (fun _ h => Or.inr h) k3, r2⟩

/-- A slot gets another standing: what it owned goes to the hand, or is frozen. -/
theorem Sim.reslot {F F' : Nat → Prop} {B : Nat → List Nat} {H H' : List Nat} {g : Nat → Sl} {a : Act} {w : World} (s : Sim F B H g a w) {r : Nat} {V' : V}
    {Br' : List Nat} (hrep : SRep w F' V' (a.tmps.getD r undef) Br') (hmono : ∀ b, F b → F' b) (hin : r < a.tmps.size)
    (hw : ∀ q iv cv hop off, V' ≠ .wp q iv cv hop off) (hf : ∀ q iv cv hop off n ag, V' ≠ .ref q iv cv hop off n ag) (hbx : ∀ p x, V' ≠ .box p x)
    (hm : ∀ d, V' = .mv d → ∀ y, (g d).v ≠ .box (r + 2) y)
    (h1 : Br'.Nodup) (h2 : ∀ b ∈ Br', b ∈ B r) (h3 : H'.Nodup) (h4 : ∀ b ∈ H', b ∈ H ∨ (b ∈ B r ∧ b ∉ Br')) (h5 : ∀ b, F' b → F b ∨ (b ∈ B r ∧ b ∉ Br' ∧ b ∉ H')) :
    Sim F' (upd B r Br') H' (ovl [(r, ⟨(g r).iv + 1, (g r).cv + 1, V'⟩)] g) a w ∧ Ext F (Own B H) w F' (Own (upd B r Br') H') w := by
  have hsub : ∀ i b, b ∈ upd B r Br' i → b ∈ B i := by
    intro i b hb
    by_cases hi : i = r
    · subst hi; rw [upd_same] at hb; exact h2 b hb
    · rwa [upd_ne _ _ _ hi] at hb
  constructor
  · refine ⟨?_, ?_, ?_, ?_, ?_, ?_, ?_, h3, ?_, ?_, ?_, ?_, s.df⟩
    · intro i
      by_cases hi : i = r
      · subst hi; rw [ovl1_same, upd_same]; exact hrep
      · rw [ovl1_ne _ _ _ hi, upd_ne _ _ _ hi]
        exact SRep.frame hmono (fun _ _ => rfl) _ _ _ (fun _ _ => rfl) (s.rep i)
    · intro i
      have hkeep : ∀ q, KeepR g a w (ovl [(r, ⟨(g r).iv + 1, (g r).cv + 1, V'⟩)] g) a w q := by
        intro q
        by_cases hq : q = r
        · subst hq
          exact ⟨by rw [ovl1_same]; simp, by rw [ovl1_same]; simp, fun h => by rw [ovl1_same] at h; simp at h, fun h => by rw [ovl1_same] at h; simp at h, fun h => by rw [ovl1_same] at h; simp at h⟩
        · exact KeepR.of_same (ovl1_ne _ _ _ hq) rfl
      by_cases hi : i = r
      · subst hi
        unfold Loc
        rw [ovl1_same]
        cases hv : V' <;> simp only
        case wp q iv cv hop off => exact absurd hv (hw _ _ _ _ _)
        case ref q iv cv hop off n ag => exact absurd hv (hf _ _ _ _ _ _ _)
        case mv d =>
          intro y hy
          by_cases hd : d = i
          · subst hd
            rw [ovl1_same] at hy
            simp at hy
          · rw [ovl1_ne _ _ _ hd] at hy
            exact absurd hy (hm d hv y)
      · refine (s.loc i).keep (by rw [ovl1_ne _ _ _ hi]) rfl hkeep ?_
        intro d hd y hy
        refine ⟨?_, rfl, fun _ _ _ _ h => h⟩
        by_cases hdr : d = r
        · subst hdr
          rw [ovl1_same] at hy
          exact absurd hy (hbx _ _)
        · rw [ovl1_ne _ _ _ hdr] at hy
          exact ⟨y, hy⟩
    · intro i
      by_cases hi : i = r
      · subst hi; rw [upd_same]; exact h1
      · rw [upd_ne _ _ _ hi]; exact s.nd i
    · intro i j b hi hj
      exact s.dj i j b (hsub i b hi) (hsub j b hj)
    · intro i b hb hF
      rcases h5 b hF with hF | ⟨q1, q2, _⟩
      · exact s.nF i b (hsub i b hb) hF
      · have := s.dj i r b (hsub i b hb) q1
        subst this
        rw [upd_same] at hb
        exact q2 hb
    · intro i b hb; exact s.lt i b (hsub i b hb)
    · intro b hF
      rcases h5 b hF with hF | ⟨q1, _⟩
      · exact s.ltF b hF
      · exact s.lt r b q1
    · intro b hb i hi
      rcases h4 b hb with q | ⟨q1, q2⟩
      · exact s.hB b q i (hsub i b hi)
      · have := s.dj i r b (hsub i b hi) q1
        subst this
        rw [upd_same] at hi
        exact q2 hi
    · intro b hb hF
      rcases h5 b hF with hF | ⟨q1, q2, q3⟩
      · rcases h4 b hb with q | ⟨q1, _⟩
        · exact s.hF b q hF
        · exact s.nF r b q1 hF
      · exact q3 hb
    · intro b hb
      rcases h4 b hb with q | ⟨q1, _⟩
      · exact s.hlt b q
      · exact s.lt r b q1
    · intro i hi
      rw [ovl1_ne _ _ _ (by omega)]; exact s.sz i hi
  · refine ⟨rfl, rfl, rfl, Nat.le_refl _, fun _ _ _ => rfl, hmono, ?_, ?_⟩
    · intro b hb
      rcases h5 b hb with q | ⟨q, _⟩
      · exact Or.inl q
      · exact Or.inr (Or.inl (Or.inl ⟨r, q⟩))
    · intro b hb
      left
      rcases hb with ⟨i, hi⟩ | hb
      · exact Or.inl ⟨i, hsub i b hi⟩
      · rcases h4 b hb with q | ⟨q, _⟩
        · exact Or.inr q
        · exact Or.inl ⟨r, q⟩
/-- A slot that is not gone lies within the frame. -/
theorem Sim.inb {F : Nat → Prop} {B : Nat → List Nat} {H : List Nat} {g : Nat → Sl} {a : Act} {w : World} (s : Sim F B H g a w) {t : Nat} (h : (g t).v ≠ .gone) : t < a.tmps.size := by
  rcases Nat.lt_or_ge t a.tmps.size with q | q
  · exact q
  · exact absurd (s.sz t q) h
/-- A slot moved away: what it owned is in hand. -/
theorem Sim.moved {F : Nat → Prop} {B : Nat → List Nat} {H : List Nat} {g : Nat → Sl} {a : Act} {w : World} (s : Sim F B H g a w) {t : Nat} (h : (g t).v ≠ .gone) :
    Sim F (upd B t []) (B t ++ H) (ovl [(t, ⟨(g t).iv + 1, (g t).cv + 1, .gone⟩)] g) a w ∧ Ext F (Own B H) w F (Own (upd B t []) (B t ++ H)) w := by
  refine s.reslot (by simp [SRep]) (fun _ h => h) (s.inb h) (by simp) (by simp) (by simp) (by simp) (by simp) (by simp) ?_ ?_ (fun _ h => Or.inl h)
  · rw [List.nodup_append]
    refine ⟨s.nd t, s.hnd, ?_⟩
    rintro b hb c hc rfl
    exact s.hB b hc t hb
  · intro b hb
    rcases List.mem_append.mp hb with q | q
    · exact Or.inr ⟨q, by simp⟩
    · exact Or.inl q
theorem like_frzL (cs : List D) : Like cs (frzL cs) :=
  fun k ob xs i e h1 h2 => ⟨false, frzL xs, e.frz, by have := frzL_get h1; simpa [D.frz] using this, frzL_get h2, frz_width e⟩
/-- A root frozen as a whole (an owned value). -/
theorem Sim.frozen {F : Nat → Prop} {B : Nat → List Nat} {H : List Nat} {g : Nat → Sl} {a : Act} {w : World} (s : Sim F B H g a w) {t p : Nat} {x : D} (h : (g t).v = .own p x) :
    Sim (fun b => F b ∨ b ∈ B t) (upd B t []) H (ovl [(t, ⟨(g t).iv, (g t).cv, .own p x.frz⟩)] g) a w ∧ Ext F (Own B H) w (fun b => F b ∨ b ∈ B t) (Own (upd B t []) H) w := by
  have hx : rootD (g t).v = some x := by rw [h]; rfl
  have hr := s.rep t
  rw [h] at hr
  simp only [SRep] at hr
  have := s.change (F' := fun b => F b ∨ b ∈ B t) (H' := H) (x' := x.frz) (Br' := []) hx 0
    (by rw [h]; simp only [withD, SRep]; exact Rep.frz (fun _ h => Or.inl h) _ _ _ (fun _ h => Or.inr h) hr)
    (fun _ => by rw [frz_cells]; exact like_frzL _) (fun _ h => Or.inl h) (by simp) (by simp) s.hnd (fun b hb => Or.inl hb)
    (by
      intro b hb
      rcases hb with q | q
      · exact Or.inl q
      · exact Or.inr ⟨q, by simp, fun hh => s.hB b hh t q⟩)
  rw [h] at this
  simpa [withD] using this
theorem rep_ofVal1 {w : World} {F : Nat → Prop} {v : Value} {x : D} (h : ofVal1 v = some x) : Rep w F x v [] ∧ x.isAgg = false := by
  unfold ofVal1 at h
  split at h
  all_goals first | (simp at h; done) | (injection h with h; subst h)
  all_goals first | (simp [Rep, RepL, D.isAgg, oneC]; done) | skip
theorem rep_ofValL {w : World} {F : Nat → Prop} : ∀ {vs : List Value} {xs : List D}, ofValL vs = some xs → RepL w F xs vs [] ∧ ∀ x ∈ xs, x.isAgg = false
  | [], xs, h => by simp [ofValL] at h; subst h; exact ⟨RepL.nil, by simp⟩
  | v :: vs, xs, h => by
    simp only [ofValL, Option.bind_eq_some_iff, Option.map_eq_some_iff] at h
    obtain ⟨x, h1, ys, h2, rfl⟩ := h
    obtain ⟨q1, q2⟩ := rep_ofVal1 (w := w) (F := F) h1
    obtain ⟨r1, r2⟩ := rep_ofValL (w := w) (F := F) h2
    refine ⟨RepL.cons (B1 := []) (B2 := []) q1 r1, ?_⟩
    intro z hz
    rcases List.mem_cons.mp hz with hz | hz
    · rw [hz]; exact q2
    · exact r2 z hz
theorem rep_ofVal {w : World} {F : Nat → Prop} {v : Value} {x : D} (h : ofVal v = some x) : Rep w F x v [] := by
  unfold ofVal at h
  split at h
  · rename_i cs
    simp only [Option.map_eq_some_iff] at h
    obtain ⟨xs, h1, rfl⟩ := h
    obtain ⟨q1, q2⟩ := rep_ofValL (w := w) (F := F) h1
    have := Rep.agg q1 q2
    simpa using this
  · exact (rep_ofVal1 h).1
theorem rep_func {w : World} {F : Nat → Prop} (f : FuncId) : Rep w F (.fn f [] []) (.func (.func f) #[] #[]) [] := by
  simp only [Rep]
  exact ⟨[], [], [], rfl, RepL.nil, RepL.nil, ⟨rfl, by simp⟩, trivial⟩
theorem Sim.take {F : Nat → Prop} {B : Nat → List Nat} {H : List Nat} {g : Nat → Sl} {a : Act} {w : World} (s : Sim F B H g a w) {mv : Bool} {o : Operand} {y : D} {u : Ov}
    (h : take mv g o = some (y, u)) : Got F B H (ovl u g) a w y (a.eval o) := by
  unfold Go.Pi.take at h
  split at h
  · rename_i c
    simp only [Option.map_eq_some_iff] at h
    obtain ⟨x, h1, h2⟩ := h
    injection h2 with h2 h3
    subst h2 h3
    exact ⟨F, B, [], s, rep_ofVal h1, Ext.refl _ _ _⟩
  · rename_i f
    injection h with h
    injection h with h2 h3
    subst h2 h3
    exact ⟨F, B, [], s, rep_func f, Ext.refl _ _ _⟩
  · simp at h
  · rename_i t
    have hr := s.rep t
    have hl := s.loc t
    unfold takeS at h
    split at h
    · rename_i iv cv x hs
      injection h with h
      injection h with h2 h3
      subst h2 h3
      rw [hs] at hr
      simp only [SRep] at hr
      exact ⟨F, B, [], s, hr.1, Ext.refl _ _ _⟩
    · rename_i iv cv p x hs
      rw [hs] at hr
      simp only [SRep] at hr
      have hv : (g t).v = .own p x := by rw [hs]
      split at h
      · injection h with h
        injection h with h2 h3
        subst h2 h3
        obtain ⟨q1, q2⟩ := s.moved (t := t) (by rw [hv]; simp)
        rw [hs] at q1
        exact ⟨F, _, B t, q1, hr, q2⟩
      · injection h with h
        injection h with h2 h3
        subst h2 h3
        obtain ⟨q1, q2⟩ := s.frozen hv
        rw [hs] at q1
        exact ⟨_, _, [], q1, Rep.frz (fun _ h => Or.inl h) _ _ _ (fun _ h => Or.inr h) hr, q2⟩
    · rename_i iv0 cv0 r iv cv hop off n ag hs
      have hv : (g t).v = .ref r iv cv hop off n ag := by rw [hs]
      unfold Loc at hl
      rw [hv] at hl
      obtain ⟨_, _, hl⟩ := hl
      simp only [Option.bind_eq_some_iff] at h
      obtain ⟨y0, h1, h2⟩ := h
      have h1' := h1
      unfold refD at h1'
      split at h1'
      · rename_i hiv
        obtain ⟨us, k1, k2, k3⟩ := hl hiv.1 hiv.2
        have := s.takeR h1 k1 k2 h2
        rw [← k3] at this
        exact this
      · simp at h1'
    · simp at h
end Go.Pi

/- Putting a value into a slot. -/
namespace Go.Pi
open Go
set_option linter.unusedSimpArgs false
set_option linter.unusedVariables false

/-- A value that a slot may take: what a reference needs. -/
def LocV (g : Nat → Sl) (a : Act) (w : World) (V : V) (val : Value) : Prop :=
  match V with
  | .wp r iv cv hop off => iv ≤ (g r).iv ∧ cv ≤ (g r).cv ∧ ((g r).iv = iv → (hop = none ∨ (g r).cv = cv) →
      ∃ b o, PAddr w (g r).v (a.tmps.getD r undef) hop b o ∧ val = .pointer (some ⟨b, o + off, none⟩))
  | .ref r iv cv hop off n ag => iv ≤ (g r).iv ∧ cv ≤ (g r).cv ∧ ((g r).iv = iv → (g r).cv = cv →
      ∃ us : List Value, us.length = n ∧ PVals w (g r).v (a.tmps.getD r undef) hop off us ∧ val = ofCells ag us)
  | .mv _ => False
  | _ => True
theorem Sim.put {F : Nat → Prop} {B : Nat → List Nat} {Hn H : List Nat} {g : Nat → Sl} {a : Act} {w : World} (s : Sim F B (Hn ++ H) g a w) {d : Nat} {V : V} {val : Value}
    (hfree : pinOf (g d).v = 0) (hd : d < a.tmps.size) (hrep : SRep w F V val Hn) (hloc : LocV g a w V val)
    (hm : ∀ i, (g i).v = .mv d → ∀ y, V = .box (i + 2) y → ∃ vs b t, a.tmps.getD i undef = .agg vs ∧ val = .pointer (some ⟨b, 0, none⟩) ∧ w.heap[b]? = some (.cells vs t (0, 0))) :
    Sim F (upd B d Hn) H (ovl [(d, ⟨(g d).iv + 1, (g d).cv + 1, V⟩)] g) (a.put (some d) val) w ∧ Ext F (Own B (Hn ++ H)) w F (Own (upd B d Hn) H) w := by
  have ht : ∀ i, i ≠ d → (a.put (some d) val).tmps.getD i undef = a.tmps.getD i undef := fun i hi => by rw [put_getD]; simp [hi]
  have htd : (a.put (some d) val).tmps.getD d undef = val := by rw [put_getD]; simp [hd]
  have hHn := List.nodup_append.mp s.hnd
  have hkeep : ∀ q, KeepR g a w (ovl [(d, ⟨(g d).iv + 1, (g d).cv + 1, V⟩)] g) (a.put (some d) val) w q := by
    intro q
    by_cases hq : q = d
    · subst hq
      exact ⟨by rw [ovl1_same]; simp, by rw [ovl1_same]; simp, fun h => by rw [ovl1_same] at h; simp at h, fun h => by rw [ovl1_same] at h; simp at h, fun h => by rw [ovl1_same] at h; simp at h⟩
    · exact KeepR.of_same (ovl1_ne _ _ _ hq) (ht q hq)
  constructor
  · refine ⟨?_, ?_, ?_, ?_, ?_, ?_, s.ltF, hHn.2.1, ?_, ?_, ?_, ?_, ?_⟩
    · intro i
      by_cases hi : i = d
      · subst hi; rw [ovl1_same, upd_same, htd]; exact hrep
      · rw [ovl1_ne _ _ _ hi, upd_ne _ _ _ hi, ht i hi]
        exact s.rep i
    · intro i
      by_cases hi : i = d
      · subst hi
        unfold Loc
        rw [ovl1_same]
        unfold LocV at hloc
        cases V <;> simp only at hloc ⊢
        case wp r iv cv hop off =>
          obtain ⟨h1, h2, h3⟩ := hloc
          have kr := hkeep r
          refine ⟨Nat.le_trans h1 kr.iv, Nat.le_trans h2 kr.cv, fun q1 q2 => ?_⟩
          have e1 : (g r).iv = iv := by have := kr.iv; omega
          rw [htd]
          rcases q2 with q2 | q2
          · subst q2
            obtain ⟨b, o, p1, p2⟩ := h3 e1 (Or.inl rfl)
            exact ⟨b, o, kr.box (q1.trans e1.symm) b o p1, p2⟩
          · have e2 : (g r).cv = cv := by have := kr.cv; omega
            obtain ⟨b, o, p1, p2⟩ := h3 e1 (Or.inr e2)
            exact ⟨b, o, kr.addr (q1.trans e1.symm) (q2.trans e2.symm) hop b o p1, p2⟩
        case ref r iv cv hop off n ag =>
          obtain ⟨h1, h2, h3⟩ := hloc
          have kr := hkeep r
          refine ⟨Nat.le_trans h1 kr.iv, Nat.le_trans h2 kr.cv, fun q1 q2 => ?_⟩
          have e1 : (g r).iv = iv := by have := kr.iv; omega
          have e2 : (g r).cv = cv := by have := kr.cv; omega
          rw [htd]
          obtain ⟨us, p1, p2, p3⟩ := h3 e1 e2
          exact ⟨us, p1, kr.vals (q1.trans e1.symm) (q2.trans e2.symm) hop off us p2, p3⟩
      · unfold Loc
        have hl := s.loc i
        rw [show ((ovl [(d, ⟨(g d).iv + 1, (g d).cv + 1, V⟩)] g) i) = g i from ovl1_ne _ _ _ hi]
        cases hv : (g i).v with
        | mv e =>
          by_cases he : e = d
          · subst he
            intro y hy
            rw [ovl1_same] at hy
            obtain ⟨vs, b, t, p1, p2, p3⟩ := hm i hv y hy
            exact ⟨vs, b, t, by rw [ht i hi]; exact p1, by rw [htd]; exact p2, p3⟩
          · intro y hy
            rw [ovl1_ne _ _ _ he] at hy
            unfold Loc at hl
            rw [hv] at hl
            obtain ⟨vs, b, t, p1, p2, p3⟩ := hl y hy
            exact ⟨vs, b, t, by rw [ht i hi]; exact p1, by rw [ht e he]; exact p2, p3⟩
        | _ =>
          have := hl.keep (by rw [ovl1_ne _ _ _ hi]) (ht i hi) hkeep (by rw [hv]; simp)
          unfold Loc at this
          rw [show ((ovl [(d, ⟨(g d).iv + 1, (g d).cv + 1, V⟩)] g) i) = g i from ovl1_ne _ _ _ hi, hv] at this
          exact this
    · intro i
      by_cases hi : i = d
      · subst hi; rw [upd_same]; exact hHn.1
      · rw [upd_ne _ _ _ hi]; exact s.nd i
    · intro i j b hi hj
      by_cases h1 : i = d <;> by_cases h2 : j = d
      · omega
      · subst h1; rw [upd_same] at hi; rw [upd_ne _ _ _ h2] at hj
        exact absurd hj (s.hB b (by simp [hi]) j)
      · subst h2; rw [upd_same] at hj; rw [upd_ne _ _ _ h1] at hi
        exact absurd hi (s.hB b (by simp [hj]) i)
      · rw [upd_ne _ _ _ h1] at hi; rw [upd_ne _ _ _ h2] at hj
        exact s.dj i j b hi hj
    · intro i b hb
      by_cases hi : i = d
      · subst hi; rw [upd_same] at hb; exact s.hF b (by simp [hb])
      · rw [upd_ne _ _ _ hi] at hb; exact s.nF i b hb
    · intro i b hb
      by_cases hi : i = d
      · subst hi; rw [upd_same] at hb; exact s.hlt b (by simp [hb])
      · rw [upd_ne _ _ _ hi] at hb; exact s.lt i b hb
    · intro b hb i hi
      by_cases h1 : i = d
      · subst h1; rw [upd_same] at hi; exact hHn.2.2 b hi b hb rfl
      · rw [upd_ne _ _ _ h1] at hi; exact s.hB b (by simp [hb]) i hi
    · intro b hb; exact s.hF b (by simp [hb])
    · intro b hb; exact s.hlt b (by simp [hb])
    · intro i hi
      rw [put_size] at hi
      rw [ovl1_ne _ _ _ (by omega)]
      exact s.sz i hi
    · rw [put_defers]; exact s.df
  · refine ⟨rfl, rfl, rfl, Nat.le_refl _, fun _ _ _ => rfl, fun _ h => h, fun _ h => Or.inl h, ?_⟩
    intro b hb
    left
    rcases hb with ⟨i, hi⟩ | hb
    · by_cases h1 : i = d
      · subst h1; rw [upd_same] at hi; exact Or.inr (by simp [hi])
      · rw [upd_ne _ _ _ h1] at hi; exact Or.inl ⟨i, hi⟩
    · exact Or.inr (by simp [hb])
/-- What is in hand may be let go. -/
theorem Sim.drop {F : Nat → Prop} {B : Nat → List Nat} {Hn H : List Nat} {g : Nat → Sl} {a : Act} {w : World} (s : Sim F B (Hn ++ H) g a w) : Sim F B H g a w :=
  { s with hnd := (List.nodup_append.mp s.hnd).2.1, hB := fun b hb => s.hB b (by simp [hb]), hF := fun b hb => s.hF b (by simp [hb]), hlt := fun b hb => s.hlt b (by simp [hb]) }
theorem Ext.drop {F O F' : Nat → Prop} {B : Nat → List Nat} {Hn H : List Nat} {w w' : World} (e : Ext F O w F' (Own B (Hn ++ H)) w') : Ext F O w F' (Own B H) w' :=
  { e with newO := fun b hb => e.newO b (by
      rcases hb with hb | hb
      · exact Or.inl hb
      · exact Or.inr (by simp [hb])) }
/-- What is in hand is frozen. -/
theorem Sim.freezeHand {F : Nat → Prop} {B : Nat → List Nat} {Hn H : List Nat} {g : Nat → Sl} {a : Act} {w : World} (s : Sim F B (Hn ++ H) g a w) :
    Sim (fun b => F b ∨ b ∈ Hn) B H g a w := by
  have hHn := List.nodup_append.mp s.hnd
  refine ⟨fun i => SRep.frame (fun _ h => Or.inl h) (fun _ _ => rfl) _ _ _ (fun _ _ => rfl) (s.rep i), s.loc, s.nd, s.dj, ?_, s.lt, ?_, hHn.2.1, fun b hb => s.hB b (by simp [hb]), ?_, fun b hb => s.hlt b (by simp [hb]), s.sz, s.df⟩
  · intro i b hb h
    rcases h with h | h
    · exact s.nF i b hb h
    · exact s.hB b (by simp [h]) i hb
  · intro b h
    rcases h with h | h
    · exact s.ltF b h
    · exact s.hlt b (by simp [h])
  · intro b hb h
    rcases h with h | h
    · exact s.hF b (by simp [hb]) h
    · exact hHn.2.2 b h b hb rfl
theorem Ext.freezeHand {F O F' : Nat → Prop} {B : Nat → List Nat} {Hn H : List Nat} {w w' : World} (e : Ext F O w F' (Own B (Hn ++ H)) w') : Ext F O w (fun b => F' b ∨ b ∈ Hn) (Own B H) w' :=
  { os := e.os, tape := e.tape, output := e.output, size := e.size, keep := e.keep, mono := fun b h => Or.inl (e.mono b h),
    newF := fun b h => by
      rcases h with h | h
      · exact e.newF b h
      · exact Or.inr (e.newO b (Or.inr (by simp [h]))),
    newO := fun b hb => e.newO b (by
      rcases hb with hb | hb
      · exact Or.inl hb
      · exact Or.inr (by simp [hb])) }
/-- A new block. -/
theorem al_old (w : World) (o : Obj) {b : Nat} (h : b < w.heap.size) : (w.alloc o).heap[b]? = w.heap[b]? := by
  show (w.heap.push o)[b]? = _
  rw [Array.getElem?_push, if_neg (by omega)]
theorem al_new (w : World) (o : Obj) : (w.alloc o).heap[w.heap.size]? = some o := by
  show (w.heap.push o)[w.heap.size]? = _
  rw [Array.getElem?_push, if_pos rfl]
theorem al_size (w : World) (o : Obj) : (w.alloc o).heap.size = w.heap.size + 1 := Array.size_push _
/-- The relation in a world in which owned memory of the hand, and new memory, alone are other. -/
theorem Sim.world {F : Nat → Prop} {B : Nat → List Nat} {H H' : List Nat} {g : Nat → Sl} {a : Act} {w w' : World} (s : Sim F B H g a w)
    (hs : w.heap.size ≤ w'.heap.size) (hk : ∀ b, b < w.heap.size → b ∉ H → w'.heap[b]? = w.heap[b]?) (h1 : H'.Nodup) (h2 : ∀ b ∈ H', b ∈ H ∨ (w.heap.size ≤ b ∧ b < w'.heap.size)) :
    Sim F B H' g a w' := by
  have eF : Agree w w' F := fun b hb => hk b (s.ltF b hb) fun hh => s.hF b hh hb
  have eB : ∀ i, ∀ b ∈ B i, w'.heap[b]? = w.heap[b]? := fun i b hb => hk b (s.lt i b hb) fun hh => s.hB b hh i hb
  have hroot : ∀ r, rootVals w' (g r).v (a.tmps.getD r undef) = rootVals w (g r).v (a.tmps.getD r undef) := by
    intro r
    have hr := s.rep r
    cases hv : (g r).v <;> simp only [rootVals]
    rw [hv] at hr
    simp only [SRep] at hr
    obtain ⟨b, u, t, B', e1, e2, e3, e4⟩ := hr
    rw [e1]
    simp only
    rw [eB r b (by rw [e4]; simp)]
  have haddr : ∀ r hop b o, PAddr w (g r).v (a.tmps.getD r undef) hop b o → PAddr w' (g r).v (a.tmps.getD r undef) hop b o := by
    intro r hop b o h
    cases hop with
    | none => exact h
    | some q =>
      obtain ⟨k, i⟩ := q
      obtain ⟨x, cs, ob, xs, e, n, c, o0, q1, q2, q3⟩ := h
      exact ⟨x, cs, ob, xs, e, n, c, o0, q1, by rw [hroot]; exact q2, q3⟩
  have hvals : ∀ r hop off us, PVals w (g r).v (a.tmps.getD r undef) hop off us → PVals w' (g r).v (a.tmps.getD r undef) hop off us := by
    intro r hop off us h
    cases hop with
    | none =>
      obtain ⟨cs, q1, q2⟩ := h
      exact ⟨cs, by rw [hroot]; exact q1, q2⟩
    | some q =>
      obtain ⟨b, o, q1, q2⟩ := h
      refine ⟨b, o, haddr r _ b o q1, fun k hk' => ?_⟩
      rw [← q2 k hk']
      obtain ⟨k', i⟩ := q
      obtain ⟨x, cs, ob, xs, e, n, c, o0, r1, r2, r3, r4, r5, r6⟩ := q1
      apply cell_of_agree
      obtain ⟨cs', B0, e1, e2, e3, e4, e5⟩ := (s.rep r).cells r1
      rw [r2] at e1
      injection e1 with e1
      subst e1
      cases ob with
      | true =>
        obtain ⟨b', len, cap, cur, t, rv, L, M, R, p1, p2, p3, p4, p5, _⟩ := e2.hop r3 r4
        simp only [Array.getElem?_toList] at p1
        rw [r5] at p1
        injection p1 with p1
        injection p1 with p1 _ _
        injection p1 with p1
        injection p1 with p1 _
        subst p1
        exact eB r _ (e5 _ (by rw [p4]; simp [p5]))
      | false =>
        obtain ⟨v, L, M, R, g1, g2, g3, _⟩ := e2.at r3
        simp only [Rep] at g3
        obtain ⟨A, c', m, rvs, g4, _, g5, _, g6⟩ := g3
        simp only [Array.getElem?_toList] at g1
        rw [r5] at g1
        injection g1 with g1
        subst g1
        injection g4 with g4 _ _
        rcases g6 with g6 | ⟨b', o', g6, g7, g8⟩
        · subst g6; simp at r4
        · rw [g6] at g4
          injection g4 with g4
          injection g4 with g4 _
          subst g4
          exact eF _ g7
  refine ⟨?_, ?_, s.nd, s.dj, s.nF, fun i b hb => Nat.lt_of_lt_of_le (s.lt i b hb) hs, fun b hb => Nat.lt_of_lt_of_le (s.ltF b hb) hs, h1, ?_, ?_, ?_, s.sz, s.df⟩
  · exact fun i => SRep.frame (fun _ h => h) eF _ _ _ (eB i) (s.rep i)
  · intro i
    refine (s.loc i).keep rfl rfl (fun r => ⟨Nat.le_refl _, Nat.le_refl _, fun _ b o h => haddr r none b o h, fun _ _ hop b o h => haddr r hop b o h, fun _ _ hop off us h => hvals r hop off us h⟩) ?_
    intro d hd y hy
    refine ⟨⟨y, hy⟩, rfl, fun b cs t hb hc => ?_⟩
    have hr := s.rep d
    rw [hy] at hr
    simp only [SRep] at hr
    obtain ⟨b', u, t', B', e1, e2, e3, e4⟩ := hr
    rw [hb] at e1
    injection e1 with e1
    injection e1 with e1
    injection e1 with e1
    subst e1
    rw [eB d b (by rw [e4]; simp)]
    exact hc
  · intro b hb i hi
    rcases h2 b hb with q | q
    · exact s.hB b q i hi
    · have := s.lt i b hi; omega
  · intro b hb hF
    rcases h2 b hb with q | q
    · exact s.hF b q hF
    · have := s.ltF b hF; omega
  · intro b hb
    rcases h2 b hb with q | q
    · exact Nat.lt_of_lt_of_le (s.hlt b q) hs
    · exact q.2
end Go.Pi
