/- Plain words for pictures: rows of 1 and 0. No program in sight. -/
import Derived.Test.YtipadgpgcdjflaaDoorBase
namespace Go.Proofs.YtipadgpgcdjflaaDoor
open Go.RowKit

def bitB (x : Int) : Bool := x == 0 || x == 1
def bitsB (row : List Int) (n : Int) : Bool := row.all bitB && (row.length : Int) == n
/-- is it a picture? -/
def picB (p : List (List Int)) : Bool := (decide (1 ≤ p.length) && decide (p.length ≤ 5)) && p.all fun r => bitsB r p.length
def nodeB (p : List (List Int)) (i : Int) : Bool := picB p && (decide (0 ≤ i) && decide (i < p.length))

theorem bitB_iff (x : Int) : bitB x = true ↔ x = 0 ∨ x = 1 := by simp [bitB]
theorem bitsB_iff (row : List Int) (n : Int) : bitsB row n = true ↔ (∀ x ∈ row, x = 0 ∨ x = 1) ∧ (row.length : Int) = n := by
  simp [bitsB, bitB_iff]
theorem picB_iff (p : List (List Int)) : picB p = true ↔ 1 ≤ p.length ∧ p.length ≤ 5 ∧ ∀ r ∈ p, r.length = p.length ∧ ∀ x ∈ r, x = 0 ∨ x = 1 := by
  simp only [picB, Bool.and_eq_true, decide_eq_true_eq, List.all_eq_true, bitsB_iff, and_assoc]
  constructor
  · rintro ⟨a, b, c⟩; exact ⟨a, b, fun r hr => ⟨by have := (c r hr).2; omega, (c r hr).1⟩⟩
  · rintro ⟨a, b, c⟩; exact ⟨a, b, fun r hr => ⟨(c r hr).2, by have := (c r hr).1; omega⟩⟩
theorem nodeB_iff (p : List (List Int)) (i : Int) : nodeB p i = true ↔ picB p = true ∧ 0 ≤ i ∧ i < p.length := by simp [nodeB]

/-- the number at a place; 0 outside -/
def ent (p : List (List Int)) (i j : Nat) : Int := (p.getD i []).getD j 0
theorem ent_in {p : List (List Int)} {i j : Nat} (hi : i < p.length) (hj : j < p[i].length) : ent p i j = p[i][j] := by
  simp [ent, List.getD_eq_getElem?_getD, hi, hj]

theorem pic_row {p : List (List Int)} (h : picB p = true) {i : Nat} (hi : i < p.length) : p[i].length = p.length := (((picB_iff p).1 h).2.2 _ (List.getElem_mem hi)).1
theorem pic_bit {p : List (List Int)} (h : picB p = true) {i j : Nat} (hi : i < p.length) (hj : j < p.length) : ent p i j = 0 ∨ ent p i j = 1 := by
  have hj' : j < p[i].length := by rw [pic_row h hi]; exact hj
  rw [ent_in hi hj']
  exact (((picB_iff p).1 h).2.2 _ (List.getElem_mem hi)).2 _ (List.getElem_mem hj')
theorem pic_ent {p : List (List Int)} (h : picB p = true) {i j : Nat} (hi : i < p.length) (hj : j < p.length) : p[i][j]'(by rw [pic_row h hi]; exact hj) = ent p i j := by
  rw [ent_in hi (by rw [pic_row h hi]; exact hj)]

/-- rows written out of a rule -/
def mkR (n : Nat) (f : Nat → Nat → Int) : List (List Int) := (List.range n).map fun i => (List.range n).map fun j => f i j
theorem mkR_len (n : Nat) (f : Nat → Nat → Int) : (mkR n f).length = n := by simp [mkR]
theorem mkR_row (n : Nat) (f : Nat → Nat → Int) (i : Nat) (h : i < (mkR n f).length) : (mkR n f)[i] = (List.range n).map fun j => f i j := by simp [mkR]
theorem mkR_rowLen (n : Nat) (f : Nat → Nat → Int) (i : Nat) (h : i < (mkR n f).length) : ((mkR n f)[i]).length = n := by simp [mkR]
theorem mkR_ent (n : Nat) (f : Nat → Nat → Int) {i j : Nat} (hi : i < n) (hj : j < n) : ent (mkR n f) i j = f i j := by
  simp [ent, mkR, List.getD_eq_getElem?_getD, hi, hj]
theorem mkR_pic {n : Nat} {f : Nat → Nat → Int} (h1 : 1 ≤ n) (h2 : n ≤ 5) (hf : ∀ i j, f i j = 0 ∨ f i j = 1) : picB (mkR n f) = true := by
  rw [picB_iff, mkR_len]
  refine ⟨h1, h2, fun r hr => ?_⟩
  obtain ⟨i, hi, rfl⟩ := List.getElem_of_mem hr
  refine ⟨mkR_rowLen n f i hi, fun x hx => ?_⟩
  rw [mkR_row] at hx
  obtain ⟨j, _, rfl⟩ := List.mem_map.1 hx
  exact hf i j
theorem mkR_congr {n : Nat} {f g : Nat → Nat → Int} (h : ∀ i j, i < n → j < n → f i j = g i j) : mkR n f = mkR n g := by
  unfold mkR
  apply List.map_congr_left
  intro i hi
  apply List.map_congr_left
  intro j hj
  exact h i j (List.mem_range.1 hi) (List.mem_range.1 hj)
/-- a picture is what its numbers are -/
theorem pic_eq {p : List (List Int)} (h : picB p = true) : p = mkR p.length (ent p) := by
  apply List.ext_getElem (by rw [mkR_len])
  intro i h1 h2
  apply List.ext_getElem (by rw [mkR_rowLen, pic_row h h1])
  intro j h3 h4
  rw [pic_row h h1] at h3
  rw [pic_ent h h1 h3]
  simp [mkR]
theorem mkR_zero (n : Nat) : List.replicate n (List.replicate n (0 : Int)) = mkR n fun _ _ => 0 := by
  apply List.ext_getElem (by simp [mkR])
  intro i h1 h2
  apply List.ext_getElem (by simp [mkR])
  intro j h3 h4
  simp [mkR]
theorem mkR_set (n : Nat) (f : Nat → Nat → Int) {i j : Nat} (hi : i < n) (_hj : j < n) (x : Int) :
    (mkR n f).set i (((mkR n f)[i]'(by rw [mkR_len]; exact hi)).set j x) = mkR n fun a b => if a = i ∧ b = j then x else f a b := by
  apply List.ext_getElem (by simp [mkR])
  intro a h1 h2
  by_cases ha : i = a
  · subst ha
    rw [List.getElem_set_self]
    apply List.ext_getElem (by simp [mkR])
    intro b h3 h4
    by_cases hb : j = b
    · subst hb; rw [List.getElem_set_self]; simp [mkR]
    · rw [List.getElem_set_ne hb]
      have : ¬ b = j := fun e => hb e.symm
      simp [mkR, this]
  · rw [List.getElem_set_ne ha]
    have : ¬ a = i := fun e => ha e.symm
    simp [mkR, this]

/-! ### loops over a row -/
def BitsTo (row : List Int) (k : Nat) : Prop := ∀ j (h : j < row.length), j < k → row[j] = 0 ∨ row[j] = 1
theorem BitsTo.step {row : List Int} {k : Nat} (h : BitsTo row k) (hk : k < row.length) (e : row[k] = 0 ∨ row[k] = 1) : BitsTo row (k + 1) := by
  intro j hj hjk
  by_cases hjk2 : j = k
  · subst hjk2; exact e
  · exact h j hj (by omega)
theorem BitsTo.all {row : List Int} {k : Nat} (h : BitsTo row k) (hk : ¬ k < row.length) : ∀ x ∈ row, x = 0 ∨ x = 1 := by
  intro x hx
  obtain ⟨j, hj, rfl⟩ := List.getElem_of_mem hx
  exact h j hj (by omega)
theorem BitsTo.bits {row : List Int} {k : Nat} {n : Int} (h : BitsTo row k) (hk : ¬ k < row.length) : ((row.length : Int) == n) = bitsB row n := by
  rw [Bool.eq_iff_iff, beq_iff_eq, bitsB_iff]
  exact ⟨fun e => ⟨h.all hk, e⟩, fun e => e.2⟩
theorem bits_bad {row : List Int} {k : Nat} {n : Int} (hk : k < row.length) (e : ¬ (row[k] = 0 ∨ row[k] = 1)) : bitsB row n = false := by
  rw [Bool.eq_false_iff]; intro h
  exact e (((bitsB_iff row n).1 h).1 _ (List.getElem_mem hk))
def RowsTo (p : List (List Int)) (k : Nat) : Prop := ∀ j (h : j < p.length), j < k → bitsB p[j] p.length = true
theorem RowsTo.step {p : List (List Int)} {k : Nat} (h : RowsTo p k) (hk : k < p.length) (e : bitsB p[k] p.length = true) : RowsTo p (k + 1) := by
  intro j hj hjk
  by_cases hjk2 : j = k
  · subst hjk2; exact e
  · exact h j hj (by omega)
theorem RowsTo.pic {p : List (List Int)} {k : Nat} (h : RowsTo p k) (hk : ¬ k < p.length) (h1 : 1 ≤ p.length) (h2 : p.length ≤ 5) : picB p = true := by
  simp only [picB, Bool.and_eq_true, decide_eq_true_eq, List.all_eq_true]
  refine ⟨⟨h1, h2⟩, fun r hr => ?_⟩
  obtain ⟨j, hj, rfl⟩ := List.getElem_of_mem hr
  exact h j hj (by omega)
theorem RowsTo.inB {p : List (List Int)} {k : Nat} (h : RowsTo p k) (hk : ¬ k < p.length) : (decide ((1 : Int) ≤ p.length) && decide ((p.length : Int) ≤ 5)) = picB p := by
  rw [Bool.eq_iff_iff]
  constructor
  · intro e
    simp only [Bool.and_eq_true, decide_eq_true_eq] at e
    exact h.pic hk (by omega) (by omega)
  · intro e
    have := (picB_iff p).1 e
    simp only [Bool.and_eq_true, decide_eq_true_eq]
    omega
theorem pic_bad {p : List (List Int)} {k : Nat} (hk : k < p.length) (e : bitsB p[k] p.length = false) : picB p = false := by
  rw [Bool.eq_false_iff]; intro h
  simp only [picB, Bool.and_eq_true, List.all_eq_true] at h
  rw [h.2 _ (List.getElem_mem hk)] at e; cases e
theorem pic_size {p : List (List Int)} (h : ¬ (1 ≤ p.length ∧ p.length ≤ 5)) : picB p = false := by
  rw [Bool.eq_false_iff]; intro e
  have := (picB_iff p).1 e
  exact h ⟨this.1, this.2.1⟩
end Go.Proofs.YtipadgpgcdjflaaDoor
