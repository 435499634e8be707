/- Plain words for the texts of pictures. No program in sight. -/
import Derived.Test.YtipadgpgcdjflaaDoorPics2
import Derived.Lib.Join
namespace Go.Proofs.YtipadgpgcdjflaaDoor
open Go.RowKit

/-- a digit -/
def dig (v : Nat) : UInt8 := UInt8.ofNat (48 + v)
def digs (l : List Nat) : List UInt8 := l.map dig
theorem digs_app (a b : List Nat) : digs (a ++ b) = digs a ++ digs b := List.map_append
theorem digs_len (l : List Nat) : (digs l).length = l.length := List.length_map _
theorem digs_take (l : List Nat) (j : Nat) (h : j < l.length) : digs (l.take (j + 1)) = digs (l.take j) ++ [dig l[j]] := by
  rw [List.take_succ_eq_append_getElem h, digs_app]; rfl
/-- a node's part -/
def partL (p : List (List Int)) (i : Nat) : List UInt8 := digs (arrowsL p i)
/-- the first k parts -/
def partsTo (p : List (List Int)) (k : Nat) : List (List UInt8) := (List.range k).map (partL p)
theorem partsTo_step (p : List (List Int)) (k : Nat) : partsTo p (k + 1) = partsTo p k ++ [partL p k] := by simp [partsTo, List.range_succ]
theorem partsTo_len (p : List (List Int)) (k : Nat) : (partsTo p k).length = k := by simp [partsTo]
/-- the text of the first k nodes -/
def textTo (p : List (List Int)) (k : Nat) : List UInt8 := Lib.join (partsTo p k) [47]
/-- the text of a picture -/
def picText (p : List (List Int)) : List UInt8 := textTo p p.length
theorem join_snoc (ls : List (List UInt8)) (x : List UInt8) : Lib.join (ls ++ [x]) [47] = if ls = [] then x else Lib.join ls [47] ++ [47] ++ x := by
  cases ls with
  | nil => simp [Lib.join_one]
  | cons y r => simp [Lib.join_cons, Lib.joinTail, List.append_assoc]
theorem textTo_zero (p : List (List Int)) : textTo p 0 = [] := by simp [textTo, partsTo, Lib.join_nil]
theorem textTo_one (p : List (List Int)) : textTo p 1 = partL p 0 := by
  have := join_snoc (partsTo p 0) (partL p 0)
  rw [← partsTo_step] at this
  rw [textTo, this]; simp [partsTo]
theorem textTo_step (p : List (List Int)) (k : Nat) (hk : 0 < k) : textTo p (k + 1) = textTo p k ++ [47] ++ partL p k := by
  rw [textTo, partsTo_step, join_snoc, if_neg, textTo]
  intro e
  have := congrArg List.length e
  rw [partsTo_len, List.length_nil] at this; omega
theorem partL_len {p : List (List Int)} (h : picB p = true) {i : Nat} (hi : i < p.length) : (partL p i).length ≤ 5 := by
  rw [partL, digs_len]
  have h1 := arrowsL_len p i
  have h2 := pic_row h hi
  have h3 := ((picB_iff p).1 h).2.1
  have : p.getD i [] = p[i] := by simp [List.getD_eq_getElem?_getD, hi]
  rw [this] at h1; omega
theorem textTo_len {p : List (List Int)} (h : picB p = true) (k : Nat) (hk : k ≤ p.length) : (textTo p k).length ≤ 6 * k := by
  induction k with
  | zero => rw [textTo_zero]; simp
  | succ k ih =>
    have h1 := partL_len h (i := k) (by omega)
    have h2 := ih (by omega)
    by_cases h0 : k = 0
    · subst h0; rw [textTo_one]; omega
    · rw [textTo_step p k (by omega)]; simp; omega
/-- what PictureText answers -/
def picI (p : List (List Int)) : List UInt8 := if picB p then picText p else []
theorem picI_in {p : List (List Int)} (h : picB p = true) : picI p = picText p := by simp [picI, h]
theorem picI_no {p : List (List Int)} (h : picB p = false) : picI p = [] := by simp [picI, h]
theorem picI_len (p : List (List Int)) : (picI p).length ≤ 30 := by
  cases h : picB p
  · rw [picI_no h]; simp
  · rw [picI_in h]
    have := textTo_len h p.length (Nat.le_refl _)
    have h3 := ((picB_iff p).1 h).2.1
    rw [picText]; omega
/-- the text within a row -/
def rowSoFar (p : List (List Int)) (k j : Nat) : List UInt8 := (if k = 0 then [] else textTo p k ++ [47]) ++ digs (onesTo (p.getD k []) j)
theorem rowSoFar_first (p : List (List Int)) : rowSoFar p 0 0 = textTo p 0 := by rw [textTo_zero]; rfl
theorem rowSoFar_zero (p : List (List Int)) (k : Nat) (hk : 0 < k) : rowSoFar p k 0 = textTo p k ++ [47] := by rw [rowSoFar, if_neg (by omega)]; simp [onesTo, digs]
theorem rowSoFar_step {p : List (List Int)} (h : picB p = true) {k j : Nat} (hk : k < p.length) (hj : j < p.length) : rowSoFar p k (j + 1) = rowSoFar p k j ++ if ent p k j = 1 then [dig j] else [] := by
  have hr : p.getD k [] = p[k] := by simp [List.getD_eq_getElem?_getD, hk]
  have hjl : j < p[k].length := by rw [pic_row h hk]; exact hj
  rw [rowSoFar, rowSoFar, hr, onesTo_step _ _ hjl, digs_app, ← List.append_assoc]
  congr 1
  rw [ent_in hk hjl]
  by_cases e : p[k][j] = 1
  · simp [e, digs]
  · simp [e, digs]
theorem rowSoFar_all {p : List (List Int)} (h : picB p = true) {k : Nat} (hk : k < p.length) : rowSoFar p k p.length = textTo p (k + 1) := by
  have hr : p.getD k [] = p[k] := by simp [List.getD_eq_getElem?_getD, hk]
  have hpl : partL p k = digs (onesTo p[k] p.length) := by rw [partL, arrowsL_in hk, pic_row h hk]
  rw [rowSoFar, hr, ← hpl]
  by_cases h0 : k = 0
  · subst h0; rw [if_pos rfl, textTo_one]; rfl
  · rw [if_neg h0, textTo_step p k (by omega)]
theorem rowSoFar_len {p : List (List Int)} (h : picB p = true) {k j : Nat} (hk : k < p.length) (hj : j ≤ p.length) : (rowSoFar p k j).length ≤ 40 := by
  have h1 := textTo_len h k (by omega)
  have h2 := onesTo_len (p.getD k []) j
  have h3 := ((picB_iff p).1 h).2.1
  rw [rowSoFar, List.length_append, digs_len]
  split
  · simp only [List.length_nil]; omega
  · simp only [List.length_append, List.length_singleton]; omega
end Go.Proofs.YtipadgpgcdjflaaDoor
