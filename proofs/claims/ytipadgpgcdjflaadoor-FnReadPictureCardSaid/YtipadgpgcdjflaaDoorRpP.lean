/- Reading pictures: the rows as they are written. No program in sight. -/
import Derived.Test.YtipadgpgcdjflaaDoorCutP
namespace Go.Proofs.YtipadgpgcdjflaaDoor
open Go.RowKit

theorem piece_in {l : List UInt8} {a : Nat} (h : a < (cutL l).length) : pieceOf l a = (cutL l)[a] := by
  simp [pieceOf, List.getD_eq_getElem?_getD, h]
theorem bitD_nil (b : Nat) : bitD [] b = 0 := rfl
/-- the rows while part a is read, k bytes of it done -/
def fM (l : List UInt8) (a k : Nat) (x y : Nat) : Int := if x < a then bitD (pieceOf l x) y else if x = a then bitD ((pieceOf l a).take k) y else 0
theorem fM_start (l : List UInt8) (n : Nat) : List.replicate n (List.replicate n (0 : Int)) = mkR n (fM l 0 0) := by
  rw [mkR_zero]
  apply mkR_congr
  intro i j _ _
  unfold fM
  rw [if_neg (by omega)]
  split <;> simp [bitD_nil]
theorem fM_step {l : List UInt8} {a k v : Nat} (ha : a < (cutL l).length) (hk : k < (cutL l)[a].length) (hc : (cutL l)[a][k].toNat = 48 + v) (hv : v < (cutL l).length) :
    (mkR (cutL l).length (fM l a k)).set a (((mkR (cutL l).length (fM l a k))[a]'(by rw [mkR_len]; exact ha)).set v 1) = mkR (cutL l).length (fM l a (k + 1)) := by
  rw [mkR_set _ _ ha hv]
  apply mkR_congr
  intro i j _ _
  unfold fM
  by_cases hi : i < a
  · rw [if_pos hi, if_pos hi, if_neg (by omega)]
  · rw [if_neg hi, if_neg hi]
    by_cases he : i = a
    · subst he
      rw [if_pos rfl, if_pos rfl, piece_in ha, List.take_succ_eq_append_getElem hk, bitD_snoc _ _ _ v hc]
      by_cases hj : j = v <;> simp [hj]
    · rw [if_neg he, if_neg he, if_neg (by omega)]
theorem fM_next {l : List UInt8} {a k : Nat} (ha : a < (cutL l).length) (hk : ¬ k < (cutL l)[a].length) : mkR (cutL l).length (fM l a k) = mkR (cutL l).length (fM l (a + 1) 0) := by
  apply mkR_congr
  intro i j _ _
  unfold fM
  by_cases hi : i < a
  · rw [if_pos hi, if_pos (by omega)]
  · rw [if_neg hi]
    by_cases he : i = a
    · subst he
      rw [if_pos rfl, if_pos (by omega), piece_in ha, List.take_of_length_le (by omega)]
    · rw [if_neg he, if_neg (by omega)]
      split <;> simp [bitD_nil]
theorem fM_all (l : List UInt8) {a : Nat} (ha : ¬ a < (cutL l).length) : mkR (cutL l).length (fM l a 0) = candP l := by
  apply mkR_congr
  intro i j hi _
  unfold fM
  rw [if_pos (by omega)]
/-- the bytes of part a, the first k of them digits -/
def OkIn (n : Nat) (x : List UInt8) (k : Nat) : Prop := ∀ j (h : j < x.length), j < k → okC n x[j] = true
theorem OkIn.step {n : Nat} {x : List UInt8} {k : Nat} (h : OkIn n x k) (hk : k < x.length) (e : okC n x[k] = true) : OkIn n x (k + 1) := by
  intro j hj hjk
  by_cases hjk2 : j = k
  · subst hjk2; exact e
  · exact h j hj (by omega)
theorem OkIn.all {n : Nat} {x : List UInt8} {k : Nat} (h : OkIn n x k) (hk : ¬ k < x.length) : okD n x = true := by
  rw [okD, List.all_eq_true]; intro c hc
  obtain ⟨j, hj, rfl⟩ := List.getElem_of_mem hc
  exact h j hj (by omega)
theorem OkTo.step {l : List UInt8} {k : Nat} (h : OkTo l k) (hk : k < (cutL l).length) (e : okD (cutL l).length (cutL l)[k] = true) : OkTo l (k + 1) := by
  intro j hj hjk
  by_cases hjk2 : j = k
  · subst hjk2; exact e
  · exact h j hj (by omega)
theorem OkTo.all {l : List UInt8} {k : Nat} (h : OkTo l k) (hk : ¬ k < (cutL l).length) : OkTo l (cutL l).length := fun j hj _ => h j hj (by omega)
theorem okC_iff (n : Nat) (c : UInt8) : okC n c = true ↔ 48 ≤ c.toNat ∧ c.toNat < 48 + n := by simp [okC]
theorem piece_len (l : List UInt8) : ∀ x ∈ cutL l, x.length ≤ l.length := by
  induction l with
  | nil => intro x hx; simp [cutL] at hx; subst hx; simp
  | cons c l ih =>
    intro x hx
    rw [cutL] at hx
    split at hx
    · rcases List.mem_cons.1 hx with e | e
      · subst e; simp
      · have := ih x e; simp; omega
    · rcases List.mem_cons.1 hx with e | e
      · subst e
        have hne := (cutL_len l).1
        have := ih ((cutL l).headD []) (by
          cases h : cutL l with
          | nil => rw [h] at hne; simp at hne
          | cons y r => simp)
        show ((cutL l).headD []).length + 1 ≤ l.length + 1
        omega
      · have := ih x (List.mem_of_mem_tail e); simp; omega
theorem fM_step' {l : List UInt8} {n a k v : Nat} {x : List UInt8} (hn : n = (cutL l).length) (ha : a < (cutL l).length) (hx : x = (cutL l)[a]) (hk : k < x.length) (hc : x[k].toNat = 48 + v) (hv : v < n) (h : a < (mkR n (fM l a k)).length) :
    (mkR n (fM l a k)).set a (((mkR n (fM l a k))[a]'h).set v 1) = mkR n (fM l a (k + 1)) := by
  subst hn; subst hx; exact fM_step ha hk hc hv
theorem rp_bad' {l : List UInt8} {n a k : Nat} {x : List UInt8} (hn : n = (cutL l).length) (ha : a < (cutL l).length) (hx : x = (cutL l)[a]) (hk : k < x.length) (h : okC n x[k] = false) : rpB l = false := by
  subst hn; subst hx; exact rp_bad ha hk h
theorem fM_next' {l : List UInt8} {n a k : Nat} {x : List UInt8} (hn : n = (cutL l).length) (ha : a < (cutL l).length) (hx : x = (cutL l)[a]) (hk : ¬ k < x.length) : mkR n (fM l a k) = mkR n (fM l (a + 1) 0) := by
  subst hn; subst hx; exact fM_next ha hk
theorem okTo_step' {l : List UInt8} {n a k : Nat} {x : List UInt8} (hn : n = (cutL l).length) (ha : a < (cutL l).length) (hx : x = (cutL l)[a]) (h : OkTo l a) (hk : ¬ k < x.length) (h2 : OkIn n x k) : OkTo l (a + 1) := by
  subst hn; subst hx; exact h.step ha (h2.all hk)
theorem fM_all' {l : List UInt8} {n a : Nat} (hn : n = (cutL l).length) (ha : ¬ a < n) : mkR n (fM l a 0) = candP l := by
  subst hn; exact fM_all l ha
theorem rp_whole' {l : List UInt8} {n a : Nat} (hn : n = (cutL l).length) (h5 : n ≤ 5) (h : OkTo l a) (ha : ¬ a < n) : rpB l = decide (picText (candP l) = l) := by
  subst hn; exact rp_whole h5 (h.all ha)
/-- what the reader of pictures answers -/
def RPPost (l : List UInt8) (w : World) (e : Ending) (w' : World) : Prop := ∃ r, e = .returned (.tuple #[r, .bool (rpB l)]) ∧ OwnsR w.heap.size w'.heap.size w' r (rpL l) ∧ Fresh w w'
theorem RPPost.no {l : List UInt8} {w w' : World} {r : Value} (h : rpB l = false) (hO : OwnsR w.heap.size w'.heap.size w' r []) (hF : Fresh w w') : RPPost l w (.returned (.tuple #[r, .bool false])) w' := by
  refine ⟨r, by rw [h], ?_, hF⟩
  rw [rpL_no h]; exact hO
theorem RPPost.yes {l : List UInt8} {w w' : World} {r : Value} (h : rpB l = true) (hO : OwnsR w.heap.size w'.heap.size w' r (candP l)) (hF : Fresh w w') : RPPost l w (.returned (.tuple #[r, .bool true])) w' := by
  refine ⟨r, by rw [h], ?_, hF⟩
  rw [rpL_yes h]; exact hO
end Go.Proofs.YtipadgpgcdjflaaDoor
