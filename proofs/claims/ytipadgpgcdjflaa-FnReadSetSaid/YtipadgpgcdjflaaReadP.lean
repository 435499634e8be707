/- Reading texts of sets from a place on: plain words for the reference's reader. No program in sight. -/
import Derived.Test.YtipadgpgcdjflaaTextP
namespace Go.Proofs.Ytipadgpgcdjflaa
open Go.RowKit

/-- what follows in the text of a set behind its first j members -/
def tailS (l : List Nat) (j : Nat) : List UInt8 := if j = 0 then tailT l else if j < l.length then 44 :: tailT (l.drop j) else [125]
theorem tailS_zero (l : List Nat) : tailS l 0 = tailT l := rfl
theorem tailS_in {l : List Nat} {j : Nat} (h0 : 0 < j) (h : j < l.length) : tailS l j = 44 :: tailT (l.drop j) := by rw [tailS, if_neg (by omega), if_pos h]
theorem tailS_end {l : List Nat} {j : Nat} (h0 : 0 < j) (h : ¬ j < l.length) : tailS l j = [125] := by rw [tailS, if_neg (by omega), if_neg h]
theorem tailT_drop {l : List Nat} {j : Nat} (h : j < l.length) : tailT (l.drop j) = textL l[j] ++ tailS l (j + 1) := by
  rw [List.drop_eq_getElem_cons h]
  by_cases h2 : j + 1 < l.length
  · rw [tailS_in (by omega) h2, List.drop_eq_getElem_cons h2, tailT_cons]
  · rw [tailS_end (by omega) h2, List.drop_eq_nil_of_le (by omega), tailT_one]
theorem setL_pos {n j : Nat} (h0 : 0 < j) (h : j ≤ (memL n).length) : 0 < setL ((memL n).take j) := by
  have hb : (setL ((memL n).take j)).testBit (memL n)[0] = true := by
    rw [testBit_setL, decide_eq_true_eq]
    exact List.mem_take_iff_getElem.2 ⟨0, by omega, rfl⟩
  apply Nat.pos_of_ne_zero
  intro e
  rw [e] at hb; simp at hb
/-- no text of a set begins there -/
def NoText (l : List UInt8) (at_ : Nat) : Prop := ∀ n t, n < 65536 → l.drop at_ ≠ textL n ++ t
/-- a text that begins there is that of x and ends at next -/
def TextAt (l : List UInt8) (at_ x next : Nat) : Prop := x < 65536 ∧ at_ < next ∧ next ≤ l.length ∧ ∀ n t, n < 65536 → l.drop at_ = textL n ++ t → x = n ∧ next = at_ + (textL n).length
/-- behind some members -/
def Behind (l : List UInt8) (at_ S now : Nat) : Prop := S < 65536 ∧ at_ < now ∧ now ≤ l.length ∧ ∀ n t, n < 65536 → l.drop at_ = textL n ++ t → ∃ j, j ≤ (memL n).length ∧ S = setL ((memL n).take j) ∧ l.drop now = tailS (memL n) j ++ t
/-- at a member -/
def Ahead (l : List UInt8) (at_ S cur : Nat) : Prop := S < 65536 ∧ at_ < cur ∧ cur ≤ l.length ∧ ∀ n t, n < 65536 → l.drop at_ = textL n ++ t → ∃ j, j < (memL n).length ∧ S = setL ((memL n).take j) ∧ l.drop cur = tailT ((memL n).drop j) ++ t

theorem drop_at {l : List UInt8} {k : Nat} (h : k < l.length) : l.drop k = l[k] :: l.drop (k + 1) := List.drop_eq_getElem_cons h
theorem noText_end {l : List UInt8} {at_ : Nat} (h : ¬ at_ < l.length) : NoText l at_ := by
  intro n t _ e
  have := congrArg List.length e
  have h2 := textL_pos n
  rw [List.length_drop, List.length_append] at this; omega
theorem noText_head {l : List UInt8} {at_ : Nat} (h : at_ < l.length) (hc : l[at_] ≠ 123) : NoText l at_ := by
  intro n t _ e
  rw [drop_at h, textL_eq] at e
  simp only [List.cons_append, List.cons.injEq] at e
  exact hc e.1
theorem behind_start {l : List UInt8} {at_ : Nat} (h : at_ < l.length) : Behind l at_ 0 (at_ + 1) := by
  refine ⟨by omega, by omega, by omega, fun n t _ e => ⟨0, by omega, rfl, ?_⟩⟩
  rw [drop_at h, textL_eq] at e
  simp only [List.cons_append, List.cons.injEq] at e
  exact e.2
theorem tailS_ne (l : List Nat) (j : Nat) (t : List UInt8) : tailS l j ++ t ≠ [] := by
  intro e
  have := congrArg List.length e
  unfold tailS at this
  split at this
  · simp [tailT] at this
  · split at this <;> simp at this
theorem behind_over {l : List UInt8} {at_ S now : Nat} (h : Behind l at_ S now) (hn : ¬ now < l.length) : NoText l at_ := by
  intro n t hn2 e
  obtain ⟨j, _, _, hd⟩ := h.2.2.2 n t hn2 e
  rw [List.drop_eq_nil_of_le (by omega)] at hd
  exact tailS_ne _ _ _ hd.symm
theorem tailT_head {l : List Nat} (h : 0 < l.length) : ∃ r, tailT l = 123 :: r := by
  have := tailT_drop (l := l) (j := 0) h
  rw [List.drop_zero, textL_eq] at this
  exact ⟨_, this⟩
theorem behind_brace {l : List UInt8} {at_ S now : Nat} (h : Behind l at_ S now) (hn : now < l.length) (hc : l[now] = 125) : TextAt l at_ S (now + 1) := by
  refine ⟨h.1, by have := h.2.1; omega, by omega, fun n t hn2 e => ?_⟩
  obtain ⟨j, hj, hS, hd⟩ := h.2.2.2 n t hn2 e
  rw [drop_at hn, hc] at hd
  have key : ¬ j < (memL n).length := by
    intro hlt
    by_cases h0 : j = 0
    · subst h0
      obtain ⟨r, hr⟩ := tailT_head (l := memL n) hlt
      rw [tailS_zero, hr] at hd; simp at hd
    · rw [tailS_in (by omega) hlt] at hd; simp at hd
  have hlast : S = n := by rw [hS, List.take_of_length_le (by omega), setL_memL hn2]
  have ht : l.drop (now + 1) = t := by
    by_cases h0 : j = 0
    · subst h0
      have : memL n = [] := List.length_eq_zero_iff.1 (by omega)
      rw [tailS_zero, this, tailT_nil] at hd
      simpa using hd
    · rw [tailS_end (by omega) key] at hd
      simpa using hd
  have e1 := congrArg List.length e
  have e2 := congrArg List.length ht
  rw [List.length_drop, List.length_append] at e1
  rw [List.length_drop] at e2
  have h21 := h.2.1
  exact ⟨hlast, by omega⟩
theorem ahead_first {l : List UInt8} {at_ now : Nat} (h : Behind l at_ 0 now) (hn : now < l.length) (hc : l[now] ≠ 125) : Ahead l at_ 0 now := by
  refine ⟨h.1, h.2.1, h.2.2.1, fun n t hn2 e => ?_⟩
  obtain ⟨j, hj, hS, hd⟩ := h.2.2.2 n t hn2 e
  by_cases h0 : j = 0
  · subst h0
    by_cases hl : 0 < (memL n).length
    · exact ⟨0, hl, rfl, by rw [List.drop_zero]; exact hd⟩
    · have : memL n = [] := List.length_eq_zero_iff.1 (by omega)
      rw [tailS_zero, this, tailT_nil, drop_at hn] at hd
      simp only [List.cons_append, List.cons.injEq] at hd
      exact absurd hd.1 hc
  · have := setL_pos (n := n) (j := j) (by omega) hj
    omega
theorem ahead_comma {l : List UInt8} {at_ S now : Nat} (h : Behind l at_ S now) (hS : 0 < S) (hn : now < l.length) (hc : l[now] = 44) : Ahead l at_ S (now + 1) := by
  refine ⟨h.1, by have := h.2.1; omega, by omega, fun n t hn2 e => ?_⟩
  obtain ⟨j, hj, hSj, hd⟩ := h.2.2.2 n t hn2 e
  have h0 : 0 < j := by
    apply Nat.pos_of_ne_zero; intro e0; subst e0; rw [List.take_zero] at hSj; simp [setL] at hSj; omega
  rw [drop_at hn, hc] at hd
  by_cases hlt : j < (memL n).length
  · rw [tailS_in h0 hlt] at hd
    exact ⟨j, hlt, hSj, by simpa using hd⟩
  · rw [tailS_end h0 hlt] at hd; simp at hd
theorem noText_comma {l : List UInt8} {at_ S now : Nat} (h : Behind l at_ S now) (hS : 0 < S) (hn : now < l.length) (hc : l[now] ≠ 44) (hc2 : l[now] ≠ 125) : NoText l at_ := by
  intro n t hn2 e
  obtain ⟨j, hj, hSj, hd⟩ := h.2.2.2 n t hn2 e
  have h0 : 0 < j := by
    apply Nat.pos_of_ne_zero; intro e0; subst e0; rw [List.take_zero] at hSj; simp [setL] at hSj; omega
  rw [drop_at hn] at hd
  by_cases hlt : j < (memL n).length
  · rw [tailS_in h0 hlt] at hd
    simp only [List.cons_append, List.cons.injEq] at hd; exact hc hd.1
  · rw [tailS_end h0 hlt] at hd
    simp only [List.cons_append, List.cons.injEq] at hd; exact hc2 hd.1
theorem ahead_none {l : List UInt8} {at_ S cur : Nat} (h : Ahead l at_ S cur) (hn : NoText l cur) : NoText l at_ := by
  intro n t hn2 e
  obtain ⟨j, hj, _, hd⟩ := h.2.2.2 n t hn2 e
  rw [tailT_drop hj, List.append_assoc] at hd
  have := (mem_memL.1 (List.getElem_mem hj)).1
  exact hn _ _ (by omega) hd
theorem ahead_many {l : List UInt8} {at_ S cur x next : Nat} (h : Ahead l at_ S cur) (hx : TextAt l cur x next) (h15 : ¬ x ≤ 15) : NoText l at_ := by
  intro n t hn2 e
  obtain ⟨j, hj, _, hd⟩ := h.2.2.2 n t hn2 e
  rw [tailT_drop hj, List.append_assoc] at hd
  have := (mem_memL.1 (List.getElem_mem hj)).1
  have := (hx.2.2.2 _ _ (by omega) hd).1
  omega
theorem ahead_step {l : List UInt8} {at_ S cur x next : Nat} (h : Ahead l at_ S cur) (hx : TextAt l cur x next) (hS : S ||| 2 ^ x < 65536) : Behind l at_ (S ||| 2 ^ x) next := by
  refine ⟨hS, by have := h.2.1; have := hx.2.1; omega, hx.2.2.1, fun n t hn2 e => ?_⟩
  obtain ⟨j, hj, hSj, hd⟩ := h.2.2.2 n t hn2 e
  rw [tailT_drop hj, List.append_assoc] at hd
  have := (mem_memL.1 (List.getElem_mem hj)).1
  obtain ⟨h1, h2⟩ := hx.2.2.2 _ _ (by omega) hd
  refine ⟨j + 1, by omega, ?_, ?_⟩
  · rw [List.take_succ_eq_append_getElem hj, setL_snoc, ← hSj, h1]
  · rw [h2, ← List.drop_drop, hd, List.drop_left]
end Go.Proofs.Ytipadgpgcdjflaa
