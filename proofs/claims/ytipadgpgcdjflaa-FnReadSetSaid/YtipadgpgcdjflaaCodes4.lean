/- What the program's and the reference's functions on codes answer: how deep a set is; full sets; filled sets. -/
import Derived.Test.YtipadgpgcdjflaaCodes3
namespace Go.Proofs.Ytipadgpgcdjflaa
open Go.RowKit

/-! ### how deep a set is -/
def dpTo (l : List Nat) (k : Nat) : Nat := maxD (l.take k)
theorem dpTo_step (l : List Nat) (k : Nat) (hk : k < l.length) : (if ((dpTo l k : Nat) : Int) < ((deepN l[k] : Nat) : Int) + 1 then ((deepN l[k] : Nat) : Int) + 1 else ((dpTo l k : Nat) : Int)) = ((dpTo l (k + 1) : Nat) : Int) := by
  rw [dpTo, dpTo, List.take_succ_eq_append_getElem hk, maxD_snoc]; split <;> omega
theorem dpTo_le (n k : Nat) : dpTo (memL n) k ≤ 5 := maxD_le _ _ fun m hm => by
  have := memL_mem (List.mem_of_mem_take hm)
  have := deepN_bd (n := m) (by omega)
  omega
theorem dpTo_all (n k : Nat) (hk : ¬ k < (memL n).length) : dpTo (memL n) k = deepN n := by
  rw [dpTo, List.take_of_length_le (by omega), deepN_eq]
theorem memL_get_mem (n k : Nat) (hk : k < (memL n).length) : (memL n)[k] < n := mem_lt (List.getElem_mem hk)


theorem deepI_in {s : Int} (h : isCodeB s = true) : deepI s = ((deepN s.toNat : Nat) : Int) := by simp [deepI, h]
theorem deepI_out {s : Int} (h : isCodeB s = false) : deepI s = -1 := by simp [deepI, h]



/-! ### full sets -/
theorem allI_code {s : Int} (h : isCodeB s = true) : isCodeB (allI s) = true := by
  have := allN_lt s.toNat
  rw [isCodeB_iff]; simp [allI, h]; omega
theorem full_test {s : Int} (h : isCodeB s = true) : (bits .andNot .i64 ((allN s.toNat : Nat) : Int) s == 0) = fullB s := by
  have h1 := allI_code h
  have e : allI s = ((allN s.toNat : Nat) : Int) := by simp [allI, h]
  rw [← e, sub_andNot h1 h, fullB, h, Bool.true_and]
theorem fullB_in {s : Int} (h : isCodeB s = true) : subB (allI s) s = fullB s := by simp [fullB, h]
theorem fullB_out {s : Int} (h : isCodeB s = false) : fullB s = false := by simp [fullB, h]



/-! ### filled sets -/
theorem fullB_nat {n : Nat} (hn : n < 65536) : fullB (n : Int) = isFull n := by
  have h : isCodeB (n : Int) = true := (isCodeB_iff _).2 (by omega)
  have h1 := allI_code h
  rw [fullB, h, Bool.true_and, subB, h1, h, allI, if_pos h]
  simp [isFull]
theorem neq_test {n : Nat} (hn : n < 65536) : (bits .andNot .i64 ((allN n : Nat) : Int) (n : Int) != 0) = !isFull n := by
  have h : isCodeB (n : Int) = true := (isCodeB_iff _).2 (by omega)
  have := full_test h
  rw [Int.toNat_natCast, fullB_nat hn] at this
  rw [bne, this]
/-- what the loops of filledOf keep -/
def FillRel (n0 n : Nat) : Prop := n < 65536 ∧ fillN n = fillN n0
theorem FillRel.step {n0 n : Nat} (h : FillRel n0 n) (hf : isFull n = false) : FillRel n0 (n ||| allN n) ∧ n < n ||| allN n ∧ n ||| allN n < 65536 :=
  ⟨⟨or_lt16 h.1 (allN_lt n), by rw [← fillN_step h.1 hf]; exact h.2⟩, notFull_gt hf, or_lt16 h.1 (allN_lt n)⟩
theorem fillI_in {s : Int} (h : isCodeB s = true) : fillI s = ((fillN s.toNat : Nat) : Int) := by simp [fillI, h]
theorem fillI_out {s : Int} (h : isCodeB s = false) : fillI s = -1 := by simp [fillI, h]




end Go.Proofs.Ytipadgpgcdjflaa
