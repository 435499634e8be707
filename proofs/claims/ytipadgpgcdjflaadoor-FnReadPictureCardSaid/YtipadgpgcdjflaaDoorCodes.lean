/- What the program's and the reference's functions on codes answer: those without loops. -/
import Derived.Test.YtipadgpgcdjflaaDoorInts
import Derived.Test.YtipadgpgcdjflaaDoorSets
namespace Go.Proofs.YtipadgpgcdjflaaDoor
open Go.RowKit

set_option maxHeartbeats 400000 in
theorem l1In_any (n low high : Int) (w : World) :
    Calls Tryd.prog 23 #[.int .i64 n, .int .i64 low, .int .i64 high] w fun e w' => e = .returned (.bool (inB n low high)) ∧ w = w' := by
  by_cases h1 : low ≤ n
  · go_enter Tryd.func23, Tryd.ntmps23
    go_wp2
    go_ret
    exact ⟨ret_bool (by simp [inB, h1]), rfl⟩
  · go_enter Tryd.func23, Tryd.ntmps23
    go_wp2
    go_ret
    exact ⟨ret_bool ((inB_false n low high).2 (by omega)).symm, rfl⟩

set_option maxHeartbeats 400000 in
theorem isCode_any (n : Int) (w : World) :
    Calls Tryd.prog 45 #[.int .i64 n] w fun e w' => e = .returned (.bool (isCodeB n)) ∧ w = w' := by
  by_cases h1 : 0 ≤ n
  · go_enter Tryd.func45, Tryd.ntmps45
    go_wp2
    go_ret
    exact ⟨ret_bool (by simp [isCodeB, h1]), rfl⟩
  · go_enter Tryd.func45, Tryd.ntmps45
    go_wp2
    go_ret
    exact ⟨ret_bool ((isCodeB_false n).2 (by omega)).symm, rfl⟩



theorem and_one (x : Int) (h0 : 0 ≤ x) (h1 : x < 2 ^ 62) : bits .and .i64 x 1 = x % 2 := by
  obtain ⟨n, rfl⟩ := Int.eq_ofNat_of_zero_le h0
  have := and_i64 n 1 (by omega) (by decide)
  rw [Nat.and_one_is_mod] at this
  simpa using this

theorem shr_le (s : Int) (m : Nat) (h0 : 0 ≤ s) : 0 ≤ s / 2 ^ m ∧ s / 2 ^ m ≤ s := by
  have hp : (0 : Int) < 2 ^ m := Int.pow_pos (by decide)
  exact ⟨Int.ediv_nonneg h0 (by omega), Int.ediv_le_self _ h0⟩

theorem hasB_in {s m : Int} (h : isCodeB s = true) (h' : inB m 0 15 = true) : hasB s m = s.toNat.testBit m.toNat := by simp [hasB, h, h']
theorem hasB_out {s m : Int} (h : ¬ (isCodeB s = true ∧ inB m 0 15 = true)) : hasB s m = false := by
  rw [Bool.eq_false_iff]; intro hh; simp only [hasB, Bool.and_eq_true] at hh; exact h hh.1

theorem has_and (s m : Int) (h : isCodeB s = true) (h' : inB m 0 15 = true) : (bits .and .i64 (s / 2 ^ m.toNat) 1 == 1) = hasB s m := by
  have hs := (isCodeB_iff s).1 h
  have := shr_le s m.toNat hs.1
  rw [and_one _ this.1 (by omega), bit_eq s m hs.1, hasB_in h h']
  cases s.toNat.testBit m.toNat <;> simp
theorem has_rem (s m : Int) (h : isCodeB s = true) (h' : inB m 0 15 = true) : ((s / 2 ^ m.toNat).tmod 2 == 1) = hasB s m := by
  have hs := (isCodeB_iff s).1 h
  have := shr_le s m.toNat hs.1
  rw [Int.tmod_eq_emod_of_nonneg this.1, bit_eq s m hs.1, hasB_in h h']
  cases s.toNat.testBit m.toNat <;> simp

set_option maxHeartbeats 400000 in
theorem implHas_any (s m : Int) (w : World) :
    Calls Tryd.prog 33 #[.int .i64 s, .int .i64 m] w fun e w' => e = .returned (.bool (hasB s m)) ∧ w = w' := by
  by_cases h1 : isCodeB s = true
  · obtain ⟨a1, a2⟩ := (isCodeB_iff s).1 h1
    by_cases h2 : inB m 0 15 = true
    · obtain ⟨b1, b2⟩ := (inB_iff m 0 15).1 h2
      have HX := Lib.hid (has_and s m h1 h2)
      clear h1 h2
      go_enter Tryd.func33, Tryd.ntmps33
      go_wp2
      go_ret
      exact ⟨ret_bool HX.out, rfl⟩
    · have HX : Hid (hasB s m = false) := hasB_out (by simp [h2])
      have h3 : m < 0 ∨ 15 < m := by
        have := (inB_false m 0 15).1 (by simpa using h2); omega
      clear h1 h2
      rcases h3 with h3 | h3
      · go_enter Tryd.func33, Tryd.ntmps33
        go_wp2
        go_ret
        exact ⟨ret_bool HX.out.symm, rfl⟩
      · by_cases h4 : m ≤ 65535
        · go_enter Tryd.func33, Tryd.ntmps33
          go_wp2
          go_ret
          exact ⟨ret_bool HX.out.symm, rfl⟩
        · go_enter Tryd.func33, Tryd.ntmps33
          go_wp2
          go_ret
          exact ⟨ret_bool HX.out.symm, rfl⟩
  · have HX : Hid (hasB s m = false) := hasB_out (by simp [h1])
    have h3 : s < 0 ∨ 65535 < s := by
      have := (isCodeB_false s).1 (by simpa using h1); omega
    clear h1
    rcases h3 with h3 | h3
    · go_enter Tryd.func33, Tryd.ntmps33
      go_wp2
      go_ret
      exact ⟨ret_bool HX.out.symm, rfl⟩
    · go_enter Tryd.func33, Tryd.ntmps33
      go_wp2
      go_ret
      exact ⟨ret_bool HX.out.symm, rfl⟩


/-! ### two codes -/
theorem both_or (a b : Int) : (isCodeB a = true ∧ isCodeB b = true) ∨ (isCodeB a = true ∧ isCodeB b = false) ∨ isCodeB a = false := by
  cases isCodeB a <;> cases isCodeB b <;> simp

theorem subB_out {a b : Int} (h : ¬ (isCodeB a = true ∧ isCodeB b = true)) : subB a b = false := by
  rw [Bool.eq_false_iff]; intro hh; simp only [subB, Bool.and_eq_true] at hh; exact h hh.1
theorem code_nat {a : Int} (h : isCodeB a = true) : ∃ n : Nat, a = n ∧ n < 65536 ∧ isCodeB (n : Int) = true := by
  have := (isCodeB_iff a).1 h
  obtain ⟨n, rfl⟩ := Int.eq_ofNat_of_zero_le this.1
  exact ⟨n, rfl, by omega, h⟩
theorem sub_andNot {a b : Int} (h : isCodeB a = true) (h' : isCodeB b = true) : (bits .andNot .i64 a b == 0) = subB a b := by
  obtain ⟨n, rfl, hn, _⟩ := code_nat h
  obtain ⟨m, rfl, hm, _⟩ := code_nat h'
  rw [andNot_i64 n m (by omega) (by omega), Bool.eq_iff_iff]
  have h2 := andNot_zero n m (by omega) (by omega)
  simp only [subB, h, h', Bool.true_and, Int.toNat_natCast, beq_iff_eq]
  rw [← h2]
  omega
theorem sub_and {a b : Int} (h : isCodeB a = true) (h' : isCodeB b = true) : (bits .and .i64 a b == a) = subB a b := by
  obtain ⟨n, rfl, hn, _⟩ := code_nat h
  obtain ⟨m, rfl, hm, _⟩ := code_nat h'
  rw [and_i64 n m (by omega) (by omega), Bool.eq_iff_iff]
  simp only [subB, h, h', Bool.true_and, Int.toNat_natCast, beq_iff_eq]
  omega
theorem union_or {a b : Int} (h : isCodeB a = true) (h' : isCodeB b = true) : bits .or .i64 a b = unionI a b := by
  obtain ⟨n, rfl, hn, _⟩ := code_nat h
  obtain ⟨m, rfl, hm, _⟩ := code_nat h'
  rw [or_i64 n m (by omega) (by omega)]
  simp [unionI, h, h']
theorem common_and {a b : Int} (h : isCodeB a = true) (h' : isCodeB b = true) : bits .and .i64 a b = commonI a b := by
  obtain ⟨n, rfl, hn, _⟩ := code_nat h
  obtain ⟨m, rfl, hm, _⟩ := code_nat h'
  rw [and_i64 n m (by omega) (by omega)]
  simp [commonI, h, h']
theorem unionI_out {a b : Int} (h : ¬ (isCodeB a = true ∧ isCodeB b = true)) : unionI a b = -1 := by
  unfold unionI; rw [if_neg (by simpa using h)]
theorem commonI_out {a b : Int} (h : ¬ (isCodeB a = true ∧ isCodeB b = true)) : commonI a b = -1 := by
  unfold commonI; rw [if_neg (by simpa using h)]







end Go.Proofs.YtipadgpgcdjflaaDoor
