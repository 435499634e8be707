/- Plain laws on sets told by the bits of a number: no program in sight. -/
import Derived.Test.YtknkhenebnajhaaBase
namespace Go.Proofs.Ytknkhenebnajhaa
open Go.RowKit

/-! ### bits of ints -/
theorem wraps62 (n : Int) (h₀ : 0 ≤ n) (h₁ : n < 2 ^ 62) : IntKind.i64.wrap n = n := by
  rw [IntKind.wrap_i64]; omega
theorem and_i64 (a b : Nat) (ha : a < 2 ^ 62) (hb : b < 2 ^ 62) : bits .and .i64 (a : Int) (b : Int) = ((a &&& b : Nat) : Int) := (bits_nat .i64 62 (by decide) wraps62 a b ha hb).1
theorem or_i64 (a b : Nat) (ha : a < 2 ^ 62) (hb : b < 2 ^ 62) : bits .or .i64 (a : Int) (b : Int) = ((a ||| b : Nat) : Int) := (bits_nat .i64 62 (by decide) wraps62 a b ha hb).2
theorem xor_i64 (a b : Nat) (ha : a < 2 ^ 62) (hb : b < 2 ^ 62) : bits .xor .i64 (a : Int) (b : Int) = ((a ^^^ b : Nat) : Int) := by
  have ha' : a % 2 ^ IntKind.i64.bits = a := Nat.mod_eq_of_lt (Nat.lt_of_lt_of_le ha (by decide))
  have hb' : b % 2 ^ IntKind.i64.bits = b := Nat.mod_eq_of_lt (Nat.lt_of_lt_of_le hb (by decide))
  simp only [bits, BitVec.ofInt_natCast, BitVec.toNat_xor, BitVec.toNat_ofNat, ha', hb']
  exact wraps62 _ (Int.natCast_nonneg _) (by have := Nat.xor_lt_two_pow ha hb; omega)
theorem andNot_i64 (a b : Nat) (ha : a < 2 ^ 62) (hb : b < 2 ^ 62) : bits .andNot .i64 (a : Int) (b : Int) = ((a &&& (2 ^ 64 - 1 - b) : Nat) : Int) := by
  have ha' : a % 2 ^ IntKind.i64.bits = a := Nat.mod_eq_of_lt (Nat.lt_of_lt_of_le ha (by decide))
  have hb' : b % 2 ^ IntKind.i64.bits = b := Nat.mod_eq_of_lt (Nat.lt_of_lt_of_le hb (by decide))
  simp only [bits, BitVec.ofInt_natCast, BitVec.toNat_and, BitVec.toNat_not, BitVec.toNat_ofNat, ha', hb']
  have hlt : a &&& (2 ^ 64 - 1 - b) < 2 ^ 62 := Nat.lt_of_le_of_lt Nat.and_le_left ha
  exact wraps62 _ (Int.natCast_nonneg _) (by exact_mod_cast hlt)

theorem testBit_not64 (b i : Nat) (hb : b < 2 ^ 62) : (2 ^ 64 - 1 - b).testBit i = (decide (i < 64) && !b.testBit i) := by
  have := Nat.testBit_two_pow_sub_succ (n := 64) (x := b) (by omega) i
  rw [← this]; congr 1; omega

theorem andNot_zero (a b : Nat) (ha : a < 2 ^ 62) (hb : b < 2 ^ 62) : (a &&& (2 ^ 64 - 1 - b) = 0) ↔ a &&& b = a := by
  constructor
  · intro h
    apply Nat.eq_of_testBit_eq
    intro i
    have h2 := congrArg (fun n => n.testBit i) h
    simp only [Nat.testBit_and, testBit_not64 b i hb, Nat.zero_testBit] at h2 ⊢
    by_cases hi : i < 64
    · cases h3 : a.testBit i <;> cases h4 : b.testBit i <;> simp_all
    · have : a.testBit i = false := Nat.testBit_lt_two_pow (Nat.lt_of_lt_of_le ha (Nat.pow_le_pow_right (by decide) (by omega)))
      simp [this]
  · intro h
    apply Nat.eq_of_testBit_eq
    intro i
    have h2 := congrArg (fun n => n.testBit i) h
    simp only [Nat.testBit_and, testBit_not64 b i hb, Nat.zero_testBit] at h2 ⊢
    cases h3 : a.testBit i <;> cases h4 : b.testBit i <;> simp_all

theorem bit_eq (s m : Int) (hs : 0 ≤ s) : (s / 2 ^ m.toNat) % 2 = if s.toNat.testBit m.toNat then 1 else 0 := by
  obtain ⟨n, rfl⟩ := Int.eq_ofNat_of_zero_le hs
  have e : ((n : Int) / 2 ^ m.toNat) % 2 = ((n / 2 ^ m.toNat % 2 : Nat) : Int) := by simp
  rw [e, Int.toNat_natCast, Nat.testBit_eq_decide_div_mod_eq]
  have h2 := Nat.mod_lt (n / 2 ^ m.toNat) (show 0 < 2 by decide)
  by_cases h : n / 2 ^ m.toNat % 2 = 1
  · simp [h]
  · have : n / 2 ^ m.toNat % 2 = 0 := by omega
    simp [this]

/-! ### codes -/
def isCodeB (n : Int) : Bool := decide (0 ≤ n) && decide (n ≤ 65535)
def inB (n low high : Int) : Bool := decide (low ≤ n) && decide (n ≤ high)
theorem isCodeB_iff (n : Int) : isCodeB n = true ↔ 0 ≤ n ∧ n ≤ 65535 := by simp [isCodeB]
theorem inB_iff (n low high : Int) : inB n low high = true ↔ low ≤ n ∧ n ≤ high := by simp [inB]
theorem isCodeB_false (n : Int) : isCodeB n = false ↔ ¬ (0 ≤ n ∧ n ≤ 65535) := by rw [← isCodeB_iff]; simp
theorem inB_false (n low high : Int) : inB n low high = false ↔ ¬ (low ≤ n ∧ n ≤ high) := by rw [← inB_iff]; simp

/-- has the set the member? -/
def hasB (s m : Int) : Bool := isCodeB s && inB m 0 15 && s.toNat.testBit m.toNat
/-- is a set within another one? -/
def subB (a b : Int) : Bool := isCodeB a && isCodeB b && a.toNat &&& b.toNat == a.toNat
def unionI (a b : Int) : Int := if isCodeB a && isCodeB b then ((a.toNat ||| b.toNat : Nat) : Int) else -1
def commonI (a b : Int) : Int := if isCodeB a && isCodeB b then ((a.toNat &&& b.toNat : Nat) : Int) else -1
/-- the set of some members -/
def setL (l : List Nat) : Nat := l.foldl (fun s m => s ||| 2 ^ m) 0
def setOfI (zs : List Int) : Int := if zs.all (inB · 0 15) then ((setL (zs.map Int.toNat) : Nat) : Int) else -1
/-- the members of a set -/
def memL (n : Nat) : List Nat := (List.range 16).filter n.testBit
def memsI (s : Int) : List Int := if isCodeB s then (memL s.toNat).map Int.ofNat else []

theorem setL_snoc (l : List Nat) (m : Nat) : setL (l ++ [m]) = setL l ||| 2 ^ m := by simp [setL]

theorem testBit_foldl_or (l : List Nat) (f : Nat → Nat) (s i : Nat) : (l.foldl (fun s m => s ||| f m) s).testBit i = (s.testBit i || l.any fun m => (f m).testBit i) := by
  induction l generalizing s with
  | nil => simp
  | cons a l ih => simp [ih, Nat.testBit_or, Bool.or_assoc]

theorem testBit_setL (l : List Nat) (i : Nat) : (setL l).testBit i = decide (i ∈ l) := by
  rw [setL, testBit_foldl_or l (fun m => 2 ^ m) 0 i]
  rw [Bool.eq_iff_iff]
  simp [Nat.testBit_two_pow]

theorem setL_lt (l : List Nat) (h : ∀ m ∈ l, m ≤ 15) : setL l < 65536 := by
  apply Nat.lt_pow_two_of_testBit (n := 16)
  intro i hi
  rw [testBit_setL]
  apply decide_eq_false
  intro hm
  have := h i hm
  omega

theorem testBit_ge16 {n i : Nat} (hn : n < 65536) (hi : 16 ≤ i) : n.testBit i = false :=
  Nat.testBit_lt_two_pow (Nat.lt_of_lt_of_le hn (Nat.pow_le_pow_right (n := 2) (by decide) hi))

theorem mem_memL {n m : Nat} : m ∈ memL n ↔ m < 16 ∧ n.testBit m = true := by simp [memL]

theorem setL_memL {n : Nat} (hn : n < 65536) : setL (memL n) = n := by
  apply Nat.eq_of_testBit_eq
  intro i
  rw [testBit_setL]
  by_cases hi : i < 16
  · cases h : n.testBit i <;> simp [mem_memL, hi, h]
  · rw [testBit_ge16 hn (by omega)]
    exact decide_eq_false (by simp [mem_memL, hi])

theorem toNat_lt_of_code {s : Int} (h : isCodeB s = true) : s.toNat < 65536 := by
  have := (isCodeB_iff s).1 h; omega

theorem or_lt16 {a b : Nat} (ha : a < 65536) (hb : b < 65536) : a ||| b < 65536 := Nat.or_lt_two_pow (n := 16) ha hb

/-! ### subsets -/
theorem and_eq_left_iff (a b : Nat) : a &&& b = a ↔ ∀ i, a.testBit i = true → b.testBit i = true := by
  constructor
  · intro h i hi
    have h2 := congrArg (fun n => n.testBit i) h
    simp only [Nat.testBit_and] at h2
    rw [hi] at h2
    simpa using h2
  · intro h
    apply Nat.eq_of_testBit_eq
    intro i
    rw [Nat.testBit_and]
    cases h3 : a.testBit i
    · simp
    · simp [h i h3]
end Go.Proofs.Ytknkhenebnajhaa
