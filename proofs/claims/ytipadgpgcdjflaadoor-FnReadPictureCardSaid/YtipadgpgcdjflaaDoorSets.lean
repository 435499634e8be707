/- Plain laws on sets told by the bits of a number: no program in sight. -/
import Derived.Test.YtipadgpgcdjflaaDoorBase
namespace Go.Proofs.YtipadgpgcdjflaaDoor
open Go.RowKit

/-! ### bits of ints -/
theorem wraps62 (n : Int) (h₀ : 0 ≤ n) (h₁ : n < 2 ^ 62) : IntKind.i64.wrap n = n := by
  rw [IntKind.wrap_i64]; omega
theorem and_i64 (a b : Nat) (ha : a < 2 ^ 62) (hb : b < 2 ^ 62) : bits .and .i64 (a : Int) (b : Int) = ((a &&& b : Nat) : Int) := (bits_nat .i64 62 (by decide) wraps62 a b ha hb).1
theorem or_i64 (a b : Nat) (ha : a < 2 ^ 62) (hb : b < 2 ^ 62) : bits .or .i64 (a : Int) (b : Int) = ((a ||| b : Nat) : Int) := (bits_nat .i64 62 (by decide) wraps62 a b ha hb).2
theorem xor_i64 (a b : Nat) (ha : a < 2 ^ 62) (hb : b < 2 ^ 62) : bits .xor .i64 (a : Int) (b : Int) = ((a ^^^ b : Nat) : Int) := by
  have ha' : a % 2 ^ IntKind.i64.bits = a := Nat.mod_eq_of_lt (Nat.lt_of_lt_of_le ha (by decide))
  have hb' : b % 2 ^ IntKind.i64.bits = b := Nat.mod_eq_of_lt (Nat.lt_of_lt_of_le hb (by decide))
  simp only [bits, BitVec.ofInt_natCast, BitVec.toNat_xor, BitVec.toNat_ofNat, ha', hb']
  exact wraps62 _ (Int.natCast_nonneg _) (by have := Nat.xor_lt_two_pow ha hb; omega)
theorem andNot_i64 (a b : Nat) (ha : a < 2 ^ 62) (hb : b < 2 ^ 62) : bits .andNot .i64 (a : Int) (b : Int) = ((a &&& (2 ^ 64 - 1 - b) : Nat) : Int) := by
  have ha' : a % 2 ^ IntKind.i64.bits = a := Nat.mod_eq_of_lt (Nat.lt_of_lt_of_le ha (by decide))
  have hb' : b % 2 ^ IntKind.i64.bits = b := Nat.mod_eq_of_lt (Nat.lt_of_lt_of_le hb (by decide))
  simp only [bits, BitVec.ofInt_natCast, BitVec.toNat_and, BitVec.toNat_not, BitVec.toNat_ofNat, ha', hb']
  have hlt : a &&& (2 ^ 64 - 1 - b) < 2 ^ 62 := Nat.lt_of_le_of_lt Nat.and_le_left ha
  exact wraps62 _ (Int.natCast_nonneg _) (by exact_mod_cast hlt)

theorem testBit_not64 (b i : Nat) (hb : b < 2 ^ 62) : (2 ^ 64 - 1 - b).testBit i = (decide (i < 64) && !b.testBit i) := by
  have := Nat.testBit_two_pow_sub_succ (n := 64) (x := b) (by omega) i
  rw [← this]; congr 1; omega

theorem andNot_zero (a b : Nat) (ha : a < 2 ^ 62) (hb : b < 2 ^ 62) : (a &&& (2 ^ 64 - 1 - b) = 0) ↔ a &&& b = a := by
  constructor
  · intro h
    apply Nat.eq_of_testBit_eq
    intro i
    have h2 := congrArg (fun n => n.testBit i) h
    simp only [Nat.testBit_and, testBit_not64 b i hb, Nat.zero_testBit] at h2 ⊢
    by_cases hi : i < 64
    · cases h3 : a.testBit i <;> cases h4 : b.testBit i <;> simp_all
    · have : a.testBit i = false := Nat.testBit_lt_two_pow (Nat.lt_of_lt_of_le ha (Nat.pow_le_pow_right (by decide) (by omega)))
      simp [this]
  · intro h
    apply Nat.eq_of_testBit_eq
    intro i
    have h2 := congrArg (fun n => n.testBit i) h
    simp only [Nat.testBit_and, testBit_not64 b i hb, Nat.zero_testBit] at h2 ⊢
    cases h3 : a.testBit i <;> cases h4 : b.testBit i <;> simp_all

theorem bit_eq (s m : Int) (hs : 0 ≤ s) : (s / 2 ^ m.toNat) % 2 = if s.toNat.testBit m.toNat then 1 else 0 := by
  obtain ⟨n, rfl⟩ := Int.eq_ofNat_of_zero_le hs
  have e : ((n : Int) / 2 ^ m.toNat) % 2 = ((n / 2 ^ m.toNat % 2 : Nat) : Int) := by simp
  rw [e, Int.toNat_natCast, Nat.testBit_eq_decide_div_mod_eq]
  have h2 := Nat.mod_lt (n / 2 ^ m.toNat) (show 0 < 2 by decide)
  by_cases h : n / 2 ^ m.toNat % 2 = 1
  · simp [h]
  · have : n / 2 ^ m.toNat % 2 = 0 := by omega
    simp [this]

/-! ### codes -/
def isCodeB (n : Int) : Bool := decide (0 ≤ n) && decide (n ≤ 65535)
def inB (n low high : Int) : Bool := decide (low ≤ n) && decide (n ≤ high)
theorem isCodeB_iff (n : Int) : isCodeB n = true ↔ 0 ≤ n ∧ n ≤ 65535 := by simp [isCodeB]
theorem inB_iff (n low high : Int) : inB n low high = true ↔ low ≤ n ∧ n ≤ high := by simp [inB]
theorem isCodeB_false (n : Int) : isCodeB n = false ↔ ¬ (0 ≤ n ∧ n ≤ 65535) := by rw [← isCodeB_iff]; simp
theorem inB_false (n low high : Int) : inB n low high = false ↔ ¬ (low ≤ n ∧ n ≤ high) := by rw [← inB_iff]; simp

/-- has the set the member? -/
def hasB (s m : Int) : Bool := isCodeB s && inB m 0 15 && s.toNat.testBit m.toNat
/-- is a set within another one? -/
def subB (a b : Int) : Bool := isCodeB a && isCodeB b && a.toNat &&& b.toNat == a.toNat
def unionI (a b : Int) : Int := if isCodeB a && isCodeB b then ((a.toNat ||| b.toNat : Nat) : Int) else -1
def commonI (a b : Int) : Int := if isCodeB a && isCodeB b then ((a.toNat &&& b.toNat : Nat) : Int) else -1
/-- the set of some members -/
def setL (l : List Nat) : Nat := l.foldl (fun s m => s ||| 2 ^ m) 0
def setOfI (zs : List Int) : Int := if zs.all (inB · 0 15) then ((setL (zs.map Int.toNat) : Nat) : Int) else -1
/-- the members of a set -/
def memL (n : Nat) : List Nat := (List.range 16).filter n.testBit
def memsI (s : Int) : List Int := if isCodeB s then (memL s.toNat).map Int.ofNat else []

theorem setL_snoc (l : List Nat) (m : Nat) : setL (l ++ [m]) = setL l ||| 2 ^ m := by simp [setL]

theorem testBit_foldl_or (l : List Nat) (f : Nat → Nat) (s i : Nat) : (l.foldl (fun s m => s ||| f m) s).testBit i = (s.testBit i || l.any fun m => (f m).testBit i) := by
  induction l generalizing s with
  | nil => simp
  | cons a l ih => simp [ih, Nat.testBit_or, Bool.or_assoc]

theorem testBit_setL (l : List Nat) (i : Nat) : (setL l).testBit i = decide (i ∈ l) := by
  rw [setL, testBit_foldl_or l (fun m => 2 ^ m) 0 i]
  rw [Bool.eq_iff_iff]
  simp [Nat.testBit_two_pow]

theorem setL_lt (l : List Nat) (h : ∀ m ∈ l, m ≤ 15) : setL l < 65536 := by
  apply Nat.lt_pow_two_of_testBit (n := 16)
  intro i hi
  rw [testBit_setL]
  apply decide_eq_false
  intro hm
  have := h i hm
  omega

theorem testBit_ge16 {n i : Nat} (hn : n < 65536) (hi : 16 ≤ i) : n.testBit i = false :=
  Nat.testBit_lt_two_pow (Nat.lt_of_lt_of_le hn (Nat.pow_le_pow_right (n := 2) (by decide) hi))

theorem mem_memL {n m : Nat} : m ∈ memL n ↔ m < 16 ∧ n.testBit m = true := by simp [memL]

theorem setL_memL {n : Nat} (hn : n < 65536) : setL (memL n) = n := by
  apply Nat.eq_of_testBit_eq
  intro i
  rw [testBit_setL]
  by_cases hi : i < 16
  · cases h : n.testBit i <;> simp [mem_memL, hi, h]
  · rw [testBit_ge16 hn (by omega)]
    exact decide_eq_false (by simp [mem_memL, hi])

theorem toNat_lt_of_code {s : Int} (h : isCodeB s = true) : s.toNat < 65536 := by
  have := (isCodeB_iff s).1 h; omega

theorem or_lt16 {a b : Nat} (ha : a < 65536) (hb : b < 65536) : a ||| b < 65536 := Nat.or_lt_two_pow (n := 16) ha hb

/-! ### subsets -/
theorem and_eq_left_iff (a b : Nat) : a &&& b = a ↔ ∀ i, a.testBit i = true → b.testBit i = true := by
  constructor
  · intro h i hi
    have h2 := congrArg (fun n => n.testBit i) h
    simp only [Nat.testBit_and] at h2
    rw [hi] at h2
    simpa using h2
  · intro h
    apply Nat.eq_of_testBit_eq
    intro i
    rw [Nat.testBit_and]
    cases h3 : a.testBit i
    · simp
    · simp [h i h3]

/-! ### members of members; how deep a set is -/
theorem mem_lt {n m : Nat} (h : m ∈ memL n) : m < n := by
  have := (mem_memL.1 h).2
  have h2 := Nat.ge_two_pow_of_testBit this
  have h3 := @Nat.lt_two_pow_self m
  omega
def allN (n : Nat) : Nat := (memL n).foldl (fun s m => s ||| m) 0
def allI (s : Int) : Int := if isCodeB s then ((allN s.toNat : Nat) : Int) else -1

theorem testBit_allN (n i : Nat) : (allN n).testBit i = (memL n).any fun m => m.testBit i := by
  rw [allN, testBit_foldl_or (memL n) (fun m => m) 0 i]; simp
theorem foldl_or_lt (l : List Nat) (s : Nat) (hs : s < 65536) (h : ∀ m ∈ l, m ≤ 15) : l.foldl (fun s m => s ||| m) s < 65536 := by
  induction l generalizing s with
  | nil => exact hs
  | cons a l ih =>
    have := h a (by simp)
    exact ih _ (or_lt16 hs (by omega)) (fun m hm => h m (by simp [hm]))
theorem allN_lt (n : Nat) : allN n < 65536 := foldl_or_lt _ 0 (by omega) fun m hm => by have := (mem_memL.1 hm).1; omega

def deepN (n : Nat) : Nat := ((memL n).attach.map fun x => deepN x.1 + 1).foldl max 0
termination_by n
decreasing_by exact mem_lt x.2

def maxD (l : List Nat) : Nat := (l.map fun m => deepN m + 1).foldl max 0
theorem deepN_eq (n : Nat) : deepN n = maxD (memL n) := by
  rw [deepN, maxD]
  congr 1
  exact List.attach_map_val (l := memL n) (f := fun m => deepN m + 1)
theorem maxD_snoc (l : List Nat) (m : Nat) : maxD (l ++ [m]) = max (maxD l) (deepN m + 1) := by simp [maxD]
theorem foldl_max_le (l : List Nat) (a B : Nat) (ha : a ≤ B) (h : ∀ x ∈ l, x ≤ B) : l.foldl max a ≤ B := by
  induction l generalizing a with
  | nil => exact ha
  | cons x l ih => exact ih _ (by have := h x (by simp); omega) fun y hy => h y (by simp [hy])
theorem le_foldl_max (l : List Nat) (a : Nat) : a ≤ l.foldl max a ∧ ∀ x ∈ l, x ≤ l.foldl max a := by
  induction l generalizing a with
  | nil => simp
  | cons x l ih =>
    have := ih (max a x)
    simp only [List.foldl_cons, List.mem_cons]
    refine ⟨by omega, ?_⟩
    rintro y (rfl | hy)
    · omega
    · exact this.2 y hy
theorem foldl_max_mem (l : List Nat) (a : Nat) : l.foldl max a = a ∨ l.foldl max a ∈ l := by
  induction l generalizing a with
  | nil => simp
  | cons x l ih =>
    simp only [List.foldl_cons, List.mem_cons]
    rcases ih (max a x) with h | h
    · rw [h]
      rcases Nat.le_total a x with h2 | h2
      · right; left; omega
      · left; omega
    · right; right; exact h
theorem maxD_le (l : List Nat) (B : Nat) (h : ∀ m ∈ l, deepN m + 1 ≤ B) : maxD l ≤ B := by
  apply foldl_max_le _ _ _ (Nat.zero_le _)
  intro x hx
  obtain ⟨m, hm, rfl⟩ := List.mem_map.1 hx
  exact h m hm
theorem le_maxD {l : List Nat} {m : Nat} (h : m ∈ l) : deepN m + 1 ≤ maxD l := (le_foldl_max _ 0).2 _ (List.mem_map.2 ⟨m, h, rfl⟩)
theorem maxD_mem (l : List Nat) : maxD l = 0 ∨ ∃ m ∈ l, maxD l = deepN m + 1 := by
  rcases foldl_max_mem (l.map fun m => deepN m + 1) 0 with h | h
  · exact .inl h
  · obtain ⟨m, hm, e⟩ := List.mem_map.1 h
    exact .inr ⟨m, hm, e.symm⟩
theorem mem_small {n m B : Nat} (h : m ∈ memL n) (hn : n < 2 ^ B) : m < B := by
  rcases Nat.lt_or_ge m B with h2 | h2
  · exact h2
  · have := Nat.testBit_lt_two_pow (Nat.lt_of_lt_of_le hn (Nat.pow_le_pow_right (n := 2) (by decide) h2))
    rw [(mem_memL.1 h).2] at this; cases this
theorem deepN_bd {n : Nat} (hn : n < 65536) : deepN n ≤ 4 := by
  have step : ∀ (B C : Nat), (∀ m, m < B → deepN m ≤ C) → ∀ n, n < 2 ^ B → deepN n ≤ C + 1 := by
    intro B C h n hn
    rw [deepN_eq]
    exact maxD_le _ _ fun m hm => by have := h m (mem_small hm hn); omega
  have h0 : ∀ m, m < 1 → deepN m ≤ 0 := by
    intro m hm
    have : m = 0 := by omega
    subst this
    rw [deepN_eq]
    exact maxD_le _ _ fun m hm => by have := mem_lt hm; omega
  have h1 := step 1 0 h0
  have h2 := step 2 1 (fun m hm => h1 m hm)
  have h3 := step 4 2 (fun m hm => h2 m hm)
  exact step 16 3 (fun m hm => h3 m hm) n hn
def fullB (s : Int) : Bool := isCodeB s && subB (allI s) s
/-- is a set full? -/
def isFull (n : Nat) : Bool := allN n &&& n == allN n
theorem or_gt {a b : Nat} (h : ¬ b &&& a = b) : a < a ||| b := by
  have h1 : a ≤ a ||| b := Nat.left_le_or
  rcases Nat.lt_or_ge a (a ||| b) with h2 | h2
  · exact h2
  · exfalso
    apply h
    rw [and_eq_left_iff]
    intro i hi
    have e : a ||| b = a := by omega
    rw [← e, Nat.testBit_or, hi]; simp
theorem notFull_gt {n : Nat} (h : isFull n = false) : n < n ||| allN n := or_gt (by simpa [isFull] using h)
def fillN (n : Nat) : Nat := if _h : n < 65536 ∧ isFull n = false then fillN (n ||| allN n) else n
termination_by 65536 - n
decreasing_by have := notFull_gt _h.2; omega
theorem fillN_step {n : Nat} (hn : n < 65536) (h : isFull n = false) : fillN n = fillN (n ||| allN n) := by
  rw [fillN, dif_pos ⟨hn, h⟩]
theorem fillN_full {n : Nat} (h : isFull n = true) : fillN n = n := by
  rw [fillN, dif_neg (by simp [h])]
def fillI (s : Int) : Int := if isCodeB s then ((fillN s.toNat : Nat) : Int) else -1
def deepI (s : Int) : Int := if isCodeB s then ((deepN s.toNat : Nat) : Int) else -1
end Go.Proofs.YtipadgpgcdjflaaDoor
