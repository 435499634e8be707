/- Plain laws of sets with codes: what the statements on codes say, with no program in sight. -/
import Derived.Test.YtkicgodmgafkoaaSets
namespace Go.Proofs.Ytkicgodmgafkoaa
open Go.RowKit

theorem hasB_iff (s m : Int) : hasB s m = true ↔ isCodeB s = true ∧ (0 ≤ m ∧ m ≤ 15) ∧ s.toNat.testBit m.toNat = true := by
  simp [hasB, inB_iff, and_assoc]
theorem has_lt {s m : Int} (h : hasB s m = true) : m < s := by
  obtain ⟨h1, h2, h3⟩ := (hasB_iff s m).1 h
  have := Nat.ge_two_pow_of_testBit h3
  have h4 := @Nat.lt_two_pow_self m.toNat
  have := (isCodeB_iff s).1 h1
  omega
theorem has_self (s : Int) : hasB s s = false := by
  rw [Bool.eq_false_iff]; intro h; have := has_lt h; omega
theorem has_nat {s : Int} (hs : isCodeB s = true) {k : Nat} (hk : k < 16) : hasB s k = s.toNat.testBit k := by
  simp [hasB, hs, inB]; omega

/-! ### within -/
theorem subB_iff (a b : Int) : subB a b = true ↔ isCodeB a = true ∧ isCodeB b = true ∧ ∀ i, a.toNat.testBit i = true → b.toNat.testBit i = true := by
  simp only [subB, Bool.and_eq_true, beq_iff_eq, and_eq_left_iff, and_assoc]
theorem sub_le {a b : Int} (h : subB a b = true) : a ≤ b := by
  have h2 : a.toNat &&& b.toNat = a.toNat := by simp only [subB, Bool.and_eq_true, beq_iff_eq] at h; exact h.2
  obtain ⟨h3, h4, _⟩ := (subB_iff a b).1 h
  have := (isCodeB_iff a).1 h3
  have := (isCodeB_iff b).1 h4
  have : a.toNat &&& b.toNat ≤ b.toNat := Nat.and_le_right
  omega
theorem sub_refl {a : Int} (h : isCodeB a = true) : subB a a = true := by simp [subB, h]
theorem sub_both {a b : Int} (ha : isCodeB a = true) (_hb : isCodeB b = true) : (subB a b && subB b a) = (a == b) := by
  rw [Bool.eq_iff_iff, Bool.and_eq_true, beq_iff_eq]
  constructor
  · rintro ⟨h1, h2⟩
    have := sub_le h1
    have := sub_le h2
    omega
  · rintro rfl; exact ⟨sub_refl ha, sub_refl ha⟩
theorem sub_zero {b : Int} (hb : isCodeB b = true) : subB 0 b = true := by
  rw [subB_iff]; exact ⟨by decide, hb, by simp⟩

/-! ### unions -/
theorem unionI_in {a b : Int} (ha : isCodeB a = true) (hb : isCodeB b = true) : unionI a b = ((a.toNat ||| b.toNat : Nat) : Int) := by simp [unionI, ha, hb]
theorem commonI_in {a b : Int} (ha : isCodeB a = true) (hb : isCodeB b = true) : commonI a b = ((a.toNat &&& b.toNat : Nat) : Int) := by simp [commonI, ha, hb]
theorem union_code {a b : Int} (ha : isCodeB a = true) (hb : isCodeB b = true) : isCodeB (unionI a b) = true := by
  rw [unionI_in ha hb, isCodeB_iff]
  have := or_lt16 (toNat_lt_of_code ha) (toNat_lt_of_code hb)
  omega
theorem common_code {a b : Int} (ha : isCodeB a = true) (hb : isCodeB b = true) : isCodeB (commonI a b) = true := by
  rw [commonI_in ha hb, isCodeB_iff]
  have : a.toNat &&& b.toNat ≤ a.toNat := Nat.and_le_left
  have := toNat_lt_of_code ha
  omega
theorem union_has {a b : Int} (ha : isCodeB a = true) (hb : isCodeB b = true) {k : Nat} (hk : k < 16) : hasB (unionI a b) k = (hasB a k || hasB b k) := by
  rw [has_nat (union_code ha hb) hk, has_nat ha hk, has_nat hb hk, unionI_in ha hb, Int.toNat_natCast, Nat.testBit_or]
theorem common_has {a b : Int} (ha : isCodeB a = true) (hb : isCodeB b = true) {k : Nat} (hk : k < 16) : hasB (commonI a b) k = (hasB a k && hasB b k) := by
  rw [has_nat (common_code ha hb) hk, has_nat ha hk, has_nat hb hk, commonI_in ha hb, Int.toNat_natCast, Nat.testBit_and]
theorem union_sub {a b : Int} (ha : isCodeB a = true) (hb : isCodeB b = true) : subB a (unionI a b) = true ∧ subB b (unionI a b) = true := by
  constructor <;> rw [subB_iff]
  · refine ⟨ha, union_code ha hb, fun i hi => ?_⟩
    rw [unionI_in ha hb, Int.toNat_natCast, Nat.testBit_or, hi]; rfl
  · refine ⟨hb, union_code ha hb, fun i hi => ?_⟩
    rw [unionI_in ha hb, Int.toNat_natCast, Nat.testBit_or, hi]; simp
theorem common_sub {a b : Int} (ha : isCodeB a = true) (hb : isCodeB b = true) : subB (commonI a b) a = true ∧ subB (commonI a b) b = true := by
  constructor <;> rw [subB_iff]
  · refine ⟨common_code ha hb, ha, fun i hi => ?_⟩
    rw [commonI_in ha hb, Int.toNat_natCast, Nat.testBit_and, Bool.and_eq_true] at hi; exact hi.1
  · refine ⟨common_code ha hb, hb, fun i hi => ?_⟩
    rw [commonI_in ha hb, Int.toNat_natCast, Nat.testBit_and, Bool.and_eq_true] at hi; exact hi.2
theorem unionI_neg {a b : Int} (h : ¬ (isCodeB a = true ∧ isCodeB b = true)) : unionI a b = -1 := by
  unfold unionI; rw [if_neg (by simpa using h)]
theorem commonI_neg {a b : Int} (h : ¬ (isCodeB a = true ∧ isCodeB b = true)) : commonI a b = -1 := by
  unfold commonI; rw [if_neg (by simpa using h)]
theorem memsI_code {s : Int} (h : isCodeB s = true) : memsI s = (memL s.toNat).map Int.ofNat := by simp [memsI, h]
theorem memsI_none {s : Int} (h : isCodeB s = false) : memsI s = [] := by simp [memsI, h]
theorem filter_sum (l : List Nat) (p q : Nat → Bool) : (l.filter fun i => p i && q i).length + (l.filter fun i => p i || q i).length = (l.filter p).length + (l.filter q).length := by
  induction l with
  | nil => rfl
  | cons a l ih => simp only [List.filter_cons]; cases p a <;> cases q a <;> simp <;> omega
theorem common_len {a b : Int} (ha : isCodeB a = true) (hb : isCodeB b = true) : (memsI (commonI a b)).length + (memsI (unionI a b)).length = (memsI a).length + (memsI b).length := by
  rw [memsI_code (common_code ha hb), memsI_code (union_code ha hb), memsI_code ha, memsI_code hb]
  simp only [List.length_map, memL]
  have := filter_sum (List.range 16) a.toNat.testBit b.toNat.testBit
  rw [← this]
  congr 2
  · congr 1; funext i; rw [commonI_in ha hb, Int.toNat_natCast, Nat.testBit_and]
  · congr 1; funext i; rw [unionI_in ha hb, Int.toNat_natCast, Nat.testBit_or]

/-! ### members -/
theorem mem_memsI {s : Int} (hs : isCodeB s = true) {k : Nat} (hk : k < 16) : decide ((k : Int) ∈ memsI s) = hasB s k := by
  rw [has_nat hs hk, Bool.eq_iff_iff, decide_eq_true_iff, memsI_code hs, List.mem_map]
  constructor
  · rintro ⟨m, hm, e⟩
    have : m = k := by have e' : (m : Int) = k := e; omega
    subst this; exact (mem_memL.1 hm).2
  · intro h; exact ⟨k, mem_memL.2 ⟨hk, h⟩, rfl⟩
theorem setOf_mems {s : Int} (hs : isCodeB s = true) : setOfI (memsI s) = s := by
  have e : (memsI s).map Int.toNat = memL s.toNat := by
    rw [memsI_code hs, List.map_map]
    exact List.map_id'' (fun m => by simp) _
  have h2 : (memsI s).all (inB · 0 15) = true := by
    rw [List.all_eq_true]
    intro x hx
    rw [memsI_code hs] at hx
    obtain ⟨m, hm, rfl⟩ := List.mem_map.1 hx
    have := (mem_memL.1 hm).1
    rw [inB_iff]; simp; omega
  unfold setOfI
  rw [if_pos h2, e, setL_memL (toNat_lt_of_code hs)]
  have := (isCodeB_iff s).1 hs
  omega
theorem memL_asc (n : Nat) : (memL n).Pairwise (· < ·) := by
  unfold memL
  exact List.Pairwise.filter _ List.pairwise_lt_range
theorem mems_get_lt {s : Int} {j : Nat} (hj : j + 1 < (memsI s).length) : (memsI s)[j] < (memsI s)[j + 1] := by
  by_cases hs : isCodeB s = true
  · have e := memsI_code hs
    have hj' : j + 1 < (memL s.toNat).length := by rw [e] at hj; simpa using hj
    have h := List.pairwise_iff_getElem.1 (memL_asc s.toNat) j (j + 1) (by omega) hj' (by omega)
    simp only [e, List.getElem_map]
    simpa using h
  · rw [memsI_none (by simpa using hs)] at hj; simp at hj

/-! ### how deep -/
theorem deepI_code {s : Int} (h : isCodeB s = true) : deepI s = ((deepN s.toNat : Nat) : Int) := by simp [deepI, h]
theorem deepI_none {s : Int} (h : isCodeB s = false) : deepI s = -1 := by simp [deepI, h]
theorem mem_code {s x : Int} (h : x ∈ memsI s) : isCodeB x = true ∧ x.toNat ∈ memL s.toNat ∧ isCodeB s = true := by
  by_cases hs : isCodeB s = true
  · rw [memsI_code hs] at h
    obtain ⟨m, hm, rfl⟩ := List.mem_map.1 h
    have := (mem_memL.1 hm).1
    exact ⟨by rw [isCodeB_iff]; simp; omega, hm, hs⟩
  · rw [memsI_none (by simpa using hs)] at h; simp at h
theorem deep_mem {s x : Int} (h : x ∈ memsI s) : deepI x < deepI s := by
  obtain ⟨h1, h2, h3⟩ := mem_code h
  rw [deepI_code h1, deepI_code h3, deepN_eq s.toNat]
  have := le_maxD h2
  omega
theorem deep_some {s : Int} (hs : isCodeB s = true) (h0 : memsI s ≠ []) : ∃ x ∈ memsI s, deepI x = deepI s - 1 := by
  rw [deepI_code hs, deepN_eq]
  have e := memsI_code hs
  rcases maxD_mem (memL s.toNat) with h | ⟨m, hm, h⟩
  · exfalso
    cases hl : memL s.toNat with
    | nil => rw [e, hl] at h0; exact h0 rfl
    | cons a l => have := le_maxD (l := memL s.toNat) (m := a) (by simp [hl]); omega
  · refine ⟨(m : Int), by rw [e]; exact List.mem_map.2 ⟨m, hm, rfl⟩, ?_⟩
    have hc : isCodeB (m : Int) = true := by have := (mem_memL.1 hm).1; rw [isCodeB_iff]; omega
    rw [deepI_code hc, h, Int.toNat_natCast]; omega
theorem memL_nil {n : Nat} (hn : n < 65536) (h : memL n = []) : n = 0 := by
  have := setL_memL hn
  rw [h] at this; simpa [setL] using this.symm
theorem deep_zero {s : Int} (hs : isCodeB s = true) : (deepI s == 0) = (s == 0) := by
  rw [Bool.eq_iff_iff, beq_iff_eq, beq_iff_eq, deepI_code hs, deepN_eq]
  have hb := (isCodeB_iff s).1 hs
  constructor
  · intro h
    have h0 : maxD (memL s.toNat) = 0 := by omega
    have : memL s.toNat = [] := by
      cases hl : memL s.toNat with
      | nil => rfl
      | cons a l => have := le_maxD (l := memL s.toNat) (m := a) (by simp [hl]); omega
    have := memL_nil (by omega) this
    omega
  · rintro rfl; rfl
theorem deep_le5 (s : Int) : deepI s ≤ 5 := by
  unfold deepI; split
  · rename_i h
    have := deepN_bd (toNat_lt_of_code h); omega
  · omega
theorem deep_nonneg {s : Int} (hs : isCodeB s = true) : 0 ≤ deepI s := by rw [deepI_code hs]; omega

/-! ### members of members -/
theorem allI_code' {s : Int} (h : isCodeB s = true) : allI s = ((allN s.toNat : Nat) : Int) := by simp [allI, h]
theorem allI_none {s : Int} (h : isCodeB s = false) : allI s = -1 := by simp [allI, h]
theorem all_isCode {s : Int} (h : isCodeB s = true) : isCodeB (allI s) = true := by
  have := allN_lt s.toNat
  rw [allI_code' h, isCodeB_iff]; omega
theorem all_has {s : Int} (h : isCodeB s = true) {k : Nat} (hk : k < 16) : hasB (allI s) k = (memsI s).any fun x => hasB x k := by
  rw [has_nat (all_isCode h) hk, allI_code' h, Int.toNat_natCast, testBit_allN, memsI_code h, List.any_map, Bool.eq_iff_iff, List.any_eq_true, List.any_eq_true]
  constructor
  · rintro ⟨m, hm, h1⟩
    have hc : isCodeB (m : Int) = true := by have := (mem_memL.1 hm).1; rw [isCodeB_iff]; omega
    exact ⟨m, hm, by simpa [has_nat hc hk] using h1⟩
  · rintro ⟨m, hm, h1⟩
    have hc : isCodeB (m : Int) = true := by have := (mem_memL.1 hm).1; rw [isCodeB_iff]; omega
    exact ⟨m, hm, by simpa [has_nat hc hk] using h1⟩
theorem mem_allN {n m : Nat} : m ∈ memL (allN n) ↔ ∃ x ∈ memL n, m ∈ memL x := by
  rw [mem_memL, testBit_allN]
  simp only [List.any_eq_true, mem_memL]
  constructor
  · rintro ⟨h1, x, h2, h3⟩; exact ⟨x, h2, h1, h3⟩
  · rintro ⟨x, h2, h1, h3⟩; exact ⟨h1, x, h2, h3⟩
theorem deep_all {s : Int} (h : isCodeB s = true) (h0 : s ≠ 0) : deepI (allI s) < deepI s := by
  rw [deepI_code (all_isCode h), deepI_code h, allI_code' h, Int.toNat_natCast]
  have hpos : 0 < deepN s.toNat := by
    have := deep_zero h
    rw [Bool.eq_iff_iff, beq_iff_eq, beq_iff_eq, deepI_code h] at this
    omega
  have : deepN (allN s.toNat) ≤ deepN s.toNat - 1 := by
    rw [deepN_eq (allN s.toNat)]
    apply maxD_le
    intro m hm
    obtain ⟨x, hx, hm2⟩ := mem_allN.1 hm
    have h1 := le_maxD hx
    have h2 := le_maxD hm2
    rw [← deepN_eq] at h1 h2
    omega
  omega

/-! ### full and filled sets -/
theorem fullB_code {n : Nat} (hn : n < 65536) : fullB (n : Int) = isFull n := by
  have h : isCodeB (n : Int) = true := (isCodeB_iff _).2 (by omega)
  have h1 := all_isCode h
  rw [fullB, h, Bool.true_and, subB, h1, h, allI, if_pos h]
  simp [isFull]
theorem isFull_iff (n : Nat) : isFull n = true ↔ ∀ i, (allN n).testBit i = true → n.testBit i = true := by
  rw [isFull, beq_iff_eq, and_eq_left_iff]
theorem isFull_mem (n : Nat) : isFull n = true ↔ ∀ m ∈ memL n, ∀ i, m.testBit i = true → n.testBit i = true := by
  rw [isFull_iff]
  constructor
  · intro h m hm i hi
    apply h; rw [testBit_allN, List.any_eq_true]; exact ⟨m, hm, hi⟩
  · intro h i hi
    rw [testBit_allN, List.any_eq_true] at hi
    obtain ⟨m, hm, h2⟩ := hi
    exact h m hm i h2
theorem full_all {s : Int} (hs : isCodeB s = true) : fullB s = (memsI s).all fun x => subB x s := by
  have hlt := toNat_lt_of_code hs
  have hb := (isCodeB_iff s).1 hs
  have e : s = ((s.toNat : Nat) : Int) := by omega
  rw [e, fullB_code hlt, ← e, Bool.eq_iff_iff, isFull_mem, List.all_eq_true, memsI_code hs]
  constructor
  · intro h x hx
    obtain ⟨m, hm, rfl⟩ := List.mem_map.1 hx
    rw [subB_iff]
    refine ⟨?_, hs, by simpa using h m hm⟩
    have := (mem_memL.1 hm).1
    rw [isCodeB_iff]; simp; omega
  · intro h m hm i hi
    have := h (m : Int) (List.mem_map.2 ⟨m, hm, rfl⟩)
    exact ((subB_iff _ _).1 this).2.2 i (by simpa using hi)

theorem full_succ {s : Int} (hs : isCodeB s = true) (h15 : s ≤ 15) (hf : fullB s = true) : fullB (unionI s (setOfI [s])) = true := by
  have hb := (isCodeB_iff s).1 hs
  have e1 : setOfI [s] = ((2 ^ s.toNat : Nat) : Int) := by
    unfold setOfI
    rw [if_pos (by simp [inB]; omega)]
    simp [setL]
  have hp : 2 ^ s.toNat ≤ 2 ^ 15 := Nat.pow_le_pow_right (by decide) (by omega)
  have hc : isCodeB ((2 ^ s.toNat : Nat) : Int) = true := by
    rw [isCodeB_iff]; generalize 2 ^ s.toNat = N at hp; omega
  have hu := union_code hs hc
  rw [e1]
  have hlt := toNat_lt_of_code hu
  have hub := (isCodeB_iff _).1 hu
  have e : unionI s ((2 ^ s.toNat : Nat) : Int) = (((unionI s ((2 ^ s.toNat : Nat) : Int)).toNat : Nat) : Int) := by omega
  rw [e, fullB_code hlt, isFull_mem, unionI_in hs hc, Int.toNat_natCast, Int.toNat_natCast]
  have hF : isFull s.toNat = true := by
    have e2 : s = ((s.toNat : Nat) : Int) := by omega
    rw [e2, fullB_code (by omega)] at hf; exact hf
  intro m hm i hi
  obtain ⟨h1, h2⟩ := mem_memL.1 hm
  rw [Nat.testBit_or, Bool.or_eq_true] at h2 ⊢
  left
  rcases h2 with h2 | h2
  · exact (isFull_mem _).1 hF m (mem_memL.2 ⟨h1, h2⟩) i hi
  · have : s.toNat = m := by
      rw [Nat.testBit_two_pow] at h2; simpa using h2
    rw [this]; exact hi

/-- what filling keeps: an invariant of the steps holds of the filled set -/
theorem fill_ind (P : Nat → Prop) (step : ∀ n, n < 65536 → isFull n = false → P n → P (n ||| allN n)) : ∀ n, n < 65536 → P n → P (fillN n) ∧ isFull (fillN n) = true ∧ fillN n < 65536 := by
  intro n
  induction h : 65536 - n using Nat.strongRecOn generalizing n with
  | _ d ih =>
    intro hn hP
    cases hf : isFull n
    · rw [fillN_step hn hf]
      have h1 := notFull_gt hf
      have h2 := or_lt16 hn (allN_lt n)
      exact ih (65536 - (n ||| allN n)) (by omega) _ rfl h2 (step n hn hf hP)
    · rw [fillN_full hf]; exact ⟨hP, hf, hn⟩
theorem fill_full {n : Nat} (hn : n < 65536) : isFull (fillN n) = true ∧ fillN n < 65536 := (fill_ind (fun _ => True) (fun _ _ _ _ => trivial) n hn trivial).2
theorem fill_sub {n : Nat} (hn : n < 65536) : ∀ i, n.testBit i = true → (fillN n).testBit i = true :=
  (fill_ind (fun x => ∀ i, n.testBit i = true → x.testBit i = true) (fun x _ _ h i hi => by rw [Nat.testBit_or, h i hi]; rfl) n hn (fun _ h => h)).1
theorem deep_le_of {n m D : Nat} (h : ∀ x ∈ memL m, deepN x + 1 ≤ D) (_hn : n = m) : deepN m ≤ D := by rw [deepN_eq]; exact maxD_le _ _ h
theorem deep_mono {n m : Nat} (h : ∀ i, n.testBit i = true → m.testBit i = true) : deepN n ≤ deepN m := by
  rw [deepN_eq n, deepN_eq m]
  apply maxD_le
  intro x hx
  have := mem_memL.1 hx
  exact le_maxD (mem_memL.2 ⟨this.1, h x this.2⟩)
theorem deep_or {n : Nat} : deepN (n ||| allN n) = deepN n := by
  apply Nat.le_antisymm
  · rw [deepN_eq (n ||| allN n)]
    apply maxD_le
    intro x hx
    obtain ⟨h1, h2⟩ := mem_memL.1 hx
    rw [Nat.testBit_or, Bool.or_eq_true] at h2
    rcases h2 with h2 | h2
    · have := le_maxD (mem_memL.2 ⟨h1, h2⟩); rwa [← deepN_eq] at this
    · obtain ⟨y, hy, hxy⟩ := mem_allN.1 (mem_memL.2 ⟨h1, h2⟩)
      have a1 := le_maxD hy
      have a2 := le_maxD hxy
      rw [← deepN_eq] at a1 a2
      omega
  · exact deep_mono fun i hi => by rw [Nat.testBit_or, hi]; rfl
theorem fill_deep {n : Nat} (hn : n < 65536) : deepN (fillN n) = deepN n :=
  (fill_ind (fun x => deepN x = deepN n) (fun x _ _ h => by rw [deep_or]; exact h) n hn rfl).1
theorem fill_self {n : Nat} (hn : n < 65536) : (fillN n = n) ↔ isFull n = true := by
  constructor
  · intro h; rw [← h]; exact (fill_full hn).1
  · exact fillN_full
theorem fill_fill {n : Nat} (hn : n < 65536) : fillN (fillN n) = fillN n := fillN_full (fill_full hn).1
theorem fill_all {n : Nat} (hn : n < 65536) : ∀ i, (allN n).testBit i = true → (fillN n).testBit i = true := by
  intro i hi
  rw [testBit_allN, List.any_eq_true] at hi
  obtain ⟨m, hm, h2⟩ := hi
  have hm' := mem_memL.1 hm
  exact (isFull_mem _).1 (fill_full hn).1 m (mem_memL.2 ⟨hm'.1, fill_sub hn m hm'.2⟩) i h2
end Go.Proofs.Ytkicgodmgafkoaa
