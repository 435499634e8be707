/- What the program's and the reference's functions on codes answer: those with loops over members. -/
import Derived.Test.YtipadgpgcdjflaaDoorCodes
namespace Go.Proofs.YtipadgpgcdjflaaDoor
open Go.RowKit

/-! ### SetOf -/
theorem shl_one (x : Int) (h0 : 0 ≤ x) (h1 : x ≤ 15) : wrap64 (2 ^ x.toNat) = ((2 ^ x.toNat : Nat) : Int) := by
  have h : (2 : Nat) ^ x.toNat ≤ 2 ^ 15 := Nat.pow_le_pow_right (by decide) (by omega)
  have e : ((2 : Int) ^ x.toNat) = ((2 ^ x.toNat : Nat) : Int) := by simp
  rw [e]
  generalize 2 ^ x.toNat = N at h
  rw [wrap64]; omega

/-- what the loop of SetOf has gathered after k rounds -/
def SetTo (zs : List Int) (k : Nat) (s : Int) : Prop := (∀ z ∈ zs.take k, 0 ≤ z ∧ z ≤ 15) ∧ s = ((setL ((zs.take k).map Int.toNat) : Nat) : Int)
theorem SetTo.start (zs : List Int) : SetTo zs 0 0 := ⟨by simp, by simp [setL]⟩
theorem SetTo.bd {zs : List Int} {k : Nat} {s : Int} (h : SetTo zs k s) : 0 ≤ s ∧ s ≤ 65535 := by
  have : setL ((zs.take k).map Int.toNat) < 65536 := setL_lt _ (by
    intro m hm
    obtain ⟨z, hz, rfl⟩ := List.mem_map.1 hm
    have := h.1 z hz; omega)
  rw [h.2]; omega
theorem SetTo.step {zs : List Int} {k : Nat} {s : Int} (h : SetTo zs k s) (hk : k < zs.length) (h0 : 0 ≤ zs[k]) (h1 : zs[k] ≤ 15) :
    SetTo zs (k + 1) (bits .or .i64 s (wrap64 (2 ^ (zs[k]).toNat))) := by
  have hb := h.bd
  obtain ⟨h2, rfl⟩ := h
  have e : zs.take (k + 1) = zs.take k ++ [zs[k]] := List.take_succ_eq_append_getElem hk
  refine ⟨?_, ?_⟩
  · rw [e]; intro z hz
    rcases List.mem_append.1 hz with hz | hz
    · exact h2 z hz
    · simp at hz; subst hz; exact ⟨h0, h1⟩
  · rw [e, List.map_append, List.map_singleton, setL_snoc, shl_one _ h0 h1]
    have h3 : (2 : Nat) ^ (zs[k]).toNat ≤ 2 ^ 15 := Nat.pow_le_pow_right (by decide) (by omega)
    exact or_i64 _ _ (by omega) (by omega)
theorem SetTo.all {zs : List Int} {k : Nat} {s : Int} (h : SetTo zs k s) (hk : ¬ k < zs.length) : s = setOfI zs := by
  have e : zs.take k = zs := List.take_of_length_le (by omega)
  rw [SetTo, e] at h
  unfold setOfI
  rw [if_pos (List.all_eq_true.2 fun z hz => (inB_iff z 0 15).2 (h.1 z hz))]
  exact h.2
theorem setOfI_bad {zs : List Int} {k : Nat} (hk : k < zs.length) (h : ¬ (0 ≤ zs[k] ∧ zs[k] ≤ 15)) : setOfI zs = -1 := by
  unfold setOfI
  rw [if_neg]
  intro hh
  have := List.all_eq_true.1 hh zs[k] (List.getElem_mem hk)
  exact h ((inB_iff _ 0 15).1 this)



/-! ### membersOf -/
/-- the members below m -/
def memTo (n m : Nat) : List Nat := (List.range m).filter n.testBit
theorem memTo_step (n m : Nat) : memTo n (m + 1) = memTo n m ++ if n.testBit m then [m] else [] := by
  rw [memTo, memTo, List.range_succ, List.filter_append]
  cases h : n.testBit m <;> simp [h]
theorem memTo_all {n m : Nat} (hm : m ≤ 16) (h : ∀ i, m ≤ i → n.testBit i = false) : memTo n m = memL n := by
  obtain ⟨d, hd⟩ : ∃ d, 16 = m + d := ⟨16 - m, by omega⟩
  have key : ∀ d, memTo n (m + d) = memTo n m := by
    intro d
    induction d with
    | zero => rfl
    | succ d ih => rw [← Nat.add_assoc, memTo_step, ih, h _ (by omega)]; simp
  rw [← key d, ← hd]; rfl
theorem memTo_len (n m : Nat) : (memTo n m).length ≤ m := by
  have := List.length_filter_le n.testBit (List.range m)
  simpa [memTo] using this
theorem memL_len (n : Nat) : (memL n).length ≤ 16 := memTo_len n 16
theorem memL_mem {n m : Nat} (h : m ∈ memL n) : m ≤ 15 := by have := (mem_memL.1 h).1; omega

/-- what stands behind an append of one element -/
theorem Owns.pushed {W wr w1 : World} {v v' : Value} {xs : List Int} {x : Int} {o : Obj} (_h : Owns W.heap.size wr.heap.size wr v xs) (hF : Fresh W wr)
    (hown' : w1.ownsRow W.heap.size 3 1 v' (xs.length + 1) (xs.map (Value.int .i64) ++ [.int .i64 x])) (hgr : (wr.alloc o).grownBy w1 v.ownBlock) :
    Owns W.heap.size w1.heap.size w1 v' (xs ++ [x]) ∧ Fresh W w1 := by
  refine ⟨⟨by simpa using hown', fun g hg => (hown'.lt g hg).2⟩, ?_⟩
  exact (hF.alloc o).grown hgr fun k hk => (_h.blk k hk).1

theorem shr_zero {s : Int} {m : Nat} (h0 : 0 ≤ s) (h : ¬ 0 < s / 2 ^ m) : ∀ i, m ≤ i → s.toNat.testBit i = false := by
  obtain ⟨n, rfl⟩ := Int.eq_ofNat_of_zero_le h0
  intro i hi
  have hz : n / 2 ^ m = 0 := by
    have e : ((n : Int) / 2 ^ m) = ((n / 2 ^ m : Nat) : Int) := by simp
    rw [e] at h
    generalize n / 2 ^ m = q at h
    omega
  have hlt : n < 2 ^ m := by
    rcases Nat.div_eq_zero_iff.1 hz with h1 | h1
    · have := Nat.two_pow_pos m; omega
    · exact h1
  exact Nat.testBit_lt_two_pow (Nat.lt_of_lt_of_le hlt (Nat.pow_le_pow_right (by decide) hi))
theorem shr_pos {s : Int} {m : Nat} (h0 : 0 ≤ s) (h1 : s ≤ 65535) (h : 0 < s / 2 ^ m) : m < 16 := by
  obtain ⟨n, rfl⟩ := Int.eq_ofNat_of_zero_le h0
  have e : ((n : Int) / 2 ^ m) = ((n / 2 ^ m : Nat) : Int) := by simp
  rw [e] at h
  rcases Nat.lt_or_ge m 16 with h2 | h2
  · exact h2
  · exfalso
    have h3 : 2 ^ 16 ≤ 2 ^ m := Nat.pow_le_pow_right (by decide) h2
    have : n / 2 ^ m = 0 := Nat.div_eq_of_lt (by omega)
    omega
theorem and_test {s : Int} {m : Nat} (h0 : 0 ≤ s) (h1 : s ≤ 65535) : (bits .and .i64 (s / 2 ^ m) 1 == 1) = s.toNat.testBit m := by
  have := shr_le s m h0
  have e := bit_eq s m h0
  rw [Int.toNat_natCast] at e
  rw [and_one _ this.1 (by omega), e]
  cases s.toNat.testBit m <;> simp

theorem Owns.pushedAt {lo hi : Nat} {W wr w1 : World} {v v' : Value} {xs : List Int} {x : Int} {o : Obj} (_h : Owns lo hi wr v xs) (hF : Fresh W wr) (hlo : W.heap.size ≤ lo)
    (hown' : w1.ownsRow lo 3 1 v' (xs.length + 1) (xs.map (Value.int .i64) ++ [.int .i64 x])) (hgr : (wr.alloc o).grownBy w1 v.ownBlock) :
    Owns lo w1.heap.size w1 v' (xs ++ [x]) ∧ Fresh W w1 ∧ Keeps (fun k => lo ≤ k) wr w1 := by
  refine ⟨⟨by simpa using hown', fun g hg => (hown'.lt g hg).2⟩, ?_, ?_⟩
  · exact (hF.alloc o).grown hgr fun k hk => Nat.le_trans hlo (_h.blk k hk).1
  · exact Keeps.grown ((Keeps.refl _ wr).alloc o) hgr fun k hk _ => (_h.blk k hk).1

end Go.Proofs.YtipadgpgcdjflaaDoor
