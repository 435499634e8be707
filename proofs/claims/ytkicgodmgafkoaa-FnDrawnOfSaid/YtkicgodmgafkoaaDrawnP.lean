/- Each set is drawn by its picture: plain words. No program in sight. -/
import Derived.Test.YtkicgodmgafkoaaCodeP
import Derived.Test.YtkicgodmgafkoaaBackS
import Derived.Test.YtkicgodmgafkoaaDrawn
namespace Go.Proofs.Ytkicgodmgafkoaa
open Go.RowKit

section
variable {n : Nat} (hn : n < 65536) (h5 : (nodesL n).length ≤ 5)
include hn h5
omit hn in
theorem drawn_pic : picB (mkR (nodesL n).length (drawF n)) = true := by
  refine mkR_pic (by simp [nodesL]) h5 fun i j => ?_
  unfold drawF
  split
  · exact .inr rfl
  · exact .inl rfl
omit hn h5 in
theorem drawn_len : (mkR (nodesL n).length (drawF n)).length = (nodesL n).length := mkR_len _ _
omit hn h5 in
theorem drawn_ent {i j : Nat} (hi : i < (nodesL n).length) (hj : j < (nodesL n).length) : ent (mkR (nodesL n).length (drawF n)) i j = 1 ↔ 0 < j ∧ ((nodesL n)[i]).testBit ((nodesL n)[j]) = true := by
  rw [mkR_ent _ _ hi hj]
  by_cases hj0 : 0 < j
  · rw [drawF_in hi hj0 hj]
    cases ((nodesL n)[i]).testBit ((nodesL n)[j]) <;> simp [hj0]
  · obtain rfl : j = 0 := by omega
    rw [drawF_first]; simp
omit h5 in
/-- each member of the set filled up has a node -/
theorem drawn_node {m : Nat} (hm : (fillN n).testBit m = true) : ∃ j, ∃ h : j < (nodesL n).length, 0 < j ∧ (nodesL n)[j] = m := by
  have h16 : m < 16 := by
    apply Nat.lt_of_not_le; intro hge
    have h1 := (fill_full hn).2
    have h2 : fillN n < 2 ^ m := Nat.lt_of_lt_of_le h1 (Nat.pow_le_pow_right (by decide : 0 < 2) hge)
    rw [Nat.testBit_lt_two_pow h2] at hm; cases hm
  have : m ∈ (memL (fillN n)).reverse := List.mem_reverse.2 (mem_memL.2 ⟨h16, hm⟩)
  obtain ⟨k, hk, e⟩ := List.getElem_of_mem this
  exact ⟨k + 1, by simp [nodesL] at hk ⊢; omega, by omega, by simpa [nodesL] using e⟩
omit hn h5 in
theorem drawn_mem {i : Nat} (hi : 0 < i) (h : i < (nodesL n).length) : (fillN n).testBit (nodesL n)[i] = true := by
  obtain ⟨k, rfl⟩ : ∃ k, i = k + 1 := ⟨i - 1, by omega⟩
  have : (nodesL n)[k + 1] ∈ memL (fillN n) := by
    rw [← List.mem_reverse]
    exact List.getElem_mem (l := (memL (fillN n)).reverse) (by simpa [nodesL] using h)
  exact (mem_memL.1 this).2
omit h5 in
/-- members of what has a node are members of the set filled up -/
theorem drawn_sub {i m : Nat} (h : i < (nodesL n).length) (hm : ((nodesL n)[i]).testBit m = true) : (fillN n).testBit m = true := by
  by_cases hi : 0 < i
  · exact (isFull_mem _).1 (fill_full hn).1 _ (mem_memL.2 ⟨nodesL_mem hi h, drawn_mem hi h⟩) m hm
  · obtain rfl : i = 0 := by omega
    exact fill_sub hn m hm
omit hn h5 in
theorem bit_small {x m : Nat} (h : x.testBit m = true) : m < x := by
  have := Nat.testBit_two_pow_self (n := m)
  have h2 := Nat.ge_two_pow_of_testBit h
  have h3 := Nat.lt_two_pow_self (n := m)
  omega
omit hn in
theorem drawn_noLoop {v : Nat} (hv : v < (nodesL n).length) : loopB (mkR (nodesL n).length (drawF n)) v = false := by
  rw [Bool.eq_false_iff]; intro hl
  obtain ⟨u, hu, e, hr⟩ := loopB_iff.1 hl
  rw [drawn_len] at hu
  have h1 := bit_small ((drawn_ent hv hu).1 e).2
  have h2 := reach_ind (P := fun b => ∃ h : b < (nodesL n).length, (nodesL n)[b] ≤ (nodesL n)[u]) ⟨hu, Nat.le_refl _⟩ (fun x b hx hP e2 => by
    obtain ⟨hx2, hle⟩ := hP
    have hb := ent_lt (drawn_pic h5) hx e2
    rw [drawn_len] at hb
    have := bit_small ((drawn_ent hx2 hb).1 e2).2
    exact ⟨hb, by omega⟩) hr
  obtain ⟨_, h3⟩ := h2
  omega
omit hn in
theorem drawn_back {a : Nat} (ha : a < (nodesL n).length) : backB (mkR (nodesL n).length (drawF n)) a = false := by
  rw [Bool.eq_false_iff]; intro hb
  obtain ⟨v, h1, h2⟩ := (backB_iff (drawn_pic h5) (by rw [drawn_len]; exact ha)).1 hb
  have hv := reach_lt (drawn_pic h5) (by rw [drawn_len]; exact ha) h1
  rw [drawn_len] at hv
  rw [drawn_noLoop h5 hv] at h2; cases h2
/-- the code at each node of the picture -/
theorem drawn_code : ∀ (x i : Nat) (hi : i < (nodesL n).length), (nodesL n)[i] = x → codeL (mkR (nodesL n).length (drawF n)) i = some x := by
  intro x
  induction x using Nat.strongRecOn with
  | _ x ih =>
    intro i hi hx
    have hp := drawn_pic h5
    have hi2 : i < (mkR (nodesL n).length (drawF n)).length := by rw [drawn_len]; exact hi
    rw [codeL_step hp hi2 (drawn_back h5 hi)]
    have harr : ∀ v, v ∈ arrowsL (mkR (nodesL n).length (drawF n)) i → ∃ hv : v < (nodesL n).length, 0 < v ∧ x.testBit (nodesL n)[v] = true ∧ codeL (mkR (nodesL n).length (drawF n)) v = some (nodesL n)[v] := by
      intro v hv
      obtain ⟨h1, h2⟩ := (arrowsL_mem hp hi2).1 hv
      rw [drawn_len] at h1
      obtain ⟨h3, h4⟩ := (drawn_ent hi h1).1 h2
      rw [hx] at h4
      exact ⟨h1, h3, h4, ih _ (bit_small h4) v h1 rfl⟩
    obtain ⟨s, hs⟩ := gather_of (l := (arrowsL (mkR (nodesL n).length (drawF n)) i).map (codeL (mkR (nodesL n).length (drawF n)))) fun o ho => by
      obtain ⟨v, hv, rfl⟩ := List.mem_map.1 ho
      obtain ⟨h1, h2, h3, h4⟩ := harr v hv
      exact ⟨_, h4, by have := nodesL_mem h2 h1; omega⟩
    rw [hs]
    congr 1
    apply Nat.eq_of_testBit_eq
    intro k
    rw [Bool.eq_iff_iff, (gather_some hs).2, List.mem_map]
    constructor
    · rintro ⟨v, hv, e⟩
      obtain ⟨h1, h2, h3, h4⟩ := harr v hv
      rw [h4] at e
      rw [← Option.some.inj e]; exact h3
    · intro hk
      obtain ⟨j, hj, hj0, e⟩ := drawn_node hn (drawn_sub hn hi (by rw [hx]; exact hk))
      have hv : j ∈ arrowsL (mkR (nodesL n).length (drawF n)) i := (arrowsL_mem hp hi2).2 ⟨by rw [drawn_len]; exact hj, (drawn_ent hi hj).2 ⟨hj0, by rw [hx, e]; exact hk⟩⟩
      obtain ⟨_, _, _, h4⟩ := harr j hv
      exact ⟨j, hv, by rw [h4, e]⟩
/-- every node is reached from the first -/
theorem drawn_reach {j : Nat} (hj : j < (nodesL n).length) : reach (mkR (nodesL n).length (drawF n)) 0 j = true := by
  have hp := drawn_pic h5
  have h0 : 0 < (mkR (nodesL n).length (drawF n)).length := by rw [drawn_len]; simp [nodesL]
  by_cases hj0 : 0 < j
  · have key := (fill_ind (fun x => ∀ m, x.testBit m = true → (fillN n).testBit m = true ∧ ∀ j (h : j < (nodesL n).length), 0 < j → (nodesL n)[j] = m → reach (mkR (nodesL n).length (drawF n)) 0 j = true)
      (fun x _ _ hP m hm => by
        rw [Nat.testBit_or, Bool.or_eq_true] at hm
        rcases hm with hm | hm
        · exact hP m hm
        · rw [testBit_allN, List.any_eq_true] at hm
          obtain ⟨k, hk, hkm⟩ := hm
          obtain ⟨hk1, hk2⟩ := hP k (mem_memL.1 hk).2
          refine ⟨(isFull_mem _).1 (fill_full hn).1 k (mem_memL.2 ⟨(mem_memL.1 hk).1, hk1⟩) m hkm, fun j hj hj0 e => ?_⟩
          obtain ⟨i, hi, hi0, e2⟩ := drawn_node hn hk1
          exact reach_step hp h0 (hk2 i hi hi0 e2) ((drawn_ent hi hj).2 ⟨hj0, by rw [e2, e]; exact hkm⟩))
      n hn (fun m hm => ⟨fill_sub hn m hm, fun j hj hj0 e => reach_step hp h0 (reach_self 0) ((drawn_ent (by simp [nodesL]) hj).2 ⟨hj0, by rw [e]; exact hm⟩)⟩)).1
    exact (key _ (drawn_mem hj0 hj)).2 j hj hj0 rfl
  · obtain rfl : j = 0 := by omega
    exact reach_self 0
theorem drawn_all : (reachL (mkR (nodesL n).length (drawF n)) 0).length = (nodesL n).length := by
  have e : reachL (mkR (nodesL n).length (drawF n)) 0 = List.range (nodesL n).length := by
    unfold reachL
    rw [drawn_len]
    apply List.filter_eq_self.2
    intro j hj
    exact drawn_reach hn h5 (List.mem_range.1 hj)
  rw [e, List.length_range]
end
/-- what the law asks of the picture of a set -/
theorem drawn_told {s : Int} (h : drawnB s = true) : codeI (drawnL s) 0 = some s.toNat ∧ 0 ≤ s ∧ (reachI (drawnL s) 0).length = (drawnL s).length ∧ backI (drawnL s) 0 = false := by
  rw [drawnL_yes h]
  have h2 : isCodeB s = true ∧ (nodesL s.toNat).length ≤ 5 := by simpa [drawnB] using h
  have hs := (isCodeB_iff s).1 h2.1
  have hn : s.toNat < 65536 := by omega
  have hp := drawn_pic h2.2
  have hl : 0 < (nodesL s.toNat).length := by simp [nodesL]
  have hnode : nodeB (mkR (nodesL s.toNat).length (drawF s.toNat)) ((0 : Nat) : Int) = true := (nodeB_iff _ _).2 ⟨hp, by omega, by rw [drawn_len]; omega⟩
  have hb := drawn_back h2.2 hl
  refine ⟨?_, hs.1, ?_, ?_⟩
  · exact (codeI_in hnode hb).trans (drawn_code hn h2.2 _ 0 hl rfl)
  · have := reachI_in hnode
    rw [Int.natCast_zero] at this
    rw [this, List.length_map, drawn_all hn h2.2, drawn_len]
  · exact (backI_in hnode).trans hb
end Go.Proofs.Ytkicgodmgafkoaa
