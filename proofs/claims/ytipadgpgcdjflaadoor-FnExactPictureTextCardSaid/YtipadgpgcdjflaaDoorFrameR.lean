/- The arguments of a law of type [][]int, opened. -/
import Derived.Test.YtipadgpgcdjflaaDoorFrame
import Derived.Test.YtipadgpgcdjflaaDoorRowsM
import Derived.Deep.Matrix
namespace Go.Proofs.YtipadgpgcdjflaaDoor
open Go.ChangeShapes Go.WideShapes Go.ChangeAt Go.RowKit

/-- what is known of the numbers of a slice of slices that came in -/
def WfRows (rows : List (List Int)) : Prop := (∀ r ∈ rows, ∀ n ∈ r, -9223372036854775808 ≤ n ∧ n ≤ 9223372036854775807)

/-- a slice of slices of integers that came in -/
theorem open_Rows {H : Type} {enc : TypeId × Value → H} {W : World} {r : Reach} {b0 : Nat} {v : Value} {d : DataW H} {ps : List MemPlace}
    (hval : Value.okWide Tryd.prog W r b0 22 v) (hj : DataW.Trod enc Tryd.prog W 0 (fun _ => true) true 22 v d ps) :
    ∃ rows, RowsR W v rows ∧ WfRows rows := by
  obtain ⟨a, len, cap, rfl⟩ := okWide_slice Tryd.underlying22 hval
  obtain ⟨fuel, hf⟩ := hj
  rcases Go.Deep.open_int_rows Tryd.underlying22 Tryd.underlying38 Tryd.underlying3 (by kernel_rfl) (by kernel_rfl) hf with ⟨hcs, _⟩ | ⟨x, l, c, A, L, C, Z, hcs, _, hl, hm, _, hr⟩
  · simp [Value.cells] at hcs
    obtain ⟨rfl, rfl, rfl⟩ := hcs
    exact ⟨[], .inl ⟨rfl, _, _, rfl⟩, by simp [WfRows]⟩
  · simp [Value.cells] at hcs
    obtain ⟨rfl, rfl, rfl⟩ := hcs
    by_cases h0 : len = 0
    · subst h0
      exact ⟨[], .inl ⟨rfl, _, _, rfl⟩, by simp [WfRows]⟩
    · obtain ⟨b, off, rfl, hcell'⟩ := addr_some (n := len) (by omega) (fun i => .slice (A i) (L i) (C i)) (fun i hi => (hr i (by omega)).1)
      refine ⟨(List.range len).map fun i => (Z i).take (L i), .inr ⟨b, off, cap, by simp, by simpa using hl, hm, by simp; omega, fun i hi => ?_⟩, ?_⟩
      · have hi' : i < len := by simpa using hi
        obtain ⟨-, h1, h2, h3, h4, h5, h6⟩ := hr i (by omega)
        refine ⟨_, hcell' i hi', ?_⟩
        have e : ((List.range len).map fun i => (Z i).take (L i))[i] = (Z i).take (L i) := by simp
        rw [e]
        by_cases hL : L i = 0
        · rw [hL, List.take_zero]
          exact .inl ⟨rfl, _, _, rfl⟩
        · obtain ⟨a', ha⟩ : ∃ a', A i = some a' := by
            cases hA : A i with
            | none => have := h5 hA; omega
            | some a' => exact ⟨a', rfl⟩
          obtain ⟨b2, off2, rfl, hc2⟩ := addr_some (n := L i) (by omega) (fun c => .int .i64 ((Z i).getD c 0)) (fun c hc => (h6 a' ha).2 c (by omega))
          have hlen : ((Z i).take (L i)).length = L i := by rw [List.length_take]; omega
          refine .inr ⟨b2, off2, C i, by rw [ha, hlen], by omega, h2, by omega, fun j hj => ?_⟩
          rw [hc2 j (by omega)]
          simp [List.getD_eq_getElem?_getD, show j < (Z i).length by omega]
      · intro row hrow n hn
        simp only [List.mem_map, List.mem_range] at hrow
        obtain ⟨i, hi, rfl⟩ := hrow
        obtain ⟨-, h1, h2, h3, h4, h5, h6⟩ := hr i (by omega)
        exact open_I64 (h4 n (List.mem_of_mem_take hn))
end Go.Proofs.YtipadgpgcdjflaaDoor
