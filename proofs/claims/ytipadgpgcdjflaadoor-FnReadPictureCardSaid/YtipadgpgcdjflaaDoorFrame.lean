/- The arguments of a law, opened; the row closed. -/
import Derived.Test.YtipadgpgcdjflaaDoorBase
import Derived.ProofKit
import Derived.OpenShut
import Derived.ShutString
import Derived.ChangeOld
namespace Go.Proofs.YtipadgpgcdjflaaDoor
open Go.ChangeShapes Go.WideShapes Go.ChangeAt Go.RowKit
open Go.ChangeMaps (open_string shut_string)

theorem own : ownKnob Tryd.prog.godebug = none := by kernel_rfl
theorem laidOut : laidOutB Tryd.prog = true := by kernel_rfl

theorem addr_some {w : World} {x : Addr} {n : Nat} (hn : 0 < n) (f : Nat → Value) (h : ∀ i, i < n → w.cell? (x.add i) = some (f i)) :
    ∃ b off, x = ⟨b, off, none⟩ ∧ ∀ i, i < n → w.cell? ⟨b, off + i, none⟩ = some (f i) := by
  obtain ⟨b, off, spot⟩ := x
  have h0 := h 0 hn
  have hs : spot = none := by
    cases spot with
    | none => rfl
    | some s => simp [Addr.add, World.cell?] at h0; split at h0 <;> simp at h0
  subst hs
  refine ⟨b, off, rfl, fun i hi => ?_⟩
  have := h i hi
  by_cases h0 : i = 0
  · subst h0; simpa [Addr.add] using this
  · simpa [Addr.add, h0] using this

/-- a slice of integers that came in -/
theorem open_Ints {H : Type} {enc : TypeId × Value → H} {W : World} {r : Reach} {b0 : Nat} {t e : TypeId} {k : IntKind} {v : Value} {d : DataW H} {ps : List MemPlace}
    (ht : Tryd.prog.underlying t = some (.slice e)) (he : Tryd.prog.underlying e = some (.int k)) (hc : Tryd.prog.cellsOf e = 1)
    (hval : Value.okWide Tryd.prog W r b0 t v) (hj : DataW.Trod enc Tryd.prog W 0 (fun _ => true) true t v d ps) :
    ∃ zs, IntsK k W v zs ∧ ∀ n ∈ zs, (Lit.int k n).wf = true := by
  obtain ⟨a, len, cap, rfl⟩ := okWide_slice ht hval
  obtain ⟨fuel, hf⟩ := hj
  rcases open_ints ht he hc hf with ⟨hcs, _⟩ | ⟨x, l, c, zs, hcs, _, hl, hm, hz, _, hcell, hwz⟩
  · simp [Value.cells] at hcs
    obtain ⟨rfl, rfl, rfl⟩ := hcs
    exact ⟨[], .inl ⟨rfl, _, _, rfl⟩, by simp⟩
  · simp [Value.cells] at hcs
    obtain ⟨rfl, rfl, rfl⟩ := hcs
    simp only [if_true] at hz
    by_cases h0 : len = 0
    · subst h0
      exact ⟨[], .inl ⟨rfl, _, _, rfl⟩, by simp⟩
    · obtain ⟨b, off, rfl, hcell'⟩ := addr_some (n := zs.length) (by omega) (fun i => .int k (zs.getD i 0)) hcell
      have hlen : (zs.take len).length = len := by rw [List.length_take]; omega
      refine ⟨zs.take len, .inr ⟨b, off, cap, by rw [hlen], by omega, hm, by omega, fun i hi => ?_⟩, fun n hn => hwz n (List.mem_of_mem_take hn)⟩
      rw [hcell' i (by omega)]
      simp [List.getD_eq_getElem?_getD, show i < zs.length by omega]

theorem open_I64 {a : Int} (h : (Lit.int .i64 a).wf = true) : -9223372036854775808 ≤ a ∧ a ≤ 9223372036854775807 := by
  simp [Lit.wf, IntKind.min, IntKind.max, IntKind.bits, IntKind.signed] at h; omega

theorem open_U8 {a : Int} (h : (Lit.int .u8 a).wf = true) : 0 ≤ a ∧ a ≤ 255 := by
  simp [Lit.wf, IntKind.min, IntKind.max, IntKind.bits, IntKind.signed] at h; omega
end Go.Proofs.YtipadgpgcdjflaaDoor
