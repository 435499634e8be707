/- What the laws on pictures and sameness draw. -/
import Derived.Test.YtkicgodmgafkoaaDraw5
namespace Go.Proofs.Ytkicgodmgafkoaa
open Go.RowKit

theorem Fresh.reader' {w w1 w2 : World} {b : Nat} (h : Fresh w w1) (hb : w.heap.size ≤ b) (k : Keeps (fun i => i = b) w1 w2) : Fresh w w2 :=
  h.keepsTrans k fun i hi => by omega
/-- few and short -/
def Small (rows : List (List Int)) : Prop := rows.length ≤ 5 ∧ ∀ r ∈ rows, r.length ≤ 6
/-- some rows -/
def SomeRows (w : World) (e : Ending) (w' : World) : Prop := ∃ v rows, e = .returned v ∧ RowsR w' v rows ∧ Small rows ∧ Fresh w w'
/-- some rows and a number -/
def SomeRowsInt (w : World) (e : Ending) (w' : World) : Prop := ∃ (v : Value) (rows : List (List Int)) (x : Int), e = .returned (.tuple #[v, .int .i64 x]) ∧ RowsR w' v rows ∧ Small rows ∧ Fresh w w'
/-- some rows and two numbers -/
def SomeRowsInt2 (w : World) (e : Ending) (w' : World) : Prop := ∃ (v : Value) (rows : List (List Int)) (x y : Int), e = .returned (.tuple #[v, .int .i64 x, .int .i64 y]) ∧ RowsR w' v rows ∧ Small rows ∧ Fresh w w'
/-- some rows and some rows -/
def SomeTwoRows (w : World) (e : Ending) (w' : World) : Prop := ∃ (v u : Value) (p l : List (List Int)), e = .returned (.tuple #[v, u]) ∧ RowsR w' v p ∧ RowsR w' u l ∧ Small p ∧ Small l ∧ Fresh w w'


/-- the number that stands in a node's own row -/
def ownF (i j : Nat) : Int := if i = j then 1 else 0
theorem own_row {n k : Nat} (_hk : k < n) : (List.replicate n (0 : Int)).set k 1 = rowTo ownF k n := by
  apply List.ext_getElem (by simp [rowTo])
  intro j h1 h2
  by_cases hj : k = j
  · subst hj; rw [List.getElem_set_self]; simp [rowTo, ownF]
  · rw [List.getElem_set_ne hj]; simp [rowTo, ownF, hj]
theorem none_row (n k : Nat) : List.replicate n (0 : Int) = rowTo (fun _ _ => 0) k n := by
  apply List.ext_getElem (by simp [rowTo])
  intro j h1 h2
  simp [rowTo]
/-- a row that make left -/
theorem RowAt.made {wo w3 : World} {n k : Nat} (h : w3.ownsRow wo.heap.size 3 1 (.slice (some ⟨wo.heap.size, 0, none⟩) n n) n (madeCells #[Value.int .i64 0] n).toList) (hgr : wo.grownBy w3 none) :
    RowAt wo (fun _ _ => 0) k n (.slice (some ⟨wo.heap.size, 0, none⟩) n n) w3 :=
  ⟨by rw [← none_row]; exact Owns.madeAt h, (Fresh.refl wo).grown hgr (fun k hk => by cases hk)⟩
/-- .. with its own number written -/
theorem RowAt.own {wo w3 : World} {n k : Nat} (h : RowAt wo (fun _ _ => 0) k n (.slice (some ⟨wo.heap.size, 0, none⟩) n n) w3) (hk : k < n) :
    w3.cell? ⟨wo.heap.size, k, none⟩ = some (.int .i64 0) ∧ w3.frozen? ⟨wo.heap.size, k, none⟩ = false ∧ RowAt wo ownF k n (.slice (some ⟨wo.heap.size, 0, none⟩) n n) (w3.setCell ⟨wo.heap.size, k, none⟩ (.int .i64 1)) := by
  obtain ⟨hO, hF⟩ := h
  rw [← none_row] at hO
  obtain ⟨h1, h2, h3⟩ := hO.store (by simp) k 1
  refine ⟨?_, h1, ?_, hF.keepsTrans h3 (fun i hi => by omega)⟩
  · rw [hO.cell (by simp) k (by simpa using hk)]; simp
  · rw [own_row hk] at h2; simpa [World.setCell] using h2

end Go.Proofs.Ytkicgodmgafkoaa
