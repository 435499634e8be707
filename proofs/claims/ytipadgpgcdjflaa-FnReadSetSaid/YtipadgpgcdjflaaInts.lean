/- The laws' helpers on slices of ints: copies, comparisons, marks. -/
import Derived.Test.YtipadgpgcdjflaaBase
namespace Go.Proofs.Ytipadgpgcdjflaa
open Go.RowKit

theorem ret_bool {a b : Bool} (h : a = b) : Ending.returned (.bool a) = Ending.returned (.bool b) := by rw [h]
theorem ret_int {a b : Int} (h : a = b) : Ending.returned (.int .i64 a) = Ending.returned (.int .i64 b) := by rw [h]
/-- only draws -/
def Drew (w w' : World) : Prop := ∃ n, w' = w.drewN n
theorem Drew.refl (w : World) : Drew w w := ⟨0, rfl⟩
theorem Drew.drewN {w w' : World} (h : Drew w w') (n : Nat) : Drew w (w'.drewN n) := by
  obtain ⟨m, rfl⟩ := h
  exact ⟨m + n, by rw [World.drewN_drewN]⟩
theorem Drew.fresh {w w' : World} (h : Drew w w') : Fresh w w' := by
  obtain ⟨m, rfl⟩ := h
  exact (Fresh.refl w).drewN m
theorem Drew.trans {a b c : World} (h : Drew a b) (k : Drew b c) : Drew a c := by
  obtain ⟨n, rfl⟩ := k
  exact h.drewN n
/-! ### toIntS -/
theorem set_take_rep {α : Type} (d : α) (zs : List α) (k : Nat) (hk : k < zs.length) :
    (zs.take k ++ List.replicate (zs.length - k) d).set k zs[k] = zs.take (k + 1) ++ List.replicate (zs.length - (k + 1)) d := by
  apply List.ext_getElem?
  intro i
  rw [List.getElem?_set]
  by_cases h1 : k = i
  · subst h1
    have e2 : k < min (k + 1) zs.length := by omega
    have e3 : k < min k zs.length + (zs.length - k) := by omega
    simp [List.getElem?_append, e2, e3]
  · simp only [h1, if_false, List.getElem?_append, List.length_take, List.getElem?_take, List.getElem?_replicate]
    by_cases h2 : i < k
    · have e1 : i < min k zs.length := by omega
      have e2 : i < min (k + 1) zs.length := by omega
      rw [if_pos e1, if_pos e2, if_pos h2, if_pos (by omega)]
    · have e1 : ¬ i < min k zs.length := by omega
      have e2 : ¬ i < min (k + 1) zs.length := by omega
      rw [if_neg e1, if_neg e2]
      have e3 : min k zs.length = k := by omega
      have e4 : min (k + 1) zs.length = k + 1 := by omega
      rw [e3, e4]
      have e5 : (i - k < zs.length - k) = (i - (k + 1) < zs.length - (k + 1)) := by apply propext; omega
      simp only [e5]

theorem set_take_replicate (zs : List Int) (k : Nat) (hk : k < zs.length) :
    (zs.take k ++ List.replicate (zs.length - k) (0 : Int)).set k zs[k] = zs.take (k + 1) ++ List.replicate (zs.length - (k + 1)) 0 := set_take_rep 0 zs k hk

/-- what toIntS' loop has done after k rounds -/
def toRel (W : World) (v : Value) (zs : List Int) (k : Nat) (wr : World) : Prop :=
  Owns W.heap.size (W.heap.size + 1) wr v (zs.take k ++ List.replicate (zs.length - k) 0) ∧ Fresh W wr

theorem toRel_step {W : World} {g n : Nat} {zs : List Int} {k : Nat} {wr : World} (hk : k < zs.length)
   (h : toRel W (.slice (some ⟨g, 0, none⟩) zs.length n) zs k wr) :
   wr.frozen? ⟨g, k, none⟩ = false ∧ wr.cell? ⟨g, k, none⟩ = some (.int .i64 0) ∧ toRel W (.slice (some ⟨g, 0, none⟩) zs.length n) zs (k+1) (wr.setCell ⟨g, k, none⟩ (.int .i64 zs[k])) := by
  obtain ⟨h1, h2⟩ := h
  have hl : zs.length = (zs.take k ++ List.replicate (zs.length - k) (0 : Int)).length := by simp; omega
  obtain ⟨s1, s2, s3⟩ := h1.store hl k zs[k]
  refine ⟨s1, ?_, ?_, ?_⟩
  · rw [h1.cell hl k (by simp; omega)]
    congr 2
    rw [List.getElem_append_right (by simp; omega)]; simp
  · rw [set_take_replicate zs k hk] at s2; exact s2
  · exact h2.setCell (h1.blk g rfl).1 _

theorem toRel_made {w w1 : World} (zs : List Int) (hown : w1.ownsRow w.heap.size 3 1 (.slice (some ⟨w.heap.size, 0, none⟩) zs.length zs.length) zs.length (madeCells #[Value.int .i64 0] zs.length).toList) (hgr : w.grownBy w1 none) :
    toRel w (.slice (some ⟨w.heap.size, 0, none⟩) zs.length zs.length) zs 0 w1 := by
  refine ⟨⟨?_, ?_⟩, (Fresh.refl w).grown hgr (fun k hk => by cases hk)⟩
  · have := (Owns.made (w := w) (n := zs.length) (by simpa using hown)).1
    simpa using this
  · intro g hg; simp [Value.ownBlock] at hg; omega

/-! ### eqIntS -/
theorem eq_of_prefix {xs ys : List Int} (hl : xs.length = ys.length) (h : ∀ j (hj : j < xs.length), xs[j] = ys[j]) : xs = ys :=
  List.ext_getElem hl fun i h1 _ => h i h1

def EqTo (xs ys : List Int) (k : Nat) : Prop := ∀ j (h1 : j < xs.length) (h2 : j < ys.length), j < k → xs[j] = ys[j]
theorem EqTo.step {xs ys : List Int} {k : Nat} (h : EqTo xs ys k) (h1 : k < xs.length) (h2 : k < ys.length) (e : (xs[k] != ys[k]) = false) : EqTo xs ys (k + 1) := by
  intro j a b hj
  by_cases hjk : j = k
  · subst hjk; simpa using e
  · exact h j a b (by omega)
theorem EqTo.all {xs ys : List Int} {k : Nat} (h : EqTo xs ys k) (hl : xs.length = ys.length) (hk : ¬ k < xs.length) : xs = ys :=
  eq_of_prefix hl fun j hj => h j hj (by omega) (by omega)

/-! ### szIntS -/
/-- what szIntS answers -/
def szI (n : Nat) (left : Int) : Int := if (n : Int) ≤ left then left - n else -1
/-! ### marks -/
/-- the numbers k, k + 1, .. -/
def marks (k : Int) (n : Nat) : List Int := (List.range n).map fun i : Nat => k + (i : Int)
theorem marks_length (k : Int) (n : Nat) : (marks k n).length = n := by simp [marks]
theorem marks_get (k : Int) (n i : Nat) (h : i < (marks k n).length) : (marks k n)[i] = k + i := by simp [marks]

theorem set_marks (zs : List Int) (k : Int) (j : Nat) (hj : j < zs.length) :
    (marks k j ++ zs.drop j).set j (k + j) = marks k (j + 1) ++ zs.drop (j + 1) := by
  apply List.ext_getElem?
  intro i
  rw [List.getElem?_set]
  by_cases h1 : j = i
  · subst h1
    have e3 : j < j + (zs.length - j) := by omega
    simp [List.getElem?_append, marks, e3]
  · simp only [h1, if_false, List.getElem?_append, marks_length, List.getElem?_drop]
    by_cases h2 : i < j
    · rw [if_pos h2, if_pos (by omega)]
      simp [marks, h2, show i < j + 1 by omega]
    · rw [if_neg h2, if_neg (by omega)]
      congr 1; omega

/-- what markIntS' loop has done after j rounds -/
def markRel (lo hi : Nat) (W : World) (v : Value) (zs : List Int) (k : Int) (j : Nat) (wr : World) : Prop :=
  Owns lo hi wr v (marks k j ++ zs.drop j) ∧ Keeps (fun b => lo ≤ b ∧ b < hi) W wr

theorem markRel_form {lo hi : Nat} {W : World} {v : Value} {zs : List Int} {k : Int} {j : Nat} {wr : World} (hj : j < zs.length)
    (h : markRel lo hi W v zs k j wr) : ∃ g cap, v = .slice (some ⟨g, 0, none⟩) zs.length cap := by
  obtain ⟨g, cap, hv, _⟩ := h.1.form (by simp [marks_length]; omega)
  have : (marks k j ++ zs.drop j).length = zs.length := by simp [marks_length]; omega
  rw [this] at hv
  exact ⟨g, cap, hv⟩

theorem markRel_step {lo hi : Nat} {W : World} {g n : Nat} {zs : List Int} {k : Int} {j : Nat} {wr : World} (hj : j < zs.length)
    (h : markRel lo hi W (.slice (some ⟨g, 0, none⟩) zs.length n) zs k j wr) :
    wr.frozen? ⟨g, j, none⟩ = false ∧ (∃ u, wr.cell? ⟨g, j, none⟩ = some (.int .i64 u)) ∧ markRel lo hi W (.slice (some ⟨g, 0, none⟩) zs.length n) zs k (j+1) (wr.setCell ⟨g, j, none⟩ (.int .i64 (k + j))) := by
  obtain ⟨h1, h2⟩ := h
  have hl : zs.length = (marks k j ++ zs.drop j).length := by simp [marks_length]; omega
  obtain ⟨s1, s2, s3⟩ := h1.store hl j (k + j)
  refine ⟨s1, ⟨_, h1.cell hl j (by omega)⟩, ?_, ?_⟩
  · rw [set_marks zs k j hj] at s2; exact s2
  · exact h2.trans (s3.mono fun b _ hb => by subst hb; have := h1.blk b rfl; exact ⟨this.1, this.2.1⟩)

/-! ### heldIntS -/
def HeldTo (zs : List Int) (k : Int) (j : Nat) : Prop := ∀ i (h : i < zs.length), i < j → zs[i] = k + i
/-- what heldIntS answers -/
def heldI (zs : List Int) (k : Int) : Int := if zs = marks k zs.length then k + zs.length else -1
theorem HeldTo.step {zs : List Int} {k : Int} {j : Nat} (h : HeldTo zs k j) (h1 : j < zs.length) (e : (zs[j] != k + j) = false) : HeldTo zs k (j + 1) := by
  intro i a hi
  by_cases hij : i = j
  · subst hij; simpa using e
  · exact h i a (by omega)
theorem HeldTo.all {zs : List Int} {k : Int} {j : Nat} (h : HeldTo zs k j) (hj : ¬ j < zs.length) : zs = marks k zs.length :=
  List.ext_getElem (by simp [marks_length]) fun i h1 h2 => by rw [marks_get]; exact h i h1 (by omega)



end Go.Proofs.Ytipadgpgcdjflaa
