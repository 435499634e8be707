/- What the program answers on pictures: arrows; and the library's functions that search a slice. -/
import Derived.Test.YtipadgpgcdjflaaDoorPics1
import Derived.Test.YtipadgpgcdjflaaDoorCodes2
namespace Go.Proofs.YtipadgpgcdjflaaDoor
open Go.RowKit

/-! ### arrows -/
/-- the places of the ones among the first k of a row -/
def onesTo (row : List Int) (k : Nat) : List Nat := (List.range k).filter fun j => row.getD j 0 == 1
theorem onesTo_step (row : List Int) (k : Nat) (hk : k < row.length) : onesTo row (k + 1) = onesTo row k ++ if row[k] == 1 then [k] else [] := by
  rw [onesTo, onesTo, List.range_succ, List.filter_append]
  have e : row.getD k 0 = row[k] := by simp [List.getD_eq_getElem?_getD, hk]
  congr 1
  simp only [List.filter_cons, List.filter_nil, e]
theorem onesTo_len (row : List Int) (k : Nat) : (onesTo row k).length ≤ k := by
  have := List.length_filter_le (fun j => row.getD j 0 == 1) (List.range k)
  simpa [onesTo] using this
theorem onesTo_mem (row : List Int) (k j : Nat) : j ∈ onesTo row k ↔ j < k ∧ row.getD j 0 = 1 := by simp [onesTo]
/-- the nodes to which a node has arrows -/
def arrowsL (p : List (List Int)) (i : Nat) : List Nat := onesTo (p.getD i []) (p.getD i []).length
theorem arrowsL_in {p : List (List Int)} {i : Nat} (hi : i < p.length) : arrowsL p i = onesTo p[i] p[i].length := by
  simp [arrowsL, List.getD_eq_getElem?_getD, hi]
theorem arrowsL_len (p : List (List Int)) (i : Nat) : (arrowsL p i).length ≤ (p.getD i []).length := onesTo_len _ _
theorem arrowsL_mem {p : List (List Int)} (h : picB p = true) {i j : Nat} (hi : i < p.length) : j ∈ arrowsL p i ↔ j < p.length ∧ ent p i j = 1 := by
  rw [arrowsL_in hi, onesTo_mem, pic_row h hi]
  have : p.getD i [] = p[i] := by simp [List.getD_eq_getElem?_getD, hi]
  rw [ent, this]

set_option maxHeartbeats 400000 in
theorem arrowsOf_any (v : Value) (p : List (List Int)) (i : Nat) (w : World) (h : RowsR w v p) (hi : i < p.length) (hl : p[i].length ≤ 1048576) :
    Calls Tryd.prog 42 #[v, .int .i64 (i : Int)] w fun e w' => ∃ r, e = .returned r ∧ Owns w.heap.size w'.heap.size w' r ((arrowsL p i).map Int.ofNat) ∧ Fresh w w' := by
  obtain ⟨a, cap, rfl⟩ := h.len
  have hb := h.bound
  obtain ⟨b, off, x1, x2, rfl, hc, hI⟩ := h.rowLen hi
  have HA := Lib.hid (arrowsL_in hi)
  have hS0 := onesTo_step p[i]
  have hlen := onesTo_len p[i]
  obtain ⟨row, hrow⟩ : ∃ row, row = p[i] := ⟨_, rfl⟩
  rw [← hrow] at hc hI HA hS0 hlen hl
  have HS0 := Lib.hid hS0
  have HLEN := Lib.hid hlen
  have hc' := ((Fresh.refl w).alloc (Obj.cells #[] 3)).cell hc
  clear hrow hS0 hlen h
  go_enter Tryd.func42, Tryd.ntmps42
  go_wp2
  go_loopw [5, 14] (fun v i wr => ∃ k : Nat, k ≤ row.length ∧ i = .int .i64 k ∧ Owns w.heap.size wr.heap.size wr v ((onesTo row k).map Int.ofNat) ∧ Fresh w wr) (fun _ i _ => row.length - (intOf i).toNat)
  case atStart => exact ⟨0, by omega, rfl, Owns.empty w, (Fresh.refl w).alloc _⟩
  case round =>
    obtain ⟨k, hk, rfl, hO, hF⟩ := hrel
    by_cases hlt : k < row.length
    · obtain ⟨b2, off2, cap2, heq, hcell⟩ := (hI.fresh hF).at hlt
      simp only [Value.slice.injEq, true_and] at heq; obtain ⟨rfl, rfl⟩ := heq
      have hc2 := hcell k hlt
      have hS := HS0.out k hlt
      have hll := HLEN.out k
      obtain ⟨y, hy⟩ : ∃ y, y = row[k] := ⟨_, rfl⟩
      rw [← hy] at hc2 hS
      obtain ⟨xs, hxs⟩ : ∃ xs, xs = (onesTo row k).map Int.ofNat := ⟨_, rfl⟩
      have hxl : xs.length ≤ k := by rw [hxs]; simpa using hll
      have hs := hF.size
      clear hy hcell hI
      by_cases h1 : (y == 1) = true
      · rw [h1, if_pos rfl] at hS
        have HS := Lib.hid (show (onesTo row (k + 1)).map Int.ofNat = xs ++ [(k : Int)] by rw [hS, List.map_append, hxs]; rfl)
        rw [← hxs] at hO
        clear hS hxs
        go_wp2_with (at_builtin; refine wpList_append_ints _ rfl _ _ rfl w.heap.size _ _ xs rfl (hO.fresh ((Fresh.refl wr).alloc _)) ?_ _ [(k : Int)] rfl (Src.one wr (k : Int) _) ?_ ?_)
        · simp; omega
        · simp; omega
        intro v8 w8 hO8 hK8
        have hF8 : Fresh w w8 := (hF.alloc _).keepsTrans hK8 (fun i hi => hi)
        clear hO hK8
        go_wp2
        go_roundw
        case rel => exact ⟨k + 1, hlt, by go_num, by rw [HS.out]; exact hO8, hF8⟩
        case measure => simp [intOf]; omega
      · have h1 : (y == 1) = false := by simpa using h1
        rw [h1, if_neg (by simp), List.append_nil] at hS
        have HS := Lib.hid hS
        clear hS hxs
        go_wp2
        go_roundw
        case rel => exact ⟨k + 1, hlt, by go_num, by rw [HS.out]; exact hO, hF⟩
        case measure => simp [intOf]; omega
    · go_wp2
      go_ret
      obtain rfl : k = row.length := by omega
      exact ⟨_, rfl, by rw [HA.out]; exact hO, hF⟩

/-! ### searching a slice -/
/-- the first place where something holds; none: -1 -/
def idxP (zs : List Int) (pr : Int → Bool) : Int := if zs.any pr then (zs.findIdx pr : Nat) else -1
def NoneTo (zs : List Int) (pr : Int → Bool) (k : Nat) : Prop := ∀ j (h : j < zs.length), j < k → pr zs[j] = false
theorem NoneTo.step {zs : List Int} {pr : Int → Bool} {k : Nat} (h : NoneTo zs pr k) (hk : k < zs.length) (e : pr zs[k] = false) : NoneTo zs pr (k + 1) := by
  intro j hj hjk
  by_cases hjk2 : j = k
  · subst hjk2; exact e
  · exact h j hj (by omega)
theorem NoneTo.all {zs : List Int} {pr : Int → Bool} {k : Nat} (h : NoneTo zs pr k) (hk : ¬ k < zs.length) : idxP zs pr = -1 := by
  unfold idxP
  rw [if_neg]
  intro e
  rw [List.any_eq_true] at e
  obtain ⟨x, hx, e⟩ := e
  obtain ⟨j, hj, rfl⟩ := List.getElem_of_mem hx
  rw [h j hj (by omega)] at e; cases e
theorem NoneTo.found {zs : List Int} {pr : Int → Bool} {k : Nat} (h : NoneTo zs pr k) (hk : k < zs.length) (e : pr zs[k] = true) : idxP zs pr = k := by
  unfold idxP
  rw [if_pos (List.any_eq_true.2 ⟨_, List.getElem_mem hk, e⟩)]
  have : zs.findIdx pr = k := by
    rw [List.findIdx_eq hk]
    exact ⟨e, fun j hj => h j (by omega) hj⟩
  rw [this]
theorem idxP_nonneg (zs : List Int) (pr : Int → Bool) : decide ((0 : Int) ≤ idxP zs pr) = zs.any pr := by
  unfold idxP
  cases zs.any pr
  · simp
  · simp



end Go.Proofs.YtipadgpgcdjflaaDoor
