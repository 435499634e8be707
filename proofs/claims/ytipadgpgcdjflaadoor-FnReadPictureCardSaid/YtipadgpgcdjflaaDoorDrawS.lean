/- What the draw of texts of pictures gives; the law FnReadPicture. -/
import Derived.Test.YtipadgpgcdjflaaDoorDrawP
import Derived.Test.YtipadgpgcdjflaaDoorRpS
import Derived.RegionTactic
import Derived.ChangeAlike
import Derived.Deep.RegionWith
namespace Go.Proofs.YtipadgpgcdjflaaDoor
open Go.RowKit

theorem pickJ (b q : Nat) (w : World) (h : Rd w b q) (hq : q ≤ 100000) :
    Calls Tryd.prog 35 #[.pointer (some ⟨b, 0, none⟩), .int .i64 5] w fun e w' => ∃ j : Nat, e = .returned (.int .i64 (j : Int)) ∧ j < 5 ∧ Rd w' b (q + 1) ∧ Keeps (fun k => k = b) w w' :=
  (pick_any b q 5 w h hq (by omega)).mono fun e w' ⟨x, he, hP, hR, hK⟩ => by
    obtain ⟨j, rfl⟩ := Int.eq_ofNat_of_zero_le hP.1
    exact ⟨j, he, by have := hP.2.1 (by omega); omega, hR, hK⟩
/-- what is put in -/
def bits5 : List (List UInt8) := [[], [48], [47], [57], [49, 48]]
theorem lit_str (w : World) (l : List (List UInt8)) (t : TypeId) (i : Nat) (h : i < l.length) : (w.alloc (Obj.cells (l.map fun x => Value.string (strV x)).toArray t)).cell? ⟨w.heap.size, i, none⟩ = some (.string (strV l[i])) := by
  have e : (w.alloc (Obj.cells (l.map fun x => Value.string (strV x)).toArray t)).heap[w.heap.size]? = some (Obj.cells (l.map fun x => Value.string (strV x)).toArray t) := heap_alloc_new w _
  unfold World.cell?
  rw [e]
  simp [h]
theorem five_str {j : Nat} (hj : j < 5) : (bits5[j]'hj).length ≤ 2 := by
  have h : ∀ x ∈ bits5, x.length ≤ 2 := by decide
  exact h _ (List.getElem_mem hj)
/-- the pick behind the making of the five -/
theorem pickA (b q : Nat) (w : World) (h : Rd w b q) (hq : q ≤ 100000) :
    Calls Tryd.prog 35 #[.pointer (some ⟨b, 0, none⟩), .int .i64 5] (w.alloc (Obj.cells #[Value.string { data := #[] }, Value.string { data := #[48] }, Value.string { data := #[47] }, Value.string { data := #[57] }, Value.string { data := #[49, 48] }] 9)).drew
      fun e w' => ∃ (j : Nat) (u : ByteArray), e = .returned (.int .i64 (j : Int)) ∧ (j : Int) < 5 ∧ w'.cell? ⟨w.heap.size, j, none⟩ = some (.string u) ∧ u.size ≤ 2 ∧ Keeps (fun k => k = b) w w' := by
  have hb := h.lt
  refine (pickJ b q _ (h.fresh (((Fresh.refl w).alloc _).drew)) hq).mono ?_
  rintro e w' ⟨j, he, hj, hR, hK⟩
  have hc := hK.cellAt (b := w.heap.size) (o := j) (v := .string (strV (bits5[j]'hj))) (lit_str w bits5 9 j hj) (by omega)
  exact ⟨j, _, he, by omega, hc, five_str hj, (((Fresh.refl w).alloc _).drew.keeps _).trans hK⟩
/-- the pick ahead of it -/
theorem pickB (b q : Nat) (w : World) (h : Rd w b q) (hq : q ≤ 100000) :
    Calls Tryd.prog 35 #[.pointer (some ⟨b, 0, none⟩), .int .i64 5] w.drew
      fun e w' => ∃ (j : Nat) (u : ByteArray), e = .returned (.int .i64 (j : Int)) ∧ (j : Int) < 5 ∧ (w'.alloc (Obj.cells #[Value.string { data := #[] }, Value.string { data := #[48] }, Value.string { data := #[47] }, Value.string { data := #[57] }, Value.string { data := #[49, 48] }] 9)).cell? ⟨w'.heap.size, j, none⟩ = some (.string u) ∧ u.size ≤ 2 ∧ Keeps (fun k => k = b) w w' := by
  refine (pickJ b q _ (h.fresh ((Fresh.refl w).drew)) hq).mono ?_
  rintro e w' ⟨j, he, hj, hR, hK⟩
  exact ⟨j, _, he, by omega, lit_str w' bits5 9 j hj, five_str hj, (((Fresh.refl w).drew).keeps _).trans hK⟩
/-- what a drawn text is -/
def DrawnT (n : Nat) (w : World) (e : Ending) (w' : World) : Prop := ∃ l : List UInt8, e = .returned (.string (strV l)) ∧ l.length ≤ n ∧ Fresh w w'
theorem DrawnT.mk {n : Nat} {w w' : World} {B : ByteArray} (h : B.size ≤ n) (hF : Fresh w w') : DrawnT n w (.returned (.string B)) w' := ⟨B.data.toList, rfl, h, hF⟩
set_option maxRecDepth 100000 in
set_option maxHeartbeats 2000000 in
theorem drawReadPicture_any (v : Value) (bs : List Int) (w : World) (h : Bytes w v bs) (hb : ∀ x ∈ bs, 0 ≤ x ∧ x ≤ 255) :
    Calls Tryd.prog 18 #[v] w (DrawnT 2000 w) := by
  go_enter Tryd.func18, Tryd.ntmps18
  go_wp2_with fail
  refine (l20Open_any v bs _ h hb).mono ?_
  rintro e w1 ⟨b, rfl, hR, hF, hlo⟩
  clear h hb
  go_wp2_with fail
  refine (l20Picture_any b _ _ _ hR (by omega) (by omega)).mono ?_
  rintro e w2 ⟨u, p, rfl, hO, h5, h6, R2, K2⟩
  have hF2 : Fresh w w2 := Fresh.keepsTrans hF K2 fun i hi => by omega
  have hRR := hO.rows
  have HTL := Lib.hid (picI_len p)
  clear hO h6 h5 hR K2 hF
  go_wp2_with fail
  refine (specPictureText_any _ p _ hRR).mono ?_
  rintro e w3 ⟨rfl, hF3⟩
  have R3 := R2.fresh hF3
  have hF3' := hF2.trans hF3
  obtain ⟨t, ht⟩ : ∃ t, t = picI p := ⟨_, rfl⟩
  rw [← ht] at HTL ⊢
  have htl : (strV t).size ≤ 502 := by have := HTL.out; rw [strV_size]; omega
  clear ht HTL hRR R2 hF2 hF3
  go_wp2_with fail
  refine (pick_any b _ _ _ R3 (by omega) (by omega)).mono ?_
  rintro e w4 ⟨y, rfl, P4, R4, K4⟩
  have hF4 : Fresh w w4 := Fresh.keepsTrans hF3' K4 fun i hi => by omega
  clear R3 hF3' K4 P4
  by_cases hy : y = 0
  case neg =>
    have hy' : (y == 0) = false := by rw [beq_eq_false_iff_ne]; exact hy
    clear hy
    go_wp2
    go_ret
    exact DrawnT.mk (by omega) hF4
  have hy' : (y == 0) = true := by rw [beq_iff_eq]; exact hy
  clear hy
  by_cases hz : 0 < (strV t).size
  case neg =>
    go_wp2
    go_ret
    exact DrawnT.mk (by omega) hF4
  go_wp2_with fail
  refine (pick_any b _ _ _ R4 (by omega) (by omega)).mono ?_
  rintro e w5 ⟨z, rfl, P5, R5, K5⟩
  have hF5 : Fresh w w5 := Fresh.keepsTrans hF4 K5 fun i hi => by omega
  obtain ⟨k, rfl⟩ := Int.eq_ofNat_of_zero_le P5.1
  have hk : k < (strV t).size := by have := P5.2.1 (by omega); omega
  clear P5 K5 R4 hF4 hy'
  go_wp2_with fail
  generalize strV t = s at *
  have hk1 : (0 : Int) ≤ (k : Int) + 1 := by omega
  have hk2 : (k : Int) + 1 ≤ (s.size : Int) := by omega
  have hk3 : (k : Int) ≤ (s.size : Int) := by omega
  have hk4 : ((k : Int) + 1).toNat = k + 1 := by omega
  have hk5 : k + 1 ≤ s.size := hk
  have hx1 : (s.extract 0 k).size ≤ 502 := by rw [ByteArray.size_extract]; omega
  have hx2 : (s.extract (k + 1) s.size).size ≤ 502 := by rw [ByteArray.size_extract]; omega
  have hwr : IntKind.i64.wrap ((k : Int) + 1) = (k : Int) + 1 := IntWalk.i64_in _ (by omega)
  go_region_with (first | (go_at_call 35; ((with_reducible refine (pickA b _ w5 R5 (by omega)).mono ?_); rintro e w6 ⟨j, u, rfl, hj5, hc1, hu, K6⟩)) | (go_at_call 35; ((with_reducible refine (pickB b _ w5 R5 (by omega)).mono ?_); rintro e w6 ⟨j, u, rfl, hj5, hc1, hu, K6⟩)))
  all_goals
    have hF6 : Fresh w w6 := Fresh.keepsTrans hF5 K6 fun i hi => by omega
    go_wp2
    go_ret
    first
    | exact DrawnT.mk (by simp only [ByteArray.size_append]; omega) hF6
    | exact DrawnT.mk (by simp only [ByteArray.size_append]; omega) (hF6.alloc _)
end Go.Proofs.YtipadgpgcdjflaaDoor
