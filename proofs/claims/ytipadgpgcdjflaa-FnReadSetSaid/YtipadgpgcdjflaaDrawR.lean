/- What the draw of texts to be read gives; the law FnReadSet. -/
import Derived.Test.YtipadgpgcdjflaaDrawT
import Derived.RegionTactic
import Derived.ChangeAlike
import Derived.Deep.RegionWith
namespace Go.Proofs.Ytipadgpgcdjflaa
open Go.RowKit

theorem setOf2 {x y : Int} (hx : 0 ≤ x ∧ x ≤ 15) (hy : 0 ≤ y ∧ y ≤ 15) : 0 ≤ setOfI [x, y] ∧ setOfI [x, y] ≤ 65535 := by
  have h : ([x, y] : List Int).all (inB · 0 15) = true := by
    rw [List.all_eq_true]; intro z hz
    rw [inB_iff]
    simp at hz
    rcases hz with rfl | rfl
    · exact hx
    · exact hy
  unfold setOfI
  rw [if_pos h]
  have := setL_lt ([x, y].map Int.toNat) (by
    intro m hm
    simp at hm
    rcases hm with rfl | rfl <;> omega)
  omega
set_option maxHeartbeats 400000 in
theorem odd0_any (b : Nat) (w : World) :
    Calls Try.prog 31 #[.pointer (some ⟨b, 0, none⟩), .int .i64 0] w fun e w' => e = .returned (.bool false) ∧ w = w' := by
  go_enter Try.func31, Try.ntmps31
  go_wp2
  go_ret
  exact ⟨rfl, rfl⟩
theorem code_list {x1 x2 x3 x4 z x8 : Int} (p1 : Picked 16 x1) (p2 : Picked 256 x2) (p3 : Picked 256 x3) (p4 : Picked 256 x4) (pz : 0 ≤ z ∧ z ≤ 65535) (p8 : Picked 4 x8) :
    ∀ y ∈ [x1, x2, wrap64 (wrap64 (x3 * 256) + x4), z, x8], 0 ≤ y ∧ y ≤ 65535 := by
  have a1 := p1.1; have b1 := p1.2.1 (by omega)
  have a2 := p2.1; have b2 := p2.2.1 (by omega)
  have a3 := p3.1; have b3 := p3.2.1 (by omega)
  have a4 := p4.1; have b4 := p4.2.1 (by omega)
  have a8 := p8.1; have b8 := p8.2.1 (by omega)
  have e1 : wrap64 (x3 * 256) = x3 * 256 := by unfold wrap64; omega
  have e2 : wrap64 (x3 * 256 + x4) = x3 * 256 + x4 := by unfold wrap64; omega
  intro y hy
  rw [e1, e2] at hy
  simp at hy
  rcases hy with rfl | rfl | rfl | rfl | rfl <;> omega
set_option maxHeartbeats 1000000 in
theorem l20Code0_any (b q : Nat) (w : World) (h : Rd w b q) (hq : q ≤ 90000) :
    Calls Try.prog 21 #[.pointer (some ⟨b, 0, none⟩), .int .i64 0] w fun e w' => ∃ x : Int, e = .returned (.int .i64 x) ∧ (0 ≤ x ∧ x ≤ 65535) ∧ Rd w' b (q + 20) ∧ Keeps (fun k => k = b) w w' := by
  go_enter Try.func21, Try.ntmps21
  go_wp2_with fail
  refine (pick_any b q _ _ h (by omega) (by omega)).mono ?_
  rintro e w1 ⟨x1, rfl, P1, R1, K1⟩
  go_wp2_with fail
  refine (pick_any b _ _ _ R1 (by omega) (by omega)).mono ?_
  rintro e w2 ⟨x2, rfl, P2, R2, K2⟩
  go_wp2_with fail
  refine (pick_any b _ _ _ R2 (by omega) (by omega)).mono ?_
  rintro e w3 ⟨x3, rfl, P3, R3, K3⟩
  go_wp2_with fail
  refine (pick_any b _ _ _ R3 (by omega) (by omega)).mono ?_
  rintro e w4 ⟨x4, rfl, P4, R4, K4⟩
  go_wp2_with fail
  refine (pick_any b _ _ _ R4 (by omega) (by omega)).mono ?_
  rintro e w5 ⟨x5, rfl, P5, R5, K5⟩
  go_wp2_with fail
  refine (pick_any b _ _ _ R5 (by omega) (by omega)).mono ?_
  rintro e w6 ⟨x6, rfl, P6, R6, K6⟩
  have HZ := Lib.hid (setOf2 (x := x5) (y := x6) ⟨P5.1, by have := P5.2.1 (by omega); omega⟩ ⟨P6.1, by have := P6.2.1 (by omega); omega⟩)
  go_wp2_with fail
  refine (specSetOf_any _ [x5, x6] _ (lit_ints w6 [x5, x6] (by simp) (by simp))).mono ?_
  rintro e w7 ⟨rfl, F7⟩
  go_wp2_with fail
  refine (pick_any b _ _ _ (R6.fresh (((Fresh.refl w6).alloc _).trans F7)) (by omega) (by omega)).mono ?_
  rintro e w8 ⟨x8, rfl, P8, R8, K8⟩
  obtain ⟨z, hz⟩ : ∃ z, z = setOfI [x5, x6] := ⟨_, rfl⟩
  rw [← hz] at HZ ⊢
  clear hz
  have HL := Lib.hid (code_list P1 P2 P3 P4 HZ.out P8)
  go_wp2_with fail
  refine (pick_any b _ _ _ (R8.fresh ((Fresh.refl w8).alloc _)) (by omega) (by omega)).mono ?_
  rintro e w9 ⟨x9, rfl, P9, R9, K9⟩
  have hK : Keeps (fun k => k = b) w w9 := ((((((((K1.trans K2).trans K3).trans K4).trans K5).trans K6).fresh (((Fresh.refl w6).alloc _).trans F7)).trans K8).fresh ((Fresh.refl w8).alloc _)).trans K9
  obtain ⟨i, rfl⟩ := Int.eq_ofNat_of_zero_le P9.1
  have hi : i < 5 := by have := P9.2.1 (by omega); omega
  have hne : ¬ w8.heap.size = b := by have := R8.lt; omega
  have hc := K9.cellAt (lit_cell w8 [x1, x2, wrap64 (wrap64 (x3 * 256) + x4), z, x8] 3 i (by simpa using hi)) hne
  have HB := Lib.hid (HL.out _ (List.getElem_mem (by simpa using hi : i < [x1, x2, wrap64 (wrap64 (x3 * 256) + x4), z, x8].length)))
  obtain ⟨z', hz'⟩ : ∃ z' : Int, z' = [x1, x2, wrap64 (wrap64 (x3 * 256) + x4), z, x8][i]'(by simpa using hi) := ⟨_, rfl⟩
  rw [← hz'] at hc HB
  have HK := Lib.hid hK
  clear hz' hK K1 K2 K3 K4 K5 K6 K8 K9 R1 R2 R3 R4 R5 R6 R8 F7 P1 P2 P3 P4 P5 P6 P8 P9 HL HZ
  go_wp2_with fail
  refine (odd0_any b _).mono ?_
  rintro e w10 ⟨rfl, rfl⟩
  go_wp2
  go_ret
  exact ⟨_, rfl, HB.out, R9.mono (by omega), HK.out⟩

theorem pickJ (b q : Nat) (w : World) (h : Rd w b q) (hq : q ≤ 100000) :
    Calls Try.prog 24 #[.pointer (some ⟨b, 0, none⟩), .int .i64 5] w fun e w' => ∃ j : Nat, e = .returned (.int .i64 (j : Int)) ∧ j < 5 ∧ Rd w' b (q + 1) ∧ Keeps (fun k => k = b) w w' :=
  (pick_any b q 5 w h hq (by omega)).mono fun e w' ⟨x, he, hP, hR, hK⟩ => by
    obtain ⟨j, rfl⟩ := Int.eq_ofNat_of_zero_le hP.1
    exact ⟨j, he, by have := hP.2.1 (by omega); omega, hR, hK⟩
/-- what is put in -/
def bits5 : List (List UInt8) := [[], [123], [125], [44], [123, 125]]
theorem lit_str (w : World) (l : List (List UInt8)) (t : TypeId) (i : Nat) (h : i < l.length) : (w.alloc (Obj.cells (l.map fun x => Value.string (strV x)).toArray t)).cell? ⟨w.heap.size, i, none⟩ = some (.string (strV l[i])) := by
  have e : (w.alloc (Obj.cells (l.map fun x => Value.string (strV x)).toArray t)).heap[w.heap.size]? = some (Obj.cells (l.map fun x => Value.string (strV x)).toArray t) := heap_alloc_new w _
  unfold World.cell?
  rw [e]
  simp [h]
theorem five_str {j : Nat} (hj : j < 5) : (bits5[j]'hj).length ≤ 2 := by
  have h : ∀ x ∈ bits5, x.length ≤ 2 := by decide
  exact h _ (List.getElem_mem hj)
/-- the pick behind the making of the five -/
theorem pickA (b q : Nat) (w : World) (h : Rd w b q) (hq : q ≤ 100000) :
    Calls Try.prog 24 #[.pointer (some ⟨b, 0, none⟩), .int .i64 5] (w.alloc (Obj.cells #[Value.string { data := #[] }, Value.string { data := #[123] }, Value.string { data := #[125] }, Value.string { data := #[44] }, Value.string { data := #[123, 125] }] 9)).drew
      fun e w' => ∃ (j : Nat) (u : ByteArray), e = .returned (.int .i64 (j : Int)) ∧ (j : Int) < 5 ∧ w'.cell? ⟨w.heap.size, j, none⟩ = some (.string u) ∧ u.size ≤ 2 ∧ Keeps (fun k => k = b) w w' := by
  have hb := h.lt
  refine (pickJ b q _ (h.fresh (((Fresh.refl w).alloc _).drew)) hq).mono ?_
  rintro e w' ⟨j, he, hj, hR, hK⟩
  have hc := hK.cellAt (b := w.heap.size) (o := j) (v := .string (strV (bits5[j]'hj))) (lit_str w bits5 9 j hj) (by omega)
  exact ⟨j, _, he, by omega, hc, five_str hj, (((Fresh.refl w).alloc _).drew.keeps _).trans hK⟩
/-- the pick ahead of it -/
theorem pickB (b q : Nat) (w : World) (h : Rd w b q) (hq : q ≤ 100000) :
    Calls Try.prog 24 #[.pointer (some ⟨b, 0, none⟩), .int .i64 5] w.drew
      fun e w' => ∃ (j : Nat) (u : ByteArray), e = .returned (.int .i64 (j : Int)) ∧ (j : Int) < 5 ∧ (w'.alloc (Obj.cells #[Value.string { data := #[] }, Value.string { data := #[123] }, Value.string { data := #[125] }, Value.string { data := #[44] }, Value.string { data := #[123, 125] }] 9)).cell? ⟨w'.heap.size, j, none⟩ = some (.string u) ∧ u.size ≤ 2 ∧ Keeps (fun k => k = b) w w' := by
  refine (pickJ b q _ (h.fresh ((Fresh.refl w).drew)) hq).mono ?_
  rintro e w' ⟨j, he, hj, hR, hK⟩
  exact ⟨j, _, he, by omega, lit_str w' bits5 9 j hj, five_str hj, (((Fresh.refl w).drew).keeps _).trans hK⟩
/-- what a drawn text is -/
def DrawnT (n : Nat) (w : World) (e : Ending) (w' : World) : Prop := ∃ l : List UInt8, e = .returned (.string (strV l)) ∧ l.length ≤ n ∧ Fresh w w'
theorem DrawnT.mk {n : Nat} {w w' : World} {B : ByteArray} (h : B.size ≤ n) (hF : Fresh w w') : DrawnT n w (.returned (.string B)) w' := ⟨B.data.toList, rfl, h, hF⟩
set_option maxRecDepth 100000 in
set_option maxHeartbeats 2000000 in
theorem drawReadSet_any (v : Value) (bs : List Int) (w : World) (h : Bytes w v bs) (hb : ∀ x ∈ bs, 0 ≤ x ∧ x ≤ 255) :
    Calls Try.prog 14 #[v] w (DrawnT 2000 w) := by
  go_enter Try.func14, Try.ntmps14
  go_wp2_with fail
  refine (l20Open_any v bs _ h hb).mono ?_
  rintro e w1 ⟨b, rfl, hR, hF, hlo⟩
  have hblt := hR.lt
  go_wp2_with fail
  refine (l20Code0_any b _ _ hR (by omega)).mono ?_
  rintro e w2 ⟨x, rfl, ⟨hx0, hx1⟩, R2, K2⟩
  have hF2 : Fresh w w2 := Fresh.keepsTrans hF K2 fun i hi => by omega
  have HTL := Lib.hid (textL_len x.toNat)
  have HTP := Lib.hid (textL_pos x.toNat)
  have HS := Lib.hid (specSetTextN_any 65536 x hx0 hx1 (by omega))
  go_wp2_with fail
  refine (HS.out _).mono ?_
  rintro e w3 ⟨rfl, hF3⟩
  have R3 := R2.fresh hF3
  have hF3' := hF2.trans hF3
  obtain ⟨t, ht⟩ : ∃ t, t = textL x.toNat := ⟨_, rfl⟩
  rw [← ht] at HTL HTP ⊢
  clear ht HS
  have htl : (strV t).size ≤ 502 := HTL.out
  have htp : 2 ≤ (strV t).size := HTP.out
  go_wp2_with fail
  refine (pick_any b _ _ _ R3 (by omega) (by omega)).mono ?_
  rintro e w4 ⟨y, rfl, P4, R4, K4⟩
  have hF4 : Fresh w w4 := Fresh.keepsTrans hF3' K4 fun i hi => by omega
  by_cases hy : y = 0
  case neg =>
    have hy' : (y == 0) = false := by rw [beq_eq_false_iff_ne]; exact hy
    clear hy
    go_wp2
    go_ret
    exact DrawnT.mk (by omega) hF4
  have hy' : (y == 0) = true := by rw [beq_iff_eq]; exact hy
  clear hy
  go_wp2_with fail
  refine (pick_any b _ _ _ R4 (by omega) (by omega)).mono ?_
  rintro e w5 ⟨z, rfl, P5, R5, K5⟩
  have hF5 : Fresh w w5 := Fresh.keepsTrans hF4 K5 fun i hi => by omega
  obtain ⟨k, rfl⟩ := Int.eq_ofNat_of_zero_le P5.1
  have hk : k < (strV t).size := by have := P5.2.1 (by omega); omega
  clear P4 P5 K4 K5 R4 hF4 hy' R2 K2 hF2 hF3 hF3' R3
  go_wp2_with fail
  generalize strV t = s at *
  have hk1 : (0 : Int) ≤ (k : Int) + 1 := by omega
  have hk2 : (k : Int) + 1 ≤ (s.size : Int) := by omega
  have hk3 : (k : Int) ≤ (s.size : Int) := by omega
  have hk4 : ((k : Int) + 1).toNat = k + 1 := by omega
  have hk5 : k + 1 ≤ s.size := hk
  clear htp HTL HTP hx0 hx1 hR hF hblt h hb
  have hx1 : (s.extract 0 k).size ≤ 502 := by rw [ByteArray.size_extract]; omega
  have hx2 : (s.extract (k + 1) s.size).size ≤ 502 := by rw [ByteArray.size_extract]; omega
  have hwr : IntKind.i64.wrap ((k : Int) + 1) = (k : Int) + 1 := IntWalk.i64_in _ (by omega)
  go_region_with (first | (go_at_call 24; ((with_reducible refine (pickA b _ w5 R5 (by omega)).mono ?_); rintro e w6 ⟨j, u, rfl, hj5, hc1, hu, K6⟩)) | (go_at_call 24; ((with_reducible refine (pickB b _ w5 R5 (by omega)).mono ?_); rintro e w6 ⟨j, u, rfl, hj5, hc1, hu, K6⟩)))
  all_goals
    have hF6 : Fresh w w6 := Fresh.keepsTrans hF5 K6 fun i hi => by omega
    go_wp2
    go_ret
    first
    | exact DrawnT.mk (by simp only [ByteArray.size_append]; omega) hF6
    | exact DrawnT.mk (by simp only [ByteArray.size_append]; omega) (hF6.alloc _)
end Go.Proofs.Ytipadgpgcdjflaa
