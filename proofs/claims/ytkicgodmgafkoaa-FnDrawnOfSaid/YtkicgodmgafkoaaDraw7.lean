/- What the laws on ways and codes in pictures draw. -/
import Derived.Test.YtkicgodmgafkoaaDraw6
namespace Go.Proofs.Ytkicgodmgafkoaa
open Go.RowKit

/-- rows and a number, out of a reader -/
def NodePost (b q : Nat) (w : World) (e : Ending) (w' : World) : Prop :=
  ∃ (v : Value) (rows : List (List Int)) (x : Int), e = .returned (.tuple #[v, .int .i64 x]) ∧ RowsR w' v rows ∧ Small rows ∧ Rd w' b (q + 70) ∧ Keeps (fun k => k = b) w w'

set_option maxHeartbeats 1000000 in
theorem l20Node_any (b q : Nat) (n : Int) (w : World) (h : Rd w b q) (hq : q ≤ 80000) (hn : n ≤ 1000000) :
    Calls Try.prog 47 #[.pointer (some ⟨b, 0, none⟩), .int .i64 n] w fun e w' => NodePost b q w e w' := by
  have hblt := h.lt
  go_enter Try.func47, Try.ntmps47
  go_wp2_with fail
  refine (l20Picture_any b q _ _ h (by omega) (by omega)).mono ?_
  rintro e w2 ⟨r, rows, rfl, hO, h5, h6, hR2, hK⟩
  have HS := Lib.hid (show Small rows from ⟨h5, h6⟩)
  clear h6 h
  obtain ⟨ra, rc, rfl⟩ := hO.rows.len
  by_cases h1 : 1 ≤ rows.length
  · go_wp2_with fail
    refine (pick_any b _ _ _ hR2 (by omega) (by omega)).mono ?_
    rintro e w3 ⟨x3, rfl, P3, R3, K3⟩
    go_wp2_with fail
    refine (pick_any b _ _ _ R3 (by omega) (by omega)).mono ?_
    rintro e w4 ⟨x4, rfl, P4, R4, K4⟩
    go_wp2_with fail
    refine (pick_any b _ _ _ R4 (by omega) (by omega)).mono ?_
    rintro e w5 ⟨x5, rfl, P5, R5, K5⟩
    have hKK := (K3.trans K4).trans K5
    have hO5 := hO.keeps hKK (fun g h1 h2 e => by omega)
    have hK5 := hK.trans hKK
    have hRD := R5.mono (q' := q + 70) (by omega)
    clear hO hR2 hK R3 K3 R4 K4 R5 K5 P3 P4 P5 hKK
    go_wp2
    go_ret2
    exact ⟨_, rows, _, rfl, hO5.rows, HS.out, hRD, hK5⟩
  · go_wp2_with fail
    refine (pick_any b _ _ _ hR2 (by omega) (by omega)).mono ?_
    rintro e w3 ⟨x3, rfl, P3, R3, K3⟩
    go_wp2_with fail
    refine (pick_any b _ _ _ R3 (by omega) (by omega)).mono ?_
    rintro e w4 ⟨x4, rfl, P4, R4, K4⟩
    go_wp2_with fail
    refine (pick_any b _ _ _ R4 (by omega) (by omega)).mono ?_
    rintro e w5 ⟨x5, rfl, P5, R5, K5⟩
    have hKK := (K3.trans K4).trans K5
    have hO5 := hO.keeps hKK (fun g h1 h2 e => by omega)
    have hK5 := hK.trans hKK
    have hRD := R5.mono (q' := q + 70) (by omega)
    clear hO hR2 hK R3 K3 R4 K4 R5 K5 P3 P4 P5 hKK
    go_wp2
    go_ret2
    exact ⟨_, rows, _, rfl, hO5.rows, HS.out, hRD, hK5⟩
set_option maxHeartbeats 400000 in
theorem drawReachedFrom_any (v : Value) (bs : List Int) (w : World) (h : Bytes w v bs) (hb : ∀ x ∈ bs, 0 ≤ x ∧ x ≤ 255) :
    Calls Try.prog 22 #[v] w (SomeRowsInt w) := by
  go_enter Try.func22, Try.ntmps22
  go_wp2_with fail
  refine (l20Open_any v bs _ h hb).mono ?_
  rintro e w1 ⟨b, rfl, hR, hF, hlo⟩
  go_wp2_with fail
  refine (l20Node_any b 0 _ _ hR (by omega) (by omega)).mono ?_
  rintro e w2 ⟨r, rows, x, rfl, hO, hS, hR2, hK⟩
  have HS := Lib.hid hS
  clear hS
  go_wp2
  go_ret2
  exact ⟨_, rows, _, rfl, hO, HS.out, hF.reader' hlo hK⟩
set_option maxHeartbeats 400000 in
theorem drawComesBack_any (v : Value) (bs : List Int) (w : World) (h : Bytes w v bs) (hb : ∀ x ∈ bs, 0 ≤ x ∧ x ≤ 255) :
    Calls Try.prog 27 #[v] w (SomeRowsInt w) := by
  go_enter Try.func27, Try.ntmps27
  go_wp2_with fail
  refine (l20Open_any v bs _ h hb).mono ?_
  rintro e w1 ⟨b, rfl, hR, hF, hlo⟩
  go_wp2_with fail
  refine (l20Node_any b 0 _ _ hR (by omega) (by omega)).mono ?_
  rintro e w2 ⟨r, rows, x, rfl, hO, hS, hR2, hK⟩
  have HS := Lib.hid hS
  clear hS
  go_wp2
  go_ret2
  exact ⟨_, rows, _, rfl, hO, HS.out, hF.reader' hlo hK⟩
set_option maxHeartbeats 400000 in
theorem drawCodeAt_any (v : Value) (bs : List Int) (w : World) (h : Bytes w v bs) (hb : ∀ x ∈ bs, 0 ≤ x ∧ x ≤ 255) :
    Calls Try.prog 30 #[v] w (SomeRowsInt w) := by
  go_enter Try.func30, Try.ntmps30
  go_wp2_with fail
  refine (l20Open_any v bs _ h hb).mono ?_
  rintro e w1 ⟨b, rfl, hR, hF, hlo⟩
  go_wp2_with fail
  refine (l20Node_any b 0 _ _ hR (by omega) (by omega)).mono ?_
  rintro e w2 ⟨r, rows, x, rfl, hO, hS, hR2, hK⟩
  have HS := Lib.hid hS
  clear hS
  go_wp2
  go_ret2
  exact ⟨_, rows, _, rfl, hO, HS.out, hF.reader' hlo hK⟩
set_option maxHeartbeats 1000000 in
theorem drawSameAt_any (v : Value) (bs : List Int) (w : World) (h : Bytes w v bs) (hb : ∀ x ∈ bs, 0 ≤ x ∧ x ≤ 255) :
    Calls Try.prog 33 #[v] w (SomeRowsInt2 w) := by
  go_enter Try.func33, Try.ntmps33
  go_wp2_with fail
  refine (l20Open_any v bs _ h hb).mono ?_
  rintro e w1 ⟨b, rfl, hR, hF, hlo⟩
  have hblt := hR.lt
  go_wp2_with fail
  refine (l20Twin_any b 0 _ _ hR (by omega) (by omega)).mono ?_
  rintro e w2 ⟨r, rows, rfl, hO, h5, h6, hR2, hK⟩
  have HS := Lib.hid (show Small rows from ⟨h5, h6⟩)
  clear h6 h hR
  go_wp2_with fail
  refine (pick_any b _ _ _ hR2 (by omega) (by omega)).mono ?_
  rintro e w3 ⟨x3, rfl, P3, R3, K3⟩
  go_wp2_with fail
  refine (pick_any b _ _ _ R3 (by omega) (by omega)).mono ?_
  rintro e w4 ⟨x4, rfl, P4, R4, K4⟩
  go_wp2_with fail
  refine (pick_any b _ _ _ R4 (by omega) (by omega)).mono ?_
  rintro e w5 ⟨x5, rfl, P5, R5, K5⟩
  have hKK := (K3.trans K4).trans K5
  have hO5 := hO.keeps hKK (fun g h1 h2 e => by omega)
  have hF5 := hF.reader' hlo (hK.trans hKK)
  clear hO hR2 hK R3 K3 R4 K4 R5 K5 P3 P4 P5 hKK
  go_wp2
  go_ret3
  exact ⟨_, rows, _, _, rfl, hO5.rows, HS.out, hF5⟩
/-- some integer -/
def OneNum (w : World) (e : Ending) (w' : World) : Prop := ∃ x : Int, e = .returned (.int .i64 x) ∧ Fresh w w'
set_option maxHeartbeats 1000000 in
theorem drawDrawnOf_any (v : Value) (bs : List Int) (w : World) (h : Bytes w v bs) (hb : ∀ x ∈ bs, 0 ≤ x ∧ x ≤ 255) :
    Calls Try.prog 36 #[v] w (OneNum w) := by
  go_enter Try.func36, Try.ntmps36
  go_wp2_with fail
  refine (l20Open_any v bs _ h hb).mono ?_
  rintro e w1 ⟨b, rfl, hR, hF, hlo⟩
  have hblt := hR.lt
  go_wp2_with fail
  refine (pick_any b _ _ _ hR (by omega) (by omega)).mono ?_
  rintro e w3 ⟨x3, rfl, P3, R3, K3⟩
  go_wp2_with fail
  refine (pick_any b _ _ _ R3 (by omega) (by omega)).mono ?_
  rintro e w4 ⟨x4, rfl, P4, R4, K4⟩
  go_wp2_with fail
  refine (l20Code_any b _ _ _ R4 (by omega) (by omega)).mono ?_
  rintro e w5 ⟨x5, rfl, R5, K5⟩
  have hKK := (K3.trans K4).trans K5
  clear h hR K3 K4 K5 R3 R4 P3 P4
  have hb5 := R5.lt
  go_wp2_with fail
  refine (pick_any b _ _ _ (R5.fresh ((Fresh.refl w5).alloc _)) (by omega) (by omega)).mono ?_
  rintro e w9 ⟨x9, rfl, P9, R9, K9⟩
  obtain ⟨i, rfl⟩ := Int.eq_ofNat_of_zero_le P9.1
  have hi : i < 3 := by have := P9.2.1 (by omega); omega
  have hne : ¬ w5.heap.size = b := by omega
  have hc := K9.cellAt (lit_cell w5 [x3, x4, x5] 3 i (by simpa using hi)) hne
  obtain ⟨z', hz'⟩ : ∃ z' : Int, z' = [x3, x4, x5][i]'(by simpa using hi) := ⟨_, rfl⟩
  rw [← hz'] at hc
  have HK := Lib.hid (hF.reader' hlo ((hKK.alloc _).trans K9))
  clear hz' hKK K9 R9 P9 R5
  go_wp2
  go_ret
  exact ⟨_, rfl, HK.out⟩
end Go.Proofs.Ytkicgodmgafkoaa
