/- What the laws on pictures and sameness draw. -/
import Derived.Test.YtipboajbakjokaaDraw5
namespace Go.Proofs.Ytipboajbakjokaa
open Go.RowKit

theorem Fresh.reader' {w w1 w2 : World} {b : Nat} (h : Fresh w w1) (hb : w.heap.size ≤ b) (k : Keeps (fun i => i = b) w1 w2) : Fresh w w2 :=
  h.keepsTrans k fun i hi => by omega
/-- few and short -/
def Small (rows : List (List Int)) : Prop := rows.length ≤ 5 ∧ ∀ r ∈ rows, r.length ≤ 6
/-- some rows -/
def SomeRows (w : World) (e : Ending) (w' : World) : Prop := ∃ v rows, e = .returned v ∧ RowsR w' v rows ∧ Small rows ∧ Fresh w w'
/-- some rows and a number -/
def SomeRowsInt (w : World) (e : Ending) (w' : World) : Prop := ∃ (v : Value) (rows : List (List Int)) (x : Int), e = .returned (.tuple #[v, .int .i64 x]) ∧ RowsR w' v rows ∧ Small rows ∧ Fresh w w'
/-- some rows and two numbers -/
def SomeRowsInt2 (w : World) (e : Ending) (w' : World) : Prop := ∃ (v : Value) (rows : List (List Int)) (x y : Int), e = .returned (.tuple #[v, .int .i64 x, .int .i64 y]) ∧ RowsR w' v rows ∧ Small rows ∧ Fresh w w'
/-- some rows and some rows -/
def SomeTwoRows (w : World) (e : Ending) (w' : World) : Prop := ∃ (v u : Value) (p l : List (List Int)), e = .returned (.tuple #[v, u]) ∧ RowsR w' v p ∧ RowsR w' u l ∧ Small p ∧ Small l ∧ Fresh w w'

set_option maxHeartbeats 400000 in
theorem drawPictureOk_any (v : Value) (bs : List Int) (w : World) (h : Bytes w v bs) (hb : ∀ x ∈ bs, 0 ≤ x ∧ x ≤ 255) :
    Calls Try.prog 20 #[v] w (SomeRows w) := by
  go_enter Try.func20, Try.ntmps20
  go_wp2_with fail
  refine (l20Open_any v bs _ h hb).mono ?_
  rintro e w1 ⟨b, rfl, hR, hF, hlo⟩
  go_wp2_with fail
  refine (l20Picture_any b 0 _ _ hR (by omega) (by omega)).mono ?_
  rintro e w2 ⟨r, rows, rfl, hO, h5, h6, hR2, hK⟩
  have HS := Lib.hid (show Small rows from ⟨h5, h6⟩)
  clear h6
  go_wp2
  go_ret
  exact ⟨_, rows, rfl, hO.rows, HS.out, hF.reader' hlo hK⟩
set_option maxHeartbeats 400000 in
theorem drawKindsOf_any (v : Value) (bs : List Int) (w : World) (h : Bytes w v bs) (hb : ∀ x ∈ bs, 0 ≤ x ∧ x ≤ 255) :
    Calls Try.prog 42 #[v] w (SomeRows w) := by
  go_enter Try.func42, Try.ntmps42
  go_wp2_with fail
  refine (l20Open_any v bs _ h hb).mono ?_
  rintro e w1 ⟨b, rfl, hR, hF, hlo⟩
  go_wp2_with fail
  refine (l20Twin_any b 0 _ _ hR (by omega) (by omega)).mono ?_
  rintro e w2 ⟨r, rows, rfl, hO, h5, h6, hR2, hK⟩
  have HS := Lib.hid (show Small rows from ⟨h5, h6⟩)
  clear h6
  go_wp2
  go_ret
  exact ⟨_, rows, rfl, hO.rows, HS.out, hF.reader' hlo hK⟩
set_option maxHeartbeats 400000 in
theorem drawSameRows_any (v : Value) (bs : List Int) (w : World) (h : Bytes w v bs) (hb : ∀ x ∈ bs, 0 ≤ x ∧ x ≤ 255) :
    Calls Try.prog 44 #[v] w (SomeRows w) := by
  go_enter Try.func44, Try.ntmps44
  go_wp2_with fail
  refine (l20Open_any v bs _ h hb).mono ?_
  rintro e w1 ⟨b, rfl, hR, hF, hlo⟩
  go_wp2_with fail
  refine (l20Twin_any b 0 _ _ hR (by omega) (by omega)).mono ?_
  rintro e w2 ⟨r, rows, rfl, hO, h5, h6, hR2, hK⟩
  have HS := Lib.hid (show Small rows from ⟨h5, h6⟩)
  clear h6
  go_wp2
  go_ret
  exact ⟨_, rows, rfl, hO.rows, HS.out, hF.reader' hlo hK⟩
set_option maxHeartbeats 400000 in
theorem drawLeftAfter_any (v : Value) (bs : List Int) (w : World) (h : Bytes w v bs) (hb : ∀ x ∈ bs, 0 ≤ x ∧ x ≤ 255) :
    Calls Try.prog 34 #[v] w (SomeRowsInt w) := by
  go_enter Try.func34, Try.ntmps34
  go_wp2_with fail
  refine (l20Open_any v bs _ h hb).mono ?_
  rintro e w1 ⟨b, rfl, hR, hF, hlo⟩
  have hblt := hR.lt
  go_wp2_with fail
  refine (l20Twin_any b 0 _ _ hR (by omega) (by omega)).mono ?_
  rintro e w2 ⟨r, rows, rfl, hO, h5, h6, hR2, hK⟩
  have HS := Lib.hid (show Small rows from ⟨h5, h6⟩)
  clear h6 h hR
  go_wp2_with fail
  refine (pick_any b _ _ _ hR2 (by omega) (by omega)).mono ?_
  rintro e w3 ⟨x3, rfl, P3, R3, K3⟩
  go_wp2_with fail
  refine (pick_any b _ _ _ R3 (by omega) (by omega)).mono ?_
  rintro e w4 ⟨x4, rfl, P4, R4, K4⟩
  go_wp2_with fail
  refine (pick_any b _ _ _ R4 (by omega) (by omega)).mono ?_
  rintro e w5 ⟨x5, rfl, P5, R5, K5⟩
  have hKK := (K3.trans K4).trans K5
  have hO5 := hO.keeps hKK (fun g h1 h2 e => by omega)
  have hF5 := hF.reader' hlo (hK.trans hKK)
  clear hO hR2 hK R3 K3 R4 K4 R5 K5 P3 P4 P5 hKK
  go_wp2
  go_ret2
  exact ⟨_, rows, _, rfl, hO5.rows, HS.out, hF5⟩

/-- the number that stands in a node's own row -/
def ownF (i j : Nat) : Int := if i = j then 1 else 0
theorem own_row {n k : Nat} (_hk : k < n) : (List.replicate n (0 : Int)).set k 1 = rowTo ownF k n := by
  apply List.ext_getElem (by simp [rowTo])
  intro j h1 h2
  by_cases hj : k = j
  · subst hj; rw [List.getElem_set_self]; simp [rowTo, ownF]
  · rw [List.getElem_set_ne hj]; simp [rowTo, ownF, hj]
theorem none_row (n k : Nat) : List.replicate n (0 : Int) = rowTo (fun _ _ => 0) k n := by
  apply List.ext_getElem (by simp [rowTo])
  intro j h1 h2
  simp [rowTo]
/-- a row that make left -/
theorem RowAt.made {wo w3 : World} {n k : Nat} (h : w3.ownsRow wo.heap.size 3 1 (.slice (some ⟨wo.heap.size, 0, none⟩) n n) n (madeCells #[Value.int .i64 0] n).toList) (hgr : wo.grownBy w3 none) :
    RowAt wo (fun _ _ => 0) k n (.slice (some ⟨wo.heap.size, 0, none⟩) n n) w3 :=
  ⟨by rw [← none_row]; exact Owns.madeAt h, (Fresh.refl wo).grown hgr (fun k hk => by cases hk)⟩
/-- .. with its own number written -/
theorem RowAt.own {wo w3 : World} {n k : Nat} (h : RowAt wo (fun _ _ => 0) k n (.slice (some ⟨wo.heap.size, 0, none⟩) n n) w3) (hk : k < n) :
    w3.cell? ⟨wo.heap.size, k, none⟩ = some (.int .i64 0) ∧ w3.frozen? ⟨wo.heap.size, k, none⟩ = false ∧ RowAt wo ownF k n (.slice (some ⟨wo.heap.size, 0, none⟩) n n) (w3.setCell ⟨wo.heap.size, k, none⟩ (.int .i64 1)) := by
  obtain ⟨hO, hF⟩ := h
  rw [← none_row] at hO
  obtain ⟨h1, h2, h3⟩ := hO.store (by simp) k 1
  refine ⟨?_, h1, ?_, hF.keepsTrans h3 (fun i hi => by omega)⟩
  · rw [hO.cell (by simp) k (by simpa using hk)]; simp
  · rw [own_row hk] at h2; simpa [World.setCell] using h2

theorem leftI_small (p : List (List Int)) (m : Int) : Small (leftI p m) := by
  by_cases h : (picB p && inB m 0 30) = true
  · have hp : picB p = true := by simp only [Bool.and_eq_true] at h; exact h.1
    have hn := ((picB_iff p).1 hp).2.1
    have hq := (picB_iff _).1 (leftL_pic hp m.toNat)
    rw [leftI, if_pos h]
    exact ⟨hq.2.1, fun r hr => by have := (hq.2.2 r hr).1; have := hq.2.1; omega⟩
  · rw [leftI, if_neg h]; exact ⟨by simp, by simp⟩
set_option maxHeartbeats 1000000 in
theorem drawLikeOk_any (v : Value) (bs : List Int) (w : World) (h : Bytes w v bs) (hb : ∀ x ∈ bs, 0 ≤ x ∧ x ≤ 255) :
    Calls Try.prog 36 #[v] w (SomeTwoRows w) := by
  obtain ⟨i0, hi, hz0, hz1, hz2⟩ := info_parts info_int
  go_enter Try.func36, Try.ntmps36
  go_wp2_with fail
  refine (l20Open_any v bs _ h hb).mono ?_
  rintro e w1 ⟨b, rfl, hR, hF, hlo⟩
  have hblt := hR.lt
  go_wp2_with fail
  refine (l20Twin_any b 0 _ _ hR (by omega) (by omega)).mono ?_
  rintro e w2 ⟨r, rows, rfl, hO, h5, h6, hR2, hK⟩
  have HS := Lib.hid (show Small rows from ⟨h5, h6⟩)
  clear h6 h hR
  go_wp2_with fail
  refine (pick_any b _ _ _ hR2 (by omega) (by omega)).mono ?_
  rintro e w3 ⟨x3, rfl, P3, R3, K3⟩
  have hO3 := hO.keeps K3 (fun g h1 h2 e => by omega)
  have hp := hO3.rows
  have hF3 := hF.reader' hlo (hK.trans K3)
  have hx0 := P3.1
  have hx1 := P3.2.1 (by omega)
  obtain ⟨pa, pc, rfl⟩ := hp.len
  clear hO hR2 hK K3 P3 hF
  have hb3 := R3.lt
  have hx : x3 = 0 ∨ x3 = 1 ∨ x3 = 2 ∨ x3 = 3 := by omega
  rcases hx with rfl | rfl | rfl | rfl
  · go_wp2_with fail
    refine (specSameRows_any _ rows _ hp).mono ?_
    rintro e w4 ⟨r4, rfl, hO4, hF4⟩
    have HS2 := Lib.hid (leftI_small rows rows.length)
    go_wp2
    go_ret2
    exact ⟨_, _, rows, _, rfl, hp.fresh hF4, hO4.rows, HS.out, HS2.out, hF3.trans hF4⟩
  · obtain ⟨n, hn⟩ : ∃ n, n = rows.length := ⟨_, rfl⟩
    have hby : i0.bytes * n ≤ 281474976710656 := by rw [hz2]; omega
    rw [← hn] at hp h5 ⊢
    have HE := Lib.hid (RowsAt.empty w3 n ownF)
    have HS2 := Lib.hid (show Small (mkR n ownF) from ⟨by rw [mkR_len]; exact h5, fun r hr => by obtain ⟨i, hi, rfl⟩ := List.getElem_of_mem hr; rw [mkR_rowLen]; omega⟩)
    clear hz2 hn
    go_wp2
    go_loopw [6, 7] (fun y i wr => ∃ k : Nat, k ≤ n ∧ i = .int .i64 k ∧ RowsAt w3 n ownF k y wr) (fun _ i _ => n - (intOf i).toNat)
    case atStart => exact ⟨0, by omega, rfl, HE.out⟩
    case round =>
      clear HE
      obtain ⟨k, hk, rfl, hA⟩ := hrel
      obtain ⟨wo, rfl⟩ : ∃ wo : World, wo = wr := ⟨_, rfl⟩
      by_cases hlt : k < n
      · have hdk : decide ((k : Int) < n) = true := decide_eq_true (by omega)
        go_wp2_with (at_make; refine wpList_make_full _ rfl _ _ 29 rfl wo.heap.size 3 i0 (.int .i64 0) 1 Try.underlying29 hi hz0 hz1 .i64 .i64 _ _ n rfl rfl rfl rfl hby ?c2 ?c3 ?_)
        case c2 => unfold maxLen; omega
        case c3 => exact Nat.le_refl _
        intro w5 hown hgr
        obtain ⟨f1, f2, hR⟩ := (RowAt.made (k := k) hown hgr).own hlt
        clear hown hgr
        go_wp2_with (at_builtin; refine wpList_append_rowAt _ wo w3 _ ownF k _ _ _ rfl _ _ rfl rfl hA hR _ rfl (by first | rfl | simp [World.setCell]) (by omega) ?_)
        intro v' w6 hA6
        clear hA hR f1 f2
        go_wp2
        go_roundw
        case rel => exact ⟨k + 1, hlt, by go_num, hA6⟩
        case measure => simp [intOf]; omega
      · rw [show k = n by omega] at hA
        go_wp2
        go_ret2
        exact ⟨_, _, rows, _, rfl, hp.fresh hA.2, hA.rowsR rfl, HS.out, HS2.out, hF3.trans hA.2⟩
  · go_wp2_with fail
    refine (pick_any b _ _ _ R3 (by omega) (by omega)).mono ?_
    rintro e w4 ⟨x4, rfl, P4, R4, K4⟩
    have hp4 := (hO3.keeps K4 (fun g h1 h2 e => by omega)).rows
    go_wp2_with fail
    refine (specLeftAfter_any _ rows _ _ hp4).mono ?_
    rintro e w5 ⟨r5, rfl, hO5, hF5⟩
    have HS2 := Lib.hid (leftI_small rows x4)
    have hF6 := (hF3.reader' hlo K4).trans hF5
    clear P4 R4 K4
    go_wp2
    go_ret2
    exact ⟨_, _, rows, _, rfl, hp4.fresh hF5, hO5.rows, HS.out, HS2.out, hF6⟩
  · go_wp2_with fail
    refine (l20Picture_any b _ _ _ R3 (by omega) (by omega)).mono ?_
    rintro e w4 ⟨r4, rows4, rfl, hO4, g5, g6, R4, K4⟩
    have HS2 := Lib.hid (show Small rows4 from ⟨g5, g6⟩)
    have hp4 := (hO3.keeps K4 (fun g h1 h2 e => by omega)).rows
    have hF6 := hF3.reader' hlo K4
    clear R4 K4 g6
    go_wp2
    go_ret2
    exact ⟨_, _, rows, _, rfl, hp4, hO4.rows, HS.out, HS2.out, hF6⟩
end Go.Proofs.Ytipboajbakjokaa
