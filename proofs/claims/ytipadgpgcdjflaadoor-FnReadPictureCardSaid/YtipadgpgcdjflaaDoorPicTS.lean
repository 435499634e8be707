/- The texts of pictures: the reference's walks. -/
import Derived.Test.YtipadgpgcdjflaaDoorPicTW
import Derived.Laws.IdiomStrings
namespace Go.Proofs.YtipadgpgcdjflaaDoor
open Go.RowKit

theorem RowsR.picAt {w : World} {a : Option Addr} {cap : Nat} {p : List (List Int)} (h : RowsR w (.slice a p.length cap) p) (hp : picB p = true) {i j : Nat} (hi : i < p.length) (hj : j < p.length) :
    ∃ b off g o c, a = some ⟨b, off, none⟩ ∧ w.cell? ⟨b, off + i, none⟩ = some (.slice (some ⟨g, o, none⟩) p.length c) ∧ w.cell? ⟨g, o + j, none⟩ = some (.int .i64 (ent p i j)) := by
  have hr := pic_row hp hi
  obtain ⟨b, off, g, o, c, h1, h2, h3⟩ := h.at2 hi (j := j) (by rw [hr]; exact hj)
  rw [hr] at h2
  rw [pic_ent hp hi hj] at h3
  exact ⟨b, off, g, o, c, h1, h2, h3⟩
theorem dig_nat (v : Nat) (hv : v < 10) : ((dig v).toNat : Int) = 48 + (v : Int) := by
  have h : (dig v).toNat = 48 + v := by
    unfold dig
    rw [UInt8.toNat_ofNat']
    omega
  omega
theorem conv_dig (v : Nat) (hv : v < 10) (w : World) : (convert 28 9 (.slice (some ⟨w.heap.size, 0, none⟩) 1 1)).run Tryd.prog (w.alloc (Obj.cells #[Value.int .u8 (48 + (v : Int))] 5)) = .ok (.string (strV [dig v])) (w.alloc (Obj.cells #[Value.int .u8 (48 + (v : Int))] 5)) := by
  refine run_convert_bytes_back (P := Tryd.prog) (w.alloc (Obj.cells #[Value.int .u8 (48 + (v : Int))] 5)) 28 9 5 ⟨w.heap.size, 0, none⟩ 1 [dig v] Tryd.underlying28 Tryd.underlying5 Tryd.underlying9 ?_
  intro j hj
  refine one_new w _ _ j _ ?_
  match j, hj with
  | 0, _ =>
    show some _ = some (Value.int .u8 ((dig v).toNat : Int))
    rw [dig_nat v hv]
set_option maxHeartbeats 400000 in
theorem l1Number_any (v : Nat) (hv : v < 10) (w : World) :
    Calls Tryd.prog 32 #[.int .i64 (v : Int)] w fun e w' => e = .returned (.string (strV [dig v])) ∧ Fresh w w' := by
  have hv2 : (v : Int) < 10 := by omega
  have hcv := conv_dig v hv w
  go_enter Tryd.func32, Tryd.ntmps32
  go_wp2
  go_ret
  exact ⟨rfl, (Fresh.refl w).alloc _⟩
set_option maxHeartbeats 1000000 in
theorem specPictureText_any (v : Value) (p : List (List Int)) (w : World) (h : RowsR w v p) :
    Calls Tryd.prog 14 #[v] w fun e w' => e = .returned (.string (strV (picI p))) ∧ Fresh w w' := by
  obtain ⟨pa, pc, rfl⟩ := h.len
  have hbd := h.bound
  cases hp : picB p
  · have HX := Lib.hid (picI_no hp)
    by_cases h0 : 0 < p.length
    · go_enter Tryd.func14, Tryd.ntmps14
      go_wp2
      go_loop [3, 4] (fun o i => o = .string ⟨#[]⟩ ∧ i = .int .i64 0) (fun _ _ => 0)
      case atStart => exact ⟨rfl, rfl⟩
      case round =>
        obtain ⟨rfl, rfl⟩ := hrel
        have hd : decide ((0 : Int) < (p.length : Int)) = true := decide_eq_true (by omega)
        go_wp2_with fail
        refine (specPictureOk_any _ p _ h).mono ?_
        rintro e w' ⟨rfl, rfl⟩
        rw [hp]
        clear hp
        go_wp2
        go_ret
        exact ⟨by rw [HX.out]; rfl, Fresh.refl _⟩
    · have hz : p.length = 0 := by omega
      obtain rfl : p = [] := List.length_eq_zero_iff.1 hz
      go_enter Tryd.func14, Tryd.ntmps14
      go_wp2
      go_loop [3, 4] (fun o i => o = .string ⟨#[]⟩ ∧ i = .int .i64 0) (fun _ _ => 0)
      case atStart => exact ⟨rfl, rfl⟩
      case round =>
        obtain ⟨rfl, rfl⟩ := hrel
        go_wp2
        go_ret
        exact ⟨by rw [HX.out]; rfl, Fresh.refl _⟩
  have hn1 := ((picB_iff p).1 hp).1
  have hn5 := ((picB_iff p).1 hp).2.1
  have HX := Lib.hid (picI_in hp)
  have HP := Lib.hid hp
  have HTL := Lib.hid (fun k (hk : k ≤ p.length) => textTo_len hp k hk)
  have HRL := Lib.hid (fun k j (hk : k < p.length) (hj : j ≤ p.length) => rowSoFar_len hp hk hj)
  have HRS := Lib.hid (fun k j (hk : k < p.length) (hj : j < p.length) => rowSoFar_step hp hk hj)
  have HRA := Lib.hid (fun k (hk : k < p.length) => rowSoFar_all hp hk)
  have HRZ := Lib.hid (rowSoFar_zero p)
  have HRF := Lib.hid (rowSoFar_first p)
  have HTZ := Lib.hid (textTo_zero p)
  have HPT := Lib.hid (show picText p = textTo p p.length from rfl)
  clear hp
  go_enter Tryd.func14, Tryd.ntmps14
  go_wp2
  go_loopw [3, 4, 5] (fun o i _ wr => ∃ k : Nat, k ≤ p.length ∧ i = .int .i64 k ∧ o = .string (strV (textTo p k)) ∧ Fresh w wr) (fun _ i _ _ => p.length - (intOf i).toNat)
  case atStart => exact ⟨0, by omega, rfl, by rw [HTZ.out]; rfl, Fresh.refl _⟩
  case round =>
    obtain ⟨k, hk, rfl, rfl, hF⟩ := hrel
    have htl := HTL.out k hk
    have hsz : (strV (textTo p k)).size ≤ 30 := by rw [strV_size]; omega
    clear htl
    by_cases hlt : k < p.length
    · have hd : decide ((k : Int) < (p.length : Int)) = true := decide_eq_true (by omega)
      have key : ∀ (wx : World), Fresh w wx → True := fun _ _ => trivial
      clear key
      have HOK := Lib.hid (specPictureOk_any _ p wr (h.fresh hF))
      rw [HP.out] at HOK
      by_cases hk0 : k = 0
      · have HS := Lib.hid (show textTo p k = rowSoFar p k 0 by subst hk0; exact HRF.out.symm)
        have hdk : decide (0 < k) = false := decide_eq_false (by omega)
        have hdk2 : decide ((0 : Int) < (k : Int)) = false := decide_eq_false (by omega)
        have hkk : ¬ (0 : Int) < (k : Int) := by omega
        rw [HS.out] at hsz ⊢
        clear hk0
        go_wp2_with fail
        refine HOK.out.mono ?_
        rintro e w' ⟨rfl, rfl⟩
        go_wp2
        go_loopw [3, 5] (fun o i wr2 => ∃ j : Nat, j ≤ p.length ∧ i = .int .i64 j ∧ o = .string (strV (rowSoFar p k j)) ∧ Fresh wr wr2) (fun _ i _ => p.length - (intOf i).toNat)
        case atStart => exact ⟨0, by omega, rfl, rfl, Fresh.refl _⟩
        case round =>
          clear hsz HS
          obtain ⟨j, hj, rfl, rfl, hF2⟩ := hrel
          have hsz : (strV (rowSoFar p k j)).size ≤ 40 := HRL.out k j hlt hj
          by_cases hjl : j < p.length
          · obtain ⟨b, off, g, o, c, rfl, hc1, hc2⟩ := ((h.fresh hF).fresh hF2).picAt HP.out hlt hjl
            have H3 := Lib.hid (HRS.out k j hlt hjl)
            have hbit := pic_bit HP.out hlt hjl
            obtain ⟨z, hz⟩ : ∃ z, z = ent p k j := ⟨_, rfl⟩
            rw [← hz] at hc2 H3 hbit
            obtain ⟨s, hs⟩ : ∃ s, s = rowSoFar p k j := ⟨_, rfl⟩
            rw [← hs] at H3 hsz ⊢
            clear hz hs
            rcases hbit with rfl | rfl
            · have HX2 := Lib.hid (show rowSoFar p k (j + 1) = s by rw [H3.out]; simp)
              go_wp2
              go_roundw
              case rel => exact ⟨j + 1, by omega, by go_num, by rw [HX2.out], hF2⟩
              case measure => simp [intOf]; omega
            · have HX2 := Lib.hid (show rowSoFar p k (j + 1) = s ++ [dig j] by rw [H3.out]; simp)
              have hz2 : (strV [dig j]).size ≤ 1 := Nat.le_refl 1
              go_wp2_with fail
              refine (l1Number_any j (by omega) _).mono ?_
              rintro e w3 ⟨rfl, hF3⟩
              go_wp2
              go_roundw
              case rel => exact ⟨j + 1, by omega, by go_num, by rw [HX2.out, strV_app], hF2.trans hF3⟩
              case measure => simp [intOf]; omega
          · have hje : j = p.length := by omega
            subst hje
            have H3 := Lib.hid (HRA.out k hlt)
            rw [H3.out]
            go_wp2
            go_roundw
            case rel => exact ⟨k + 1, by omega, by go_num, rfl, hF.trans hF2⟩
            case measure => simp [intOf]; omega
      · have HS := Lib.hid (HRZ.out k (by omega))
        have hdk : decide (0 < k) = true := decide_eq_true (by omega)
        have hdk2 : decide ((0 : Int) < (k : Int)) = true := decide_eq_true (by omega)
        have hkk : (0 : Int) < (k : Int) := by omega
        clear hk0
        go_wp2_with fail
        refine HOK.out.mono ?_
        rintro e w' ⟨rfl, rfl⟩
        go_wp2
        go_loopw [3, 5] (fun o i wr2 => ∃ j : Nat, j ≤ p.length ∧ i = .int .i64 j ∧ o = .string (strV (rowSoFar p k j)) ∧ Fresh wr wr2) (fun _ i _ => p.length - (intOf i).toNat)
        case atStart => exact ⟨0, by omega, rfl, by rw [HS.out, ← strV_app]; rfl, Fresh.refl _⟩
        case round =>
          clear hsz HS
          obtain ⟨j, hj, rfl, rfl, hF2⟩ := hrel
          have hsz : (strV (rowSoFar p k j)).size ≤ 40 := HRL.out k j hlt hj
          by_cases hjl : j < p.length
          · obtain ⟨b, off, g, o, c, rfl, hc1, hc2⟩ := ((h.fresh hF).fresh hF2).picAt HP.out hlt hjl
            have H3 := Lib.hid (HRS.out k j hlt hjl)
            have hbit := pic_bit HP.out hlt hjl
            obtain ⟨z, hz⟩ : ∃ z, z = ent p k j := ⟨_, rfl⟩
            rw [← hz] at hc2 H3 hbit
            obtain ⟨s, hs⟩ : ∃ s, s = rowSoFar p k j := ⟨_, rfl⟩
            rw [← hs] at H3 hsz ⊢
            clear hz hs
            rcases hbit with rfl | rfl
            · have HX2 := Lib.hid (show rowSoFar p k (j + 1) = s by rw [H3.out]; simp)
              go_wp2
              go_roundw
              case rel => exact ⟨j + 1, by omega, by go_num, by rw [HX2.out], hF2⟩
              case measure => simp [intOf]; omega
            · have HX2 := Lib.hid (show rowSoFar p k (j + 1) = s ++ [dig j] by rw [H3.out]; simp)
              have hz2 : (strV [dig j]).size ≤ 1 := Nat.le_refl 1
              go_wp2_with fail
              refine (l1Number_any j (by omega) _).mono ?_
              rintro e w3 ⟨rfl, hF3⟩
              go_wp2
              go_roundw
              case rel => exact ⟨j + 1, by omega, by go_num, by rw [HX2.out, strV_app], hF2.trans hF3⟩
              case measure => simp [intOf]; omega
          · have hje : j = p.length := by omega
            subst hje
            have H3 := Lib.hid (HRA.out k hlt)
            rw [H3.out]
            go_wp2
            go_roundw
            case rel => exact ⟨k + 1, by omega, by go_num, rfl, hF.trans hF2⟩
            case measure => simp [intOf]; omega
    · have hke : k = p.length := by omega
      subst hke
      go_wp2
      go_ret
      exact ⟨by rw [HX.out, HPT.out]; rfl, hF⟩
end Go.Proofs.YtipadgpgcdjflaaDoor
