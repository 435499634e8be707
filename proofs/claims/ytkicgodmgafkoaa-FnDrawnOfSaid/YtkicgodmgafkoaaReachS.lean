/- What is reached in a picture: the reference's walks. -/
import Derived.Test.YtkicgodmgafkoaaBackW
import Derived.Test.YtkicgodmgafkoaaRnd2
namespace Go.Proofs.Ytkicgodmgafkoaa
open Go.RowKit

theorem or_pow {s j : Nat} (hs : s < 65536) (hj : j ≤ 15) : bits .or .i64 (s : Int) (wrap64 (2 ^ j)) = ((s ||| 2 ^ j : Nat) : Int) := by
  have h := shl_one (j : Int) (by omega) (by omega)
  rw [Int.toNat_natCast] at h
  rw [h]
  have h3 : (2 : Nat) ^ j ≤ 2 ^ 15 := Nat.pow_le_pow_right (by decide) hj
  exact or_i64 _ _ (by omega) (by omega)
theorem pow_one {j : Nat} (hj : j ≤ 15) : wrap64 (2 ^ j) = ((2 ^ j : Nat) : Int) := by
  have h := shl_one (j : Int) (by omega) (by omega)
  rwa [Int.toNat_natCast] at h
theorem bit_tests (s k : Nat) : (((s : Int) / 2 ^ k).tmod 2 == 1) = s.testBit k ∧ (((s : Int) / 2 ^ k) % 2 == 1) = s.testBit k := by
  have h1 := bit_eq (s : Int) (k : Int) (by omega)
  have h2 := shr_le (s : Int) k (by omega)
  rw [Int.toNat_natCast, Int.toNat_natCast] at h1
  rw [Int.tmod_eq_emod_of_nonneg h2.1, h1]
  cases s.testBit k <;> simp
theorem SeenIn.lt {p : List (List Int)} (hp : picB p = true) {a s : Nat} (ha : a < p.length) (h : SeenIn p a s) : s < 65536 := by
  have hn5 := ((picB_iff p).1 hp).2.1
  apply Nat.lt_pow_two_of_testBit (n := 16)
  intro i hi
  cases hb : s.testBit i
  · rfl
  · have := reach_lt hp ha (h i hb); omega
def seenTo (s k : Nat) : List Nat := (List.range k).filter s.testBit
theorem seenTo_step (s k : Nat) : seenTo s (k + 1) = seenTo s k ++ if s.testBit k then [k] else [] := by
  rw [seenTo, seenTo, List.range_succ, List.filter_append]
  congr 1
  cases h : s.testBit k <;> simp [h]
theorem seenTo_len (s k : Nat) : (seenTo s k).length ≤ k := by
  have := List.length_filter_le s.testBit (List.range k)
  simpa [seenTo] using this

set_option maxHeartbeats 2000000 in
theorem specReachedFrom_any (v : Value) (p : List (List Int)) (a : Int) (w : World) (h : RowsR w v p) :
    Calls Try.prog 12 #[v, .int .i64 a] w fun e w' => ∃ r, e = .returned r ∧ Owns w.heap.size w'.heap.size w' r (reachI p a) ∧ Fresh w w' := by
  have hF0 : Fresh w (w.alloc (Obj.cells #[] 3)) := (Fresh.refl w).alloc _
  have HE := Lib.hid (Owns.empty w)
  obtain ⟨pa, pc, rfl⟩ := h.len
  have hbd := h.bound
  have h1 := h.fresh hF0
  cases hp : picB p
  · have HX := Lib.hid (reachI_no (p := p) (a := a) (by simp [nodeB, hp]))
    go_enter Try.func12, Try.ntmps12
    go_wp2_with fail
    refine (specPictureOk_any _ p _ h1).mono ?_
    rintro e w1 ⟨rfl, rfl⟩
    rw [hp]
    clear hp
    go_wp2
    go_ret
    exact ⟨_, rfl, by rw [HX.out]; exact HE.out, hF0⟩
  · have HNA := Lib.hid (nodeB_in hp a)
    obtain ⟨hn1, hn5, -⟩ := (picB_iff p).1 hp
    have HSQ := Lib.hid (pic_sq hp)
    cases ha : nodeB p a
    · have HX := Lib.hid (reachI_no ha)
      rw [HNA.out] at ha
      have HA := Lib.hid ha
      clear ha
      go_enter Try.func12, Try.ntmps12
      go_wp2_with fail
      refine (specPictureOk_any _ p _ h1).mono ?_
      rintro e w1 ⟨rfl, rfl⟩
      rw [hp]
      clear hp
      go_wp2_with fail
      refine (l1In_any _ _ _ _).mono ?_
      rintro e w' ⟨rfl, rfl⟩
      rw [HA.out]
      go_wp2
      go_ret
      exact ⟨_, rfl, by rw [HX.out]; exact HE.out, hF0⟩
    · obtain ⟨-, hai0, hai1⟩ := (nodeB_iff p a).1 ha
      obtain ⟨i, rfl⟩ := Int.eq_ofNat_of_zero_le hai0
      have hil : i < p.length := by omega
      have HX := Lib.hid (reachI_in ha)
      rw [HNA.out] at ha
      have HA := Lib.hid ha
      have HPW := Lib.hid (pow_one (j := i) (by omega))
      have HF := Lib.hid (seen_first (p := p) (a := i))
      have HP := Lib.hid hp
      clear ha hp
      go_enter Try.func12, Try.ntmps12
      go_wp2_with fail
      refine (specPictureOk_any _ p _ h1).mono ?_
      rintro e w1 ⟨rfl, rfl⟩
      rw [HP.out]
      go_wp2_with fail
      refine (l1In_any _ _ _ _).mono ?_
      rintro e w' ⟨rfl, rfl⟩
      rw [HA.out]
      go_wp2
      go_loop [6, 7] (fun s m' => ∃ (m s' : Nat), m ≤ p.length ∧ m' = .int .i64 m ∧ s = .int .i64 (s' : Int) ∧ SeenIn p i s' ∧ SeenAll p i s' m 0 0) (fun _ m => p.length - (intOf m).toNat)
      case atStart => exact ⟨0, 2 ^ i, by omega, rfl, by rw [HPW.out], HF.out.1, HF.out.2⟩
      case round =>
        obtain ⟨m, s, hm, rfl, rfl, hS, hA⟩ := hrel
        by_cases hml : m < p.length
        · have hdm : decide ((m : Int) < p.length) = true := decide_eq_true (by omega)
          go_wp2
          go_loop [6, 8] (fun s k' => ∃ (k s' : Nat), k ≤ p.length ∧ k' = .int .i64 k ∧ s = .int .i64 (s' : Int) ∧ SeenIn p i s' ∧ SeenAll p i s' m k 0) (fun _ k => p.length - (intOf k).toNat)
          case atStart => exact ⟨0, s, by omega, rfl, rfl, hS, hA⟩
          case round =>
            clear hS hA
            obtain ⟨k, s, hk, rfl, rfl, hS, hA⟩ := hrel
            by_cases hkl : k < p.length
            · have hdk : decide ((k : Int) < p.length) = true := decide_eq_true (by omega)
              go_wp2
              go_loop [6, 9] (fun s j' => ∃ (j s' : Nat), j ≤ p.length ∧ j' = .int .i64 j ∧ s = .int .i64 (s' : Int) ∧ SeenIn p i s' ∧ SeenAll p i s' m k j) (fun _ j => p.length - (intOf j).toNat)
              case atStart => exact ⟨0, s, by omega, rfl, rfl, hS, hA⟩
              case round =>
                clear hS hA
                obtain ⟨j, s, hj, rfl, rfl, hS, hA⟩ := hrel
                by_cases hjl : j < p.length
                · obtain ⟨b1, o1, g1, q1, c1, rfl, hc1, hc2⟩ := h1.sq2n HSQ.out hkl hjl
                  have hsl := hS.lt HP.out hil
                  obtain ⟨hT1, hT2⟩ := bit_tests s k
                  have HS := Lib.hid hS
                  have HAA := Lib.hid hA
                  have hs0 : (0 : Int) ≤ (s : Int) := Int.natCast_nonneg _
                  have hbit := pic_bit HP.out hkl hjl
                  obtain ⟨z, hz⟩ : ∃ z, z = ent p k j := ⟨_, rfl⟩
                  rw [← hz] at hc2 hbit
                  have HZ := Lib.hid hz.symm
                  clear hS hA hz
                  cases hb : s.testBit k
                  · rw [hb] at hT1 hT2
                    have HA2 := Lib.hid (HAA.out.step (s' := s) (fun _ hx => hx) (fun e => by rw [hb] at e; cases e))
                    clear hb
                    go_wp2
                    go_round
                    case rel => exact ⟨j + 1, s, hjl, by go_num, rfl, HS.out, HA2.out⟩
                    case measure => simp [intOf]; omega
                  · rw [hb] at hT1 hT2
                    rcases hbit with rfl | rfl
                    · have HA2 := Lib.hid (HAA.out.step (s' := s) (fun _ hx => hx) (fun _ e => by rw [HZ.out] at e; cases e))
                      clear hb
                      go_wp2
                      go_round
                      case rel => exact ⟨j + 1, s, hjl, by go_num, rfl, HS.out, HA2.out⟩
                      case measure => simp [intOf]; omega
                    · have HA2 := Lib.hid (HAA.out.step (s' := s ||| 2 ^ j) (fun b hx => by rw [Nat.testBit_or, hx]; rfl) (fun _ _ => by rw [Nat.testBit_or, Nat.testBit_two_pow]; simp))
                      have HS2 := Lib.hid (HS.out.step HP.out hil hb HZ.out)
                      have HOR := Lib.hid (or_pow (s := s) (j := j) hsl (by omega))
                      clear hb
                      go_wp2
                      go_round
                      case rel => exact ⟨j + 1, s ||| 2 ^ j, hjl, by go_num, by rw [HOR.out], HS2.out, HA2.out⟩
                      case measure => simp [intOf]; omega
                · have HA2 := Lib.hid (hA.row hjl)
                  clear hA
                  go_wp2
                  go_round
                  case rel => exact ⟨k + 1, s, hkl, by go_num, rfl, hS, HA2.out⟩
                  case measure => simp [intOf]; omega
            · have HA2 := Lib.hid (hA.round HP.out hil hkl)
              clear hA
              go_wp2
              go_round
              case rel => exact ⟨m + 1, s, hml, by go_num, rfl, hS, HA2.out⟩
              case measure => simp [intOf]; omega
        · rw [show m = p.length by omega] at hA
          have HRE := Lib.hid (seen_last hS hA)
          have hsl := hS.lt HP.out hil
          have HSE := Lib.hid (show seenTo s p.length = reachL p i by
            unfold seenTo reachL; congr 1; funext b; exact HRE.out b)
          have hs0 : (0 : Int) ≤ (s : Int) := Int.natCast_nonneg _
          clear hS hA HRE
          go_wp2
          go_loopw [5, 10] (fun u k' wr => ∃ k : Nat, k ≤ p.length ∧ k' = .int .i64 k ∧ Owns w.heap.size wr.heap.size wr u ((seenTo s k).map Int.ofNat) ∧ Fresh w wr) (fun _ k _ => p.length - (intOf k).toNat)
          case atStart => exact ⟨0, by omega, rfl, HE.out, hF0⟩
          case round =>
            clear HE hF0 h1
            obtain ⟨k, hk, rfl, hO, hF⟩ := hrel
            by_cases hkl : k < p.length
            · obtain ⟨hT1, hT2⟩ := bit_tests s k
              have hst := seenTo_step s k
              have hsn := seenTo_len s k
              cases hb : s.testBit k
              · rw [hb] at hT1 hT2 hst
                rw [if_neg (by simp), List.append_nil] at hst
                have HST := Lib.hid hst
                clear hb hst hsn
                go_wp2
                go_roundw
                case rel => exact ⟨k + 1, hkl, by go_num, by rw [HST.out]; exact hO, hF⟩
                case measure => simp [intOf]; omega
              · rw [hb] at hT1 hT2 hst
                rw [if_pos rfl] at hst
                have HST := Lib.hid (show (seenTo s (k + 1)).map Int.ofNat = (seenTo s k).map Int.ofNat ++ [(k : Int)] by rw [hst, List.map_append]; rfl)
                obtain ⟨xs, hxs⟩ : ∃ xs, xs = (seenTo s k).map Int.ofNat := ⟨_, rfl⟩
                have hxl : xs.length ≤ k := by rw [hxs]; simpa using hsn
                rw [← hxs] at hO HST
                have hss := hF.size
                clear hb hst hsn hxs
                go_wp2_with (at_builtin; refine wpList_append_ints _ rfl _ _ rfl w.heap.size _ _ xs rfl (hO.fresh ((Fresh.refl wr).alloc _)) ?_ _ [(k : Int)] rfl (Src.one wr (k : Int) _) ?_ ?_)
                · simp; omega
                · simp; omega
                intro v8 w8 hO8 hK8
                have hF8 : Fresh w w8 := (hF.alloc _).keepsTrans hK8 (fun i hi => hi)
                clear hO hK8
                go_wp2
                go_roundw
                case rel => exact ⟨k + 1, hkl, by go_num, by rw [HST.out]; exact hO8, hF8⟩
                case measure => simp [intOf]; omega
            · rw [show k = p.length by omega, HSE.out] at hO
              go_wp2
              go_ret
              exact ⟨_, rfl, by rw [HX.out]; exact hO, hF⟩
end Go.Proofs.Ytkicgodmgafkoaa
