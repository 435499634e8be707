/- The law FnLeftAfter, walked: it answers true. -/
import Derived.Test.YtipboajbakjokaaDraw6
import Derived.Test.YtipboajbakjokaaSameI
import Derived.Test.YtipboajbakjokaaAlive
namespace Go.Proofs.Ytipboajbakjokaa
open Go.RowKit

theorem left_min {p : List (List Int)} (hp : picB p = true) {r a b : Nat} (_hr : r ≤ 30) (ha : a < p.length) (hb : b < p.length) : ent (leftL p (min (r + 1) 30)) a b ≤ ent (leftL p r) a b := by
  by_cases h : r + 1 ≤ 30
  · rw [Nat.min_eq_left h]; exact left_le hp ha hb
  · rw [Nat.min_eq_right (by omega), show r = 30 by omega]; omega
theorem left_min_eq {p : List (List Int)} (hp : picB p = true) {r : Nat} (hr : p.length ≤ r) : leftL p (min (r + 1) 30) = leftL p r := by
  have := ((picB_iff p).1 hp).2.1
  exact left_stable hp (by omega) hr
theorem left_sq {p : List (List Int)} (hp : picB p = true) (r : Nat) : Sq p.length (leftL p r) := by
  have := pic_sq (leftL_pic hp r); rwa [leftL_len] at this

set_option maxRecDepth 100000 in
set_option maxHeartbeats 2000000 in
theorem fnLeftAfter_walk (w : World) (v : Value) (bs : List Int) (h : Bytes w v bs) (hb : ∀ x ∈ bs, 0 ≤ x ∧ x ≤ 255) :
    Calls Try.prog 10 #[v] w fun e w' => e = .returned (.bool true) ∧ Fresh w w' := by
  obtain ⟨a, cap, rfl⟩ := h.len
  have hbd := h.bound
  by_cases hl : bs.length ≤ 1048576
  case neg =>
    go_enter Try.func10, Try.ntmps10
    go_wp2
    go_ret
    exact ⟨rfl, Fresh.refl _⟩
  go_enter Try.func10, Try.ntmps10
  go_wp2_with fail
  refine (drawLeftAfter_any _ bs _ h hb).mono ?_
  rintro e w1 ⟨r, p, m, rfl, hp, hsp, hF⟩
  clear hsp h hb
  go_wp2_with fail
  refine (implLeftAfter_any _ p m _ hp).mono ?_
  rintro e w2 ⟨r2, rfl, hO2, hF2⟩
  have hL2 := hO2.rows
  have hp2 := hp.fresh hF2
  have hF2' := hF.trans hF2
  clear hO2 hF hF2 hp
  go_wp2_with fail
  refine (specLeftAfter_any _ p m _ hp2).mono ?_
  rintro e w3 ⟨r3, rfl, hO3, hF3⟩
  have hL3 := hL2.fresh hF3
  have hp3 := hp2.fresh hF3
  have hF3' := hF2'.trans hF3
  clear hL2 hp2 hF2' hF3
  go_wp2_with fail
  refine (sameRows_any _ _ (leftI p m) (leftI p m) _ hL3 hO3.rows).mono ?_
  rintro e w4 ⟨rfl, hF4⟩
  have hL4 := hL3.fresh hF4
  have hp4 := hp3.fresh hF4
  have hF4' := hF3'.trans hF4
  clear hL3 hO3 hp3 hF3' hF4
  obtain ⟨pa, pc, rfl⟩ := hp4.len
  by_cases hgood : (picB p && inB m 0 30) = true
  case neg =>
    have hE : leftI p m = [] := by rw [leftI, if_neg hgood]
    rw [hE] at hL4
    obtain ⟨la, lc, rfl⟩ := hL4.lenEq rfl
    clear hgood
    go_wp2_with fail
    refine (alive_any _).mono ?_
    rintro e w2 ⟨rfl, rfl⟩
    go_wp2
    go_ret
    exact ⟨rfl, hF4'⟩
  simp only [Bool.and_eq_true] at hgood
  obtain ⟨hpic, hm⟩ := hgood
  rw [inB_iff] at hm
  obtain ⟨q, rfl⟩ := Int.eq_ofNat_of_zero_le hm.1
  have hq : q ≤ 30 := by omega
  rw [leftI_in hpic hq] at hL4
  have hn5 := (picB_iff p).1 hpic
  obtain ⟨hn1, hn5, -⟩ := hn5
  have HP := Lib.hid hpic
  have HSX := Lib.hid (left_sq hpic q)
  obtain ⟨la, lc, rfl⟩ := hL4.lenEq HSX.out.1
  have hz : ((p.length : Int) == 0) = false := by rw [beq_eq_false_iff_ne]; omega
  clear hm hpic
  by_cases hq30 : q + 1 ≤ 30
  ·   go_wp2_with fail
      refine (specLeftAfter_any _ p _ _ hp4).mono ?_
      rintro e w5 ⟨r5, rfl, hO5, hF5⟩
      have hE : leftI p ((q : Int) + 1) = leftL p (min (q + 1) 30) := by
        rw [Nat.min_eq_left (by omega)]; exact leftI_in (m := q + 1) HP.out (by omega)
      rw [hE] at hO5
      have HSM := Lib.hid (left_sq HP.out (min (q + 1) 30))
      have hX5 := hL4.fresh hF5
      have hM5 := hO5.rows
      have hF5' := hF4'.trans hF5
      have hp5 := hp4.fresh hF5
      obtain ⟨ma, mc, rfl⟩ := hM5.lenEq HSM.out.1
      clear hE hL4 hO5 hF4' hF5 hp4
      go_wp2
      go_loopw [7] (fun i wr => ∃ k : Nat, k ≤ p.length ∧ i = .int .i64 k ∧ Fresh w5 wr) (fun i _ => p.length - (intOf i).toNat)
      case atStart => exact ⟨0, by omega, rfl, Fresh.refl _⟩
      case round =>
        obtain ⟨k, hk, rfl, hF⟩ := hrel
        by_cases hlt : k < p.length
        · have hdk : decide ((k : Int) < p.length) = true := decide_eq_true (by omega)
          go_wp2
          go_loopw [8] (fun i wr => ∃ j : Nat, j ≤ p.length ∧ i = .int .i64 j ∧ Fresh w5 wr) (fun i _ => p.length - (intOf i).toNat)
          case atStart => exact ⟨0, by omega, rfl, hF⟩
          case round =>
            clear hF
            obtain ⟨j, hj, rfl, hF⟩ := hrel
            by_cases hjl : j < p.length
            · obtain ⟨b1, o1, g1, q1, c1, rfl, hc1, hc2⟩ := (hM5.fresh hF).sq2n HSM.out hlt hjl
              obtain ⟨b2, o2, g2, q2, c2, rfl, hc3, hc4⟩ := (hX5.fresh hF).sq2n HSX.out hlt hjl
              obtain ⟨b3, o3, g3, q3, c3, heq, hc5, hc6⟩ := (hX5.fresh hF).sq2n HSX.out hjl hlt
              simp only [Option.some.injEq, Addr.mk.injEq, and_true] at heq
              obtain ⟨rfl, rfl⟩ := heq
              have hAB := left_min HP.out hq hlt hjl
              have hBC := left_sym HP.out q k j hlt hjl
              rw [← hBC] at hc6
              obtain ⟨A, hA⟩ : ∃ A, A = ent (leftL p (min (q + 1) 30)) k j := ⟨_, rfl⟩
              obtain ⟨B, hB⟩ : ∃ B, B = ent (leftL p q) k j := ⟨_, rfl⟩
              rw [← hA] at hc2 hAB
              rw [← hB] at hc4 hc6 hAB
              have hd : decide (B < A) = false := decide_eq_false (by omega)
              have hn0 : ((p.length : Int) != p.length) = false := by simp
              have hB0 : (B != B) = false := by simp
              have hk0 : (0 : Int) ≤ (k : Int) := Int.natCast_nonneg _
              have hk1 : (k : Int) < (p.length : Int) := by omega
              have hj0 : (0 : Int) ≤ (j : Int) := Int.natCast_nonneg _
              have hj1 : (j : Int) < (p.length : Int) := by omega
              clear hA hB hBC
              go_wp2
              go_quiet (fail)
              go_wp2
              have hFd := hF.drewN nq
              go_roundw
              case rel => exact ⟨j + 1, hjl, by go_num, hFd⟩
              case measure => simp [intOf]; omega
            · obtain ⟨b2, o2, g2, q2, c2, rfl, hc3, hc4⟩ := (hX5.fresh hF).sq2n HSX.out hlt hlt
              rw [left_refl HP.out q hlt] at hc4
              go_wp2
              go_roundw
              case rel => exact ⟨k + 1, hlt, by go_num, hF⟩
              case measure => simp [intOf]; omega
        · by_cases hqn : q < p.length
          · go_wp2
            go_ret
            exact ⟨rfl, hF5'.trans hF⟩
          · have hEQ := left_min_eq HP.out (by omega : p.length ≤ q)
            rw [hEQ] at hM5
            clear hEQ
            go_wp2_with fail
            refine (sameRows_any _ _ (leftL p q) (leftL p q) _ (hM5.fresh hF) (hX5.fresh hF)).mono ?_
            rintro e w6 ⟨rfl, hF6⟩
            go_wp2
            go_ret
            exact ⟨rfl, (hF5'.trans hF).trans hF6⟩
  ·   go_wp2_with fail
      refine (specLeftAfter_any _ p _ _ hp4).mono ?_
      rintro e w5 ⟨r5, rfl, hO5, hF5⟩
      have hE : leftI p (30) = leftL p (min (q + 1) 30) := by
        rw [Nat.min_eq_right (by omega)]; exact leftI_in (m := 30) HP.out (by omega)
      rw [hE] at hO5
      have HSM := Lib.hid (left_sq HP.out (min (q + 1) 30))
      have hX5 := hL4.fresh hF5
      have hM5 := hO5.rows
      have hF5' := hF4'.trans hF5
      have hp5 := hp4.fresh hF5
      obtain ⟨ma, mc, rfl⟩ := hM5.lenEq HSM.out.1
      clear hE hL4 hO5 hF4' hF5 hp4
      go_wp2
      go_loopw [7] (fun i wr => ∃ k : Nat, k ≤ p.length ∧ i = .int .i64 k ∧ Fresh w5 wr) (fun i _ => p.length - (intOf i).toNat)
      case atStart => exact ⟨0, by omega, rfl, Fresh.refl _⟩
      case round =>
        obtain ⟨k, hk, rfl, hF⟩ := hrel
        by_cases hlt : k < p.length
        · have hdk : decide ((k : Int) < p.length) = true := decide_eq_true (by omega)
          go_wp2
          go_loopw [8] (fun i wr => ∃ j : Nat, j ≤ p.length ∧ i = .int .i64 j ∧ Fresh w5 wr) (fun i _ => p.length - (intOf i).toNat)
          case atStart => exact ⟨0, by omega, rfl, hF⟩
          case round =>
            clear hF
            obtain ⟨j, hj, rfl, hF⟩ := hrel
            by_cases hjl : j < p.length
            · obtain ⟨b1, o1, g1, q1, c1, rfl, hc1, hc2⟩ := (hM5.fresh hF).sq2n HSM.out hlt hjl
              obtain ⟨b2, o2, g2, q2, c2, rfl, hc3, hc4⟩ := (hX5.fresh hF).sq2n HSX.out hlt hjl
              obtain ⟨b3, o3, g3, q3, c3, heq, hc5, hc6⟩ := (hX5.fresh hF).sq2n HSX.out hjl hlt
              simp only [Option.some.injEq, Addr.mk.injEq, and_true] at heq
              obtain ⟨rfl, rfl⟩ := heq
              have hAB := left_min HP.out hq hlt hjl
              have hBC := left_sym HP.out q k j hlt hjl
              rw [← hBC] at hc6
              obtain ⟨A, hA⟩ : ∃ A, A = ent (leftL p (min (q + 1) 30)) k j := ⟨_, rfl⟩
              obtain ⟨B, hB⟩ : ∃ B, B = ent (leftL p q) k j := ⟨_, rfl⟩
              rw [← hA] at hc2 hAB
              rw [← hB] at hc4 hc6 hAB
              have hd : decide (B < A) = false := decide_eq_false (by omega)
              have hn0 : ((p.length : Int) != p.length) = false := by simp
              have hB0 : (B != B) = false := by simp
              have hk0 : (0 : Int) ≤ (k : Int) := Int.natCast_nonneg _
              have hk1 : (k : Int) < (p.length : Int) := by omega
              have hj0 : (0 : Int) ≤ (j : Int) := Int.natCast_nonneg _
              have hj1 : (j : Int) < (p.length : Int) := by omega
              clear hA hB hBC
              go_wp2
              go_quiet (fail)
              go_wp2
              have hFd := hF.drewN nq
              go_roundw
              case rel => exact ⟨j + 1, hjl, by go_num, hFd⟩
              case measure => simp [intOf]; omega
            · obtain ⟨b2, o2, g2, q2, c2, rfl, hc3, hc4⟩ := (hX5.fresh hF).sq2n HSX.out hlt hlt
              rw [left_refl HP.out q hlt] at hc4
              go_wp2
              go_roundw
              case rel => exact ⟨k + 1, hlt, by go_num, hF⟩
              case measure => simp [intOf]; omega
        · by_cases hqn : q < p.length
          · go_wp2
            go_ret
            exact ⟨rfl, hF5'.trans hF⟩
          · have hEQ := left_min_eq HP.out (by omega : p.length ≤ q)
            rw [hEQ] at hM5
            clear hEQ
            go_wp2_with fail
            refine (sameRows_any _ _ (leftL p q) (leftL p q) _ (hM5.fresh hF) (hX5.fresh hF)).mono ?_
            rintro e w6 ⟨rfl, hF6⟩
            go_wp2
            go_ret
            exact ⟨rfl, (hF5'.trans hF).trans hF6⟩
end Go.Proofs.Ytipboajbakjokaa
