/- The law FnSameRows, walked: it answers true. -/
import Derived.Test.YtipboajbakjokaaDraw6
import Derived.Test.YtipboajbakjokaaSameL
import Derived.Test.YtipboajbakjokaaAlive
namespace Go.Proofs.Ytipboajbakjokaa
open Go.RowKit

theorem left_sq' {p : List (List Int)} (hp : picB p = true) (r : Nat) : Sq p.length (leftL p r) := by
  have := pic_sq (leftL_pic hp r); rwa [leftL_len] at this
theorem leftI_own {p : List (List Int)} (hp : picB p = true) : leftI p p.length = leftL p p.length := leftI_in hp (by have := ((picB_iff p).1 hp).2.1; omega)

set_option maxRecDepth 100000 in
set_option maxHeartbeats 2000000 in
theorem fnSameRows_walk (w : World) (v : Value) (bs : List Int) (h : Bytes w v bs) (hb : ∀ x ∈ bs, 0 ≤ x ∧ x ≤ 255) (v2 : Value) (ms : List Int) (h2 : Bytes w v2 ms) (hb2 : ∀ x ∈ ms, 0 ≤ x ∧ x ≤ 255) :
    Calls Try.prog 14 #[v, v2] w fun e w' => e = .returned (.bool true) ∧ Fresh w w' := by
  obtain ⟨a, cap, rfl⟩ := h.len
  have hbd := h.bound
  obtain ⟨a2, cap2, rfl⟩ := h2.len
  have hbd2 := h2.bound
  by_cases hl : bs.length ≤ 1048576
  case neg =>
    go_enter Try.func14, Try.ntmps14
    go_wp2
    go_ret
    exact ⟨rfl, Fresh.refl _⟩
  by_cases hl2 : ms.length ≤ 1048576
  case neg =>
    go_enter Try.func14, Try.ntmps14
    go_wp2
    go_ret
    exact ⟨rfl, Fresh.refl _⟩
  have HB2 := Lib.hid hb2
  clear hb2
  go_enter Try.func14, Try.ntmps14
  go_wp2_with fail
  refine (drawSameRows_any _ bs _ h hb).mono ?_
  rintro e w1 ⟨r, p, rfl, hp, hsp, hF⟩
  clear hsp h hb
  go_wp2_with fail
  refine (implSameRows_any _ p _ hp).mono ?_
  rintro e w2 ⟨r2, rfl, hO2, hF2⟩
  have hL2 := hO2.rows
  have hp2 := hp.fresh hF2
  have hF2' := hF.trans hF2
  clear hO2 hF hF2 hp
  go_wp2_with fail
  refine (specSameRows_any _ p _ hp2).mono ?_
  rintro e w3 ⟨r3, rfl, hO3, hF3⟩
  have hL3 := hL2.fresh hF3
  have hp3 := hp2.fresh hF3
  have hF3' := hF2'.trans hF3
  clear hL2 hp2 hF2' hF3
  go_wp2_with fail
  refine (sameRows_any _ _ (leftI p p.length) (leftI p p.length) _ hL3 hO3.rows).mono ?_
  rintro e w4 ⟨rfl, hF4⟩
  have hL4 := hL3.fresh hF4
  have hp4 := hp3.fresh hF4
  have hF4' := hF3'.trans hF4
  clear hL3 hO3 hp3 hF3' hF4
  obtain ⟨pa, pc, rfl⟩ := hp4.len
  cases hpic : picB p
  · rw [leftI_noPic hpic] at hL4
    obtain ⟨la, lc, rfl⟩ := hL4.lenEq rfl
    go_wp2_with fail
    refine (implPictureOk_any _ p _ hp4).mono ?_
    rintro e w5 ⟨rfl, rfl⟩
    rw [hpic]
    clear hpic
    go_wp2_with fail
    refine (alive_any _).mono ?_
    rintro e w2 ⟨rfl, rfl⟩
    go_wp2
    go_ret
    exact ⟨rfl, hF4'⟩
  have hn5 := (picB_iff p).1 hpic
  obtain ⟨hn1, hn5, -⟩ := hn5
  have HP := Lib.hid hpic
  have HSX := Lib.hid (left_sq' hpic p.length)
  rw [leftI_own hpic] at hL4
  obtain ⟨la, lc, rfl⟩ := hL4.lenEq HSX.out.1
  have hz : ((p.length : Int) == 0) = false := by rw [beq_eq_false_iff_ne]; omega
  clear hpic
  go_wp2
  go_loop [7] (fun i => ∃ x : Nat, x ≤ p.length ∧ i = .int .i64 x) (fun i => p.length - (intOf i).toNat)
  case atStart => exact ⟨0, by omega, rfl⟩
  case round =>
    obtain ⟨x, hx, rfl⟩ := hrel
    by_cases hxl : x < p.length
    · have hdx : decide ((x : Int) < p.length) = true := decide_eq_true (by omega)
      go_wp2
      go_loop [8] (fun i => ∃ y : Nat, y ≤ p.length ∧ i = .int .i64 y) (fun i => p.length - (intOf i).toNat)
      case atStart => exact ⟨0, by omega, rfl⟩
      case round =>
        obtain ⟨y, hy, rfl⟩ := hrel
        by_cases hyl : y < p.length
        · have hdy : decide ((y : Int) < p.length) = true := decide_eq_true (by omega)
          go_wp2
          go_loop [9] (fun i => ∃ z : Nat, z ≤ p.length ∧ i = .int .i64 z) (fun i => p.length - (intOf i).toNat)
          case atStart => exact ⟨0, by omega, rfl⟩
          case round =>
            obtain ⟨z, hz', rfl⟩ := hrel
            by_cases hzl : z < p.length
            · obtain ⟨b1, o1, g1, q1, c1, rfl, hc1, hc2⟩ := hL4.sq2n HSX.out hxl hyl
              obtain ⟨b2, o2, g2, q2, c2, heq, hc3, hc4⟩ := hL4.sq2n HSX.out hyl hzl
              simp only [Option.some.injEq, Addr.mk.injEq, and_true] at heq
              obtain ⟨rfl, rfl⟩ := heq
              obtain ⟨b2, o2, g3, q3, c3, heq, hc5, hc6⟩ := hL4.sq2n HSX.out hxl hzl
              simp only [Option.some.injEq, Addr.mk.injEq, and_true] at heq
              obtain ⟨rfl, rfl⟩ := heq
              rw [hc1] at hc5
              simp only [Option.some.injEq, Value.slice.injEq, Addr.mk.injEq, true_and, and_true] at hc5
              obtain ⟨⟨rfl, rfl⟩, rfl⟩ := hc5
              have htr := fun e1 e2 => left_trans HP.out p.length hxl hyl hzl e1 e2
              have hA := left_bit HP.out (k := p.length) hxl hyl
              have hB := left_bit HP.out (k := p.length) hyl hzl
              obtain ⟨A, eA⟩ : ∃ A, A = ent (leftL p p.length) x y := ⟨_, rfl⟩
              obtain ⟨B, eB⟩ : ∃ B, B = ent (leftL p p.length) y z := ⟨_, rfl⟩
              obtain ⟨C, eC⟩ : ∃ C, C = ent (leftL p p.length) x z := ⟨_, rfl⟩
              rw [← eA] at hc2 hA htr
              rw [← eB] at hc4 hB htr
              rw [← eC] at hc6 htr
              clear eA eB eC
              rcases hA with rfl | rfl
              · clear htr hc4 hc6 hc3
                go_wp2
                go_round
                case rel => exact ⟨z + 1, hzl, by go_num⟩
                case measure => simp [intOf]; omega
              · rcases hB with rfl | rfl
                · clear htr hc6
                  go_wp2
                  go_round
                  case rel => exact ⟨z + 1, hzl, by go_num⟩
                  case measure => simp [intOf]; omega
                · obtain rfl := htr rfl rfl
                  go_wp2
                  go_round
                  case rel => exact ⟨z + 1, hzl, by go_num⟩
                  case measure => simp [intOf]; omega
            · go_wp2
              go_round
              case rel => exact ⟨y + 1, hyl, by go_num⟩
              case measure => simp [intOf]; omega
        · go_wp2
          go_round
          case rel => exact ⟨x + 1, hxl, by go_num⟩
          case measure => simp [intOf]; omega
    · go_wp2_with fail
      refine (drawLikeOk_any _ ms _ (h2.fresh hF4') HB2.out).mono ?_
      rintro e w5 ⟨rq, rl, q, l, rfl, hq, hll, hsq, hsl, hF5⟩
      have hL5 := hL4.fresh hF5
      have hp5 := hp4.fresh hF5
      have hF5' := hF4'.trans hF5
      clear hL4 hp4 hF4' hF5 hsq hsl h2
      go_wp2_with fail
      refine (implLikeOk_any _ _ q l _ hq hll).mono ?_
      rintro e w6 ⟨rfl, hF6⟩
      have hL6 := hL5.fresh hF6
      have hp6 := hp5.fresh hF6
      have hq6 := hq.fresh hF6
      have hll6 := hll.fresh hF6
      have hF6' := hF5'.trans hF6
      clear hL5 hp5 hF5' hF6 hq hll
      cases hlk : likeB q l
      · go_wp2_with fail
        refine (implLikeOk_any _ _ p _ _ hp6 hL6).mono ?_
        rintro e w7 ⟨rfl, hF7⟩
        rw [like_left HP.out]
        go_wp2
        go_ret
        exact ⟨rfl, hF6'.trans hF7⟩
      · have HLK := Lib.hid hlk
        obtain ⟨hqp, hql, hqb, -⟩ := likeB_iff.1 hlk
        have HQP := Lib.hid hqp
        have HSL := Lib.hid (show Sq q.length l by have := pic_sq hqb; rwa [hql] at this)
        have HSQ := Lib.hid (left_sq' hqp q.length)
        have HEQ := Lib.hid (leftI_own hqp)
        have hqn := ((picB_iff q).1 hqp).2.1
        obtain ⟨qa, qc, rfl⟩ := hq6.len
        obtain ⟨ya, yc, rfl⟩ := hll6.lenEq hql
        clear hlk hqp hql hqb
        go_wp2_with fail
        refine (specSameRows_any _ q _ hq6).mono ?_
        rintro e w7 ⟨r7, rfl, hO7, hF7⟩
        have hS7 := hO7.rows
        rw [HEQ.out] at hS7
        obtain ⟨sa, sc, rfl⟩ := hS7.lenEq HSQ.out.1
        have hL7 := hL6.fresh hF7
        have hp7 := hp6.fresh hF7
        have hll7 := hll6.fresh hF7
        have hF7' := hF6'.trans hF7
        clear hL6 hp6 hll6 hF6' hF7 hO7 hq6
        go_wp2
        go_loopw [13] (fun i wr => ∃ k : Nat, k ≤ q.length ∧ i = .int .i64 k ∧ Fresh w7 wr) (fun i _ => q.length - (intOf i).toNat)
        case atStart => exact ⟨0, by omega, rfl, Fresh.refl _⟩
        case round =>
          obtain ⟨k, hk, rfl, hF⟩ := hrel
          by_cases hlt : k < q.length
          · have hdk : decide ((k : Int) < q.length) = true := decide_eq_true (by omega)
            go_wp2
            go_loopw [14] (fun i wr => ∃ j : Nat, j ≤ q.length ∧ i = .int .i64 j ∧ Fresh w7 wr) (fun i _ => q.length - (intOf i).toNat)
            case atStart => exact ⟨0, by omega, rfl, hF⟩
            case round =>
              clear hF
              obtain ⟨j, hj, rfl, hF⟩ := hrel
              by_cases hjl : j < q.length
              · obtain ⟨b1, o1, g1, q1, c1, rfl, hc1, hc2⟩ := (hll7.fresh hF).sq2n HSL.out hlt hjl
                obtain ⟨b2, o2, g2, q2, c2, rfl, hc3, hc4⟩ := (hS7.fresh hF).sq2n HSQ.out hlt hjl
                have hAB := like_le HLK.out hlt hjl
                obtain ⟨A, hA⟩ : ∃ A, A = ent l k j := ⟨_, rfl⟩
                obtain ⟨B, hB⟩ : ∃ B, B = ent (leftL q q.length) k j := ⟨_, rfl⟩
                rw [← hA] at hc2 hAB
                rw [← hB] at hc4 hAB
                have hd : decide (B < A) = false := decide_eq_false (by omega)
                have hn0 : ((q.length : Int) != q.length) = false := by simp
                have hk0 : (0 : Int) ≤ (k : Int) := Int.natCast_nonneg _
                have hk1 : (k : Int) < (q.length : Int) := by omega
                have hj0 : (0 : Int) ≤ (j : Int) := Int.natCast_nonneg _
                have hj1 : (j : Int) < (q.length : Int) := by omega
                clear hA hB
                go_wp2
                go_quiet (fail)
                go_wp2
                have hFd := hF.drewN nq
                go_roundw
                case rel => exact ⟨j + 1, hjl, by go_num, hFd⟩
                case measure => simp [intOf]; omega
              · go_wp2
                go_roundw
                case rel => exact ⟨k + 1, hlt, by go_num, hF⟩
                case measure => simp [intOf]; omega
          · go_wp2_with fail
            refine (implLikeOk_any _ _ p _ _ (hp7.fresh hF) (hL7.fresh hF)).mono ?_
            rintro e w8 ⟨rfl, hF8⟩
            rw [like_left HP.out]
            go_wp2
            go_ret
            exact ⟨rfl, (hF7'.trans hF).trans hF8⟩
end Go.Proofs.Ytipboajbakjokaa
