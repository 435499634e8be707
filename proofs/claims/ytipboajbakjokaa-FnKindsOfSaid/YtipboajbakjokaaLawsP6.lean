/- The law FnKindsOf, walked: it answers true. -/
import Derived.Test.YtipboajbakjokaaDraw6
import Derived.Test.YtipboajbakjokaaSameL
import Derived.Test.YtipboajbakjokaaAlive
import Derived.Deep.RegionHeld3
namespace Go.Proofs.Ytipboajbakjokaa
open Go.RowKit

theorem kind_same {p : List (List Int)} (hp : picB p = true) {k j : Nat} (hk : k < p.length) (hj : j < p.length) : (((kindN p k : Nat) : Int) == ((kindN p j : Nat) : Int)) = sameB p k j := by
  rw [sameB_in ((nodeB_iff p k).2 ⟨hp, by omega, by omega⟩) ((nodeB_iff p j).2 ⟨hp, by omega, by omega⟩), Bool.eq_iff_iff, beq_iff_eq, beq_iff_eq, ← kindN_eq hp hk hj]
  omega

set_option maxHeartbeats 2000000 in
theorem fnKindsOf_walk (w : World) (v : Value) (bs : List Int) (h : Bytes w v bs) (hb : ∀ x ∈ bs, 0 ≤ x ∧ x ≤ 255) :
    Calls Try.prog 13 #[v] w fun e w' => e = .returned (.bool true) ∧ Fresh w w' := by
  obtain ⟨a, cap, rfl⟩ := h.len
  have hbd := h.bound
  by_cases hl : bs.length ≤ 1048576
  case neg =>
    go_enter Try.func13, Try.ntmps13
    go_wp2
    go_ret
    exact ⟨rfl, Fresh.refl _⟩
  go_enter Try.func13, Try.ntmps13
  go_wp2_with fail
  refine (drawKindsOf_any _ bs _ h hb).mono ?_
  rintro e w1 ⟨r, p, rfl, hp, hsp, hF⟩
  clear hsp h hb
  go_wp2_with fail
  refine (implKindsOf_any _ p _ hp).mono ?_
  rintro e w2 ⟨r2, rfl, hO2, hF2⟩
  have hL2 := hO2.ints
  have hp2 := hp.fresh hF2
  have hF2' := hF.trans hF2
  clear hO2 hF hF2 hp
  go_wp2_with fail
  refine (specKindsOf_any _ p _ hp2).mono ?_
  rintro e w3 ⟨r3, rfl, hO3, hF3⟩
  have hL3 := hL2.fresh hF3
  have hp3 := hp2.fresh hF3
  have hF3' := hF2'.trans hF3
  clear hL2 hp2 hF2' hF3
  go_wp2_with fail
  refine (sameInts_any _ _ (kindsI p) (kindsI p) _ hL3 hO3.ints).mono ?_
  rintro e w4 ⟨rfl, hF4⟩
  have hL4 := hL3.fresh hF4
  have hp4 := hp3.fresh hF4
  have hF4' := hF3'.trans hF4
  clear hL3 hO3 hp3 hF3' hF4
  obtain ⟨pa, pc, rfl⟩ := hp4.len
  cases hpic : picB p
  · rw [kindsI_no hpic] at hL4
    obtain ⟨la, lc, rfl⟩ := hL4.len
    go_wp2_with fail
    refine (implPictureOk_any _ p _ hp4).mono ?_
    rintro e w5 ⟨rfl, rfl⟩
    rw [hpic]
    clear hpic
    go_wp2_with fail
    refine (alive_any _).mono ?_
    rintro e w2 ⟨rfl, rfl⟩
    go_wp2
    go_ret
    exact ⟨rfl, hF4'⟩
  · rw [kindsI_in hpic] at hL4
    have hn5 := (picB_iff p).1 hpic
    obtain ⟨hn1, hn5, -⟩ := hn5
    have HP := Lib.hid hpic
    obtain ⟨la, lc, hlv⟩ := hL4.len
    rw [kindsL_len] at hlv
    subst hlv
    have hz : ((p.length : Int) == 0) = false := by rw [beq_eq_false_iff_ne]; omega
    clear hpic
    go_wp2
    go_loopw [5] (fun i wr => ∃ k : Nat, k ≤ p.length ∧ i = .int .i64 k ∧ Fresh w4 wr) (fun i _ => p.length - (intOf i).toNat)
    case atStart => exact ⟨0, by omega, rfl, Fresh.refl _⟩
    case round =>
      obtain ⟨k, hk, rfl, hF⟩ := hrel
      obtain ⟨wo, rfl⟩ : ∃ wo : World, wo = wr := ⟨_, rfl⟩
      by_cases hlt : k < p.length
      · have hks := kindN_spec HP.out hlt
        have hkk := kindN_kind HP.out hlt
        have hcell : ∀ (w' : World), Fresh w4 w' → ∀ j, j < p.length → ∃ b o, la = some ⟨b, o, none⟩ ∧ w'.cell? ⟨b, o + j, none⟩ = some (.int .i64 ((kindN p j : Nat) : Int)) := by
          intro w' hF' j hj
          obtain ⟨b, off, cap2, heq, hc⟩ := (hL4.fresh hF').at (k := j) (by rw [kindsL_len]; exact hj)
          simp only [Value.slice.injEq] at heq
          refine ⟨b, off, heq.1, ?_⟩
          have := hc j (by rw [kindsL_len]; exact hj)
          rw [kindsL_get] at this
          exact this
        have HC := Lib.hid hcell
        clear hcell
        obtain ⟨b1, o1, rfl, hc1⟩ := HC.out wo hF k hlt
        obtain ⟨b2, o2, heq, hc2⟩ := HC.out wo hF (kindN p k) (by omega)
        simp only [Option.some.injEq, Addr.mk.injEq, and_true] at heq
        obtain ⟨rfl, rfl⟩ := heq
        rw [hkk] at hc2
        have hka := hks.1
        have HKS := Lib.hid (fun j (hj : j < p.length) => kind_same HP.out hlt hj)
        have hdec : decide (k < kindN p k) = false := decide_eq_false (by omega)
        have HC1 := Lib.hid hc1
        obtain ⟨m, hm⟩ : ∃ m, m = kindN p k := ⟨_, rfl⟩
        rw [← hm] at hc1 hc2 hka hdec HKS
        have hdec2 : decide ((k : Int) < (m : Int)) = false := decide_eq_false (by omega)
        have hne : ((m : Int) != (m : Int)) = false := by simp
        have hml : m < p.length := by omega
        have hdk : decide ((k : Int) < p.length) = true := decide_eq_true (by omega)
        have HM := Lib.hid hm.symm
        clear hm hks hkk HC1
        go_wp2
        go_quiet (fail)
        go_wp2
        have hFd := hF.drewN nq
        go_loopw [6] (fun i wr => ∃ j : Nat, j ≤ p.length ∧ i = .int .i64 j ∧ Fresh w4 wr) (fun i _ => p.length - (intOf i).toNat)
        case atStart => exact ⟨0, by omega, rfl, hFd⟩
        case round =>
          clear hF hFd hc1 hc2
          obtain ⟨j, hj, rfl, hF⟩ := hrel
          obtain ⟨wb, rfl⟩ : ∃ wb : World, wb = wr := ⟨_, rfl⟩
          by_cases hjl : j < p.length
          · obtain ⟨b3, o3, heq, hc1⟩ := HC.out wb hF k hlt
            simp only [Option.some.injEq, Addr.mk.injEq, and_true] at heq
            obtain ⟨rfl, rfl⟩ := heq
            obtain ⟨b3, o3, heq, hc2⟩ := HC.out wb hF j hjl
            simp only [Option.some.injEq, Addr.mk.injEq, and_true] at heq
            obtain ⟨rfl, rfl⟩ := heq
            rw [HM.out] at hc1
            have hks := HKS.out j hjl
            obtain ⟨m2, hm2⟩ : ∃ m2, m2 = kindN p j := ⟨_, rfl⟩
            rw [← hm2] at hc2 hks
            have HS := Lib.hid hks
            have hpb := hp4.fresh hF
            have HPB := Lib.hid hpb
            clear hm2 hks hpb
            go_wp2
            go_region_held3 (fun w' => w'.cell? ⟨b1, o1 + k, none⟩ = some (.int .i64 (m : Int)) ∧ w'.cell? ⟨b1, o1 + j, none⟩ = some (.int .i64 (m2 : Int)) ∧ Fresh wb w')
              (first | exact ⟨hc1, hc2, Fresh.refl _⟩ | exact ⟨hc1, hc2, (Fresh.refl _).drew⟩ | exact ⟨hF7.cell (w := wb.drew) hc1, hF7.cell (w := wb.drew) hc2, ((Fresh.refl wb).drew).trans hF7⟩ | go_keep)
              (first | (go_at_call 29; refine (implSameAt_any _ p k j _ (HPB.out.fresh ((Fresh.refl _).drew))).mono ?_; rintro e w7 ⟨rfl, hF7⟩; rw [← HS.out]))
            have hF8 := (hF.trans ((Fresh.refl wb).drew)).trans hF7
            clear hF hF7 hc1 hc2
            go_wp2
            go_roundw
            case rel => exact ⟨j + 1, hjl, by go_num, hF8⟩
            case measure => simp [intOf]; omega
          · go_wp2
            go_roundw
            case rel => exact ⟨k + 1, hlt, by go_num, hF⟩
            case measure => simp [intOf]; omega
      · go_wp2
        go_ret
        exact ⟨rfl, hF4'.trans hF⟩
end Go.Proofs.Ytipboajbakjokaa
