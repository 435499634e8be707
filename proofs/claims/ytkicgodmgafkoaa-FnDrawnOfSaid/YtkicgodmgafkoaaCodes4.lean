/- What the program's and the reference's functions on codes answer: how deep a set is; full sets; filled sets. -/
import Derived.Test.YtkicgodmgafkoaaCodes3
namespace Go.Proofs.Ytkicgodmgafkoaa
open Go.RowKit

/-! ### how deep a set is -/
def dpTo (l : List Nat) (k : Nat) : Nat := maxD (l.take k)
theorem dpTo_step (l : List Nat) (k : Nat) (hk : k < l.length) : (if ((dpTo l k : Nat) : Int) < ((deepN l[k] : Nat) : Int) + 1 then ((deepN l[k] : Nat) : Int) + 1 else ((dpTo l k : Nat) : Int)) = ((dpTo l (k + 1) : Nat) : Int) := by
  rw [dpTo, dpTo, List.take_succ_eq_append_getElem hk, maxD_snoc]; split <;> omega
theorem dpTo_le (n k : Nat) : dpTo (memL n) k ≤ 5 := maxD_le _ _ fun m hm => by
  have := memL_mem (List.mem_of_mem_take hm)
  have := deepN_bd (n := m) (by omega)
  omega
theorem dpTo_all (n k : Nat) (hk : ¬ k < (memL n).length) : dpTo (memL n) k = deepN n := by
  rw [dpTo, List.take_of_length_le (by omega), deepN_eq]
theorem memL_get_mem (n k : Nat) (hk : k < (memL n).length) : (memL n)[k] < n := mem_lt (List.getElem_mem hk)

set_option maxHeartbeats 400000 in
theorem deepOf_any (K : Nat) : ∀ (s : Int) (_ : 0 ≤ s) (_ : s ≤ 65535) (_ : s < K) (w : World),
    Calls Try.prog 52 #[.int .i64 s] w fun e w' => e = .returned (.int .i64 ((deepN s.toNat : Nat) : Int)) ∧ Fresh w w' := by
  induction K with
  | zero =>
    intro s h0 h1 h2 w
    exact absurd h2 (by omega)
  | succ K ih =>
    intro s h0 h1 hK w
    have IH := Lib.hid ih
    clear ih
    have hlen := memL_len s.toNat
    have hall := dpTo_all s.toNat
    have hb := dpTo_le s.toNat
    have hg := memL_get_lt s.toNat
    have hg2 := memL_get_mem s.toNat
    have hm := membersOf_any s h0 h1 w
    obtain ⟨l, hl⟩ : ∃ l, l = memL s.toNat := ⟨_, rfl⟩
    rw [← hl] at hlen hall hb hg hm hg2
    clear hl
    have HA := Lib.hid hall
    have HB := Lib.hid hb
    have HG := Lib.hid hg
    have HG2 := Lib.hid hg2
    have HM := Lib.hid hm
    clear hall hb hg hm hg2
    go_enter Try.func52, Try.ntmps52
    go_wp2_with fail
    refine HM.out.mono ?_
    rintro e w1 ⟨r, rfl, hO, hF⟩
    clear HM
    obtain ⟨a, cap, rfl⟩ := hO.natLen
    go_wp2
    go_loopw [3, 9] (fun v i wr => ∃ k : Nat, k ≤ l.length ∧ i = .int .i64 k ∧ v = .int .i64 ((dpTo l k : Nat) : Int) ∧ Fresh w1 wr) (fun _ i _ => l.length - (intOf i).toNat)
    case atStart => exact ⟨0, by omega, rfl, rfl, Fresh.refl _⟩
    case round =>
      obtain ⟨k, hk, rfl, rfl, hF2⟩ := hrel
      by_cases hlt : k < l.length
      · obtain ⟨b, off, cap2, heq, hc⟩ := (hO.fresh hF2).natAt hlt
        simp only [Value.slice.injEq, true_and] at heq; obtain ⟨rfl, rfl⟩ := heq
        have H3 := Lib.hid (dpTo_step l k hlt)
        have g1 := HG.out k hlt
        have g2 := HG2.out k hlt
        have g3 := HB.out k
        have g4 := deepN_bd (n := l[k]) (by omega)
        obtain ⟨x, hx⟩ : ∃ x, x = l[k] := ⟨_, rfl⟩
        rw [← hx] at hc H3 g1 g2 g4
        clear hx
        go_wp2_with fail
        refine (IH.out (x : Int) (by omega) (by omega) (by omega) _).mono ?_
        rintro e w2 ⟨rfl, hF3⟩
        rw [Int.toNat_natCast]
        go_wp2
        go_roundw
        case rel => exact ⟨k + 1, by omega, by go_num, by rw [H3.out], hF2.trans hF3⟩
        case measure => simp [intOf]; omega
      · have H3 := Lib.hid (HA.out k hlt)
        go_wp2
        go_ret
        exact ⟨ret_int (by rw [H3.out]), hF.trans hF2⟩

theorem deepI_in {s : Int} (h : isCodeB s = true) : deepI s = ((deepN s.toNat : Nat) : Int) := by simp [deepI, h]
theorem deepI_out {s : Int} (h : isCodeB s = false) : deepI s = -1 := by simp [deepI, h]

set_option maxHeartbeats 400000 in
theorem implDeepOf_any (s : Int) (w : World) :
    Calls Try.prog 32 #[.int .i64 s] w fun e w' => e = .returned (.int .i64 (deepI s)) ∧ Fresh w w' := by
  by_cases h : isCodeB s = true
  · obtain ⟨h0, h1⟩ := (isCodeB_iff s).1 h
    have HX := Lib.hid (deepI_in h)
    go_enter Try.func32, Try.ntmps32
    go_wp2_with (first | (go_at_call 51; refine (isCode_any _ _).mono ?_; rintro e w' ⟨rfl, rfl⟩) | (go_at_call 52; refine (deepOf_any 65536 _ h0 h1 (by omega) _).mono ?_; rintro e w1 ⟨rfl, hF⟩))
    go_ret
    exact ⟨ret_int HX.out.symm, by assumption⟩
  · have h : isCodeB s = false := by simpa using h
    have HX := Lib.hid (deepI_out h)
    go_enter Try.func32, Try.ntmps32
    go_wp2_with (go_at_call 51; refine (isCode_any _ _).mono ?_; rintro e w' ⟨rfl, rfl⟩)
    go_ret
    exact ⟨ret_int HX.out.symm, Fresh.refl _⟩


/-! ### full sets -/
theorem allI_code {s : Int} (h : isCodeB s = true) : isCodeB (allI s) = true := by
  have := allN_lt s.toNat
  rw [isCodeB_iff]; simp [allI, h]; omega
theorem full_test {s : Int} (h : isCodeB s = true) : (bits .andNot .i64 ((allN s.toNat : Nat) : Int) s == 0) = fullB s := by
  have h1 := allI_code h
  have e : allI s = ((allN s.toNat : Nat) : Int) := by simp [allI, h]
  rw [← e, sub_andNot h1 h, fullB, h, Bool.true_and]
theorem fullB_in {s : Int} (h : isCodeB s = true) : subB (allI s) s = fullB s := by simp [fullB, h]
theorem fullB_out {s : Int} (h : isCodeB s = false) : fullB s = false := by simp [fullB, h]


set_option maxHeartbeats 400000 in
theorem specFullOk_any (s : Int) (w : World) :
    Calls Try.prog 77 #[.int .i64 s] w fun e w' => e = .returned (.bool (fullB s)) ∧ Fresh w w' := by
  by_cases h : isCodeB s = true
  · have HX := Lib.hid (fullB_in h)
    go_enter Try.func77, Try.ntmps77
    go_wp2_with (first | (go_at_call 61; refine (specCodeOk_any _ _).mono ?_; rintro e w' ⟨rfl, rfl⟩) | (go_at_call 78; refine (specAllMembersOf_any _ _).mono ?_; rintro e w1 ⟨rfl, hF⟩) | (go_at_call 89; refine (specWithinOf_any _ _ _).mono ?_; rintro e w' ⟨rfl, rfl⟩))
    go_ret
    exact ⟨ret_bool HX.out, by assumption⟩
  · have h : isCodeB s = false := by simpa using h
    have HX := Lib.hid (fullB_out h)
    go_enter Try.func77, Try.ntmps77
    go_wp2_with (go_at_call 61; refine (specCodeOk_any _ _).mono ?_; rintro e w' ⟨rfl, rfl⟩)
    go_ret
    exact ⟨ret_bool HX.out.symm, Fresh.refl _⟩

/-! ### filled sets -/
theorem fullB_nat {n : Nat} (hn : n < 65536) : fullB (n : Int) = isFull n := by
  have h : isCodeB (n : Int) = true := (isCodeB_iff _).2 (by omega)
  have h1 := allI_code h
  rw [fullB, h, Bool.true_and, subB, h1, h, allI, if_pos h]
  simp [isFull]
theorem neq_test {n : Nat} (hn : n < 65536) : (bits .andNot .i64 ((allN n : Nat) : Int) (n : Int) != 0) = !isFull n := by
  have h : isCodeB (n : Int) = true := (isCodeB_iff _).2 (by omega)
  have := full_test h
  rw [Int.toNat_natCast, fullB_nat hn] at this
  rw [bne, this]
/-- what the loops of filledOf keep -/
def FillRel (n0 n : Nat) : Prop := n < 65536 ∧ fillN n = fillN n0
theorem FillRel.step {n0 n : Nat} (h : FillRel n0 n) (hf : isFull n = false) : FillRel n0 (n ||| allN n) ∧ n < n ||| allN n ∧ n ||| allN n < 65536 :=
  ⟨⟨or_lt16 h.1 (allN_lt n), by rw [← fillN_step h.1 hf]; exact h.2⟩, notFull_gt hf, or_lt16 h.1 (allN_lt n)⟩
theorem fillI_in {s : Int} (h : isCodeB s = true) : fillI s = ((fillN s.toNat : Nat) : Int) := by simp [fillI, h]
theorem fillI_out {s : Int} (h : isCodeB s = false) : fillI s = -1 := by simp [fillI, h]

set_option maxHeartbeats 400000 in
theorem filledOf_any (n0 : Nat) (hn : n0 < 65536) (w : World) :
    Calls Try.prog 59 #[.int .i64 (n0 : Int)] w fun e w' => e = .returned (.int .i64 ((fillN n0 : Nat) : Int)) ∧ Fresh w w' := by
  go_enter Try.func59, Try.ntmps59
  go_wp2
  go_loopw [0] (fun s wr => ∃ n : Nat, s = .int .i64 (n : Int) ∧ FillRel n0 n ∧ Fresh w wr) (fun s _ => 65536 - (intOf s).toNat)
  case atStart => exact ⟨n0, rfl, ⟨hn, rfl⟩, Fresh.refl _⟩
  case round =>
    obtain ⟨n, rfl, hR, hF⟩ := hrel
    have hlt := hR.1
    have hT := neq_test hlt
    cases hf : isFull n
    · rw [hf] at hT
      obtain ⟨hR', hgt, hlt'⟩ := hR.step hf
      have H2 := Lib.hid (or_nat n (allN n) hlt (allN_lt n))
      clear hf
      go_wp2_with fail
      refine (allMembersOf_any (n : Int) (by omega) (by omega) _).mono ?_
      rintro e w1 ⟨rfl, hF1⟩
      rw [Int.toNat_natCast]
      go_wp2_with fail
      refine (allMembersOf_any (n : Int) (by omega) (by omega) _).mono ?_
      rintro e w2 ⟨rfl, hF2⟩
      rw [Int.toNat_natCast]
      go_wp2
      go_roundw
      case rel => exact ⟨n ||| allN n, by rw [H2.out], hR', (hF.trans hF1).trans hF2⟩
      case measure => simp [intOf]; rw [H2.out]; omega
    · rw [hf] at hT
      have HX := Lib.hid (show n = fillN n0 by rw [← hR.2, fillN_full hf])
      clear hf
      go_wp2_with fail
      refine (allMembersOf_any (n : Int) (by omega) (by omega) _).mono ?_
      rintro e w1 ⟨rfl, hF1⟩
      rw [Int.toNat_natCast]
      go_wp2
      go_ret
      exact ⟨ret_int (by rw [← HX.out]), hF.trans hF1⟩


set_option maxHeartbeats 400000 in
theorem specFilledOf_any (s : Int) (w : World) :
    Calls Try.prog 63 #[.int .i64 s] w fun e w' => e = .returned (.int .i64 (fillI s)) ∧ Fresh w w' := by
  by_cases h : isCodeB s = true
  · have HX := Lib.hid (fillI_in h)
    obtain ⟨n0, rfl, hn, h⟩ := code_nat h
    go_enter Try.func63, Try.ntmps63
    go_wp2_with fail
    refine (specCodeOk_any _ _).mono ?_
    rintro e w' ⟨rfl, rfl⟩
    go_wp2
    go_loopw [3] (fun s wr => ∃ n : Nat, s = .int .i64 (n : Int) ∧ FillRel n0 n ∧ Fresh w wr) (fun s _ => 65536 - (intOf s).toNat)
    case atStart => exact ⟨n0, rfl, ⟨hn, rfl⟩, Fresh.refl _⟩
    case round =>
      obtain ⟨n, rfl, hR, hF⟩ := hrel
      have hlt := hR.1
      have hT := fullB_nat hlt
      cases hf : isFull n
      · rw [hf] at hT
        obtain ⟨hR', hgt, hlt'⟩ := hR.step hf
        have H2 := Lib.hid (or_nat n (allN n) hlt (allN_lt n))
        have H3 := Lib.hid (show allI (n : Int) = ((allN n : Nat) : Int) by rw [allI, if_pos ((isCodeB_iff _).2 (by omega)), Int.toNat_natCast])
        clear hf
        go_wp2_with fail
        refine (specFullOk_any (n : Int) _).mono ?_
        rintro e w1 ⟨rfl, hF1⟩
        go_wp2_with fail
        refine (specAllMembersOf_any (n : Int) _).mono ?_
        rintro e w2 ⟨rfl, hF2⟩
        rw [H3.out]
        go_wp2
        go_roundw
        case rel => exact ⟨n ||| allN n, by rw [H2.out], hR', (hF.trans hF1).trans hF2⟩
        case measure => simp [intOf]; rw [H2.out]; omega
      · rw [hf] at hT
        have HY := Lib.hid (show n = fillN n0 by rw [← hR.2, fillN_full hf])
        clear hf
        go_wp2_with fail
        refine (specFullOk_any (n : Int) _).mono ?_
        rintro e w1 ⟨rfl, hF1⟩
        go_wp2
        go_ret
        exact ⟨ret_int (by rw [HX.out, Int.toNat_natCast, ← HY.out]), hF.trans hF1⟩
  · have h : isCodeB s = false := by simpa using h
    have HX := Lib.hid (fillI_out h)
    go_enter Try.func63, Try.ntmps63
    go_wp2_with (go_at_call 61; refine (specCodeOk_any _ _).mono ?_; rintro e w' ⟨rfl, rfl⟩)
    go_ret
    exact ⟨ret_int HX.out.symm, Fresh.refl _⟩

end Go.Proofs.Ytkicgodmgafkoaa
