/- The walks of the laws on codes: those with loops over members. -/
import Derived.Test.YtknddbmcnfjaiaaLawsB
namespace Go.Proofs.Ytknddbmcnfjaiaa
open Go.RowKit

set_option maxHeartbeats 1000000 in
theorem fnUnionOf_walk (w : World) (v : Value) (bs : List Int) (h : Bytes w v bs) (hb : ∀ x ∈ bs, 0 ≤ x ∧ x ≤ 255) :
    Calls Try.prog 7 #[v] w fun e w' => e = .returned (.bool true) ∧ Fresh w w' := by
  obtain ⟨a, cap, rfl⟩ := h.len
  have hbd := h.bound
  by_cases hl : 1048576 < bs.length
  · go_enter Try.func7, Try.ntmps7
    go_wp2
    go_ret
    exact ⟨rfl, Fresh.refl _⟩
  have HB := Lib.hid h
  have HB2 := Lib.hid hb
  clear h hb
  go_enter Try.func7, Try.ntmps7
  go_wp2_with fail
  refine (drawUnionOf_any _ bs _ HB.out HB2.out).mono ?_
  rintro e w1 ⟨x, y, rfl, hF1⟩
  clear HB HB2
  by_cases hc : isCodeB x = true ∧ isCodeB y = true
  · obtain ⟨hx, hy⟩ := hc
    have hu := (isCodeB_iff _).1 (union_code hx hy)
    obtain ⟨hs1, hs2⟩ := union_sub hx hy
    have HU := Lib.hid (fun (k : Nat) (hk : k < 16) => union_has hx hy hk)
    obtain ⟨n, hn⟩ : ∃ n, n = unionI x y := ⟨_, rfl⟩
    rw [← hn] at hu hs1 hs2 HU
    obtain ⟨hu1, hu2⟩ := hu
    have HN := Lib.hid hn
    clear hn hx hy
    go_wp2_with fail
    refine (implUnionOf_any _ _ _).mono ?_
    rintro e w' ⟨rfl, rfl⟩
    rw [← HN.out]
    go_wp2_with fail
    refine (specUnionOf_any _ _ _).mono ?_
    rintro e w' ⟨rfl, rfl⟩
    rw [← HN.out]
    go_wp2
    go_loopw [6] (fun i wr => ∃ k : Nat, k ≤ 16 ∧ i = .int .i64 k ∧ Fresh w wr) (fun i _ => 16 - (intOf i).toNat)
    case atStart => exact ⟨0, by omega, rfl, hF1⟩
    case round =>
      clear hF1
      obtain ⟨k, hk, rfl, hF⟩ := hrel
      by_cases hlt : k < 16
      · have hh := HU.out k hlt
        cases h1 : hasB x k <;> cases h2 : hasB y k <;> rw [h1, h2] at hh <;> simp only [Bool.or_true, Bool.or_false] at hh
        all_goals
          go_wp2_with (first | (go_at_call 16; refine (implHas_any _ _ _).mono ?_; rintro e w' ⟨rfl, rfl⟩) | (go_at_call 29; refine (implWithinOf_any _ _ _).mono ?_; rintro e w' ⟨rfl, rfl⟩) | (go_at_call 33; refine (implUnionOf_any _ _ _).mono ?_; rintro e w' ⟨rfl, rfl⟩) | (go_at_call 34; refine (specUnionOf_any _ _ _).mono ?_; rintro e w' ⟨rfl, rfl⟩) | (go_at_call 18; refine (alive_any _).mono ?_; rintro e w' ⟨rfl, rfl⟩))
          go_roundw
          case rel => exact ⟨k + 1, by omega, by go_num, hF⟩
          case measure => simp [intOf]; omega
      · go_wp2_with (first | (go_at_call 16; refine (implHas_any _ _ _).mono ?_; rintro e w' ⟨rfl, rfl⟩) | (go_at_call 29; refine (implWithinOf_any _ _ _).mono ?_; rintro e w' ⟨rfl, rfl⟩) | (go_at_call 33; refine (implUnionOf_any _ _ _).mono ?_; rintro e w' ⟨rfl, rfl⟩) | (go_at_call 34; refine (specUnionOf_any _ _ _).mono ?_; rintro e w' ⟨rfl, rfl⟩) | (go_at_call 18; refine (alive_any _).mono ?_; rintro e w' ⟨rfl, rfl⟩))
        go_ret
        exact ⟨rfl, hF⟩
  · have h1 := unionI_neg hc
    clear hc
    go_wp2_with (first | (go_at_call 16; refine (implHas_any _ _ _).mono ?_; rintro e w' ⟨rfl, rfl⟩) | (go_at_call 29; refine (implWithinOf_any _ _ _).mono ?_; rintro e w' ⟨rfl, rfl⟩) | (go_at_call 33; refine (implUnionOf_any _ _ _).mono ?_; rintro e w' ⟨rfl, rfl⟩) | (go_at_call 34; refine (specUnionOf_any _ _ _).mono ?_; rintro e w' ⟨rfl, rfl⟩) | (go_at_call 18; refine (alive_any _).mono ?_; rintro e w' ⟨rfl, rfl⟩))
    go_ret
    exact ⟨rfl, hF1⟩

set_option maxHeartbeats 1000000 in
theorem fnCommonOf_walk (w : World) (v : Value) (bs : List Int) (h : Bytes w v bs) (hb : ∀ x ∈ bs, 0 ≤ x ∧ x ≤ 255) :
    Calls Try.prog 9 #[v] w fun e w' => e = .returned (.bool true) ∧ Fresh w w' := by
  obtain ⟨a, cap, rfl⟩ := h.len
  have hbd := h.bound
  by_cases hl : 1048576 < bs.length
  · go_enter Try.func9, Try.ntmps9
    go_wp2
    go_ret
    exact ⟨rfl, Fresh.refl _⟩
  have HB := Lib.hid h
  have HB2 := Lib.hid hb
  clear h hb
  go_enter Try.func9, Try.ntmps9
  go_wp2_with fail
  refine (drawCommonOf_any _ bs _ HB.out HB2.out).mono ?_
  rintro e w1 ⟨x, y, rfl, hF1⟩
  clear HB HB2
  by_cases hc : isCodeB x = true ∧ isCodeB y = true
  · obtain ⟨hx, hy⟩ := hc
    have hu := (isCodeB_iff _).1 (common_code hx hy)
    obtain ⟨hs1, hs2⟩ := common_sub hx hy
    have HU := Lib.hid (fun (k : Nat) (hk : k < 16) => common_has hx hy hk)
    have HL := Lib.hid (common_len hx hy)
    obtain ⟨n, hn⟩ : ∃ n, n = commonI x y := ⟨_, rfl⟩
    rw [← hn] at hu hs1 hs2 HU HL
    obtain ⟨hu1, hu2⟩ := hu
    have HN := Lib.hid hn
    clear hn hx hy
    go_wp2_with fail
    refine (implCommonOf_any _ _ _).mono ?_
    rintro e w' ⟨rfl, rfl⟩
    rw [← HN.out]
    go_wp2_with fail
    refine (specCommonOf_any _ _ _).mono ?_
    rintro e w' ⟨rfl, rfl⟩
    rw [← HN.out]
    go_wp2
    go_loopw [6] (fun i wr => ∃ k : Nat, k ≤ 16 ∧ i = .int .i64 k ∧ Fresh w wr) (fun i _ => 16 - (intOf i).toNat)
    case atStart => exact ⟨0, by omega, rfl, hF1⟩
    case round =>
      clear hF1
      obtain ⟨k, hk, rfl, hF⟩ := hrel
      by_cases hlt : k < 16
      · have hh := HU.out k hlt
        cases h1 : hasB x k <;> cases h2 : hasB y k <;> rw [h1, h2] at hh <;> simp only [Bool.and_true, Bool.and_false] at hh
        all_goals
          go_wp2_with (first | (go_at_call 16; refine (implHas_any _ _ _).mono ?_; rintro e w' ⟨rfl, rfl⟩) | (go_at_call 29; refine (implWithinOf_any _ _ _).mono ?_; rintro e w' ⟨rfl, rfl⟩) | (go_at_call 33; refine (implUnionOf_any _ _ _).mono ?_; rintro e w' ⟨rfl, rfl⟩) | (go_at_call 38; refine (implCommonOf_any _ _ _).mono ?_; rintro e w' ⟨rfl, rfl⟩) | (go_at_call 39; refine (specCommonOf_any _ _ _).mono ?_; rintro e w' ⟨rfl, rfl⟩) | (go_at_call 18; refine (alive_any _).mono ?_; rintro e w' ⟨rfl, rfl⟩))
          go_roundw
          case rel => exact ⟨k + 1, by omega, by go_num, hF⟩
          case measure => simp [intOf]; omega
      · have m1 := memsI_len n
        have m2 := memsI_len (unionI x y)
        have m3 := memsI_len x
        have m4 := memsI_len y
        go_wp2_with (first | (go_at_call 29; refine (implWithinOf_any _ _ _).mono ?_; rintro e w' ⟨rfl, rfl⟩))
        refine (implMembersOf_any _ _).mono ?_
        rintro e w2 ⟨r2, rfl, hO2, hF2⟩
        obtain ⟨a2, cap2, rfl⟩ := hO2.ints.len
        clear hO2
        go_wp2_with (first | (go_at_call 33; refine (implUnionOf_any _ _ _).mono ?_; rintro e w' ⟨rfl, rfl⟩))
        refine (implMembersOf_any _ _).mono ?_
        rintro e w3 ⟨r3, rfl, hO3, hF3⟩
        obtain ⟨a3, cap3, rfl⟩ := hO3.ints.len
        clear hO3
        go_wp2_with fail
        refine (implMembersOf_any _ _).mono ?_
        rintro e w4 ⟨r4, rfl, hO4, hF4⟩
        obtain ⟨a4, cap4, rfl⟩ := hO4.ints.len
        clear hO4
        go_wp2_with fail
        refine (implMembersOf_any _ _).mono ?_
        rintro e w5 ⟨r5, rfl, hO5, hF5⟩
        obtain ⟨a5, cap5, rfl⟩ := hO5.ints.len
        clear hO5
        have mm := HL.out
        generalize (memsI n).length = l1 at *
        generalize (memsI (unionI x y)).length = l2 at *
        generalize (memsI x).length = l3 at *
        generalize (memsI y).length = l4 at *
        have ht : (((l1 : Nat) : Int) + l2 == (l3 : Int) + l4) = true := by rw [beq_iff_eq]; omega
        clear mm HL
        go_wp2_with (first | (go_at_call 18; refine (alive_any _).mono ?_; rintro e w' ⟨rfl, rfl⟩))
        go_ret
        exact ⟨rfl, (by repeat (first | with_reducible exact Fresh.refl _ | assumption | refine Fresh.trans ?_ (by assumption)))⟩
  · have h1 := commonI_neg hc
    clear hc
    go_wp2_with (first | (go_at_call 16; refine (implHas_any _ _ _).mono ?_; rintro e w' ⟨rfl, rfl⟩) | (go_at_call 29; refine (implWithinOf_any _ _ _).mono ?_; rintro e w' ⟨rfl, rfl⟩) | (go_at_call 33; refine (implUnionOf_any _ _ _).mono ?_; rintro e w' ⟨rfl, rfl⟩) | (go_at_call 38; refine (implCommonOf_any _ _ _).mono ?_; rintro e w' ⟨rfl, rfl⟩) | (go_at_call 39; refine (specCommonOf_any _ _ _).mono ?_; rintro e w' ⟨rfl, rfl⟩) | (go_at_call 18; refine (alive_any _).mono ?_; rintro e w' ⟨rfl, rfl⟩))
    go_ret
    exact ⟨rfl, hF1⟩

theorem memsI_code_get {s : Int} {k : Nat} (hk : k < (memsI s).length) : isCodeB (memsI s)[k] = true := (mem_code (List.getElem_mem hk)).1
/-- an element of a list of ints in memory -/
theorem Owns.elem {lo hi : Nat} {w : World} {a : Option Addr} {cap : Nat} {zs : List Int} (h : Owns lo hi w (.slice a zs.length cap) zs) {k : Nat} (hk : k < zs.length) :
    ∃ b off, a = some ⟨b, off, none⟩ ∧ w.cell? ⟨b, off + k, none⟩ = some (.int .i64 zs[k]) := by
  obtain ⟨b, off, cap2, heq, hcell⟩ := h.ints.at hk
  simp only [Value.slice.injEq, true_and] at heq
  exact ⟨b, off, heq.1, hcell k hk⟩

set_option maxHeartbeats 1000000 in
theorem fnMembersOf_walk (w : World) (v : Value) (bs : List Int) (h : Bytes w v bs) (hb : ∀ x ∈ bs, 0 ≤ x ∧ x ≤ 255) :
    Calls Try.prog 11 #[v] w fun e w' => e = .returned (.bool true) ∧ Fresh w w' := by
  obtain ⟨a, cap, rfl⟩ := h.len
  have hbd := h.bound
  by_cases hl : 1048576 < bs.length
  · go_enter Try.func11, Try.ntmps11
    go_wp2
    go_ret
    exact ⟨rfl, Fresh.refl _⟩
  have HB := Lib.hid h
  have HB2 := Lib.hid hb
  clear h hb
  go_enter Try.func11, Try.ntmps11
  go_wp2_with fail
  refine (drawMembersOf_any _ bs _ HB.out HB2.out).mono ?_
  rintro e w1 ⟨s, rfl, hF1⟩
  clear HB HB2
  go_wp2_with fail
  refine (implMembersOf_any _ _).mono ?_
  rintro e w2 ⟨r2, rfl, hO2, hF2⟩
  go_wp2_with fail
  refine (specMembersOf_any _ _).mono ?_
  rintro e w3 ⟨r3, rfl, hO3, hF3⟩
  have hO2' := hO2.fresh hF3
  clear hO2
  go_wp2_with fail
  refine (sameInts_any _ _ _ _ _ hO2'.ints hO3.ints).mono ?_
  rintro e w4 ⟨rfl, hF4⟩
  have hO4 := hO2'.fresh hF4
  clear hO3 hO2'
  have hF5 := Lib.hid (((hF1.trans hF2).trans hF3).trans hF4)
  clear hF1 hF2 hF3 hF4
  obtain ⟨a, cap, rfl⟩ := hO4.ints.len
  by_cases hs : isCodeB s = true
  · have H1 := Lib.hid (fun (k : Nat) (hk : k < 16) => mem_memsI hs hk)
    have H2 := Lib.hid (setOf_mems hs)
    have hasc : ascB (memsI s) = true := (ascB_iff _).2 fun j hj => mems_get_lt hj
    obtain ⟨l, hl⟩ : ∃ l, l = memsI s := ⟨_, rfl⟩
    rw [← hl] at hO4 H1 H2 hasc
    rw [← hl]
    clear hl
    go_wp2_with (first | (go_at_call 31; refine (specCodeOk_any _ _).mono ?_; rintro e w' ⟨rfl, rfl⟩))
    go_loopw [5] (fun i wr => ∃ k : Nat, k ≤ 16 ∧ i = .int .i64 k ∧ Fresh w4 wr) (fun i _ => 16 - (intOf i).toNat)
    case atStart => exact ⟨0, by omega, rfl, Fresh.refl _⟩
    case round =>
      obtain ⟨k, hk, rfl, hF⟩ := hrel
      by_cases hlt : k < 16
      · have hh := H1.out k hlt
        go_wp2_with fail
        refine (hasInt_any _ _ _ _ (hO4.fresh hF).ints).mono ?_
        rintro e w6 ⟨rfl, hF6⟩
        rw [hh]
        clear hh
        cases hb : hasB s k
        all_goals
          go_wp2_with (first | (go_at_call 16; refine (implHas_any _ _ _).mono ?_; rintro e w' ⟨rfl, rfl⟩))
          go_roundw
          case rel => exact ⟨k + 1, by omega, by go_num, hF.trans hF6⟩
          case measure => simp [intOf]; omega
      · go_wp2_with fail
        refine (implSetOf_any _ _ _ (hO4.fresh hF).ints).mono ?_
        rintro e w6 ⟨rfl, hF6⟩
        rw [H2.out]
        go_wp2_with fail
        refine (ascend_any _ _ _ ((hO4.fresh hF).fresh hF6).ints).mono ?_
        rintro e w7 ⟨rfl, hF7⟩
        go_wp2
        go_ret
        exact ⟨rfl, ((hF5.out.trans hF).trans hF6).trans hF7⟩
  · have hs : isCodeB s = false := by simpa using hs
    have h0 := memsI_none hs
    rw [h0]
    clear hO4 h0
    go_wp2_with (first | (go_at_call 31; refine (specCodeOk_any _ _).mono ?_; rintro e w' ⟨rfl, rfl⟩) | (go_at_call 18; refine (alive_any _).mono ?_; rintro e w' ⟨rfl, rfl⟩))
    go_ret
    exact ⟨rfl, hF5.out⟩

set_option maxHeartbeats 1000000 in
theorem fnFilledOf_walk (w : World) (v : Value) (bs : List Int) (h : Bytes w v bs) (hb : ∀ x ∈ bs, 0 ≤ x ∧ x ≤ 255) :
    Calls Try.prog 14 #[v] w fun e w' => e = .returned (.bool true) ∧ Fresh w w' := by
  obtain ⟨a, cap, rfl⟩ := h.len
  have hbd := h.bound
  by_cases hl : 1048576 < bs.length
  · go_enter Try.func14, Try.ntmps14
    go_wp2
    go_ret
    exact ⟨rfl, Fresh.refl _⟩
  have HB := Lib.hid h
  have HB2 := Lib.hid hb
  clear h hb
  go_enter Try.func14, Try.ntmps14
  go_wp2_with fail
  refine (drawFilledOf_any _ bs _ HB.out HB2.out).mono ?_
  rintro e w1 ⟨s, rfl, hF1⟩
  clear HB HB2
  by_cases hs : isCodeB s = true
  · obtain ⟨n, rfl, hn, hs⟩ := code_nat hs
    obtain ⟨f1, f2⟩ := fill_full hn
    have hc : isCodeB ((fillN n : Nat) : Int) = true := (isCodeB_iff _).2 (by omega)
    have e1 : fillI (n : Int) = ((fillN n : Nat) : Int) := by rw [fillI, if_pos hs, Int.toNat_natCast]
    have e2 : fullB ((fillN n : Nat) : Int) = true := by rw [fullB_code f2]; exact f1
    have e3 : subB (n : Int) ((fillN n : Nat) : Int) = true := by
      rw [subB_iff]; exact ⟨hs, hc, by simpa using fill_sub hn⟩
    have e4 : deepI ((fillN n : Nat) : Int) = deepI (n : Int) := by
      rw [deepI_code hc, deepI_code hs, Int.toNat_natCast, Int.toNat_natCast, fill_deep hn]
    have e5 : ((((fillN n : Nat) : Int) == (n : Int)) == fullB (n : Int)) = true := by
      rw [beq_iff_eq, Bool.eq_iff_iff, beq_iff_eq, fullB_code hn, ← fill_self hn]; omega
    have e6 : subB (allI (n : Int)) ((fillN n : Nat) : Int) = true := by
      rw [subB_iff]; refine ⟨all_isCode hs, hc, ?_⟩
      rw [allI_code' hs, Int.toNat_natCast, Int.toNat_natCast, Int.toNat_natCast]; exact fill_all hn
    have e7 : fillI ((fillN n : Nat) : Int) = ((fillN n : Nat) : Int) := by rw [fillI, if_pos hc, Int.toNat_natCast, fill_fill hn]
    obtain ⟨m, hm⟩ : ∃ m, m = fillN n := ⟨_, rfl⟩
    rw [← hm] at e1 e2 e3 e4 e5 e6 e7 f2
    have E1 := Lib.hid e1
    have E4 := Lib.hid e4
    have E7 := Lib.hid e7
    clear e1 e4 e7 hm hc hs f1
    go_wp2_with fail
    refine (implFilledOf_any _ _).mono ?_
    rintro e w2 ⟨rfl, hF2⟩
    rw [E1.out]
    go_wp2_with fail
    refine (specFilledOf_any _ _).mono ?_
    rintro e w3 ⟨rfl, hF3⟩
    rw [E1.out]
    go_wp2_with fail
    refine (implFullOk_any _ _).mono ?_
    rintro e w4 ⟨rfl, hF4⟩
    rw [e2]
    go_wp2_with (first | (go_at_call 29; refine (implWithinOf_any _ _ _).mono ?_; rintro e w' ⟨rfl, rfl⟩))
    refine (implDeepOf_any _ _).mono ?_
    rintro e w5 ⟨rfl, hF5⟩
    rw [E4.out]
    go_wp2_with fail
    refine (implDeepOf_any _ _).mono ?_
    rintro e w6 ⟨rfl, hF6⟩
    go_wp2_with fail
    refine (implFullOk_any _ _).mono ?_
    rintro e w7 ⟨rfl, hF7⟩
    go_wp2_with fail
    refine (implAllMembersOf_any _ _).mono ?_
    rintro e w8 ⟨rfl, hF8⟩
    go_wp2_with (first | (go_at_call 29; refine (implWithinOf_any _ _ _).mono ?_; rintro e w' ⟨rfl, rfl⟩))
    refine (implFilledOf_any _ _).mono ?_
    rintro e w9 ⟨rfl, hF9⟩
    rw [E7.out]
    go_wp2_with (first | (go_at_call 18; refine (alive_any _).mono ?_; rintro e w' ⟨rfl, rfl⟩))
    go_ret
    exact ⟨rfl, (by repeat (first | with_reducible exact Fresh.refl _ | assumption | refine Fresh.trans ?_ (by assumption)))⟩
  · have hs : isCodeB s = false := by simpa using hs
    have h0 : fillI s = -1 := by simp [fillI, hs]
    go_wp2_with (first | (go_at_call 36; refine (implFilledOf_any _ _).mono ?_; rintro e w' ⟨rfl, hF⟩) | (go_at_call 35; refine (specFilledOf_any _ _).mono ?_; rintro e w' ⟨rfl, hF⟩) | (go_at_call 18; refine (alive_any _).mono ?_; rintro e w' ⟨rfl, rfl⟩))
    go_ret
    exact ⟨rfl, (by repeat (first | with_reducible exact Fresh.refl _ | assumption | refine Fresh.trans ?_ (by assumption)))⟩

/-- what the loop of FnDeepOf has found -/
def FoundTo (l : List Int) (d : Int) (k : Nat) (f : Bool) : Prop := f = true ∨ (0 < l.length ∧ ∀ j (h : j < l.length), j < k → deepI l[j] ≠ d - 1)
theorem FoundTo.all {s : Int} {k : Nat} {f : Bool} (hs : isCodeB s = true) (h : FoundTo (memsI s) (deepI s) k f) (hk : ¬ k < (memsI s).length) : f = true := by
  rcases h with h | ⟨h1, h2⟩
  · exact h
  · exfalso
    obtain ⟨x, hx, e⟩ := deep_some hs (List.length_pos_iff.1 h1)
    obtain ⟨j, hj, rfl⟩ := List.getElem_of_mem hx
    exact h2 j hj (by omega) e
theorem FoundTo.start (l : List Int) (d : Int) : FoundTo l d 0 ((l.length : Int) == 0) := by
  by_cases h : l.length = 0
  · left; rw [beq_iff_eq]; omega
  · right; exact ⟨by omega, fun j _ h => by omega⟩
theorem FoundTo.step {l : List Int} {d : Int} {k : Nat} {f : Bool} (h : FoundTo l d k f) (hk : k < l.length) : FoundTo l d (k + 1) (f || (deepI l[k] == d - 1)) := by
  rcases h with h | ⟨h1, h2⟩
  · left; rw [h]; rfl
  · by_cases hx : deepI l[k] = d - 1
    · left; rw [hx]; simp
    · right; refine ⟨h1, fun j hj hjk => ?_⟩
      by_cases hjk2 : j = k
      · subst hjk2; exact hx
      · exact h2 j hj (by omega)

set_option maxHeartbeats 1000000 in
theorem fnDeepOf_walk (w : World) (v : Value) (bs : List Int) (h : Bytes w v bs) (hb : ∀ x ∈ bs, 0 ≤ x ∧ x ≤ 255) :
    Calls Try.prog 10 #[v] w fun e w' => e = .returned (.bool true) ∧ Fresh w w' := by
  obtain ⟨a, cap, rfl⟩ := h.len
  have hbd := h.bound
  by_cases hl : 1048576 < bs.length
  · go_enter Try.func10, Try.ntmps10
    go_wp2
    go_ret
    exact ⟨rfl, Fresh.refl _⟩
  have HB := Lib.hid h
  have HB2 := Lib.hid hb
  clear h hb
  go_enter Try.func10, Try.ntmps10
  go_wp2_with fail
  refine (drawDeepOf_any _ bs _ HB.out HB2.out).mono ?_
  rintro e w1 ⟨s, rfl, hF1⟩
  clear HB HB2
  by_cases hs : isCodeB s = true
  · have hd0 := deep_nonneg hs
    have hd5 := deep_le5 s
    have hz := deep_zero hs
    have hz : ((deepI s == 0) == (s == 0)) = true := by rw [hz]; simp
    have H1 := Lib.hid (fun (k : Nat) (hk : k < (memsI s).length) => deep_mem (List.getElem_mem hk))
    have H2 := Lib.hid (fun (k : Nat) (f : Bool) (h : FoundTo (memsI s) (deepI s) k f) (hk : ¬ k < (memsI s).length) => FoundTo.all hs h hk)
    have H3 := Lib.hid (FoundTo.start (memsI s) (deepI s))
    have hlen := memsI_len s
    have hd1 : IntKind.i64.wrap (deepI s - 1) = deepI s - 1 := IntWalk.i64_in _ (by omega)
    have HD1 := Lib.hid hd1
    clear hd1
    go_wp2_with fail
    refine (implDeepOf_any _ _).mono ?_
    rintro e w2 ⟨rfl, hF2⟩
    go_wp2_with fail
    refine (specDeepOf_any _ _).mono ?_
    rintro e w3 ⟨rfl, hF3⟩
    go_wp2_with fail
    refine (implMembersOf_any _ _).mono ?_
    rintro e w4 ⟨r, rfl, hO, hF4⟩
    obtain ⟨l, hl⟩ : ∃ l, l = memsI s := ⟨_, rfl⟩
    rw [← hl] at hO H1 H2 H3 hlen
    clear hl
    obtain ⟨a, cap, rfl⟩ := hO.ints.len
    obtain ⟨d, hd⟩ : ∃ d, d = deepI s := ⟨_, rfl⟩
    rw [← hd] at hd0 hd5 hz H1 H2 H3 HD1
    rw [← hd]
    have HD := Lib.hid hd
    clear hd
    have hF5 := Lib.hid (((hF1.trans hF2).trans hF3).trans hF4)
    clear hF1 hF2 hF3 hF4
    go_wp2
    go_loopw [6, 7] (fun f i wr => ∃ (k : Nat) (b : Bool), k ≤ l.length ∧ i = .int .i64 k ∧ f = .bool b ∧ FoundTo l d k b ∧ Fresh w4 wr) (fun _ i _ => 16 - (intOf i).toNat)
    case atStart => exact ⟨0, _, by omega, rfl, rfl, H3.out, Fresh.refl _⟩
    case round =>
      obtain ⟨k, b, hk, rfl, rfl, hE, hF⟩ := hrel
      by_cases hlt : k < l.length
      · obtain ⟨b', off, rfl, hc⟩ := (hO.fresh hF).elem hlt
        have hm := H1.out k hlt
        have hS := hE.step hlt
        obtain ⟨x, hx⟩ : ∃ x, x = l[k] := ⟨_, rfl⟩
        rw [← hx] at hc hm hS
        clear hx
        have HS := Lib.hid hS
        clear hS hE
        go_wp2_with fail
        refine (implDeepOf_any _ _).mono ?_
        rintro e w6 ⟨rfl, hF6⟩
        have hm1 : ¬ d ≤ deepI x := by omega
        cases b
        all_goals
          go_wp2
          go_roundw
          case rel => exact ⟨k + 1, _, by omega, by go_num, rfl, by have := HS.out; simpa using this, hF.trans hF6⟩
          case measure => simp [intOf]; omega
      · have hb := H2.out k b hE hlt
        subst hb
        go_wp2_with (first | (go_at_call 18; refine (alive_any _).mono ?_; rintro e w' ⟨rfl, rfl⟩))
        go_ret
        exact ⟨rfl, hF5.out.trans hF⟩
  · have hs : isCodeB s = false := by simpa using hs
    have h0 := deepI_none hs
    go_wp2_with (first | (go_at_call 41; refine (implDeepOf_any _ _).mono ?_; rintro e w' ⟨rfl, hF⟩) | (go_at_call 42; refine (specDeepOf_any _ _).mono ?_; rintro e w' ⟨rfl, hF⟩) | (go_at_call 18; refine (alive_any _).mono ?_; rintro e w' ⟨rfl, rfl⟩))
    go_ret
    exact ⟨rfl, (by repeat (first | with_reducible exact Fresh.refl _ | assumption | refine Fresh.trans ?_ (by assumption)))⟩

/-- whether one of the first k members has something -/
def anyTo (l : List Int) (p : Int → Bool) (k : Nat) : Bool := (l.take k).any p
theorem anyTo_step (l : List Int) (p : Int → Bool) (k : Nat) (hk : k < l.length) : anyTo l p (k + 1) = (anyTo l p k || p l[k]) := by
  rw [anyTo, anyTo, List.take_succ_eq_append_getElem hk, List.any_append]; simp
theorem anyTo_all (l : List Int) (p : Int → Bool) (k : Nat) (hk : ¬ k < l.length) : anyTo l p k = l.any p := by
  rw [anyTo, List.take_of_length_le (by omega)]
def allTo (l : List Int) (p : Int → Bool) (k : Nat) : Bool := (l.take k).all p
theorem allTo_step (l : List Int) (p : Int → Bool) (k : Nat) (hk : k < l.length) : allTo l p (k + 1) = (allTo l p k && p l[k]) := by
  rw [allTo, allTo, List.take_succ_eq_append_getElem hk, List.all_append]; simp
theorem allTo_all (l : List Int) (p : Int → Bool) (k : Nat) (hk : ¬ k < l.length) : allTo l p k = l.all p := by
  rw [allTo, List.take_of_length_le (by omega)]

set_option maxHeartbeats 1000000 in
theorem fnAllMembersOf_walk (w : World) (v : Value) (bs : List Int) (h : Bytes w v bs) (hb : ∀ x ∈ bs, 0 ≤ x ∧ x ≤ 255) :
    Calls Try.prog 12 #[v] w fun e w' => e = .returned (.bool true) ∧ Fresh w w' := by
  obtain ⟨a, cap, rfl⟩ := h.len
  have hbd := h.bound
  by_cases hl : 1048576 < bs.length
  · go_enter Try.func12, Try.ntmps12
    go_wp2
    go_ret
    exact ⟨rfl, Fresh.refl _⟩
  have HB := Lib.hid h
  have HB2 := Lib.hid hb
  clear h hb
  go_enter Try.func12, Try.ntmps12
  go_wp2_with fail
  refine (drawAllMembersOf_any _ bs _ HB.out HB2.out).mono ?_
  rintro e w1 ⟨s, rfl, hF1⟩
  clear HB HB2
  by_cases hs : isCodeB s = true
  · have hu := (isCodeB_iff _).1 (all_isCode hs)
    have HH := Lib.hid (fun (k : Nat) (hk : k < 16) => all_has hs hk)
    have hdd := deep_all hs
    have hlen := memsI_len s
    obtain ⟨n, hn⟩ : ∃ n, n = allI s := ⟨_, rfl⟩
    rw [← hn] at hu HH hdd
    obtain ⟨hu1, hu2⟩ := hu
    have HN := Lib.hid hn
    have HDD := Lib.hid hdd
    clear hn hdd hs
    go_wp2_with fail
    refine (implAllMembersOf_any _ _).mono ?_
    rintro e w2 ⟨rfl, hF2⟩
    rw [← HN.out]
    go_wp2_with fail
    refine (specAllMembersOf_any _ _).mono ?_
    rintro e w3 ⟨rfl, hF3⟩
    rw [← HN.out]
    go_wp2_with fail
    refine (implMembersOf_any _ _).mono ?_
    rintro e w4 ⟨r, rfl, hO, hF4⟩
    obtain ⟨l, hl⟩ : ∃ l, l = memsI s := ⟨_, rfl⟩
    rw [← hl] at hO HH hlen
    clear hl
    obtain ⟨a, cap, rfl⟩ := hO.ints.len
    have hF5 := Lib.hid (((hF1.trans hF2).trans hF3).trans hF4)
    clear hF1 hF2 hF3 hF4
    go_wp2
    go_loopw [6] (fun i wr => ∃ k : Nat, k ≤ 16 ∧ i = .int .i64 k ∧ Fresh w4 wr) (fun i _ => 16 - (intOf i).toNat)
    case atStart => exact ⟨0, by omega, rfl, Fresh.refl _⟩
    case round =>
      obtain ⟨k, hk, rfl, hF⟩ := hrel
      by_cases hlt : k < 16
      · have hh := HH.out k hlt
        obtain ⟨p, hp⟩ : ∃ p : Int → Bool, p = fun x => hasB x (k : Int) := ⟨_, rfl⟩
        rw [← hp] at hh
        have HP := Lib.hid (fun x => congrFun hp x)
        clear hp
        have HHH := Lib.hid hh
        clear hh
        have hdk : decide ((k : Int) < 16) = true := decide_eq_true (by omega)
        go_wp2
        go_loop [7, 8] (fun f i => ∃ j : Nat, j ≤ l.length ∧ i = .int .i64 j ∧ f = .bool (anyTo l p j)) (fun _ i => 16 - (intOf i).toNat)
        case atStart => exact ⟨0, by omega, rfl, rfl⟩
        case round =>
          obtain ⟨j, hj, rfl, rfl⟩ := hrel
          by_cases hjl : j < l.length
          · obtain ⟨b', off, rfl, hc⟩ := (hO.fresh hF).elem hjl
            have hS := anyTo_step l p j hjl
            have hpx := HP.out l[j]
            obtain ⟨x, hx⟩ : ∃ x, x = l[j] := ⟨_, rfl⟩
            rw [← hx] at hc hS hpx
            clear hx
            rw [hpx] at hS
            clear hpx
            cases h1 : anyTo l p j
            · rw [h1, Bool.false_or] at hS
              have HS := Lib.hid hS
              clear hS h1
              go_wp2_with (first | (go_at_call 16; refine (implHas_any _ _ _).mono ?_; rintro e w' ⟨rfl, rfl⟩))
              go_round
              case rel => exact ⟨j + 1, by omega, by go_num, by rw [HS.out]⟩
              case measure => simp [intOf]; omega
            · rw [h1, Bool.true_or] at hS
              have HS := Lib.hid hS
              clear hS h1
              go_wp2_with (first | (go_at_call 16; refine (implHas_any _ _ _).mono ?_; rintro e w' ⟨rfl, rfl⟩))
              go_round
              case rel => exact ⟨j + 1, by omega, by go_num, by rw [HS.out]⟩
              case measure => simp [intOf]; omega
          · have h2 := anyTo_all l p j hjl
            rw [← HHH.out] at h2
            generalize anyTo l p j = f at *
            subst h2
            go_wp2_with (first | (go_at_call 16; refine (implHas_any _ _ _).mono ?_; rintro e w' ⟨rfl, rfl⟩))
            go_roundw
            case rel => exact ⟨k + 1, by omega, by go_num, hF⟩
            case measure => simp [intOf]; omega
      · by_cases h0 : s = 0
        · subst h0
          go_wp2_with (first | (go_at_call 18; refine (alive_any _).mono ?_; rintro e w' ⟨rfl, rfl⟩))
          go_ret
          exact ⟨rfl, hF5.out.trans hF⟩
        · have h1 : (s == 0) = false := by rw [beq_eq_false_iff_ne]; exact h0
          have h2 := HDD.out h0
          have H0 := Lib.hid h0
          clear h0
          go_wp2_with (first | (go_at_call 41; refine (implDeepOf_any _ _).mono ?_; rintro e w' ⟨rfl, hF⟩) | (go_at_call 18; refine (alive_any _).mono ?_; rintro e w' ⟨rfl, rfl⟩))
          go_ret
          exact ⟨rfl, (by repeat (first | with_reducible exact Fresh.refl _ | (first | assumption | exact hF5.out) | refine Fresh.trans ?_ (by assumption)))⟩
  · have hs : isCodeB s = false := by simpa using hs
    have h0 := allI_none hs
    go_wp2_with (first | (go_at_call 48; refine (implAllMembersOf_any _ _).mono ?_; rintro e w' ⟨rfl, hF⟩) | (go_at_call 49; refine (specAllMembersOf_any _ _).mono ?_; rintro e w' ⟨rfl, hF⟩) | (go_at_call 18; refine (alive_any _).mono ?_; rintro e w' ⟨rfl, rfl⟩))
    go_ret
    exact ⟨rfl, (by repeat (first | with_reducible exact Fresh.refl _ | assumption | refine Fresh.trans ?_ (by assumption)))⟩

set_option maxHeartbeats 1000000 in
theorem fnFullOk_walk (w : World) (v : Value) (bs : List Int) (h : Bytes w v bs) (hb : ∀ x ∈ bs, 0 ≤ x ∧ x ≤ 255) :
    Calls Try.prog 13 #[v] w fun e w' => e = .returned (.bool true) ∧ Fresh w w' := by
  obtain ⟨a, cap, rfl⟩ := h.len
  have hbd := h.bound
  by_cases hl : 1048576 < bs.length
  · go_enter Try.func13, Try.ntmps13
    go_wp2
    go_ret
    exact ⟨rfl, Fresh.refl _⟩
  have HB := Lib.hid h
  have HB2 := Lib.hid hb
  clear h hb
  go_enter Try.func13, Try.ntmps13
  go_wp2_with fail
  refine (drawFullOk_any _ bs _ HB.out HB2.out).mono ?_
  rintro e w1 ⟨s, rfl, hF1⟩
  clear HB HB2
  by_cases hs : isCodeB s = true
  · have HH := Lib.hid (full_all hs)
    have HS := Lib.hid (fun h15 hf => full_succ (s := s) hs h15 hf)
    have hlen := memsI_len s
    obtain ⟨p, hp⟩ : ∃ p : Int → Bool, p = fun x => subB x s := ⟨_, rfl⟩
    rw [← hp] at HH
    have HP := Lib.hid (fun x => congrFun hp x)
    clear hp
    go_wp2_with fail
    refine (implFullOk_any _ _).mono ?_
    rintro e w2 ⟨rfl, hF2⟩
    go_wp2_with fail
    refine (specFullOk_any _ _).mono ?_
    rintro e w3 ⟨rfl, hF3⟩
    go_wp2_with (first | (go_at_call 31; refine (specCodeOk_any _ _).mono ?_; rintro e w' ⟨rfl, rfl⟩))
    refine (implMembersOf_any _ _).mono ?_
    rintro e w4 ⟨r, rfl, hO, hF4⟩
    obtain ⟨l, hl⟩ : ∃ l, l = memsI s := ⟨_, rfl⟩
    rw [← hl] at hO HH hlen
    clear hl
    obtain ⟨a, cap, rfl⟩ := hO.ints.len
    have hF5 := Lib.hid (((hF1.trans hF2).trans hF3).trans hF4)
    clear hF1 hF2 hF3 hF4
    go_wp2
    go_loop [5, 7] (fun f i => ∃ j : Nat, j ≤ l.length ∧ i = .int .i64 j ∧ f = .bool (allTo l p j)) (fun _ i => 16 - (intOf i).toNat)
    case atStart => exact ⟨0, by omega, rfl, rfl⟩
    case round =>
      obtain ⟨j, hj, rfl, rfl⟩ := hrel
      by_cases hjl : j < l.length
      · obtain ⟨b', off, rfl, hc⟩ := hO.elem hjl
        have hS := allTo_step l p j hjl
        have hpx := HP.out l[j]
        obtain ⟨x, hx⟩ : ∃ x, x = l[j] := ⟨_, rfl⟩
        rw [← hx] at hc hS hpx
        clear hx
        rw [hpx] at hS
        clear hpx
        cases h1 : allTo l p j
        · rw [h1, Bool.false_and] at hS
          have HS2 := Lib.hid hS
          clear hS h1
          go_wp2_with (first | (go_at_call 29; refine (implWithinOf_any _ _ _).mono ?_; rintro e w' ⟨rfl, rfl⟩))
          go_round
          case rel => exact ⟨j + 1, by omega, by go_num, by rw [HS2.out]⟩
          case measure => simp [intOf]; omega
        · rw [h1, Bool.true_and] at hS
          have HS2 := Lib.hid hS
          clear hS h1
          go_wp2_with (first | (go_at_call 29; refine (implWithinOf_any _ _ _).mono ?_; rintro e w' ⟨rfl, rfl⟩))
          go_round
          case rel => exact ⟨j + 1, by omega, by go_num, by rw [HS2.out]⟩
          case measure => simp [intOf]; omega
      · have h2 := allTo_all l p j hjl
        rw [← HH.out] at h2
        generalize allTo l p j = f at *
        subst h2
        cases hf : fullB s
        · go_wp2_with (first | (go_at_call 18; refine (alive_any _).mono ?_; rintro e w' ⟨rfl, rfl⟩))
          go_ret
          exact ⟨rfl, hF5.out⟩
        · by_cases h15 : s ≤ 15
          · have hu := HS.out h15 hf
            go_wp2_with fail
            refine (implSetOf_any _ [s] _ (lit_ints _ [s] (by simp) (by simp))).mono ?_
            rintro e w6 ⟨rfl, hF6⟩
            go_wp2_with (first | (go_at_call 33; refine (implUnionOf_any _ _ _).mono ?_; rintro e w' ⟨rfl, rfl⟩) | (go_at_call 51; refine (implFullOk_any _ _).mono ?_; rintro e w' ⟨rfl, hF⟩) | (go_at_call 18; refine (alive_any _).mono ?_; rintro e w' ⟨rfl, rfl⟩))
            go_ret
            exact ⟨rfl, hF5.out.trans (((Fresh.refl w4).alloc _).trans (hF6.trans (by assumption)))⟩
          · have h15 : 15 < s := by omega
            go_wp2_with (first | (go_at_call 18; refine (alive_any _).mono ?_; rintro e w' ⟨rfl, rfl⟩))
            go_ret
            exact ⟨rfl, hF5.out⟩
  · have hs : isCodeB s = false := by simpa using hs
    have h0 : fullB s = false := by simp [fullB, hs]
    go_wp2_with (first | (go_at_call 51; refine (implFullOk_any _ _).mono ?_; rintro e w' ⟨rfl, hF⟩) | (go_at_call 52; refine (specFullOk_any _ _).mono ?_; rintro e w' ⟨rfl, hF⟩) | (go_at_call 18; refine (alive_any _).mono ?_; rintro e w' ⟨rfl, rfl⟩) | (go_at_call 31; refine (specCodeOk_any _ _).mono ?_; rintro e w' ⟨rfl, rfl⟩))
    go_ret
    exact ⟨rfl, (by repeat (first | with_reducible exact Fresh.refl _ | assumption | refine Fresh.trans ?_ (by assumption)))⟩

theorem setOfI_cases (zs : List Int) : (setOfI zs = -1) ∨ ((∀ z ∈ zs, 0 ≤ z ∧ z ≤ 15) ∧ isCodeB (setOfI zs) = true ∧ ∀ i, (setOfI zs).toNat.testBit i = decide (i ∈ zs.map Int.toNat)) := by
  by_cases h : zs.all (inB · 0 15) = true
  · right
    have h1 : ∀ z ∈ zs, 0 ≤ z ∧ z ≤ 15 := fun z hz => (inB_iff z 0 15).1 (List.all_eq_true.1 h z hz)
    have e : setOfI zs = ((setL (zs.map Int.toNat) : Nat) : Int) := by unfold setOfI; rw [if_pos h]
    have hlt : setL (zs.map Int.toNat) < 65536 := setL_lt _ (by
      intro m hm
      obtain ⟨z, hz, rfl⟩ := List.mem_map.1 hm
      have := h1 z hz; omega)
    refine ⟨h1, ?_, fun i => ?_⟩
    · rw [e, isCodeB_iff]; omega
    · rw [e, Int.toNat_natCast, testBit_setL]
  · left; unfold setOfI; rw [if_neg h]
theorem setOfI_same {xs ys : List Int} (h : ∀ z, z ∈ xs ↔ z ∈ ys) : setOfI xs = setOfI ys := by
  have e : xs.all (inB · 0 15) = ys.all (inB · 0 15) := by
    rw [Bool.eq_iff_iff, List.all_eq_true, List.all_eq_true]
    exact ⟨fun a z hz => a z ((h z).2 hz), fun a z hz => a z ((h z).1 hz)⟩
  unfold setOfI
  rw [e]
  split
  · congr 1
    apply Nat.eq_of_testBit_eq
    intro i
    rw [testBit_setL, testBit_setL]
    congr 1
    apply propext
    simp only [List.mem_map]
    exact ⟨fun ⟨z, a, b⟩ => ⟨z, (h z).1 a, b⟩, fun ⟨z, a, b⟩ => ⟨z, (h z).2 a, b⟩⟩
  · rfl
theorem setOfI_has {zs : List Int} (h : ∀ z ∈ zs, 0 ≤ z ∧ z ≤ 15) (hc : isCodeB (setOfI zs) = true) (hb : ∀ i, (setOfI zs).toNat.testBit i = decide (i ∈ zs.map Int.toNat)) {z : Int} (hz : z ∈ zs) : hasB (setOfI zs) z = true := by
  have := h z hz
  rw [hasB_iff]
  refine ⟨hc, this, ?_⟩
  rw [hb]; exact decide_eq_true (List.mem_map.2 ⟨z, hz, rfl⟩)
/-- what the loop of FnSetOf has gathered: the last ones, in the other order -/
def backTo (zs : List Int) (k : Nat) : List Int := (zs.drop k).reverse
theorem backTo_step (zs : List Int) (k : Nat) (hk : k < zs.length) : backTo zs k = backTo zs (k + 1) ++ [zs[k]] := by
  rw [backTo, backTo, List.drop_eq_getElem_cons hk, List.reverse_cons]
theorem backTo_len (zs : List Int) (k : Nat) : (backTo zs k).length ≤ zs.length := by
  rw [backTo, List.length_reverse, List.length_drop]; omega

set_option maxHeartbeats 1000000 in
theorem fnSetOf_walk (w : World) (v : Value) (bs : List Int) (h : Bytes w v bs) (hb : ∀ x ∈ bs, 0 ≤ x ∧ x ≤ 255) :
    Calls Try.prog 4 #[v] w fun e w' => e = .returned (.bool true) ∧ Fresh w w' := by
  obtain ⟨a, cap, rfl⟩ := h.len
  have hbd := h.bound
  by_cases hl : 1048576 < bs.length
  · go_enter Try.func4, Try.ntmps4
    go_wp2
    go_ret
    exact ⟨rfl, Fresh.refl _⟩
  have HB := Lib.hid h
  have HB2 := Lib.hid hb
  clear h hb
  go_enter Try.func4, Try.ntmps4
  go_wp2_with fail
  refine (drawSetOf_any _ bs _ HB.out HB2.out).mono ?_
  rintro e w1 ⟨v, zs, rfl, hO, hlen, hF1⟩
  clear HB HB2
  go_wp2_with fail
  refine (implSetOf_any _ _ _ hO.ints).mono ?_
  rintro e w2 ⟨rfl, hF2⟩
  have hO2 := hO.fresh hF2
  go_wp2_with fail
  refine (specSetOf_any _ _ _ hO2.ints).mono ?_
  rintro e w3 ⟨rfl, hF3⟩
  have hO3 := hO2.fresh hF3
  have hF4 := Lib.hid ((hF1.trans hF2).trans hF3)
  clear hO hO2 hF1 hF2 hF3
  rcases setOfI_cases zs with h0 | ⟨h1, hc, hb⟩
  · go_wp2_with (first | (go_at_call 18; refine (alive_any _).mono ?_; rintro e w' ⟨rfl, rfl⟩))
    go_ret
    exact ⟨rfl, hF4.out⟩
  · have HH := Lib.hid (fun z (hz : z ∈ zs) => setOfI_has h1 hc hb hz)
    have H1 := Lib.hid (setOfI_same (xs := backTo zs 0) (ys := zs) (fun z => by simp [backTo]))
    have H2 := Lib.hid (setOfI_same (xs := zs ++ backTo zs 0) (ys := zs) (fun z => by simp [backTo]))
    obtain ⟨n, hn⟩ : ∃ n, n = setOfI zs := ⟨_, rfl⟩
    rw [← hn] at hc HH H1 H2
    rw [← hn]
    have hn0 := (isCodeB_iff n).1 hc
    obtain ⟨hn1, hn2⟩ := hn0
    clear hn h1 hb
    obtain ⟨a, cap, rfl⟩ := hO3.ints.len
    go_wp2
    go_loopw [5, 6] (fun v i wr => ∃ k : Nat, k ≤ zs.length ∧ i = .int .i64 ((k : Int) - 1) ∧ Owns w3.heap.size wr.heap.size wr v (backTo zs k) ∧ Fresh w3 wr) (fun _ i _ => (intOf i + 1).toNat)
    case atStart => exact ⟨zs.length, Nat.le_refl _, rfl, (show backTo zs zs.length = [] by simp [backTo]) ▸ Owns.empty w3, (Fresh.refl w3).alloc _⟩
    case round =>
      obtain ⟨k, hk, rfl, hO, hF⟩ := hrel
      by_cases h0 : k = 0
      · subst h0
        have hlb := backTo_len zs 0
        go_wp2_with fail
        refine (implSetOf_any _ _ _ hO.ints).mono ?_
        rintro e w6 ⟨rfl, hF6⟩
        rw [H1.out]
        have hO5 := Lib.hid (hO.fresh hF6)
        have hO4 := Lib.hid ((hO3.fresh hF).fresh hF6)
        have hs6 := (hF.trans hF6).size
        have hEm := Lib.hid (Owns.empty w6)
        clear hO hO3
        go_wp2_with (at_builtin; refine wpList_append_ints _ rfl _ _ rfl w6.heap.size _ _ [] rfl hEm.out ?_ _ zs rfl (hO4.out.fresh ((Fresh.refl w6).alloc _)).src ?_ ?_)
        · simp
        · simp; omega
        intro v7 w7 hO7 hK7
        have hs7 := hK7.size
        simp at hs7
        have hF7 : Fresh w6 w7 := ((Fresh.refl w6).alloc _).keepsTrans hK7 (fun i hi => hi)
        go_wp2_with (at_builtin; refine wpList_append_ints _ rfl _ _ rfl w6.heap.size _ _ zs rfl hO7 ?_ _ (backTo zs 0) rfl (hO5.out.fresh hF7).src ?_ ?_)
        · omega
        · omega
        intro v8 w8 hO8 hK8
        have hF8 : Fresh w6 w8 := hF7.keepsTrans hK8 (fun i hi => hi)
        clear hO7 hK7 hK8
        go_wp2_with fail
        refine (implSetOf_any _ _ _ hO8.ints).mono ?_
        rintro e w9 ⟨rfl, hF9⟩
        rw [H2.out]
        go_wp2_with (first | (go_at_call 22; refine (implCodeOk_any _ _).mono ?_; rintro e w' ⟨rfl, rfl⟩) | (go_at_call 18; refine (alive_any _).mono ?_; rintro e w' ⟨rfl, rfl⟩))
        go_ret
        exact ⟨rfl, (((hF4.out.trans hF).trans hF6).trans hF8).trans hF9⟩
      · obtain ⟨j, rfl⟩ : ∃ j, k = j + 1 := ⟨k - 1, by omega⟩
        have hj : j < zs.length := by omega
        have hlb := backTo_len zs (j + 1)
        have HS := Lib.hid (backTo_step zs j hj)
        obtain ⟨b', off, rfl, hc'⟩ := (hO3.fresh hF).elem hj
        have hz := HH.out zs[j] (List.getElem_mem hj)
        obtain ⟨x, hx⟩ : ∃ x, x = zs[j] := ⟨_, rfl⟩
        rw [← hx] at hc' hz HS
        clear hx
        have e1 : ((j + 1 : Nat) : Int) - 1 = (j : Int) := by omega
        rw [e1]
        have hs := hF.size
        go_wp2_with (first | (at_builtin; refine wpList_append_ints _ rfl _ _ rfl w3.heap.size _ _ (backTo zs (j + 1)) rfl (hO.fresh ((Fresh.refl wr).alloc _)) ?_ _ [x] rfl (Src.one wr x _) ?_ ?_) | (go_at_call 16; refine (implHas_any _ _ _).mono ?_; rintro e w' ⟨rfl, rfl⟩))
        · simp; omega
        · simp; omega
        intro v8 w8 hO8 hK8
        have hF8 : Fresh w3 w8 := (hF.alloc _).keepsTrans hK8 (fun i hi => hi)
        clear hO hK8
        go_wp2
        go_roundw
        case rel => exact ⟨j, by omega, by go_num, by rw [HS.out]; exact hO8, hF8⟩
        case measure => simp [intOf]

end Go.Proofs.Ytknddbmcnfjaiaa
