/- Pictures of sets: plain words, and walks of both DrawnOf. -/
import Derived.Test.YtkicgodmgafkoaaRnd2
import Derived.Test.YtkicgodmgafkoaaCodes4
import Derived.Test.YtkicgodmgafkoaaSetLaws
import Derived.StillTailTactics
namespace Go.Proofs.Ytkicgodmgafkoaa
open Go.RowKit

/-! ### the nodes -/
/-- the nodes of the picture of a set: the set, and then the members of the set filled up, from the greatest on -/
def nodesL (n : Nat) : List Nat := n :: (memL (fillN n)).reverse
def nodesTo (n m : Nat) : List Nat := n :: ((memL (fillN n)).drop m).reverse
theorem nodesTo_full (n : Nat) : nodesTo n (memL (fillN n)).length = [n] := by simp [nodesTo]
theorem nodesTo_zero (n : Nat) : nodesTo n 0 = nodesL n := by simp [nodesTo, nodesL]
theorem nodesTo_step {n m : Nat} (hm : m < (memL (fillN n)).length) : nodesTo n m = nodesTo n (m + 1) ++ [(memL (fillN n))[m]] := by
  simp only [nodesTo]
  rw [List.drop_eq_getElem_cons hm, List.reverse_cons]; rfl
theorem nodesTo_len (n m : Nat) : (nodesTo n m).length ≤ 17 := by
  have : (memL (fillN n)).length ≤ 16 := by
    have := List.length_filter_le (fillN n).testBit (List.range 16)
    simpa [memL] using this
  simp [nodesTo]; omega
theorem nodesL_len (n : Nat) : (nodesL n).length ≤ 17 := by rw [← nodesTo_zero]; exact nodesTo_len n 0
/-- the members of the set filled up, from m on -/
def upTo (n m : Nat) : List Nat := ((List.range 16).drop m).filter (fillN n).testBit
def nodesS (n m : Nat) : List Nat := n :: (upTo n m).reverse
theorem nodesS_full (n : Nat) : nodesS n 16 = [n] := by
  have : (List.range 16).drop 16 = [] := rfl
  simp only [nodesS, upTo, this]; rfl
theorem nodesS_zero (n : Nat) : nodesS n 0 = nodesL n := by simp [nodesS, upTo, nodesL, memL]
theorem nodesS_step {n m : Nat} (hm : m < 16) : nodesS n m = nodesS n (m + 1) ++ if (fillN n).testBit m then [m] else [] := by
  have e : (List.range 16).drop m = m :: (List.range 16).drop (m + 1) := by
    rw [List.drop_eq_getElem_cons (by simpa using hm)]; simp
  simp only [nodesS, upTo]
  rw [e, List.filter_cons]
  cases (fillN n).testBit m <;> simp
theorem nodesS_len (n m : Nat) : (nodesS n m).length ≤ 17 := by
  have h1 := List.length_filter_le (fillN n).testBit ((List.range 16).drop m)
  simp only [nodesS, upTo, List.length_cons, List.length_reverse]
  have h2 : ((List.range 16).drop m).length ≤ 16 := by simp
  omega
theorem nodesL_first (n : Nat) (h : 0 < (nodesL n).length) : (nodesL n)[0] = n := rfl
theorem nodesL_mem {n i : Nat} (hi : 0 < i) (h : i < (nodesL n).length) : (nodesL n)[i] < 16 := by
  obtain ⟨k, rfl⟩ : ∃ k, i = k + 1 := ⟨i - 1, by omega⟩
  have : (nodesL n)[k + 1] ∈ memL (fillN n) := by
    rw [← List.mem_reverse]
    exact List.getElem_mem (l := (memL (fillN n)).reverse) (by simpa [nodesL] using h)
  exact (mem_memL.1 this).1
theorem nodesL_code {n i : Nat} (hn : n < 65536) (h : i < (nodesL n).length) : (nodesL n)[i] < 65536 := by
  by_cases hi : 0 < i
  · have := nodesL_mem hi h; omega
  · obtain rfl : i = 0 := by omega
    exact hn
/-- its arrows -/
def drawF (n i j : Nat) : Int := if 0 < j && ((nodesL n).getD i 0).testBit ((nodesL n).getD j 0) then 1 else 0
theorem drawF_first (n i : Nat) : drawF n i 0 = 0 := rfl
theorem drawF_in {n i j : Nat} (hi : i < (nodesL n).length) (hj0 : 0 < j) (hj : j < (nodesL n).length) : drawF n i j = if ((nodesL n)[i]).testBit ((nodesL n)[j]) then 1 else 0 := by
  have e1 : (nodesL n).getD i 0 = (nodesL n)[i] := by simp [List.getD_eq_getElem?_getD, hi]
  have e2 : (nodesL n).getD j 0 = (nodesL n)[j] := by simp [List.getD_eq_getElem?_getD, hj]
  rw [drawF, e1, e2, decide_eq_true hj0, Bool.true_and]
def drawnB (s : Int) : Bool := isCodeB s && decide ((nodesL s.toNat).length ≤ 5)
def drawnL (s : Int) : List (List Int) := if drawnB s then mkR (nodesL s.toNat).length (drawF s.toNat) else []
theorem drawnB_no {s : Int} (h : isCodeB s = false) : drawnB s = false := by simp [drawnB, h]
theorem drawnB_many {s : Int} (h : ¬ (nodesL s.toNat).length ≤ 5) : drawnB s = false := by simp [drawnB, h]
theorem drawnB_yes {s : Int} (h : isCodeB s = true) (k : (nodesL s.toNat).length ≤ 5) : drawnB s = true := by simp [drawnB, h, k]
theorem drawnL_no {s : Int} (h : drawnB s = false) : drawnL s = [] := by simp [drawnL, h]
theorem drawnL_yes {s : Int} (h : drawnB s = true) : drawnL s = mkR (nodesL s.toNat).length (drawF s.toNat) := by simp [drawnL, h]
theorem and_bit {A B : Nat} (hA : A < 65536) : bits .and .i64 ((A : Int) / 2 ^ B) 1 = if A.testBit B then 1 else 0 := by
  have := shr_le (A : Int) B (by omega)
  have e := bit_eq (A : Int) B (by omega)
  rw [Int.toNat_natCast, Int.toNat_natCast] at e
  rw [and_one _ this.1 (by omega), e]

/-! ### memory -/
theorem Owns.lit1 (w : World) (x : Int) : Owns w.heap.size (w.alloc (Obj.cells #[.int .i64 x] 3)).heap.size (w.alloc (Obj.cells #[.int .i64 x] 3)) (.slice (some ⟨w.heap.size, 0, none⟩) 1 1) [x] := by
  refine ⟨?_, fun g hg => ?_⟩
  · exact World.ownsRow_lit (base := w.heap.size) (size := 1) w #[.int .i64 x] 1 (Nat.le_refl _) (by unfold maxLen; omega) rfl
  · simp [Value.ownBlock] at hg; subst hg; simp
theorem Owns.keepOuter {lo hi lo2 hi2 : Nat} {w w' : World} {u v : Value} {zs : List Int} {rows : List (List Int)} (h : Owns lo hi w u zs) (hv : OwnsR lo2 hi2 w v rows) (hK : Keeps (fun k => v.ownBlock = some k) w w') : Owns lo hi w' u zs := by
  obtain ⟨vs2, hl2, k1, -⟩ := hv
  exact h.same fun g hg => hK.block g (h.blk g hg).2.2 (fun e => outer_ne k1 h g e hg)
/-- the walk's law: a row that is whole, and other ints are kept -/
theorem wpList_append_rowAtK {ops : Array Oper} {rest : List Oper} {o : Oper} {a : Act} {Q : Exit → Act → World → Prop} (wr wo W : World) (n : Nat) (f : Nat → Nat → Int) (k : Nat) (u v : Value) (t : TypeId) (u0 : Value) (zs0 : List Int) (lo0 hi0 : Nat) (hw : Region.wanted o (yielded ops a.tmps) = true) (s y : Operand)
    (ho : o.op = .call { callee := .builtin .append, args := #[s, y], argTypes := #[22, 22] })
    (hs : a.eval s = v) (h : RowsAt W n f k v wo) (h' : RowAt wo f k n u wr) (h0 : Owns lo0 hi0 wo u0 zs0) (sz : Nat) (hx : a.eval y = .slice (some ⟨sz, 0, none⟩) 1 1) (hsz : sz = wr.heap.size) (hk : k ≤ 1048576)
    (hK : ∀ v' w', RowsAt W n f (k + 1) v' w' → Owns lo0 hi0 w' u0 zs0 → wpList Try.prog ops Q rest (a.put o.dst v') w') : wpList Try.prog ops Q (o :: rest) a (wr.alloc (Obj.cells #[u] t)) := by
  subst hsz
  have hF : Fresh wr (wr.alloc (Obj.cells #[u] t)) := (Fresh.refl wr).alloc _
  have hs0 := h.2.size
  have hs1 := h'.2.size
  have hs2 := hF.size
  refine wpList_append_row _ hw s y ho W.heap.size wo.heap.size v (partR n f k) hs (h.1.fresh (h'.2.trans hF)) (by omega) ⟨wr.heap.size, 0, none⟩ 1 u (rowTo f k n) hx (one_new wr _ _ 0 _ rfl) ((h'.1.fresh hF).wider hs0 hs2) (fun g hg => (h'.1.blk g hg).1) (by rw [partR_len]; omega) ?_
  intro v' w' hO hKk
  exact hK v' w' ⟨by rw [partR_step]; exact hO, ((h.2.trans h'.2).trans hF).keepsTrans hKk (fun i hi => (h.1.blk i hi).1)⟩ ((h0.fresh (h'.2.trans hF)).keepOuter (h.1.fresh (h'.2.trans hF)) hKk)

/-- what DrawnOf answers -/
def DrawnPost (s : Int) (w : World) (e : Ending) (w' : World) : Prop := ∃ r, e = .returned (.tuple #[r, .bool (drawnB s)]) ∧ OwnsR w.heap.size w'.heap.size w' r (drawnL s) ∧ Fresh w w'
theorem DrawnPost.no {s : Int} {w w' : World} {r : Value} (h : drawnB s = false) (hO : OwnsR w.heap.size w'.heap.size w' r []) (hF : Fresh w w') : DrawnPost s w (.returned (.tuple #[r, .bool false])) w' := by
  refine ⟨_, by rw [h], ?_, hF⟩
  rw [drawnL_no h]; exact hO
theorem DrawnPost.yes {s : Int} {w w' : World} {r : Value} (h : drawnB s = true) (hO : OwnsR w.heap.size w'.heap.size w' r (mkR (nodesL s.toNat).length (drawF s.toNat))) (hF : Fresh w w') : DrawnPost s w (.returned (.tuple #[r, .bool true])) w' := by
  refine ⟨_, by rw [h], ?_, hF⟩
  rw [drawnL_yes h]; exact hO
/-- the cells of a slice of nodes -/
theorem Owns.nodeAt {lo hi : Nat} {w : World} {g cap : Nat} {NL : List Nat} (h : Owns lo hi w (.slice (some ⟨g, 0, none⟩) NL.length cap) (NL.map Int.ofNat)) {j : Nat} (hj : j < NL.length) : w.cell? ⟨g, j, none⟩ = some (.int .i64 ((NL[j] : Nat) : Int)) := by
  have := h.cell (by simp) j (by simpa using hj)
  rw [this, List.getElem_map]; rfl

set_option maxHeartbeats 2000000 in
theorem specDrawnOf_any (s : Int) (w : World) : Calls Try.prog 38 #[.int .i64 s] w (DrawnPost s w) := by
  cases hs : isCodeB s
  · have HX := Lib.hid (drawnB_no hs)
    go_enter Try.func38, Try.ntmps38
    go_wp2_with fail
    refine (specCodeOk_any _ _).mono ?_
    rintro e w' ⟨rfl, rfl⟩
    rw [hs]
    clear hs
    go_wp2
    go_ret2
    exact DrawnPost.no HX.out (OwnsR.empty w) ((Fresh.refl w).alloc _)
  · have hs2 := (isCodeB_iff s).1 hs
    obtain ⟨n, rfl⟩ := Int.eq_ofNat_of_zero_le hs2.1
    have hn : n < 65536 := by omega
    have hn2 : n ≤ 65535 := by omega
    have HC := Lib.hid hs
    have HFI := Lib.hid (show fillI (n : Int) = ((fillN n : Nat) : Int) by rw [fillI_in hs]; rfl)
    have HFC := Lib.hid (show isCodeB ((fillN n : Nat) : Int) = true from (isCodeB_iff _).2 (by have := (fill_full hn).2; omega))
    have hO1 := OwnsR.empty w
    have hF1 : Fresh w (w.alloc (Obj.cells #[] 24)) := (Fresh.refl w).alloc _
    obtain ⟨wa, hwa⟩ : ∃ wa, wa = w.alloc (Obj.cells #[] 24) := ⟨_, rfl⟩
    have HSZ := Lib.hid (show wa.heap.size = w.heap.size + 1 by rw [hwa]; simp)
    have hN0 := Owns.lit1 wa (n : Int)
    rw [← hwa] at hO1 hF1
    have HI := Lib.hid (And.intro hO1 (And.intro hN0 hF1))
    have HWA := Lib.hid hwa
    clear hs hO1 hN0 hF1 hs2 hwa
    go_enter Try.func38, Try.ntmps38
    go_wp2_with fail
    rw [← HWA.out]
    refine (specCodeOk_any _ _).mono ?_
    rintro e w' ⟨rfl, rfl⟩
    rw [HC.out]
    obtain ⟨hO, hN, hF⟩ := HI.out
    have hFN : Fresh wa (wa.alloc (Obj.cells #[.int .i64 (n : Int)] 3)) := (Fresh.refl wa).alloc _
    have hO' := hO.fresh hFN
    have hF' := hF.trans hFN
    have HS0 := Lib.hid (show [(n : Int)] = (nodesS n 16).map Int.ofNat by rw [nodesS_full]; rfl)
    rw [HS0.out] at hN
    clear HI hO hF HWA
    go_wp2
    go_loopw [5, 6] (fun u i wr => ∃ m : Nat, m ≤ 16 ∧ i = .int .i64 ((m : Int) - 1) ∧ Owns wa.heap.size wr.heap.size wr u ((nodesS n m).map Int.ofNat) ∧ OwnsR w.heap.size wa.heap.size wr (.slice (some ⟨w.heap.size, 0, none⟩) 0 0) [] ∧ Fresh w wr ∧ Fresh wa wr) (fun _ i _ => (intOf i + 1).toNat)
    case atStart => exact ⟨16, by omega, by go_num, hN, hO', hF', hFN⟩
    case round =>
      clear hN hO' hF' hFN
      obtain ⟨m, hm, rfl, hN, hO, hF, hFa⟩ := hrel
      by_cases hm0 : m = 0
      · subst hm0
        rw [show (((0 : Nat) : Int) - 1) = -1 by omega]
        rw [nodesS_zero] at hN
        have HLL := Lib.hid (nodesL_len n)
        have HCO := Lib.hid (fun i hi => nodesL_code (i := i) hn hi)
        have HME := Lib.hid (fun j hj0 hj => nodesL_mem (n := n) (i := j) hj0 hj)
        have HFI2 := Lib.hid (fun i j hi hj0 hj => drawF_in (n := n) (i := i) (j := j) hi hj0 hj)
        have HF0 := Lib.hid (drawF_first n)
        have HBY := Lib.hid (fun (k : (nodesL n).length ≤ 5) => drawnB_yes HC.out k)
        have HBN := Lib.hid (fun (k : ¬ (nodesL n).length ≤ 5) => drawnB_many (s := (n : Int)) k)
        have HPY := Lib.hid (fun (w' : World) (r : Value) => DrawnPost.yes (s := (n : Int)) (w := w) (w' := w') (r := r))
        have h1L : 0 < (nodesL n).length := by simp [nodesL]
        rw [Int.toNat_natCast] at HPY
        obtain ⟨f, hf⟩ : ∃ f, f = drawF n := ⟨_, rfl⟩
        rw [← hf] at HF0 HPY
        simp only [← hf] at HFI2
        clear hf
        generalize nodesL n = NL at HLL HCO HME HFI2 HBY HBN HPY hN h1L
        obtain ⟨g, cap, heq, hg1, hg2, hg3, hcap, hcap2⟩ := hN.form (by simpa using h1L)
        rw [List.length_map] at heq hcap
        subst heq
        have hss := hFa.size
        have hA : RowsAt w NL.length f 0 (.slice (some ⟨w.heap.size, 0, none⟩) 0 0) wr := ⟨hO.wider (Nat.le_refl _) hss, hF⟩
        by_cases h5 : NL.length ≤ 5
        case neg =>
          have HX := Lib.hid (HBN.out h5)
          go_wp2
          go_ret2
          exact DrawnPost.no HX.out hA.1 hF
        have HX := Lib.hid (HBY.out h5)
        have hd5 : decide ((5 : Int) < NL.length) = false := decide_eq_false (by omega)
        obtain ⟨hi0, hhi0⟩ : ∃ hi0, hi0 = wr.heap.size := ⟨_, rfl⟩
        rw [← hhi0] at hN
        clear hO hF hFa hhi0 hg3
        go_wp2
        go_loopw [4, 7] (fun y i wr => ∃ k : Nat, k ≤ NL.length ∧ i = .int .i64 k ∧ RowsAt w NL.length f k y wr ∧ Owns wa.heap.size hi0 wr (.slice (some ⟨g, 0, none⟩) NL.length cap) (NL.map Int.ofNat)) (fun _ i _ => NL.length - (intOf i).toNat)
        case atStart => exact ⟨0, by omega, rfl, hA, hN⟩
        case round =>
          clear hA hN
          obtain ⟨k, hk, rfl, hA, hN⟩ := hrel
          obtain ⟨wo, rfl⟩ : ∃ wo : World, wo = wr := ⟨_, rfl⟩
          by_cases hlt : k < NL.length
          · have hdk : decide ((k : Int) < NL.length) = true := decide_eq_true (by omega)
            have HRo := Lib.hid (RowAt.empty wo f k)
            go_wp2
            go_loopw [8, 9] (fun y i wr => ∃ j : Nat, j ≤ NL.length ∧ i = .int .i64 j ∧ RowAt wo f k j y wr) (fun _ i _ => NL.length - (intOf i).toNat)
            case atStart => exact ⟨0, by omega, rfl, HRo.out⟩
            case round =>
              clear HRo
              obtain ⟨j, hj, rfl, hR⟩ := hrel
              by_cases hjl : j < NL.length
              · by_cases hj0 : j = 0
                · subst hj0
                  have HFE := Lib.hid (HF0.out k)
                  go_wp2
                  go_quiet (fail)
                  go_wp2_with (at_builtin; refine wpList_append_at _ wo f k 0 0 _ rfl _ _ rfl _ rfl (hR.fresh ((Fresh.refl _).drewN _)) rfl HFE.out (by omega) ?_)
                  intro u' w2 hR2
                  clear hR
                  go_wp2
                  go_roundw
                  case rel => exact ⟨1, by omega, by go_num, hR2⟩
                  case measure => simp [intOf]; omega
                · have hjp : 0 < j := by omega
                  have hj1 : (0 : Int) < (j : Int) := by omega
                  have hjd : decide (0 < j) = true := decide_eq_true hjp
                  have hjd2 : decide ((0 : Int) < (j : Int)) = true := decide_eq_true hj1
                  have hk0 : (0 : Int) ≤ (k : Int) := Int.natCast_nonneg _
                  have hk1 : (k : Int) < (NL.length : Int) := by omega
                  have hj2 : (0 : Int) ≤ (j : Int) := Int.natCast_nonneg _
                  have hj3 : (j : Int) < (NL.length : Int) := by omega
                  have hNx := hN.fresh hR.2
                  have hc1 := hNx.nodeAt hlt
                  have hc2 := hNx.nodeAt hjl
                  have hAc := HCO.out k hlt
                  have hBc := HME.out j hjp hjl
                  have hfe := HFI2.out k j hlt hjp hjl
                  obtain ⟨A, hA2⟩ : ∃ A, A = NL[k] := ⟨_, rfl⟩
                  obtain ⟨B, hB2⟩ : ∃ B, B = NL[j] := ⟨_, rfl⟩
                  rw [← hA2] at hc1 hAc hfe
                  rw [← hB2] at hc2 hBc hfe
                  have hhas : hasB (A : Int) (B : Int) = A.testBit B := has_nat ((isCodeB_iff _).2 (by omega)) hBc
                  cases hbit : A.testBit B
                  · have HFE := Lib.hid (show f k j = 0 by rw [hfe, hbit]; rfl)
                    have HQ := Lib.hid (show ∀ n' : Nat, Calls Try.prog 62 #[.int .i64 (A : Int), .int .i64 (B : Int)] (wr.drewN n') fun e w' => e = .returned (.bool false) ∧ w' = wr.drewN n' from
                      fun n' => (specHas_any _ _ _).mono fun e w' ⟨a, b⟩ => ⟨by rw [a, hhas, hbit], b.symm⟩)
                    clear hfe hhas hbit hA2 hB2 hNx hj0
                    go_wp2
                    go_quiet ((go_at_call 62; exact Calls.quiet_of_same (HQ.out _)))
                    go_wp2_with (at_builtin; refine wpList_append_at _ wo f k j 0 _ rfl _ _ rfl _ rfl (hR.fresh ((Fresh.refl _).drewN _)) rfl HFE.out (by omega) ?_)
                    intro u' w2 hR2
                    clear hR
                    go_wp2
                    go_roundw
                    case rel => exact ⟨j + 1, by omega, by go_num, hR2⟩
                    case measure => simp [intOf]; omega
                  · have HFE := Lib.hid (show f k j = 1 by rw [hfe, hbit]; rfl)
                    have HQ := Lib.hid (show ∀ n' : Nat, Calls Try.prog 62 #[.int .i64 (A : Int), .int .i64 (B : Int)] (wr.drewN n') fun e w' => e = .returned (.bool true) ∧ w' = wr.drewN n' from
                      fun n' => (specHas_any _ _ _).mono fun e w' ⟨a, b⟩ => ⟨by rw [a, hhas, hbit], b.symm⟩)
                    clear hfe hhas hbit hA2 hB2 hNx hj0
                    go_wp2
                    go_quiet ((go_at_call 62; exact Calls.quiet_of_same (HQ.out _)))
                    go_wp2_with (at_builtin; refine wpList_append_at _ wo f k j 1 _ rfl _ _ rfl _ rfl (hR.fresh ((Fresh.refl _).drewN _)) rfl HFE.out (by omega) ?_)
                    intro u' w2 hR2
                    clear hR
                    go_wp2
                    go_roundw
                    case rel => exact ⟨j + 1, by omega, by go_num, hR2⟩
                    case measure => simp [intOf]; omega
              · rw [show j = NL.length by omega] at hR
                obtain ⟨xa, xc, rfl⟩ := hR.form
                go_wp2_with (at_builtin; refine wpList_append_rowAtK _ wo w _ f k _ _ _ _ _ _ _ rfl _ _ rfl rfl hA hR hN _ rfl (by first | rfl | simp [World.setCell]) (by omega) ?_)
                intro v' w2 hA2 hN2
                clear hA hN hR
                go_wp2
                go_roundw
                case rel => exact ⟨k + 1, hlt, by go_num, hA2, hN2⟩
                case measure => simp [intOf]; omega
          · rw [show k = NL.length by omega] at hA
            go_wp2
            go_ret2
            exact HPY.out _ _ HX.out (by rw [← partR_full]; exact hA.1) hA.2
      · obtain ⟨k, rfl⟩ : ∃ k, m = k + 1 := ⟨m - 1, by omega⟩
        have hk : k < 16 := by omega
        have HK := Lib.hid (show (((k + 1 : Nat) : Int) - 1) = (k : Int) by omega)
        have HHN := Lib.hid (has_nat (k := k) HFC.out hk)
        have HST := Lib.hid (nodesS_step (n := n) hk)
        have HLN := Lib.hid (nodesS_len n (k + 1))
        rw [HK.out]
        clear hm0 hm
        go_wp2_with fail
        refine (specFilledOf_any _ _).mono ?_
        rintro e w2 ⟨rfl, hF2⟩
        rw [HFI.out]
        have hN2 := (hN.fresh hF2).wider (Nat.le_refl _) hF2.size
        have hO2 := hO.fresh hF2
        have hF2' := hF.trans hF2
        have hFa2 := hFa.trans hF2
        clear hN hO hF hFa hF2
        go_wp2_with fail
        refine (specHas_any _ _ _).mono ?_
        rintro e w' ⟨rfl, rfl⟩
        rw [HHN.out, Int.toNat_natCast]
        cases hbit : (fillN n).testBit k
        · have HS2 := Lib.hid (show nodesS n k = nodesS n (k + 1) by rw [HST.out, hbit, if_neg (by simp), List.append_nil])
          clear hbit
          go_wp2
          go_roundw
          case rel => exact ⟨k, by omega, by go_num, by rw [HS2.out]; exact hN2, hO2, hF2', hFa2⟩
          case measure => simp [intOf]
        · have HS2 := Lib.hid (show (nodesS n k).map Int.ofNat = (nodesS n (k + 1)).map Int.ofNat ++ [(k : Int)] by rw [HST.out, hbit, if_pos rfl, List.map_append]; rfl)
          clear hbit
          have hsz := hFa2.size
          go_wp2_with (at_builtin; refine wpList_append_ints _ rfl _ _ rfl wa.heap.size _ _ _ rfl (hN2.fresh ((Fresh.refl w2).alloc _)) ?_ _ [(k : Int)] rfl (Src.one w2 (k : Int) _) ?_ ?_)
          · simp; omega
          · have := HLN.out; simp; omega
          intro v' w3 hO3 hK3
          have hOx := (hO2.fresh ((Fresh.refl w2).alloc (Obj.cells #[.int .i64 (k : Int)] 3))).keeps hK3 (fun g h1 h2 h3 => by omega)
          have hFx := (hF2'.alloc (Obj.cells #[.int .i64 (k : Int)] 3)).keepsTrans hK3 (fun i hi => by have := HSZ.out; omega)
          have hFx2 := (hFa2.alloc (Obj.cells #[.int .i64 (k : Int)] 3)).keepsTrans hK3 (fun i hi => hi)
          clear hN2 hO2 hF2' hFa2 hK3
          go_wp2
          go_roundw
          case rel => exact ⟨k, by omega, by go_num, by rw [HS2.out]; exact hO3, hOx, hFx, hFx2⟩
          case measure => simp [intOf]
end Go.Proofs.Ytkicgodmgafkoaa
