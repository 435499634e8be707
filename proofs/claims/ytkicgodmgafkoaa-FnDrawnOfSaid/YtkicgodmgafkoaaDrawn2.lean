/- Pictures of sets: the program's DrawnOf, walked. -/
import Derived.Test.YtkicgodmgafkoaaDrawn
import Derived.Test.YtkicgodmgafkoaaLeft
import Derived.StillTailTactics
namespace Go.Proofs.Ytkicgodmgafkoaa
open Go.RowKit

set_option maxHeartbeats 4000000 in
theorem implDrawnOf_any (s : Int) (w : World) : Calls Try.prog 37 #[.int .i64 s] w (DrawnPost s w) := by
  cases hs : isCodeB s
  · have HX := Lib.hid (drawnB_no hs)
    go_enter Try.func37, Try.ntmps37
    go_wp2_with fail
    refine (isCode_any _ _).mono ?_
    rintro e w' ⟨rfl, rfl⟩
    rw [hs]
    clear hs
    go_wp2
    go_ret2
    exact DrawnPost.no HX.out (OwnsR.nil _ _ _) (Fresh.refl _)
  · have hs2 := (isCodeB_iff s).1 hs
    obtain ⟨n, rfl⟩ := Int.eq_ofNat_of_zero_le hs2.1
    have hn : n < 65536 := by omega
    have hn2 : n ≤ 65535 := by omega
    have HC := Lib.hid hs
    have hfl := (fill_full hn).2
    have HN0 := Lib.hid (Owns.lit1 w (n : Int))
    have hF1 : Fresh w (w.alloc (Obj.cells #[.int .i64 (n : Int)] 3)) := (Fresh.refl w).alloc _
    clear hs hs2
    go_enter Try.func37, Try.ntmps37
    go_wp2_with fail
    refine (isCode_any _ _).mono ?_
    rintro e w' ⟨rfl, rfl⟩
    rw [HC.out]
    go_wp2_with fail
    refine (filledOf_any n hn _).mono ?_
    rintro e w2 ⟨rfl, hF2⟩
    have hN2 := (HN0.out.fresh hF2).wider (Nat.le_refl _) hF2.size
    have hF2' := hF1.trans hF2
    have hlow : w.heap.size < w2.heap.size := by have := hF2.size; simp at this; omega
    clear HN0 hF1 hF2
    go_wp2_with fail
    refine (membersOf_any ((fillN n : Nat) : Int) (by omega) (by omega) _).mono ?_
    rintro e w3 ⟨mv, rfl, hM3, hF3⟩
    rw [Int.toNat_natCast] at hM3
    have hN3 := (hN2.fresh hF3).wider (Nat.le_refl _) hF3.size
    have hF3' := hF2'.trans hF3
    have HS0 := Lib.hid (show [(n : Int)] = (nodesTo n (memL (fillN n)).length).map Int.ofNat by rw [nodesTo_full]; rfl)
    rw [HS0.out] at hN3
    have HST := Lib.hid (fun m hm => nodesTo_step (n := n) (m := m) hm)
    have HLN := Lib.hid (fun m => nodesTo_len n m)
    have HZ := Lib.hid (nodesTo_zero n)
    have hML : (memL (fillN n)).length ≤ 16 := by
      have := List.length_filter_le (fillN n).testBit (List.range 16)
      simpa [memL] using this
    obtain ⟨nt, hnt⟩ : ∃ nt, nt = nodesTo n := ⟨_, rfl⟩
    obtain ⟨M, hMd⟩ : ∃ M, M = memL (fillN n) := ⟨_, rfl⟩
    rw [← hnt] at HZ hN3
    simp only [← hnt] at HLN HST
    generalize memL (fillN n) = M at HST hN3 hM3 hML
    obtain ⟨ma, mc, hmv⟩ := hM3.ints.len
    rw [List.length_map] at hmv
    subst hmv
    obtain ⟨lo, hlo⟩ : ∃ lo, lo = w2.heap.size := ⟨_, rfl⟩
    obtain ⟨hi, hhi⟩ : ∃ hi, hi = w3.heap.size := ⟨_, rfl⟩
    have hoff : OffU (.slice (some ⟨w.heap.size, 0, none⟩) 1 1) lo hi := ⟨by simp, fun g hg => by simp [Value.ownBlock] at hg; omega⟩
    have hhi2 : hi ≤ w3.heap.size := by omega
    rw [← hlo, ← hhi] at hM3
    clear hN2 hF2' hF3 hlow hlo hhi hnt hMd HS0
    go_wp2
    go_loopw [4, 6] (fun u i wr => ∃ m : Nat, m ≤ M.length ∧ i = .int .i64 ((m : Int) - 1) ∧ Owns w.heap.size wr.heap.size wr u ((nt m).map Int.ofNat) ∧ Fresh w wr ∧ OffU u lo hi ∧ hi ≤ wr.heap.size ∧ Owns lo hi wr (.slice ma M.length mc) (M.map Int.ofNat)) (fun _ i _ => (intOf i + 1).toNat)
    case atStart => exact ⟨M.length, by omega, by go_num, hN3, hF3', hoff, hhi2, hM3⟩
    case round =>
      clear hN3 hF3' hoff hhi2 hM3
      obtain ⟨m, hm, rfl, hN, hF, hoff, hhi, hM⟩ := hrel
      by_cases hm0 : m = 0
      · subst hm0
        rw [show (((0 : Nat) : Int) - 1) = -1 by omega]
        rw [HZ.out] at hN
        have HLL := Lib.hid (nodesL_len n)
        have HCO := Lib.hid (fun i hi => nodesL_code (i := i) hn hi)
        have HME := Lib.hid (fun j hj0 hj => nodesL_mem (n := n) (i := j) hj0 hj)
        have HFI2 := Lib.hid (fun i j hi hj0 hj => drawF_in (n := n) (i := i) (j := j) hi hj0 hj)
        have HF0 := Lib.hid (drawF_first n)
        have HBY := Lib.hid (fun (k : (nodesL n).length ≤ 5) => drawnB_yes HC.out k)
        have HBN := Lib.hid (fun (k : ¬ (nodesL n).length ≤ 5) => drawnB_many (s := (n : Int)) k)
        have HPY := Lib.hid (fun (w' : World) (r : Value) => DrawnPost.yes (s := (n : Int)) (w := w) (w' := w') (r := r))
        have h1L : 0 < (nodesL n).length := by simp [nodesL]
        rw [Int.toNat_natCast] at HPY
        obtain ⟨f, hf⟩ : ∃ f, f = drawF n := ⟨_, rfl⟩
        rw [← hf] at HF0 HPY
        simp only [← hf] at HFI2
        clear hf HZ HLN HST hoff hhi hM
        generalize nodesL n = NL at HLL HCO HME HFI2 HBY HBN HPY hN h1L
        obtain ⟨g, cap, heq, hg1, hg2, hg3, hcap, hcap2⟩ := hN.form (by simpa using h1L)
        rw [List.length_map] at heq hcap
        subst heq
        by_cases h5 : NL.length ≤ 5
        case neg =>
          have HX := Lib.hid (HBN.out h5)
          go_wp2
          go_ret2
          exact DrawnPost.no HX.out (OwnsR.nil _ _ _) hF
        have HX := Lib.hid (HBY.out h5)
        have hd5 : decide ((5 : Int) < NL.length) = false := decide_eq_false (by omega)
        go_wp2_with fail
        refine (emptyPicture_any NL.length (by omega) _).mono ?_
        rintro e w4 ⟨pv, rfl, hP4, hF4⟩
        have hP4 := emptyPicture_mk f hP4
        obtain ⟨gp, capp, heq, hp1, hp2, hp3⟩ := hP4.form (by rw [scan_len]; omega)
        rw [scan_len] at heq
        subst heq
        have hN4 := hN.fresh hF4
        have hF4' := hF.trans hF4
        have hle := hF.size
        obtain ⟨lo4, hlo4⟩ : ∃ lo4, lo4 = wr.heap.size := ⟨_, rfl⟩
        rw [← hlo4] at hP4 hN4 hle
        clear hN hF hF4 hlo4 hp1 hp2 hp3 hg2 hg3 hm
        unfold maxLen at hcap2
        go_wp2
        go_loopw [42] (fun i wr => ∃ k : Nat, k ≤ NL.length ∧ i = .int .i64 k ∧ OwnsR lo4 wr.heap.size wr (.slice (some ⟨gp, 0, none⟩) NL.length capp) (scan NL.length f k 0) ∧ Owns w.heap.size lo4 wr (.slice (some ⟨g, 0, none⟩) NL.length cap) (NL.map Int.ofNat) ∧ Fresh w wr) (fun i _ => NL.length - (intOf i).toNat)
        case atStart => exact ⟨0, by omega, rfl, hP4, hN4, hF4'⟩
        case round =>
          clear hP4 hN4 hF4'
          obtain ⟨k, hk, rfl, hP, hN, hF⟩ := hrel
          by_cases hlt : k < NL.length
          · have hP1 : OwnsR lo4 wr.heap.size wr (.slice (some ⟨gp, 0, none⟩) NL.length capp) (scan NL.length f k 1) := by rw [scan_skip (HF0.out k)]; exact hP
            have hc1 := hN.nodeAt hlt
            have hAc := HCO.out k hlt
            have hfa := HFI2.out k
            obtain ⟨A, hA2⟩ : ∃ A, A = NL[k] := ⟨_, rfl⟩
            have HFA := Lib.hid (show ∀ j (_ : 0 < j) (hj : j < NL.length), f k j = if A.testBit NL[j] then 1 else 0 by rw [hA2]; exact fun j hj0 hj => hfa j hlt hj0 hj)
            rw [← hA2] at hc1 hAc
            clear hP hA2 hfa
            by_cases hcap1 : cap = 1
            · subst hcap1
              have hNL1 : NL.length = 1 := by omega
              have hk0 : k = 0 := by omega
              subst hk0
              rw [← hNL1, scan_row] at hP1
              have HN1 := Lib.hid hNL1
              have hL1 : ((NL.length : Int) - 1) = 0 := by omega
              have HP1 := Lib.hid (And.intro hP1 (And.intro hN hF))
              clear hNL1 hP1 hN hF
              go_wp2
              go_loop [50] (fun i => i = .int .i64 0) (fun _ => 0)
              case atStart => rfl
              case round =>
                obtain rfl := hrel
                go_wp2
                go_roundw
                case rel => exact ⟨1, by have := HN1.out; omega, by go_num, HP1.out.1, HP1.out.2.1, HP1.out.2.2⟩
                case measure => have := HN1.out; simp [intOf]; omega
            · have hcapx : 2 ≤ cap := by omega
              go_wp2
              go_loopw [50] (fun i wr => ∃ j : Nat, j + 1 ≤ NL.length ∧ i = .int .i64 j ∧ OwnsR lo4 wr.heap.size wr (.slice (some ⟨gp, 0, none⟩) NL.length capp) (scan NL.length f k (j + 1)) ∧ Owns w.heap.size lo4 wr (.slice (some ⟨g, 0, none⟩) NL.length cap) (NL.map Int.ofNat) ∧ Fresh w wr) (fun i _ => NL.length - (intOf i).toNat)
              case atStart => exact ⟨0, by omega, rfl, hP1, hN, hF⟩
              case round =>
                clear hP1 hN hF
                obtain ⟨j, hj, rfl, hP, hN, hF⟩ := hrel
                by_cases hjl : j + 1 < NL.length
                · have hPd : OwnsR lo4 wr.drew.heap.size wr.drew (.slice (some ⟨gp, 0, none⟩) NL.length capp) (scan NL.length f k (j + 1)) := hP.fresh ((Fresh.refl wr).drew)
                  obtain ⟨r, c, y, f1, f2, f3, f4, f5, f6, hst⟩ := hPd.scanStore hlt hjl
                  have hc2 := hN.nodeAt hjl
                  have hBc := HME.out (j + 1) (by omega) hjl
                  have hfe := HFA.out (j + 1) (by omega) hjl
                  have hNd := hN.fresh ((Fresh.refl wr).drew)
                  have hFd := hF.drew
                  obtain ⟨B, hB2⟩ : ∃ B, B = NL[j + 1] := ⟨_, rfl⟩
                  rw [← hB2] at hc2 hBc hfe
                  have hx : f k (j + 1) = bits .and .i64 ((A : Int) / 2 ^ B) 1 := by rw [hfe, and_bit hAc]
                  have hc2 : wr.cell? ⟨g, 1 + j, none⟩ = some (.int .i64 (B : Int)) := by rw [Nat.add_comm]; exact hc2
                  obtain ⟨hO2, hK2⟩ := hst _ hx
                  have HD := Lib.hid (And.intro f1 (And.intro f2 (And.intro f3 (And.intro hO2 (And.intro hK2 (And.intro hNd hFd))))))
                  have f1 : wr.cell? ⟨gp, k, none⟩ = some (.slice (some ⟨r, 0, none⟩) NL.length c) := f1
                  have f2 : wr.cell? ⟨r, j + 1, none⟩ = some (.int .i64 y) := f2
                  have f3 : wr.frozen? ⟨r, j + 1, none⟩ = false := f3
                  have s1 : IntKind.i64.wrap ((j : Int) + 1) = (j : Int) + 1 := IntWalk.i64_in _ (by omega)
                  have s2 : (0 : Int) ≤ (j : Int) + 1 := by omega
                  have s3 : ((j : Int) + 1).toNat = j + 1 := by omega
                  have s4 : (j : Int) + 1 < (NL.length : Int) := by omega
                  have hk0 : (0 : Int) ≤ (k : Int) := Int.natCast_nonneg _
                  have hk1 : (k : Int) < (NL.length : Int) := by omega
                  have hB0 : (0 : Int) ≤ (B : Int) := Int.natCast_nonneg _
                  have hS := Lib.hid (And.intro s1 (And.intro s2 (And.intro s3 s4)))
                  clear hst hfe hx hO2 hK2 hB2 hPd hP hN hF hNd hFd s1 s2 s3 s4
                  go_wp2
                  obtain ⟨s1, s2, s3, s4⟩ := hS.out
                  go_still_tail 11, (by kernel_rfl)
                  change wpList _ _ _ _ _ wr.drew
                  clear f1 f2 f3 s1 s2 s3 s4
                  obtain ⟨f1, f2, f3, hO2, hK2, hNd, hFd⟩ := HD.out
                  clear HD hc2
                  have hN5 := hNd.keeps hK2 (fun g h1 h2 e => by omega)
                  have hF5 := hFd.keepsTrans hK2 (fun i hi => by omega)
                  have HR5 := Lib.hid (And.intro hO2 (And.intro hN5 hF5))
                  clear hO2 hK2 hNd hFd hN5 hF5
                  generalize wr.drew = w5 at *
                  go_wp2
                  go_roundw
                  case rel => exact ⟨j + 1, by omega, by go_num, HR5.out.1, HR5.out.2.1, HR5.out.2.2⟩
                  case measure => simp [intOf]; omega
                · rw [show j + 1 = NL.length by omega, scan_row] at hP
                  go_wp2
                  go_roundw
                  case rel => exact ⟨k + 1, hlt, by go_num, hP, hN, hF⟩
                  case measure => simp [intOf]; omega
          · rw [show k = NL.length by omega, scan_full] at hP
            go_wp2
            go_ret2
            exact HPY.out _ _ HX.out (hP.wider hle (Nat.le_refl _)) hF
      · obtain ⟨k, rfl⟩ : ∃ k, m = k + 1 := ⟨m - 1, by omega⟩
        have hk : k < M.length := by omega
        have HK := Lib.hid (show (((k + 1 : Nat) : Int) - 1) = (k : Int) by omega)
        rw [HK.out]
        obtain ⟨b2, off2, cap2, heq, hcell⟩ := hM.ints.at (k := k) (by rw [List.length_map]; exact hk)
        rw [List.length_map] at heq
        simp only [Value.slice.injEq, true_and] at heq; obtain ⟨rfl, rfl⟩ := heq
        have hc : wr.cell? ⟨b2, off2 + k, none⟩ = some (.int .i64 ((M[k] : Nat) : Int)) := by
          have := hcell k (by rw [List.length_map]; exact hk)
          rw [List.getElem_map] at this
          exact this
        have hst := HST.out k hk
        obtain ⟨x, hx⟩ : ∃ x, x = M[k] := ⟨_, rfl⟩
        rw [← hx] at hc hst
        have HS2 := Lib.hid (show (nt k).map Int.ofNat = (nt (k + 1)).map Int.ofNat ++ [(x : Int)] by rw [hst, List.map_append]; rfl)
        have HL2 := Lib.hid (show ((nt (k + 1)).map Int.ofNat).length ≤ 17 by rw [List.length_map]; exact HLN.out (k + 1))
        clear hm0 hm hcell hst hx
        go_wp2_with (at_builtin; refine wpList_append_off _ w _ _ _ lo hi rfl _ _ rfl _ rfl hN hF hoff hhi rfl (by have := HL2.out; omega) ?_)
        intro u' w4 hN4 hF4 hoff4 hK4
        have hM4 := hM.keeps hK4 (fun _ h1 h2 => Outside.off h1 h2)
        have hhi4 := Nat.le_trans hhi hK4.size
        clear hN hF hoff hhi hM hK4 hc
        go_wp2
        go_roundw
        case rel => exact ⟨k, by omega, by go_num, by rw [HS2.out]; exact hN4, hF4, hoff4, hhi4, hM4⟩
        case measure => simp [intOf]
end Go.Proofs.Ytkicgodmgafkoaa
