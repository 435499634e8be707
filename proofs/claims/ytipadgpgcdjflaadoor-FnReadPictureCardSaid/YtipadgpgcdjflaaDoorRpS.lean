/- Reading pictures: the reference's walk. -/
import Derived.Test.YtipadgpgcdjflaaDoorRpW
namespace Go.Proofs.YtipadgpgcdjflaaDoor
open Go.RowKit

/-- a row written out of some bytes -/
def rowS (n : Nat) (x : List UInt8) : List Int := (List.range n).map fun y => bitD x y
theorem rowS_len (n : Nat) (x : List UInt8) : (rowS n x).length = n := by simp [rowS]
theorem rowS_nil (n : Nat) : List.replicate n (0 : Int) = rowS n [] := by
  apply List.ext_getElem (by simp [rowS])
  intro i h1 h2
  simp [rowS, bitD_nil]
theorem rowS_snoc {n v : Nat} {t : List UInt8} {c : UInt8} (hc : c.toNat = 48 + v) : (rowS n t).set v 1 = rowS n (t ++ [c]) := by
  apply List.ext_getElem (by simp [rowS])
  intro i h1 h2
  by_cases hi : v = i
  · subst hi
    rw [List.getElem_set_self]
    simp [rowS, bitD_snoc _ _ _ v hc]
  · rw [List.getElem_set_ne hi]
    have : ¬ i = v := fun e => hi e.symm
    simp [rowS, bitD_snoc _ _ _ v hc, this]
theorem rowS_step {n k v : Nat} {x : List UInt8} (hk : k < x.length) (hc : x[k].toNat = 48 + v) : (rowS n (x.take k)).set v 1 = rowS n (x.take (k + 1)) := by
  rw [List.take_succ_eq_append_getElem hk]; exact rowS_snoc hc
/-- the rows of the first a parts -/
def rowsS (l : List UInt8) (n a : Nat) : List (List Int) := (List.range a).map fun i => rowS n (pieceOf l i)
theorem rowsS_len (l : List UInt8) (n a : Nat) : (rowsS l n a).length = a := by simp [rowsS]
theorem rowsS_step {l : List UInt8} {n a k : Nat} {x : List UInt8} (ha : a < (cutL l).length) (hx : x = (cutL l)[a]) (hk : ¬ k < x.length) : rowsS l n a ++ [rowS n (x.take k)] = rowsS l n (a + 1) := by
  subst hx
  rw [List.take_of_length_le (by omega), ← piece_in ha]
  simp [rowsS, List.range_succ]
theorem rowsS_all {l : List UInt8} {n a : Nat} (hn : n = (cutL l).length) (ha : a = n) : rowsS l n a = candP l := by
  subst ha; subst hn; rfl
theorem okTo_long {l : List UInt8} {n : Nat} (hn : n = (cutL l).length) (h : ¬ n ≤ 5) : rpB l = false ∧ picB (candP l) = false := by
  subst hn; exact ⟨rp_long h, candP_no h⟩
theorem cand_pic' {l : List UInt8} {n : Nat} (hn : n = (cutL l).length) (h : n ≤ 5) : picB (candP l) = true := by
  subst hn; exact candP_pic h
set_option maxRecDepth 100000 in
set_option maxHeartbeats 4000000 in
theorem specReadPicture_any (l : List UInt8) (hl : l.length ≤ 1048576) (w : World) : Calls Tryd.prog 7 #[.string (strV l)] w (RPPost l w) := by
  obtain ⟨i0, hi, hz0, hz1, hz2⟩ := info_parts info_int
  have hcl1 := (cutL_len l).1
  have hcl2 := (cutL_len l).2
  have HNO := Lib.hid (fun (h : rpB l = false) w' r => RPPost.no (l := l) (w := w) (w' := w') (r := r) h)
  have HYES := Lib.hid (fun (h : rpB l = true) w' r => RPPost.yes (l := l) (w := w) (w' := w') (r := r) h)
  have HLEN := Lib.hid (fun x hx => piece_len l x hx)
  have HE := Lib.hid (OwnsR.empty w)
  have hF0 : Fresh w (w.alloc (Obj.cells #[] 38)) := (Fresh.refl w).alloc _
  have HC := Lib.hid (l1Cut_any l hl (w.alloc (Obj.cells #[] 38)))
  obtain ⟨n, hnn⟩ : ∃ n, n = (cutL l).length := ⟨_, rfl⟩
  have HN := Lib.hid hnn
  have hn1 : n ≤ 1048577 := by omega
  have hn0 : 1 ≤ n := by omega
  have hby : i0.bytes * n ≤ 281474976710656 := by rw [hz2]; omega
  clear hz2 hcl1 hcl2 hnn
  go_enter Tryd.func7, Tryd.ntmps7
  go_wp2_with fail
  refine HC.out.mono ?_
  rintro e w1 ⟨r, rfl, hT, hF1⟩
  have hs0 := hF0.size
  have hT1 : OwnsT w.heap.size w1.heap.size w1 r (cutL l) := ⟨ownsRow_wider hT.1 hs0, hT.2⟩
  have hR1 := (HE.out.fresh hF1).wider (Nat.le_refl _) hF1.size
  obtain ⟨pa, pc, rfl⟩ := hT1.len
  have hF01 := hF0.trans hF1
  rw [← HN.out] at hT1 ⊢
  clear hT hF1 hF0 hs0
  go_wp2
  go_loopw [4, 6] (fun v i wr => ∃ a : Nat, a ≤ n ∧ i = .int .i64 (a : Int) ∧ OwnsR w.heap.size wr.heap.size wr v (rowsS l n a) ∧ OwnsT w.heap.size wr.heap.size wr (.slice pa n pc) (cutL l) ∧ Fresh w wr ∧ OkTo l a) (fun _ i _ => n - (intOf i).toNat)
  case atStart => exact ⟨0, by omega, rfl, hR1, hT1, hF01, fun _ _ h => by omega⟩
  case round =>
    clear hR1 hT1 hF01
    obtain ⟨a, ha, rfl, hR, hT, hF, hOK⟩ := hrel
    obtain ⟨wo, hwo⟩ : ∃ wo : World, wo = wr := ⟨_, rfl⟩
    subst hwo
    by_cases hlt : a < n
    · have hda : decide ((a : Int) < (n : Int)) = true := decide_eq_true (by omega)
      have hac : a < (cutL l).length := by rw [← HN.out]; exact hlt
      obtain ⟨x, hx, hpl⟩ : ∃ x, x = (cutL l)[a] ∧ x.length ≤ l.length := ⟨_, rfl, HLEN.out _ (List.getElem_mem hac)⟩
      have HAC := Lib.hid hac
      have HX1 := Lib.hid (show x = (cutL l)[a]'(HAC.out) from hx)
      have HOK := Lib.hid hOK
      have hs := hF.size
      clear hOK hx hac
      go_wp2_with (at_make; refine wpList_make_full _ rfl _ _ 38 rfl wo.heap.size 3 i0 (.int .i64 0) 1 Tryd.underlying38 hi hz0 hz1 .i64 .i64 _ _ n rfl rfl rfl rfl hby ?c2 ?c3 ?_)
      case c2 => unfold maxLen; omega
      case c3 => exact Nat.le_refl _
      intro w3 hown hgr
      have hF3 : Fresh wo w3 := (Fresh.refl wo).grown hgr (fun k hk => by cases hk)
      have hu := Owns.madeAt hown
      have HS0 := Lib.hid (rowS_nil n)
      rw [HS0.out] at hu
      clear hown hgr HS0
      go_wp2
      go_loopw [8] (fun j wr2 => ∃ k : Nat, k ≤ x.length ∧ j = .int .i64 (k : Int) ∧ Owns wo.heap.size wr2.heap.size wr2 (.slice (some ⟨wo.heap.size, 0, none⟩) n n) (rowS n (x.take k)) ∧ Fresh wo wr2 ∧ OkIn n x k) (fun j _ => x.length - (intOf j).toNat)
      case atStart => exact ⟨0, by omega, rfl, hu, hF3, fun _ _ h => by omega⟩
      case round =>
        clear hu hF3
        obtain ⟨k, hk, rfl, hu, hF3, hOI⟩ := hrel
        have hT3 := hT.fresh hF3
        obtain ⟨g0, cap0, heq, hc0⟩ := hT3.strAt HAC.out
        have hpg : pa = some ⟨g0, 0, none⟩ := by
          simp only [Value.slice.injEq] at heq
          exact heq.1
        subst hpg
        have hc1 : wr.cell? ⟨g0, a, none⟩ = some (.string (strV x)) := by rw [HX1.out]; exact hc0
        have hsz : (strV x).size = x.length := rfl
        clear heq hc0
        by_cases hkl : k < x.length
        · have h256 : ((strV x)[k]'hkl).toNat < 256 := UInt8.toNat_lt x[k]
          cases hok : okC n x[k]
          · have HX := Lib.hid (HNO.out (rp_bad' HN.out HAC.out HX1.out hkl hok))
            have HI := Lib.hid (show inB (((((strV x)[k]'(show k < (strV x).size from hkl)).toNat : Nat) : Int) - 48) 0 ((n : Int) - 1) = false from (inB_false _ _ _).2 (by
              intro e
              have e1 : (0 : Int) ≤ ((x[k].toNat : Nat) : Int) - 48 := e.1
              have e2 : ((x[k].toNat : Nat) : Int) - 48 ≤ (n : Int) - 1 := e.2
              rw [(okC_iff n x[k]).2 ⟨by omega, by omega⟩] at hok; cases hok))
            have hs3 := hF3.size
            have HF := Lib.hid (hF.trans hF3)
            clear hok hu hOI hT3
            go_wp2_with fail
            refine (l1In_any _ _ _ _).mono ?_
            rintro e w5 ⟨rfl, rfl⟩
            rw [HI.out]
            go_wp2
            go_ret2
            exact HX.out _ _ ((OwnsR.empty wr).wider (by omega) (Nat.le_refl _)) (HF.out.alloc _)
          · obtain ⟨o1, o2⟩ := (okC_iff n x[k]).1 hok
            have HOI := Lib.hid (hOI.step hkl hok)
            obtain ⟨v, hv⟩ : ∃ v, x[k].toNat = 48 + v := ⟨x[k].toNat - 48, by omega⟩
            have hvn : v < n := by omega
            have HST := Lib.hid (rowS_step (n := n) hkl hv)
            have HYV := Lib.hid (show ((((strV x)[k]'(show k < (strV x).size from hkl)).toNat : Nat) : Int) - 48 = (v : Int) by show ((x[k].toNat : Nat) : Int) - 48 = v; omega)
            have HI := Lib.hid (show inB (v : Int) 0 ((n : Int) - 1) = true from (inB_iff _ _ _).2 (by omega))
            have hvl : v < (rowS n (x.take k)).length := by rw [rowS_len]; exact hvn
            have hc2 := hu.cell (rowS_len _ _).symm v hvl
            obtain ⟨hfz, hu2, hK2⟩ := hu.store (rowS_len _ _).symm v 1
            rw [HST.out] at hu2
            have hu3 := hu2.wider (Nat.le_refl _) hK2.size
            have hF4 := hF3.keepsTrans hK2 (fun i hi => by omega)
            generalize (rowS n (x.take k))[v]'hvl = old at hc2
            clear hok o1 o2 hv hvl hu hu2 hK2 hF3 hOI HST hT3
            go_wp2_with fail
            rw [HYV.out]
            refine (l1In_any _ _ _ _).mono ?_
            rintro e w5 ⟨rfl, rfl⟩
            rw [HI.out]
            clear h256
            go_wp2
            go_roundw
            case rel => exact ⟨k + 1, by omega, by go_num, hu3, hF4, HOI.out⟩
            case measure => simp [intOf]; omega
        · have HOS := Lib.hid (okTo_step' HN.out HAC.out HX1.out HOK.out hkl hOI)
          have HRS := Lib.hid (rowsS_step (l := l) (n := n) HAC.out HX1.out hkl)
          have hsz3 := hF3.size
          have hrl := rowsS_len l n a
          obtain ⟨rows, hrows⟩ : ∃ rows, rows = rowsS l n a := ⟨_, rfl⟩
          obtain ⟨z, hz⟩ : ∃ z, z = rowS n (x.take k) := ⟨_, rfl⟩
          rw [← hrows] at hR hrl HRS
          rw [← hz] at hu HRS
          clear hrows hz hOI
          have hFa : Fresh wr (wr.alloc (Obj.cells #[.slice (some ⟨wo.heap.size, 0, none⟩) n n] 38)) := (Fresh.refl wr).alloc _
          have hA := Lib.hid ((hu.fresh hFa).wider hs hFa.size)
          have hB := Lib.hid ((hR.fresh hF3).fresh hFa)
          have hTa := hT3.fresh hFa
          have hFx := (hF.trans hF3).trans hFa
          have hlw : w.heap.size ≤ (wr.alloc (Obj.cells #[.slice (some ⟨wo.heap.size, 0, none⟩) n n] 38)).heap.size := hFx.size
          have hszw := hFa.size
          clear hu hT3
          go_wp2_with (at_builtin; refine wpList_append_row _ rfl _ _ rfl w.heap.size wo.heap.size _ rows rfl hB.out hlw ⟨wr.heap.size, 0, none⟩ 1 (.slice (some ⟨wo.heap.size, 0, none⟩) n n) z rfl (one_new wr _ _ 0 _ rfl) hA.out ?_ ?_ ?_)
          · intro g hg; simp [Value.ownBlock] at hg; omega
          · omega
          intro v' w6 hO6 hK6
          rw [HRS.out] at hO6
          have hT6 : OwnsT w.heap.size w6.heap.size w6 (.slice (some ⟨g0, 0, none⟩) n pc) (cutL l) := by
            obtain ⟨vs, hvl, h1, h2, h3, h4⟩ := hB.out
            exact (hTa.keepsOff hK6 (fun g hg e => outT_ne h1 hTa g e hg)).wider (by have := hK6.size; omega)
          have hF6 := hFx.keepsTrans hK6 (fun i hi => (hB.out.blk i hi).1)
          clear hA hB hTa hFx hK6 hFa
          go_wp2
          go_roundw
          case rel => exact ⟨a + 1, by omega, by go_num, hO6, hT6, hF6, HOS.out⟩
          case measure => simp [intOf]; omega
    · have hae : a = n := by omega
      have HRA := Lib.hid (rowsS_all HN.out hae)
      rw [HRA.out] at hR
      have hs := hF.size
      have HOKP := Lib.hid (specPictureOk_any _ (candP l) wo hR.rows)
      have HTX := Lib.hid (specPictureText_any _ (candP l) wo hR.rows)
      by_cases h5 : n ≤ 5
      · have HPIC := Lib.hid (cand_pic' HN.out h5)
        have H2 := Lib.hid (rp_whole' HN.out h5 hOK hlt)
        rw [HPIC.out] at HOKP
        rw [picI_in HPIC.out] at HTX
        by_cases ht : picText (candP l) = l
        · have HX := Lib.hid (fun w' r => HYES.out (by rw [H2.out, ht]; simp) w' r)
          rw [ht] at HTX
          have heq := strV_eq l
          clear ht hOK hae hT
          go_wp2_with fail
          refine HOKP.out.mono ?_
          rintro e w5 ⟨rfl, rfl⟩
          go_wp2_with fail
          refine HTX.out.mono ?_
          rintro e w6 ⟨rfl, hF6⟩
          have hs5 := (hR.fresh hF6).wider (Nat.le_refl _) hF6.size
          go_wp2
          go_ret2
          exact HX.out _ _ hs5 (hF.trans hF6)
        · have HX := Lib.hid (HNO.out (by rw [H2.out]; simp [ht]))
          have hne := strV_ne ht
          clear ht hOK hae hT
          go_wp2_with fail
          refine HOKP.out.mono ?_
          rintro e w5 ⟨rfl, rfl⟩
          go_wp2_with fail
          refine HTX.out.mono ?_
          rintro e w6 ⟨rfl, hF6⟩
          have hs6 := hF6.size
          go_wp2
          go_ret2
          exact HX.out _ _ ((OwnsR.empty w6).wider (by omega) (Nat.le_refl _)) ((hF.trans hF6).alloc _)
      · obtain ⟨hno, hpno⟩ := okTo_long HN.out h5
        have HX := Lib.hid (HNO.out hno)
        rw [hpno] at HOKP
        clear hno hpno hOK hae hT
        go_wp2_with fail
        refine HOKP.out.mono ?_
        rintro e w5 ⟨rfl, rfl⟩
        go_wp2
        go_ret2
        exact HX.out _ _ ((OwnsR.empty wo).wider (by omega) (Nat.le_refl _)) (hF.alloc _)
end Go.Proofs.YtipadgpgcdjflaaDoor
