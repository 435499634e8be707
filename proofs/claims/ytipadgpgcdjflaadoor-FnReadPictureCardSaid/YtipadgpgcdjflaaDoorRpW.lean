/- Reading pictures: the program's walks. -/
import Derived.Test.YtipadgpgcdjflaaDoorCutW
import Derived.Test.YtipadgpgcdjflaaDoorRpP
import Derived.Deep.Cut
namespace Go.Proofs.YtipadgpgcdjflaaDoor
open Go.RowKit

/-- a slice of strings seen from where it lies -/
theorem OwnsT.ofLt {lo hi hi' : Nat} {w : World} {v : Value} {zs : List (List UInt8)} (h : OwnsT lo hi w v zs) (hh : ∀ g, v.ownBlock = some g → g < hi') : OwnsT lo hi' w v zs := ⟨h.1, hh⟩
set_option maxRecDepth 100000 in
set_option maxHeartbeats 4000000 in
theorem readPicture_any (l : List UInt8) (hl : l.length ≤ 1048576) (w : World) : Calls Tryd.prog 24 #[.string (strV l)] w (RPPost l w) := by
  obtain ⟨hn, hO⟩ := OwnsT.split l w hl
  have HSP := Lib.hid (Tryd.strings_Split1 (strV l) 47 w (by rw [strV_size]; omega))
  rw [hn] at HSP
  have hF0 : Fresh w (w.alloc (.cells ((Lib.splitB ⟨#[47]⟩ 0 (Lib.countB (strV l) ⟨#[47]⟩) (strV l)).map Value.string).toArray 9)) := (Fresh.refl w).alloc _
  obtain ⟨w1, hw1⟩ : ∃ w1, w1 = w.alloc (.cells ((Lib.splitB ⟨#[47]⟩ 0 (Lib.countB (strV l) ⟨#[47]⟩) (strV l)).map Value.string).toArray 9) := ⟨_, rfl⟩
  rw [← hw1] at hO HSP hF0
  have hb0 : w.heap.size < w1.heap.size := by rw [hw1]; simp
  clear hw1 hn
  have hcl1 := (cutL_len l).1
  have hcl2 := (cutL_len l).2
  by_cases h5 : (cutL l).length ≤ 5
  case neg =>
    have HX := Lib.hid (fun w' => RPPost.no (l := l) (w := w) (w' := w') (r := .slice none 0 0) (rp_long h5) (OwnsR.nil _ _ _))
    go_enter Tryd.func24, Tryd.ntmps24
    go_wp2_with fail
    refine HSP.out.mono ?_
    rintro e w2 ⟨rfl, rfl⟩
    go_wp2
    go_ret2
    exact HX.out _ hF0
  have HPIC := Lib.hid (candP_pic h5)
  have HNO := Lib.hid (fun (h : rpB l = false) w' => RPPost.no (l := l) (w := w) (w' := w') (r := .slice none 0 0) h (OwnsR.nil _ _ _))
  have HYES := Lib.hid (fun (h : rpB l = true) w' r => RPPost.yes (l := l) (w := w) (w' := w') (r := r) h)
  have HST := Lib.hid (fM_start l (cutL l).length)
  have HLEN := Lib.hid (fun x hx => piece_len l x hx)
  obtain ⟨n, hnn⟩ : ∃ n, n = (cutL l).length := ⟨_, rfl⟩
  have HN := Lib.hid hnn
  rw [← hnn] at hO HSP hcl1 h5
  clear hcl2
  clear hnn
  go_enter Tryd.func24, Tryd.ntmps24
  go_wp2_with fail
  refine HSP.out.mono ?_
  rintro e w2 ⟨rfl, rfl⟩
  go_wp2_with fail
  refine (emptyPicture_any n (by omega) _).mono ?_
  rintro e w3 ⟨r, rfl, hR, hF3⟩
  have HS2 := HST.out
  rw [← HN.out] at HS2
  rw [HS2] at hR
  clear HS2
  obtain ⟨g, cap, rfl, hg1, hg2, hg3⟩ := hR.form (by rw [mkR_len]; omega)
  rw [mkR_len] at hR ⊢
  have hO3 := hO.fresh hF3
  have hF03 := hF0.trans hF3
  obtain ⟨lo, hlo⟩ : ∃ lo, lo = w2.heap.size := ⟨_, rfl⟩
  rw [← hlo] at hR hO3 hb0
  have hlo3 : lo ≤ w3.heap.size := by rw [hlo]; exact hF3.size
  have hwlo : w.heap.size ≤ lo := by omega
  clear hF0 hF3 hO HSP hlo hg1 hg2 hg3
  go_wp2
  go_loopw [20] (fun i wr => ∃ a : Nat, a ≤ n ∧ i = .int .i64 (a : Int) ∧ OwnsR lo wr.heap.size wr (.slice (some ⟨g, 0, none⟩) n cap) (mkR n (fM l a 0)) ∧ OwnsT w.heap.size lo wr (.slice (some ⟨w.heap.size, 0, none⟩) n n) (cutL l) ∧ Fresh w wr ∧ OkTo l a) (fun i _ => n - (intOf i).toNat)
  case atStart => exact ⟨0, by omega, rfl, hR, hO3, hF03, fun _ _ h => by omega⟩
  case round =>
    clear hR hO3 hF03
    obtain ⟨a, ha, rfl, hR, hO, hF, hOK⟩ := hrel
    by_cases hlt : a < n
    · have hac : a < (cutL l).length := by rw [← HN.out]; exact hlt
      obtain ⟨g0, cap0, heq, hc0⟩ := hO.strAt hac
      have hgw : w.heap.size = g0 := by
        simp only [Value.slice.injEq, Option.some.injEq, Addr.mk.injEq, and_true] at heq
        exact heq.1
      subst hgw
      clear heq
      have hpl := HLEN.out _ (List.getElem_mem hac)
      have HOK := Lib.hid hOK
      have HAC := Lib.hid hac
      obtain ⟨x, hx, hc1, hpl1⟩ : ∃ x, x = (cutL l)[a] ∧ wr.cell? ⟨w.heap.size, a, none⟩ = some (.string (strV x)) ∧ x.length ≤ l.length := ⟨_, rfl, hc0, hpl⟩
      clear hc0 hpl
      have HX1 := Lib.hid hx
      have hsz : (strV x).size = x.length := rfl
      clear hOK hx hac
      go_wp2
      go_loopw [27] (fun i wr2 => ∃ k : Nat, k ≤ x.length ∧ i = .int .i64 (k : Int) ∧ OwnsR lo wr2.heap.size wr2 (.slice (some ⟨g, 0, none⟩) n cap) (mkR n (fM l a k)) ∧ OwnsT w.heap.size lo wr2 (.slice (some ⟨w.heap.size, 0, none⟩) n n) (cutL l) ∧ Fresh w wr2 ∧ OkIn n x k) (fun i _ => x.length - (intOf i).toNat)
      case atStart => exact ⟨0, by omega, rfl, hR, hO, hF, fun _ _ h => by omega⟩
      case round =>
        clear hR hO hF hc1
        obtain ⟨k, hk, rfl, hR, hO, hF, hOI⟩ := hrel
        by_cases hkl : k < x.length
        · cases hok : okC n x[k]
          · have HX := Lib.hid (HNO.out (rp_bad' HN.out HAC.out HX1.out hkl hok))
            by_cases h48 : x[k].toNat < 48
            · have h48' : ((strV x)[k]'hkl).toNat < 48 := h48
              clear hok h48
              go_wp2
              go_ret2
              exact HX.out _ hF
            · have hge : ¬ (x[k].toNat < 48 + n) := by
                intro e
                rw [(okC_iff n x[k]).2 ⟨by omega, e⟩] at hok; cases hok
              have h1 : 48 + n ≤ ((strV x)[k]'hkl).toNat := by show 48 + n ≤ x[k].toNat; omega
              have h2 : ((strV x)[k]'hkl).toNat < 256 := UInt8.toNat_lt x[k]
              clear hok h48 hge
              go_wp2
              go_ret2
              exact HX.out _ hF
          · obtain ⟨o1, o2⟩ := (okC_iff n x[k]).1 hok
            have HOI := Lib.hid (hOI.step hkl hok)
            obtain ⟨v, hv⟩ : ∃ v, x[k].toNat = 48 + v := ⟨x[k].toNat - 48, by omega⟩
            have hvn : v < n := by omega
            have hrow : a < (mkR n (fM l a k)).length := by rw [mkR_len]; exact hlt
            have HST := Lib.hid (fM_step' HN.out HAC.out HX1.out hkl hv hvn hrow)
            have hrl := mkR_rowLen n (fM l a k) a hrow
            obtain ⟨rb, c, hc1, hc2, hfz, hr1, hr2, hr3, hst⟩ := hR.store2 (mkR_len _ _).symm (i := a) (j := v) hrow (by rw [hrl]; exact hvn)
            obtain ⟨hR2, hK2⟩ := hst 1
            rw [HST.out] at hR2
            have hR3 := hR2.wider (Nat.le_refl _) hK2.size
            clear hR2
            rw [hrl] at hc1
            have HYV := Lib.hid (show ((((strV x)[k]'(show k < (strV x).size from hkl)).toNat : Nat) : Int) - 48 = (v : Int) by show ((x[k].toNat : Nat) : Int) - 48 = v; omega)
            have h1 : 48 ≤ ((strV x)[k]'hkl).toNat := by show 48 ≤ x[k].toNat; omega
            have h2 : ((strV x)[k]'hkl).toNat < 48 + n := by show x[k].toNat < 48 + n; omega
            generalize ((mkR n (fM l a k))[a]'hrow)[v]'(by rw [hrl]; exact hvn) = old at hc2
            clear hst HST hok hOI o1 o2 hv hrl hR
            have hO2 := hO.keepsOff hK2 (fun g1 h1 h2 => by simp [Value.ownBlock] at h1; omega)
            have hF2 := hF.keepsTrans hK2 (fun i hi => by omega)
            clear hO hF hK2
            go_upto_region 14 with (fail)
            rw [HYV.out]
            clear h1 h2
            go_wp2
            go_roundw
            case rel => exact ⟨k + 1, by omega, by go_num, hR3, hO2, hF2, HOI.out⟩
            case measure => simp [intOf]; omega
        · have H1 := Lib.hid (fM_next' HN.out HAC.out HX1.out hkl)
          have H2 := Lib.hid (okTo_step' HN.out HAC.out HX1.out HOK.out hkl hOI)
          rw [H1.out] at hR
          go_wp2
          go_roundw
          case rel => exact ⟨a + 1, by omega, by go_num, hR, hO, hF, H2.out⟩
          case measure => simp [intOf]; omega
    · have H1 := Lib.hid (fM_all' HN.out hlt)
      have H2 := Lib.hid (rp_whole' HN.out h5 hOK hlt)
      rw [H1.out] at hR
      have HT := Lib.hid (pictureText_any _ (candP l) wr hR.rows HPIC.out)
      have hs := hR.wider hwlo (Nat.le_refl _)
      by_cases ht : picText (candP l) = l
      · have HX := Lib.hid (fun w' => HYES.out (by rw [H2.out, ht]; simp) w' (.slice (some ⟨g, 0, none⟩) n cap))
        rw [ht] at HT
        have heq := strV_eq l
        clear ht hOK
        go_wp2_with fail
        refine HT.out.mono ?_
        rintro e w5 ⟨rfl, hF5⟩
        have hs5 := (hs.fresh hF5).wider (Nat.le_refl _) hF5.size
        go_wp2
        go_ret2
        exact HX.out _ hs5 (hF.trans hF5)
      · have HX := Lib.hid (HNO.out (by rw [H2.out]; simp [ht]))
        have hne := strV_ne ht
        clear ht hOK
        go_wp2_with fail
        refine HT.out.mono ?_
        rintro e w5 ⟨rfl, hF5⟩
        go_wp2
        go_ret2
        exact HX.out _ (hF.trans hF5)
set_option maxHeartbeats 400000 in
theorem implReadPicture_any (l : List UInt8) (hl : l.length ≤ 1048576) (w : World) : Calls Tryd.prog 8 #[.string (strV l)] w (RPPost l w) := by
  have HC := Lib.hid (readPicture_any l hl w)
  obtain ⟨b, hb⟩ : ∃ b, b = rpB l := ⟨_, rfl⟩
  have HB := Lib.hid hb
  unfold RPPost at HC
  rw [← hb] at HC
  clear hb
  go_enter Tryd.func8, Tryd.ntmps8
  go_wp2_with fail
  refine HC.out.mono ?_
  rintro e w1 ⟨r, rfl, hO, hF⟩
  go_wp2
  go_ret2
  exact ⟨r, by rw [HB.out]; rfl, hO, hF⟩
end Go.Proofs.YtipadgpgcdjflaaDoor
