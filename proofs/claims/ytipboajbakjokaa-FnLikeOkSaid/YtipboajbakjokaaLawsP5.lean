/- The law FnLikeOk, walked: it answers true. -/
import Derived.Test.YtipboajbakjokaaDraw6
import Derived.Test.YtipboajbakjokaaSameL
import Derived.Test.YtipboajbakjokaaTwo
import Derived.Test.YtipboajbakjokaaAlive
namespace Go.Proofs.Ytipboajbakjokaa
open Go.RowKit

theorem partR_zero (n : Nat) (f : Nat → Nat → Int) : partR n f 0 = [] := rfl

set_option maxHeartbeats 1000000 in
theorem fnLikeOk_walk (w : World) (v : Value) (bs : List Int) (h : Bytes w v bs) (hb : ∀ x ∈ bs, 0 ≤ x ∧ x ≤ 255) :
    Calls Try.prog 11 #[v] w fun e w' => e = .returned (.bool true) ∧ Fresh w w' := by
  obtain ⟨i0, hi, hz0, hz1, hz2⟩ := info_parts info_int
  obtain ⟨a, cap, rfl⟩ := h.len
  have hbd := h.bound
  by_cases hl : bs.length ≤ 1048576
  case neg =>
    go_enter Try.func11, Try.ntmps11
    go_wp2
    go_ret
    exact ⟨rfl, Fresh.refl _⟩
  go_enter Try.func11, Try.ntmps11
  go_wp2_with fail
  refine (drawLikeOk_any _ bs _ h hb).mono ?_
  rintro e w1 ⟨r, u, p, l, rfl, hp, hll, hsp, hsl, hF⟩
  have HS := Lib.hid hsp
  clear hsp hsl h hb
  go_wp2_with fail
  refine (implLikeOk_any _ _ p l _ hp hll).mono ?_
  rintro e w2 ⟨rfl, hF2⟩
  have hp2 := hp.fresh hF2
  have hl2 := hll.fresh hF2
  have hF2' := hF.trans hF2
  clear hp hll hF hF2
  go_wp2_with fail
  refine (specLikeOk_any _ _ p l _ hp2 hl2).mono ?_
  rintro e w3 ⟨rfl, hF3⟩
  have hp3 := hp2.fresh hF3
  have hF3' := hF2'.trans hF3
  clear hp2 hl2 hF2' hF3
  go_wp2_with fail
  refine (specPictureOk_any _ p _ hp3).mono ?_
  rintro e w4 ⟨rfl, rfl⟩
  obtain ⟨pa, pc, rfl⟩ := hp3.len
  cases hpic : picB p
  · rw [like_noPic hpic]
    clear hpic
    go_wp2_with fail
    refine (alive_any _).mono ?_
    rintro e w2 ⟨rfl, rfl⟩
    go_wp2
    go_ret
    exact ⟨rfl, hF3'⟩
  · have hn5 := ((picB_iff p).1 hpic).2.1
    have HO := Lib.hid (show likeB p (mkR p.length ownF) = true from like_own hpic)
    have HN := Lib.hid (like_none hpic)
    clear hpic
    obtain ⟨n, hn⟩ : ∃ n, n = p.length := ⟨_, rfl⟩
    rw [← hn] at hp3 HO HN hn5 ⊢
    have hby : i0.bytes * n ≤ 281474976710656 := by rw [hz2]; omega
    have HE := Lib.hid (Two.empty w3)
    clear hn hz2
    go_wp2
    go_loopw [6, 7, 8] (fun x y i wr => ∃ k : Nat, k ≤ n ∧ i = .int .i64 k ∧ Two w3 (partR n ownF k) (partR n (fun _ _ => 0) k) x y wr) (fun _ _ i _ => n - (intOf i).toNat)
    case atStart => exact ⟨0, by omega, rfl, HE.out⟩
    case round =>
      clear HE
      obtain ⟨k, hk, rfl, hA⟩ := hrel
      obtain ⟨wo, rfl⟩ : ∃ wo : World, wo = wr := ⟨_, rfl⟩
      by_cases hlt : k < n
      · have hdk : decide ((k : Int) < n) = true := decide_eq_true (by omega)
        have HP1 := Lib.hid (partR_step n ownF k)
        have HP2 := Lib.hid (partR_step n (fun _ _ => 0) k)
        have HL1 := Lib.hid (partR_len n ownF k)
        have HL2 := Lib.hid (partR_len n (fun _ _ => 0) k)
        go_wp2_with (at_make; refine wpList_make_full _ rfl _ _ 29 rfl wo.heap.size 3 i0 (.int .i64 0) 1 Try.underlying29 hi hz0 hz1 .i64 .i64 _ _ n rfl rfl rfl rfl hby ?c2 ?c3 ?_)
        case c2 => unfold maxLen; omega
        case c3 => exact Nat.le_refl _
        intro w5 hown hgr
        obtain ⟨f1, f2, hR⟩ := (RowAt.made (k := k) hown hgr).own hlt
        clear hown hgr
        go_wp2_with (at_builtin; refine wpList_append_two _ wo w3 _ _ _ _ _ _ _ rfl _ _ rfl rfl hA (by first | exact hR.1 | simpa [World.setCell] using hR.1) hR.2 _ rfl (by first | rfl | simp [World.setCell]) (by rw [HL1.out]; omega) ?_)
        intro v' w6 hA6
        clear hA hR f1 f2
        rw [← HP1.out] at hA6
        go_wp2_with (at_make; refine wpList_make_full _ rfl _ _ 29 rfl w6.heap.size 3 i0 (.int .i64 0) 1 Try.underlying29 hi hz0 hz1 .i64 .i64 _ _ n rfl rfl rfl rfl hby ?c4 ?c5 ?_)
        case c4 => unfold maxLen; omega
        case c5 => exact Nat.le_refl _
        intro w7 hown hgr
        have hR7 := RowAt.made (k := k) hown hgr
        clear hown hgr
        go_wp2_with (at_builtin; refine wpList_append_two _ w6 w3 _ _ _ _ _ _ _ rfl _ _ rfl rfl hA6.symm hR7.1 hR7.2 _ rfl (by first | rfl | simp [World.setCell]) (by rw [HL2.out]; omega) ?_)
        intro u' w8 hA8
        have hA8 := hA8.symm
        clear hA6 hR7
        rw [← HP2.out] at hA8
        go_wp2
        go_roundw
        case rel => exact ⟨k + 1, hlt, by go_num, hA8⟩
        case measure => simp [intOf]; omega
      · rw [show k = n by omega, partR_full, partR_full] at hA
        have hO := hA.1.rows
        have hN := hA.2.1.rows
        have hFw := hF3'.trans hA.2.2.2.2.2
        have hpw := hp3.fresh hA.2.2.2.2.2
        clear hA
        go_wp2_with fail
        refine (implLikeOk_any _ _ p _ _ hpw hO).mono ?_
        rintro e w5 ⟨rfl, hF5⟩
        rw [HO.out]
        go_wp2_with fail
        refine (implLikeOk_any _ _ p _ _ (hpw.fresh hF5) (hN.fresh hF5)).mono ?_
        rintro e w6 ⟨rfl, hF6⟩
        rw [HN.out]
        go_wp2
        go_ret
        exact ⟨rfl, (hFw.trans hF5).trans hF6⟩
end Go.Proofs.Ytipboajbakjokaa
