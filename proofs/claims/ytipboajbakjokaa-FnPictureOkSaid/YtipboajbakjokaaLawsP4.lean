/- The law FnPictureOk, walked: it answers true. -/
import Derived.Test.YtipboajbakjokaaDraw6
import Derived.Test.YtipboajbakjokaaAlive
namespace Go.Proofs.Ytipboajbakjokaa
open Go.RowKit

theorem pic_bit_any {p : List (List Int)} (h : picB p = true) (i j : Nat) : ent p i j = 0 ∨ ent p i j = 1 := by
  by_cases hi : i < p.length
  · by_cases hj : j < p.length
    · exact pic_bit h hi hj
    · left
      have hr := pic_row h hi
      have : p.getD i [] = p[i] := by simp [List.getD_eq_getElem?_getD, hi]
      have hl : (p.getD i []).length = p.length := by rw [this]; exact hr
      rw [ent, List.getD_eq_getElem?_getD (l := p.getD i []), List.getElem?_eq_none (by omega)]; rfl
  · left
    have : p.getD i [] = [] := by rw [List.getD_eq_getElem?_getD, List.getElem?_eq_none (by omega)]; rfl
    rw [ent, this]; rfl
theorem pic_back {p : List (List Int)} (h : picB p = true) : picB (backL p.length p) = true := by
  have hp := (picB_iff p).1 h
  exact mkR_pic hp.1 hp.2.1 fun i j => pic_bit_any h j i
theorem pic_one : picB [[1]] = true := by decide
theorem pic_none : picB [] = false := by decide
/-- [][]int in braces, with one row of one number -/
theorem lit_rows1 (w : World) (x : Int) : RowsR ((w.alloc (Obj.cells #[.int .i64 x] 3)).alloc (Obj.cells #[.slice (some ⟨w.heap.size, 0, none⟩) 1 1] 29)) (.slice (some ⟨w.heap.size + 1, 0, none⟩) 1 1) [[x]] := by
  have h1 : (w.alloc (Obj.cells #[.int .i64 x] 3)).cell? ⟨w.heap.size, 0, none⟩ = some (.int .i64 x) := one_new w _ _ 0 _ rfl
  have hF : Fresh (w.alloc (Obj.cells #[.int .i64 x] 3)) ((w.alloc (Obj.cells #[.int .i64 x] 3)).alloc (Obj.cells #[.slice (some ⟨w.heap.size, 0, none⟩) 1 1] 29)) := (Fresh.refl _).alloc _
  have h2 : ((w.alloc (Obj.cells #[.int .i64 x] 3)).alloc (Obj.cells #[.slice (some ⟨w.heap.size, 0, none⟩) 1 1] 29)).cell? ⟨w.heap.size + 1, 0, none⟩ = some (.slice (some ⟨w.heap.size, 0, none⟩) 1 1) := by
    simp
  refine .inr ⟨w.heap.size + 1, 0, 1, rfl, Nat.le_refl _, by unfold maxLen; omega, by simp, fun i hi => ?_⟩
  obtain rfl : i = 0 := by simp at hi; omega
  refine ⟨_, h2, .inr ⟨w.heap.size, 0, 1, rfl, Nat.le_refl _, by unfold maxLen; omega, by simp, fun j hj => ?_⟩⟩
  obtain rfl : j = 0 := by simp at hj; omega
  exact hF.cell h1

set_option maxHeartbeats 1000000 in
theorem fnPictureOk_walk (w : World) (v : Value) (bs : List Int) (h : Bytes w v bs) (hb : ∀ x ∈ bs, 0 ≤ x ∧ x ≤ 255) :
    Calls Try.prog 4 #[v] w fun e w' => e = .returned (.bool true) ∧ Fresh w w' := by
  obtain ⟨a, cap, rfl⟩ := h.len
  have hbd := h.bound
  by_cases hl : bs.length ≤ 1048576
  case neg =>
    go_enter Try.func4, Try.ntmps4
    go_wp2
    go_ret
    exact ⟨rfl, Fresh.refl _⟩
  go_enter Try.func4, Try.ntmps4
  go_wp2_with fail
  refine (drawPictureOk_any _ bs _ h hb).mono ?_
  rintro e w1 ⟨r, p, rfl, hp, hs, hF⟩
  have HS := Lib.hid hs
  clear hs h hb
  go_wp2_with fail
  refine (implPictureOk_any _ p _ hp).mono ?_
  rintro e w2 ⟨rfl, rfl⟩
  go_wp2_with fail
  refine (specPictureOk_any _ p _ hp).mono ?_
  rintro e w2 ⟨rfl, rfl⟩
  obtain ⟨pa, pc, rfl⟩ := hp.len
  cases hpic : picB p
  · go_wp2_with fail
    refine (implPictureOk_any _ [[1]] _ (lit_rows1 _ 1)).mono ?_
    rintro e w2 ⟨rfl, rfl⟩
    rw [pic_one]
    go_wp2_with fail
    refine (implPictureOk_any _ [] _ (.inl ⟨rfl, _, _, rfl⟩)).mono ?_
    rintro e w2 ⟨rfl, rfl⟩
    rw [pic_none]
    go_wp2_with fail
    refine (alive_any _).mono ?_
    rintro e w2 ⟨rfl, rfl⟩
    go_wp2
    go_ret
    exact ⟨rfl, ((hF.alloc _).alloc _).alloc _⟩
  · have hn5 := ((picB_iff p).1 hpic).2.1
    have HSQ := Lib.hid (pic_sq hpic)
    have HB := Lib.hid (pic_back hpic)
    obtain ⟨f, hf⟩ : ∃ f : Nat → Nat → Int, f = fun i j => ent p j i := ⟨_, rfl⟩
    have HFf := Lib.hid (fun i j => congrFun (congrFun hf i) j)
    have HBK := Lib.hid (show mkR p.length f = backL p.length p by rw [hf]; rfl)
    have HE := Lib.hid (RowsAt.empty w1 p.length f)
    clear hf
    go_wp2
    go_loopw [5, 6] (fun y i wr => ∃ m : Nat, m ≤ p.length ∧ i = .int .i64 m ∧ RowsAt w1 p.length f m y wr) (fun _ i _ => p.length - (intOf i).toNat)
    case atStart => exact ⟨0, by omega, rfl, HE.out⟩
    case round =>
      clear HE
      obtain ⟨m, hm, rfl, hO⟩ := hrel
      obtain ⟨wo, rfl⟩ : ∃ wo : World, wo = wr := ⟨_, rfl⟩
      by_cases hml : m < p.length
      · have hdm : decide ((m : Int) < p.length) = true := decide_eq_true (by omega)
        have HRo := Lib.hid (RowAt.empty wo f m)
        go_wp2
        go_loopw [7, 8] (fun y i wr => ∃ j : Nat, j ≤ p.length ∧ i = .int .i64 j ∧ RowAt wo f m j y wr) (fun _ i _ => p.length - (intOf i).toNat)
        case atStart => exact ⟨0, by omega, rfl, HRo.out⟩
        case round =>
          clear HRo
          obtain ⟨j, hj, rfl, hR⟩ := hrel
          by_cases hjl : j < p.length
          · have hF2 := hO.2.trans hR.2
            obtain ⟨b2, o2, g2, q2, c2, heq, hc3, hc4⟩ := (hp.fresh hF2).sq2n HSQ.out hjl hml
            subst heq
            have hfe := HFf.out m j
            obtain ⟨y, hy⟩ : ∃ y, y = ent p j m := ⟨_, rfl⟩
            rw [← hy] at hc4 hfe
            have HFE := Lib.hid hfe
            clear hfe hy hF2
            go_wp2_with (at_builtin; refine wpList_append_at _ wo f m j y _ rfl _ _ rfl _ rfl hR rfl HFE.out (by omega) ?_)
            intro u' w2 hR2
            clear hR
            go_wp2
            go_roundw
            case rel => exact ⟨j + 1, hjl, by go_num, hR2⟩
            case measure => simp [intOf]; omega
          · rw [show j = p.length by omega] at hR
            obtain ⟨xa, xc, rfl⟩ := hR.form
            go_wp2_with (at_builtin; refine wpList_append_rowAt _ wo w1 _ f m _ _ _ rfl _ _ rfl rfl hO hR _ rfl (by first | rfl | simp [World.setCell]) (by omega) ?_)
            intro v' w2 hO2
            clear hO hR
            go_wp2
            go_roundw
            case rel => exact ⟨m + 1, hml, by go_num, hO2⟩
            case measure => simp [intOf]; omega
      · rw [show m = p.length by omega] at hO
        have hBr := hO.rowsR HBK.out
        have hFb := hF.trans hO.2
        clear hO
        go_wp2_with fail
        refine (implPictureOk_any _ _ _ hBr).mono ?_
        rintro e w2 ⟨rfl, rfl⟩
        rw [HB.out]
        go_wp2
        go_ret
        exact ⟨rfl, hFb⟩
end Go.Proofs.Ytipboajbakjokaa
