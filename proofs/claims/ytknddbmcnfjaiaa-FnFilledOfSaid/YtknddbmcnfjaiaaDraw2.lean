/- What the drawn inputs of the laws on codes may be. -/
import Derived.Test.YtknddbmcnfjaiaaDraw
import Derived.Test.YtknddbmcnfjaiaaCodes4
namespace Go.Proofs.Ytknddbmcnfjaiaa
open Go.RowKit

/-- some integer -/
def OneInt (w : World) (e : Ending) (w' : World) : Prop := ∃ x : Int, e = .returned (.int .i64 x) ∧ Fresh w w'
/-- some two integers -/
def TwoInts (w : World) (e : Ending) (w' : World) : Prop := ∃ x y : Int, e = .returned (.tuple #[.int .i64 x, .int .i64 y]) ∧ Fresh w w'
/-- a reader that the call made for itself -/
theorem Fresh.reader {w w1 w2 : World} {b : Nat} (h : Fresh w w1) (hb : w.heap.size ≤ b) (k : Keeps (fun i => i = b) w1 w2) : Fresh w w2 :=
  h.keepsTrans k fun i hi => by omega


set_option maxHeartbeats 400000 in
theorem drawMembersOf_any (v : Value) (bs : List Int) (w : World) (h : Bytes w v bs) (hb : ∀ x ∈ bs, 0 ≤ x ∧ x ≤ 255) :
    Calls Try.prog 43 #[v] w (OneInt w) := by
  go_enter Try.func43, Try.ntmps43
  go_wp2_with fail
  refine (l20Open_any v bs _ h hb).mono ?_
  rintro e w1 ⟨b, rfl, hR, hF, hlo⟩
  go_wp2_with fail
  refine (l20Code_any b 0 _ _ hR (by omega) (by omega)).mono ?_
  rintro e w2 ⟨x, rfl, hR2, hK⟩
  go_wp2
  go_ret
  exact ⟨_, rfl, hF.reader hlo hK⟩

set_option maxHeartbeats 400000 in
theorem drawDeepOf_any (v : Value) (bs : List Int) (w : World) (h : Bytes w v bs) (hb : ∀ x ∈ bs, 0 ≤ x ∧ x ≤ 255) :
    Calls Try.prog 40 #[v] w (OneInt w) := by
  go_enter Try.func40, Try.ntmps40
  go_wp2_with fail
  refine (l20Open_any v bs _ h hb).mono ?_
  rintro e w1 ⟨b, rfl, hR, hF, hlo⟩
  go_wp2_with fail
  refine (l20Code_any b 0 _ _ hR (by omega) (by omega)).mono ?_
  rintro e w2 ⟨x, rfl, hR2, hK⟩
  go_wp2
  go_ret
  exact ⟨_, rfl, hF.reader hlo hK⟩

set_option maxHeartbeats 400000 in
theorem drawAllMembersOf_any (v : Value) (bs : List Int) (w : World) (h : Bytes w v bs) (hb : ∀ x ∈ bs, 0 ≤ x ∧ x ≤ 255) :
    Calls Try.prog 47 #[v] w (OneInt w) := by
  go_enter Try.func47, Try.ntmps47
  go_wp2_with fail
  refine (l20Open_any v bs _ h hb).mono ?_
  rintro e w1 ⟨b, rfl, hR, hF, hlo⟩
  go_wp2_with fail
  refine (l20Code_any b 0 _ _ hR (by omega) (by omega)).mono ?_
  rintro e w2 ⟨x, rfl, hR2, hK⟩
  go_wp2
  go_ret
  exact ⟨_, rfl, hF.reader hlo hK⟩

set_option maxHeartbeats 400000 in
theorem drawFilledOf_any (v : Value) (bs : List Int) (w : World) (h : Bytes w v bs) (hb : ∀ x ∈ bs, 0 ≤ x ∧ x ≤ 255) :
    Calls Try.prog 53 #[v] w (OneInt w) := by
  go_enter Try.func53, Try.ntmps53
  go_wp2_with fail
  refine (l20Open_any v bs _ h hb).mono ?_
  rintro e w1 ⟨b, rfl, hR, hF, hlo⟩
  go_wp2_with fail
  refine (l20Code_any b 0 _ _ hR (by omega) (by omega)).mono ?_
  rintro e w2 ⟨x, rfl, hR2, hK⟩
  go_wp2
  go_ret
  exact ⟨_, rfl, hF.reader hlo hK⟩


set_option maxHeartbeats 400000 in
theorem drawUnionOf_any (v : Value) (bs : List Int) (w : World) (h : Bytes w v bs) (hb : ∀ x ∈ bs, 0 ≤ x ∧ x ≤ 255) :
    Calls Try.prog 32 #[v] w (TwoInts w) := by
  go_enter Try.func32, Try.ntmps32
  go_wp2_with fail
  refine (l20Open_any v bs _ h hb).mono ?_
  rintro e w1 ⟨b, rfl, hR, hF, hlo⟩
  go_wp2_with fail
  refine (l20Code_any b 0 _ _ hR (by omega) (by omega)).mono ?_
  rintro e w2 ⟨x, rfl, hR2, hK⟩
  go_wp2_with fail
  refine (l20Code_any b _ _ _ hR2 (by omega) (by omega)).mono ?_
  rintro e w3 ⟨y, rfl, hR3, hK3⟩
  go_wp2
  go_ret2
  exact ⟨_, _, rfl, hF.reader hlo (hK.trans hK3)⟩

set_option maxHeartbeats 400000 in
theorem drawCommonOf_any (v : Value) (bs : List Int) (w : World) (h : Bytes w v bs) (hb : ∀ x ∈ bs, 0 ≤ x ∧ x ≤ 255) :
    Calls Try.prog 37 #[v] w (TwoInts w) := by
  go_enter Try.func37, Try.ntmps37
  go_wp2_with fail
  refine (l20Open_any v bs _ h hb).mono ?_
  rintro e w1 ⟨b, rfl, hR, hF, hlo⟩
  go_wp2_with fail
  refine (l20Code_any b 0 _ _ hR (by omega) (by omega)).mono ?_
  rintro e w2 ⟨x, rfl, hR2, hK⟩
  go_wp2_with fail
  refine (l20Code_any b _ _ _ hR2 (by omega) (by omega)).mono ?_
  rintro e w3 ⟨y, rfl, hR3, hK3⟩
  go_wp2
  go_ret2
  exact ⟨_, _, rfl, hF.reader hlo (hK.trans hK3)⟩

set_option maxHeartbeats 400000 in
theorem drawHas_any (v : Value) (bs : List Int) (w : World) (h : Bytes w v bs) (hb : ∀ x ∈ bs, 0 ≤ x ∧ x ≤ 255) :
    Calls Try.prog 15 #[v] w (TwoInts w) := by
  go_enter Try.func15, Try.ntmps15
  go_wp2_with fail
  refine (l20Open_any v bs _ h hb).mono ?_
  rintro e w1 ⟨b, rfl, hR, hF, hlo⟩
  go_wp2_with fail
  refine (l20Code_any b 0 _ _ hR (by omega) (by omega)).mono ?_
  rintro e w2 ⟨x, rfl, hR2, hK⟩
  go_wp2_with fail
  refine (pick_any b _ _ _ hR2 (by omega) (by omega)).mono ?_
  rintro e w3 ⟨y, rfl, hP, hR3, hK3⟩
  go_wp2
  go_ret2
  exact ⟨_, _, rfl, hF.reader hlo (hK.trans hK3)⟩

set_option maxHeartbeats 400000 in
theorem drawWithinOf_any (v : Value) (bs : List Int) (w : World) (h : Bytes w v bs) (hb : ∀ x ∈ bs, 0 ≤ x ∧ x ≤ 255) :
    Calls Try.prog 28 #[v] w (TwoInts w) := by
  go_enter Try.func28, Try.ntmps28
  go_wp2_with fail
  refine (l20Open_any v bs _ h hb).mono ?_
  rintro e w1 ⟨b, rfl, hR, hF, hlo⟩
  go_wp2_with fail
  refine (l20Code_any b 0 _ _ hR (by omega) (by omega)).mono ?_
  rintro e w2 ⟨x, rfl, hR2, hK⟩
  go_wp2_with fail
  refine (l20Code_any b _ _ _ hR2 (by omega) (by omega)).mono ?_
  rintro e w3 ⟨y, rfl, hR3, hK3⟩
  go_wp2_with fail
  refine (pick_any b _ _ _ hR3 (by omega) (by omega)).mono ?_
  rintro e w4 ⟨z, rfl, hP, hR4, hK4⟩
  have HK := Lib.hid (hF.reader hlo ((hK.trans hK3).trans hK4))
  clear hR hF hR2 hK hR3 hK3 hP hR4 hK4
  by_cases hz : (z == 0) = true
  · cases hx : isCodeB x
    · go_wp2_with (go_at_call 31; refine (specCodeOk_any _ _).mono ?_; rintro e w' ⟨rfl, rfl⟩)
      go_ret2
      exact ⟨_, _, rfl, HK.out⟩
    · cases hy : isCodeB y
      · go_wp2_with (go_at_call 31; refine (specCodeOk_any _ _).mono ?_; rintro e w' ⟨rfl, rfl⟩)
        go_ret2
        exact ⟨_, _, rfl, HK.out⟩
      · go_wp2_with (go_at_call 31; refine (specCodeOk_any _ _).mono ?_; rintro e w' ⟨rfl, rfl⟩)
        go_ret2
        exact ⟨_, _, rfl, HK.out⟩
  · have hz : (z == 0) = false := by simpa using hz
    go_wp2_with (go_at_call 31; refine (specCodeOk_any _ _).mono ?_; rintro e w' ⟨rfl, rfl⟩)
    go_ret2
    exact ⟨_, _, rfl, HK.out⟩

set_option maxHeartbeats 400000 in
theorem drawFullOk_any (v : Value) (bs : List Int) (w : World) (h : Bytes w v bs) (hb : ∀ x ∈ bs, 0 ≤ x ∧ x ≤ 255) :
    Calls Try.prog 50 #[v] w (OneInt w) := by
  go_enter Try.func50, Try.ntmps50
  go_wp2_with fail
  refine (l20Open_any v bs _ h hb).mono ?_
  rintro e w1 ⟨b, rfl, hR, hF, hlo⟩
  go_wp2_with fail
  refine (l20Code_any b 0 _ _ hR (by omega) (by omega)).mono ?_
  rintro e w2 ⟨x, rfl, hR2, hK⟩
  go_wp2_with fail
  refine (specCodeOk_any _ _).mono ?_
  rintro e w' ⟨rfl, rfl⟩
  cases hx : isCodeB x
  · go_wp2
    go_ret
    exact ⟨_, rfl, hF.reader hlo hK⟩
  · go_wp2_with fail
    refine (pick_any b _ _ _ hR2 (by omega) (by omega)).mono ?_
    rintro e w4 ⟨z, rfl, hP, hR4, hK4⟩
    have HK := Lib.hid (hF.reader hlo (hK.trans hK4))
    clear hR hF hR2 hK hP hR4 hK4
    by_cases hz : (z == 0) = true
    · go_wp2_with fail
      refine (specFilledOf_any _ _).mono ?_
      rintro e w5 ⟨rfl, hF5⟩
      go_wp2
      go_ret
      exact ⟨_, rfl, HK.out.trans hF5⟩
    · have hz : (z == 0) = false := by simpa using hz
      go_wp2
      go_ret
      exact ⟨_, rfl, HK.out⟩

/-- some ints of the call's own -/
def SomeInts (w : World) (e : Ending) (w' : World) : Prop := ∃ (v : Value) (zs : List Int), e = .returned v ∧ Owns w.heap.size w'.heap.size w' v zs ∧ zs.length ≤ 5 ∧ Fresh w w'

set_option maxHeartbeats 1000000 in
theorem drawSetOf_any (v : Value) (bs : List Int) (w : World) (h : Bytes w v bs) (hb : ∀ x ∈ bs, 0 ≤ x ∧ x ≤ 255) :
    Calls Try.prog 19 #[v] w (SomeInts w) := by
  obtain ⟨i0, hi, hz0, hz1, hz2⟩ := info_parts info_int
  go_enter Try.func19, Try.ntmps19
  go_wp2_with fail
  refine (l20Open_any v bs _ h hb).mono ?_
  rintro e w1 ⟨b, rfl, hR, hF, hlo⟩
  go_wp2_with fail
  refine (pick_any b _ _ _ (hR.fresh ((Fresh.refl w1).alloc _)) (by omega) (by omega)).mono ?_
  rintro e w2 ⟨x, rfl, hP, hR2, hK2⟩
  obtain ⟨n, rfl⟩ := Int.eq_ofNat_of_zero_le hP.1
  have hn : n ≤ 5 := by have := hP.2.1 (by omega); omega
  have hb1 : b < w1.heap.size := hR.lt
  have hO : Owns w1.heap.size w2.heap.size w2 (.slice (some ⟨w1.heap.size, 0, none⟩) 0 0) [] := ((Owns.empty w1).keeps hK2 (fun g h1 _ h2 => by omega)).wider (Nat.le_refl _) hK2.size
  have hF2 : Fresh w w2 := (hF.alloc _).reader hlo hK2
  have hlo1 : w.heap.size ≤ w1.heap.size := hF.size
  have hw2 : w1.heap.size ≤ w2.heap.size := by have := hK2.size; simp at this; omega
  clear hR hP hK2 h
  go_wp2
  go_loopw [4, 5] (fun v i wr => ∃ (k : Nat) (zs : List Int), k + zs.length = n ∧ i = .int .i64 k ∧ Rd wr b (1 + 3 * zs.length) ∧ Owns w1.heap.size wr.heap.size wr v zs ∧ Fresh w wr ∧ w1.heap.size ≤ wr.heap.size) (fun _ i _ => (intOf i).toNat)
  case atStart => exact ⟨n, [], by simp, rfl, hR2, hO, hF2, hw2⟩
  case round =>
    clear hR2 hO hF2
    obtain ⟨k, zs, hk, rfl, hR, hO, hF3, hw1⟩ := hrel
    have hl : zs.length ≤ n := by omega
    by_cases hlt : 0 < k
    · go_wp2_with fail
      refine (pick_any b _ _ _ hR (by omega) (by omega)).mono ?_
      rintro e wa ⟨y1, rfl, P1, R1, K1⟩
      go_wp2_with fail
      refine (pick_any b _ _ _ R1 (by omega) (by omega)).mono ?_
      rintro e wb ⟨y2, rfl, P2, R2, K2⟩
      go_wp2_with fail
      refine (pick_any b _ _ _ R2 (by omega) (by omega)).mono ?_
      rintro e wc ⟨y3, rfl, P3, R3, K3⟩
      have hKK := (K1.trans K2).trans K3
      have hO2 := (hO.keeps hKK (fun g h1 _ h2 => by omega)).wider (Nat.le_refl _) hKK.size
      have hF4 : Fresh w wc := hF3.reader hlo hKK
      have hs := hF4.size
      have hs1 : w1.heap.size ≤ wc.heap.size := Nat.le_trans hw1 hKK.size
      have hown := hO2.1
      obtain ⟨z, hz⟩ : ∃ z, z = wrap64 (wrap64 (y1 + wrap64 (wrap64 (y2.tdiv 19) * 4)) - wrap64 (wrap64 (y3.tdiv 39) * 30)) := ⟨_, rfl⟩
      have HZ := Lib.hid hz
      clear hz P1 P2 P3 R1 R2 K1 K2 K3 hR
      go_wp2_with (at_builtin; refine wpList_append_own _ rfl _ _ 28 rfl w1.heap.size 3 i0 (.int .i64 0) 1 8 Try.underlying28 hi hz0 hz1 hz2 rfl (by decide) _ _ _ rfl (hown.alloc _) ⟨wc.heap.size, 0, none⟩ 1 1 [.int .i64 (wrap64 (wrap64 (y1 + wrap64 (wrap64 (y2.tdiv 19) * 4)) - wrap64 (wrap64 (y3.tdiv 39) * 30)))] rfl rfl ?c1 ?c2 ?c3 ?c4 ?c5 ?_)
      case c1 => exact one_new _ _ _
      case c2 => intro u hu; simp at hu; subst hu; rfl
      case c3 => unfold maxLen; omega
      case c4 => omega
      case c5 => simp; omega
      intro v' w6 hown' hgr _
      have hP := hO2.pushedAt hF4 hlo1 hown' hgr
      have hR6 := R3.keepsOff hP.2.2 (by omega)
      have hw6 := hP.2.2.size
      clear hown' hgr hown hO2 hO
      go_wp2
      go_roundw
      case rel => exact ⟨k - 1, zs ++ [_], by simp; omega, by go_num, hR6.mono (by simp; omega), hP.1, hP.2.1, by omega⟩
      case measure => simp [intOf]; omega
    · go_wp2
      go_ret
      exact ⟨_, zs, rfl, hO.wider hlo1 (Nat.le_refl _), by omega, hF3⟩
end Go.Proofs.Ytknddbmcnfjaiaa
