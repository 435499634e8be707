/- Drawn pictures with twins, and what else the laws on sameness draw. -/
import Derived.Test.YtkicgodmgafkoaaDraw4
import Derived.Test.YtkicgodmgafkoaaRnd2
import Derived.StillTailTactics
import Derived.RegionTactic
namespace Go.Proofs.Ytkicgodmgafkoaa
open Go.RowKit

theorem PicPost.later {b q q' : Nat} {w : World} {e : Ending} {w' : World} (h : PicPost b q w e w') (hq : q ≤ q') : PicPost b q' w e w' := by
  obtain ⟨v, rows, h1, h2, h3, h4, h5, h6⟩ := h
  exact ⟨v, rows, h1, h2, h3, h4, h5.mono (by omega), h6⟩
/-- rows that are being written, of one size -/
def TwinAt (W : World) (b q n : Nat) (v : Value) (wr : World) : Prop := ∃ rows, OwnsR W.heap.size wr.heap.size wr v rows ∧ Sq n rows ∧ Rd wr b q ∧ Keeps (fun k => k = b) W wr
theorem TwinAt.drew {W : World} {b q n : Nat} {v : Value} {wr : World} (h : TwinAt W b q n v wr) : TwinAt W b q n v wr.drew := by
  obtain ⟨rows, hO, hs, hR, hK⟩ := h
  have hF := (Fresh.refl wr).drew
  exact ⟨rows, (hO.fresh hF).wider (Nat.le_refl _) hF.size, hs, hR.fresh hF, hK.fresh hF⟩
theorem TwinAt.at {W : World} {b q n : Nat} {g cap : Nat} {wr : World} (h : TwinAt W b q n (.slice (some ⟨g, 0, none⟩) n cap) wr) (hb : b < W.heap.size) {i i' j : Nat} (hi : i < n) (hi' : i' < n) (hj : j < n) :
    ∃ r c r' o' c' y x, wr.cell? ⟨g, i, none⟩ = some (.slice (some ⟨r, 0, none⟩) n c) ∧ wr.cell? ⟨r, j, none⟩ = some (.int .i64 y) ∧ wr.frozen? ⟨r, j, none⟩ = false ∧
      wr.cell? ⟨g, i', none⟩ = some (.slice (some ⟨r', o', none⟩) n c') ∧ wr.cell? ⟨r', o' + j, none⟩ = some (.int .i64 x) ∧ ∀ z, TwinAt W b q n (.slice (some ⟨g, 0, none⟩) n cap) (wr.setCell ⟨r, j, none⟩ (.int .i64 z)) := by
  obtain ⟨rows, hO, hs, hR, hK⟩ := h
  have hil : i < rows.length := by rw [hs.1]; exact hi
  obtain ⟨r, c, h1, h2, h3, h4, h5, h6, h7⟩ := hO.store2 hs.1.symm (i := i) (j := j) hil (by rw [hs.row hil]; exact hj)
  rw [hs.row hil] at h1
  obtain ⟨b2, o2, r', o', c', heq, k1, k2⟩ := hO.rows.sq2n hs hi' hj
  simp only [Option.some.injEq, Addr.mk.injEq, and_true] at heq
  obtain ⟨rfl, rfl⟩ := heq
  rw [Nat.zero_add] at k1
  refine ⟨r, c, r', o', c', _, _, h1, h2, h3, k1, k2, fun z => ?_⟩
  obtain ⟨m1, m2⟩ := h7 z
  refine ⟨_, by rw [setCell_size]; exact m1, ⟨by simp [hs.1], fun x hx => ?_⟩, hR.on m2 (fun k hk e => by omega), hK.setNew (by show W.heap.size ≤ r; omega) _⟩
  rcases List.mem_or_eq_of_mem_set hx with e | e
  · exact hs.2 x e
  · rw [e, List.length_set]; exact hs.row hil

set_option maxHeartbeats 2000000 in
theorem l20Twin_any (b q : Nat) (n : Int) (w : World) (h : Rd w b q) (hq : q ≤ 80000) (hn : n ≤ 1000000) :
    Calls Try.prog 53 #[.pointer (some ⟨b, 0, none⟩), .int .i64 n] w fun e w' => PicPost b (q + 10) w e w' := by
  have hblt := h.lt
  go_enter Try.func53, Try.ntmps53
  go_wp2_with fail
  refine (l20Picture_any b q _ _ h (by omega) (by omega)).mono ?_
  rintro e w1 ⟨v, rows, rfl, hO, hr5, hr6, hR, hK⟩
  have HR6 := Lib.hid hr6
  clear hr6 h
  go_wp2_with fail
  refine (specPictureOk_any _ rows _ hO.rows).mono ?_
  rintro e w2 ⟨rfl, rfl⟩
  obtain ⟨va, vc, rfl⟩ := hO.rows.len
  cases hp : picB rows
  · go_wp2
    go_ret
    exact ⟨_, rows, rfl, hO, hr5, HR6.out, hR.mono (by omega), hK⟩
  · by_cases h1 : 1 < rows.length
    case neg =>
      go_wp2
      go_ret
      exact ⟨_, rows, rfl, hO, hr5, HR6.out, hR.mono (by omega), hK⟩
    obtain ⟨n, hn⟩ : ∃ n, n = rows.length := ⟨_, rfl⟩
    have hs : Sq n rows := by rw [hn]; exact pic_sq hp
    clear hp
    go_wp2_with fail
    refine (pick_any b _ _ _ hR (by omega) (by omega)).mono ?_
    rintro e w3 ⟨y, rfl, P3, R3, K3⟩
    have hO3 := (hO.keeps K3 (fun g h1 h2 e => by omega)).wider (Nat.le_refl _) K3.size
    have hK3 := hK.trans K3
    clear K3 P3 hO hR hK
    cases hy : (y == 0)
    · go_wp2
      go_ret
      exact ⟨_, rows, rfl, hO3, hr5, HR6.out, R3.mono (by omega), hK3⟩
    · go_wp2_with fail
      refine (pick_any b _ _ _ R3 (by omega) (by omega)).mono ?_
      rintro e w4 ⟨a, rfl, P4, R4, K4⟩
      have hO4 := (hO3.keeps K4 (fun g h1 h2 e => by omega)).wider (Nat.le_refl _) K4.size
      have hK4 := hK3.trans K4
      have ha0 := P4.1
      have ha1 := P4.2.1 (by omega)
      clear K4 hO3 R3 hK3 P4
      go_wp2_with fail
      refine (pick_any b _ _ _ R4 (by omega) (by omega)).mono ?_
      rintro e w5 ⟨c, rfl, P5, R5, K5⟩
      have hO5 := (hO4.keeps K5 (fun g h1 h2 e => by omega)).wider (Nat.le_refl _) K5.size
      have hK5 := hK4.trans K5
      have hc0 := P5.1
      have hc1 := P5.2.1 (by omega)
      clear K5 hO4 R4 hK4 P5
      obtain ⟨i', rfl⟩ := Int.eq_ofNat_of_zero_le ha0
      obtain ⟨i, rfl⟩ := Int.eq_ofNat_of_zero_le hc0
      obtain ⟨g, cap, heq, hg1, hg2, hg3⟩ := hO5.form (by omega)
      simp only [Value.slice.injEq, true_and] at heq
      obtain ⟨rfl, rfl⟩ := heq
      rw [← hn] at hO5 ha1 hc1 h1 hr5 ⊢
      have hil : i < n := by omega
      have hil' : i' < n := by omega
      have hT : TwinAt w b (q + 60 + 1 + 1 + 1) n (.slice (some ⟨g, 0, none⟩) n vc) w5 := ⟨rows, hO5, hs, R5, hK5⟩
      clear hO5 R5 hK5 hn hg1 hg2 hg3 ha0 ha1 hc0 hc1 HR6 hs
      go_wp2
      go_loopw [8] (fun j wr => ∃ m : Nat, m ≤ n ∧ j = .int .i64 m ∧ TwinAt w b (q + 60 + 1 + 1 + 1) n (.slice (some ⟨g, 0, none⟩) n vc) wr) (fun j _ => n - (intOf j).toNat)
      case atStart => exact ⟨0, by omega, rfl, hT⟩
      case round =>
        clear hT
        obtain ⟨m, hm, rfl, hT⟩ := hrel
        by_cases hml : m < n
        · obtain ⟨r, c1, r', o', c', y1, x1, f1, f2, f3, f4, f5, hst⟩ := hT.drew.at hblt hil hil' hml
          have HD := Lib.hid (And.intro f1 (And.intro f2 (And.intro f3 (And.intro f4 (And.intro f5 hst)))))
          have f1 : wr.cell? ⟨g, i, none⟩ = some (.slice (some ⟨r, 0, none⟩) n c1) := f1
          have f2 : wr.cell? ⟨r, m, none⟩ = some (.int .i64 y1) := f2
          have f3 : wr.frozen? ⟨r, m, none⟩ = false := f3
          have f4 : wr.cell? ⟨g, i', none⟩ = some (.slice (some ⟨r', o', none⟩) n c') := f4
          have f5 : wr.cell? ⟨r', o' + m, none⟩ = some (.int .i64 x1) := f5
          clear hst hT
          go_wp2
          go_still_tail 13, (by kernel_rfl)
          change wpList _ _ _ _ _ wr.drew
          clear f1 f2 f3 f4 f5
          have hT2 := HD.out
          clear HD
          obtain ⟨w2, hw2⟩ : ∃ w2, w2 = wr.drew := ⟨_, rfl⟩
          rw [← hw2] at hT2 ⊢
          clear hw2
          obtain ⟨f1, f2, f3, f4, f5, hst⟩ := hT2
          have HST := Lib.hid hst
          clear hst
          go_wp2
          go_roundw
          case rel => exact ⟨m + 1, hml, by go_num, HST.out _⟩
          case measure => simp [intOf]; omega
        · go_wp2
          go_ret
          obtain ⟨rows2, hO2, hs2, hR2, hK2⟩ := hT
          exact ⟨_, rows2, rfl, hO2, by rw [hs2.1]; exact hr5, fun r hr => by rw [hs2.2 r hr]; omega, hR2.mono (by omega), hK2⟩
end Go.Proofs.Ytkicgodmgafkoaa
