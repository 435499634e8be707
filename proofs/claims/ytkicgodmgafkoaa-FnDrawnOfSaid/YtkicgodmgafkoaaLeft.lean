/- What is left after rounds: the program's walks. -/
import Derived.Test.YtkicgodmgafkoaaAnsw
namespace Go.Proofs.Ytkicgodmgafkoaa
open Go.RowKit

/-- rows written up to a place -/
def scan (n : Nat) (f : Nat → Nat → Int) (i j : Nat) : List (List Int) := mkR n fun a b => if a < i ∨ (a = i ∧ b < j) then f a b else 0
theorem scan_zero (n : Nat) (f : Nat → Nat → Int) : scan n f 0 0 = mkR n fun _ _ => 0 := mkR_congr fun _ _ _ _ => if_neg (by omega)
theorem scan_full (n : Nat) (f : Nat → Nat → Int) : scan n f n 0 = mkR n f := mkR_congr fun _ _ ha _ => if_pos (.inl ha)
theorem scan_row (n : Nat) (f : Nat → Nat → Int) (i : Nat) : scan n f i n = scan n f (i + 1) 0 := mkR_congr fun a b ha hb => by
  by_cases h : a < i + 1
  · rw [if_pos (by omega), if_pos (by omega)]
  · rw [if_neg (by omega), if_neg (by omega)]
theorem scan_skip {n : Nat} {f : Nat → Nat → Int} {i j : Nat} (h : f i j = 0) : scan n f i (j + 1) = scan n f i j := mkR_congr fun a b ha hb => by
  by_cases h1 : a = i ∧ b = j
  · obtain ⟨rfl, rfl⟩ := h1; rw [if_pos (by omega), if_neg (by omega), h]
  · by_cases h2 : a < i ∨ (a = i ∧ b < j)
    · rw [if_pos (by omega), if_pos h2]
    · rw [if_neg (by omega), if_neg h2]
theorem scan_len (n : Nat) (f : Nat → Nat → Int) (i j : Nat) : (scan n f i j).length = n := mkR_len _ _
theorem scan_rowLen (n : Nat) (f : Nat → Nat → Int) (i j a : Nat) (h : a < (scan n f i j).length) : ((scan n f i j)[a]).length = n := mkR_rowLen _ _ _ _
theorem scan_set {n : Nat} {f : Nat → Nat → Int} {i j : Nat} (hi : i < n) (hj : j < n) {x : Int} (h : f i j = x) :
    (scan n f i j).set i (((scan n f i j)[i]'(by rw [scan_len]; exact hi)).set j x) = scan n f i (j + 1) := by
  unfold scan
  rw [mkR_set n _ hi hj]
  apply mkR_congr
  intro a b ha hb
  by_cases h1 : a = i ∧ b = j
  · obtain ⟨rfl, rfl⟩ := h1; rw [if_pos ⟨rfl, rfl⟩, if_pos (by omega), h]
  · rw [if_neg h1]
    by_cases h2 : a < i ∨ (a = i ∧ b < j)
    · rw [if_pos h2, if_pos (by omega)]
    · rw [if_neg h2, if_neg (by omega)]
theorem setCell_size (w : World) (p : Addr) (v : Value) : (w.setCell p v).heap.size = w.heap.size := by simp [World.setCell]

/-- the next place is written -/
theorem OwnsR.scanStore {lo : Nat} {w : World} {g n cap : Nat} {f : Nat → Nat → Int} {i j : Nat} (h : OwnsR lo w.heap.size w (.slice (some ⟨g, 0, none⟩) n cap) (scan n f i j)) (hi : i < n) (hj : j < n) :
    ∃ r c y, w.cell? ⟨g, i, none⟩ = some (.slice (some ⟨r, 0, none⟩) n c) ∧ w.cell? ⟨r, j, none⟩ = some (.int .i64 y) ∧ w.frozen? ⟨r, j, none⟩ = false ∧ lo ≤ r ∧ r < w.heap.size ∧ r ≠ g ∧
      ∀ x, f i j = x → OwnsR lo (w.setCell ⟨r, j, none⟩ (.int .i64 x)).heap.size (w.setCell ⟨r, j, none⟩ (.int .i64 x)) (.slice (some ⟨g, 0, none⟩) n cap) (scan n f i (j + 1)) ∧ Keeps (fun k => k = r) w (w.setCell ⟨r, j, none⟩ (.int .i64 x)) := by
  obtain ⟨r, c, h1, h2, h3, h4, h5, h6, h7⟩ := h.store2 (scan_len n f i j).symm (i := i) (j := j) (by rw [scan_len]; exact hi) (by rw [scan_rowLen]; exact hj)
  rw [scan_rowLen] at h1
  refine ⟨r, c, _, h1, h2, h3, h4, h5, h6, fun x hx => ?_⟩
  obtain ⟨k1, k2⟩ := h7 x
  rw [scan_set hi hj hx] at k1
  exact ⟨by rw [setCell_size]; exact k1, k2⟩
theorem emptyPicture_mk {w w' : World} {r : Value} {n : Nat} (f : Nat → Nat → Int) (h : OwnsR w.heap.size w'.heap.size w' r (List.replicate n (List.replicate n 0))) : OwnsR w.heap.size w'.heap.size w' r (scan n f 0 0) := by
  rw [scan_zero, ← mkR_zero]; exact h

set_option maxHeartbeats 1000000 in
theorem leftAfter_any (v : Value) (p : List (List Int)) (m : Nat) (w : World) (h : RowsR w v p) (hp : picB p = true) (hm : m ≤ 30) :
    Calls Try.prog 55 #[v, .int .i64 (m : Int)] w fun e w' => ∃ r, e = .returned r ∧ OwnsR w.heap.size w'.heap.size w' r (leftL p m) ∧ Fresh w w' := by
  have hn5 := ((picB_iff p).1 hp).2.1
  have hn1 := ((picB_iff p).1 hp).1
  obtain ⟨pa, pc, rfl⟩ := h.len
  go_enter Try.func55, Try.ntmps55
  go_wp2_with fail
  refine (emptyPicture_any p.length (by omega) _).mono ?_
  rintro e w1 ⟨r1, rfl, hO1, hF1⟩
  have hO1 := emptyPicture_mk (fun _ _ => 1) hO1
  obtain ⟨g, cap, heq, hg1, hg2, hg3⟩ := hO1.form (by rw [scan_len]; omega)
  rw [scan_len] at heq
  subst heq
  go_wp2
  go_loopw [17] (fun i wr => ∃ k : Nat, k ≤ p.length ∧ i = .int .i64 k ∧ OwnsR w.heap.size wr.heap.size wr (.slice (some ⟨g, 0, none⟩) p.length cap) (scan p.length (fun _ _ => 1) k 0) ∧ Fresh w wr) (fun i _ => p.length - (intOf i).toNat)
  case atStart => exact ⟨0, by omega, rfl, hO1, hF1⟩
  case round =>
    clear hO1 hF1 hg2 hg3
    obtain ⟨k, hk, rfl, hO, hF⟩ := hrel
    by_cases hlt : k < p.length
    · obtain ⟨r, c, y, hc1, -, -, hr1, hr2, hr3, -⟩ := hO.scanStore hlt (by omega : 0 < p.length)
      have HI := Lib.hid (And.intro hO hc1)
      clear hO
      obtain ⟨wo, hwo⟩ : ∃ wo : World, wo = wr := ⟨_, rfl⟩
      go_wp2
      go_loopw [23] (fun j wq => ∃ i : Nat, i ≤ p.length ∧ j = .int .i64 i ∧ OwnsR w.heap.size wq.heap.size wq (.slice (some ⟨g, 0, none⟩) p.length cap) (scan p.length (fun _ _ => 1) k i) ∧ wq.cell? ⟨g, k, none⟩ = some (.slice (some ⟨r, 0, none⟩) p.length c) ∧ Fresh w wq) (fun j _ => p.length - (intOf j).toNat)
      case atStart => exact ⟨0, by omega, rfl, HI.out.1, HI.out.2, hF⟩
      case round =>
        clear hc1 HI hF
        obtain ⟨i, hi, rfl, hO, hc, hF⟩ := hrel
        by_cases hil : i < p.length
        · obtain ⟨r', c', y, hc1, hc2, hfz, hr4, hr5, hr6, hst⟩ := hO.scanStore hlt hil
          rw [hc] at hc1
          simp only [Option.some.injEq, Value.slice.injEq, Addr.mk.injEq, true_and, and_true] at hc1
          obtain ⟨rfl, rfl⟩ := hc1
          obtain ⟨hO2, hK2⟩ := hst 1 rfl
          have hc3 := hK2.cellOf hc (fun e => hr6 e.symm)
          have HR := Lib.hid (And.intro hO2 (And.intro hc3 (hF.keepsTrans hK2 (fun i hi => by omega))))
          clear hst hO2 hK2 hc3 hO
          go_wp2
          go_roundw
          case rel => exact ⟨i + 1, hil, by go_num, HR.out.1, HR.out.2.1, HR.out.2.2⟩
          case measure => simp [intOf]; omega
        · obtain rfl : i = p.length := by omega
          rw [scan_row] at hO
          go_wp2
          go_roundw
          case rel => exact ⟨k + 1, hlt, by go_num, hO, hF⟩
          case measure => simp [intOf]; omega
    · obtain rfl : k = p.length := by omega
      rw [scan_full] at hO
      have hO0 : OwnsR w.heap.size wr.heap.size wr (.slice (some ⟨g, 0, none⟩) p.length cap) (leftL p 0) := hO
      clear hO hlt hk hg1
      go_wp2
      go_loopw [5, 9, 32] (fun l _ i wq => ∃ k : Nat, k ≤ m ∧ i = .int .i64 k ∧ OwnsR w.heap.size wq.heap.size wq l (leftL p k) ∧ Fresh w wq) (fun _ _ i _ => m - (intOf i).toNat)
      case atStart => exact ⟨0, by omega, rfl, hO0, hF⟩
      case round =>
        clear hO0 hF
        obtain ⟨k, hk, rfl, hL, hF⟩ := hrel
        obtain ⟨wo, rfl⟩ : ∃ wo : World, wo = wr := ⟨_, rfl⟩
        by_cases hlt : k < m
        · obtain ⟨f, hf⟩ : ∃ f : Nat → Nat → Int, f = fun a b => if ent (leftL p k) a b == 1 && answB p (leftL p k) a b then 1 else 0 := ⟨_, rfl⟩
          have hfe := fun a b => congrFun (congrFun hf a) b
          have HR := Lib.hid (show mkR p.length f = leftL p (k + 1) by rw [hf]; rfl)
          have HSQ := Lib.hid (show Sq p.length (leftL p k) by have := pic_sq (leftL_pic hp k); rwa [leftL_len] at this)
          have hbit := fun a b (ha : a < p.length) (hb : b < p.length) => left_bit hp (k := k) (a := a) (b := b) ha hb
          have hll := leftL_len p k
          obtain ⟨l, hl⟩ : ∃ l, l = leftL p k := ⟨_, rfl⟩
          rw [← hl] at hL HSQ hll
          simp only [← hl] at hfe hbit
          have HFE := Lib.hid hfe
          have HBIT := Lib.hid hbit
          have HLL := Lib.hid hll
          clear hf hfe hbit hl hll
          have hLr := hL.rows
          have HL := Lib.hid hL
          obtain ⟨la, lc, rfl⟩ := hLr.len
          have hpr := h.fresh hF
          have hle := hF.size
          go_wp2_with fail
          refine (emptyPicture_any p.length (by omega) _).mono ?_
          rintro e w2 ⟨r2, rfl, hO2, hF2⟩
          have hO2 := emptyPicture_mk f hO2
          obtain ⟨g2, cap2, heq, hg1, hg2, hg3⟩ := hO2.form (by rw [scan_len]; omega)
          rw [scan_len] at heq
          subst heq
          clear hL hg2 hg3
          go_wp2
          go_loopw [39] (fun i wx => ∃ a : Nat, a ≤ p.length ∧ i = .int .i64 a ∧ OwnsR wo.heap.size wx.heap.size wx (.slice (some ⟨g2, 0, none⟩) p.length cap2) (scan p.length f a 0) ∧ Fresh wo wx) (fun i _ => p.length - (intOf i).toNat)
          case atStart => exact ⟨0, by omega, rfl, hO2, hF2⟩
          case round =>
            clear hO2 hF2
            obtain ⟨a, ha, rfl, hO, hF3⟩ := hrel
            by_cases hal : a < p.length
            · go_wp2
              go_loopw [44] (fun i wx => ∃ b : Nat, b ≤ p.length ∧ i = .int .i64 b ∧ OwnsR wo.heap.size wx.heap.size wx (.slice (some ⟨g2, 0, none⟩) p.length cap2) (scan p.length f a b) ∧ Fresh wo wx) (fun i _ => p.length - (intOf i).toNat)
              case atStart => exact ⟨0, by omega, rfl, hO, hF3⟩
              case round =>
                clear hO hF3
                obtain ⟨b, hb, rfl, hO, hF3⟩ := hrel
                by_cases hbl : b < p.length
                · have hcl := HL.out.rows.fresh hF3
                  obtain ⟨b1, o1, g1, q1, c1, heq, hc1, hc2⟩ := hcl.sq2 HSQ.out hal hbl
                  subst heq
                  have hfe := HFE.out a b
                  have hli : a < l.length := by rw [HLL.out]; exact hal
                  have hfb := HBIT.out a b hal hbl
                  obtain ⟨z, hz⟩ : ∃ z, z = ent l a b := ⟨_, rfl⟩
                  rw [← hz] at hc2 hfe hfb
                  clear hz
                  rcases hfb with rfl | rfl
                  · have HO := Lib.hid (scan_skip (n := p.length) (f := f) (i := a) (j := b) (by rw [hfe]; rfl))
                    clear hfe
                    go_wp2
                    go_roundw
                    case rel => exact ⟨b + 1, hbl, by go_num, by rw [HO.out]; exact hO, hF3⟩
                    case measure => simp [intOf]; omega
                  · have HE := Lib.hid (show f a b = if answB p l a b then 1 else 0 by rw [hfe]; simp)
                    clear hfe
                    have hpx := hpr.fresh hF3
                    go_wp2_with fail
                    refine (answered_any _ _ p l a b _ hpx hcl hp HSQ.out hal hbl).mono ?_
                    rintro e w5 ⟨rfl, hF5⟩
                    have hO5 := hO.fresh hF5
                    have hF6 := hF3.trans hF5
                    have hs5 := hF5.size
                    have hO5 := hO5.wider (Nat.le_refl _) hs5
                    clear hO hF3 hF5 hpx hcl hc1 hc2
                    cases hans : answB p l a b
                    · have HO := Lib.hid (scan_skip (n := p.length) (f := f) (i := a) (j := b) (by rw [HE.out, hans]; rfl))
                      clear hans
                      go_wp2
                      go_roundw
                      case rel => exact ⟨b + 1, hbl, by go_num, by rw [HO.out]; exact hO5, hF6⟩
                      case measure => simp [intOf]; omega
                    · have HF1 := Lib.hid (show f a b = 1 by rw [HE.out, hans]; rfl)
                      clear hans
                      obtain ⟨r', c', y, hc1, hc2, hfz, hr4, hr5, hr6, hst⟩ := hO5.scanStore hal hbl
                      obtain ⟨hO2, hK2⟩ := hst 1 HF1.out
                      have HR2 := Lib.hid (And.intro hO2 (hF6.keepsTrans hK2 (fun i hi => by omega)))
                      clear hst hO2 hK2 hO5
                      go_wp2
                      go_roundw
                      case rel => exact ⟨b + 1, hbl, by go_num, HR2.out.1, HR2.out.2⟩
                      case measure => simp [intOf]; omega
                · obtain rfl : b = p.length := by omega
                  rw [scan_row] at hO
                  go_wp2
                  go_roundw
                  case rel => exact ⟨a + 1, hal, by go_num, hO, hF3⟩
                  case measure => simp [intOf]; omega
            · obtain rfl : a = p.length := by omega
              rw [scan_full, HR.out] at hO
              have hs3 := hF3.size
              have hO := hO.wider hle (Nat.le_refl _)
              have hF4 := hF.trans hF3
              clear hF3 hF
              go_wp2
              go_roundw
              case rel => exact ⟨k + 1, hlt, by go_num, hO, hF4⟩
              case measure => simp [intOf]; omega
        · obtain rfl : k = m := by omega
          go_wp2
          go_ret
          exact ⟨_, rfl, hL, hF⟩
end Go.Proofs.Ytkicgodmgafkoaa
