/- The reference's rounds: a round, and what is left. -/
import Derived.Test.YtkicgodmgafkoaaRnd
namespace Go.Proofs.Ytkicgodmgafkoaa
open Go.RowKit

theorem RowsR.lenEq {w : World} {v : Value} {rows : List (List Int)} {n : Nat} (h : RowsR w v rows) (hl : rows.length = n) : ∃ a c, v = .slice a n c := by
  obtain ⟨a, c, e⟩ := h.len
  rw [hl] at e
  exact ⟨a, c, e⟩
/-- .. at a place, whatever the length's spelling -/
theorem RowsR.sq2n {w : World} {a : Option Addr} {cap n : Nat} {l : List (List Int)} (h : RowsR w (.slice a n cap) l) (hs : Sq n l) {i j : Nat} (hi : i < n) (hj : j < n) :
    ∃ b off g o c, a = some ⟨b, off, none⟩ ∧ w.cell? ⟨b, off + i, none⟩ = some (.slice (some ⟨g, o, none⟩) n c) ∧ w.cell? ⟨g, o + j, none⟩ = some (.int .i64 (ent l i j)) := by
  have h2 : RowsR w (.slice a l.length cap) l := by rw [hs.1]; exact h
  exact h2.sq2 hs hi hj

set_option maxHeartbeats 1000000 in
theorem l3Round_any (v u : Value) (p l : List (List Int)) (w : World) (h : RowsR w v p) (h' : RowsR w u l) (hp : picB p = true) (hs : Sq p.length l) :
    Calls Try.prog 88 #[v, u] w fun e w' => ∃ r, e = .returned r ∧ OwnsR w.heap.size w'.heap.size w' r (roundS p l) ∧ Fresh w w' := by
  have hn5 := ((picB_iff p).1 hp).2.1
  obtain ⟨pa, pc, rfl⟩ := h.len
  obtain ⟨ua, uc, rfl⟩ := h'.lenEq hs.1
  obtain ⟨f, hf⟩ : ∃ f : Nat → Nat → Int, f = fun a b => if ent l a b == 1 && matchB p l a b && matchB p l b a then 1 else 0 := ⟨_, rfl⟩
  have HF := Lib.hid (fun a b => congrFun (congrFun hf a) b)
  have HR := Lib.hid (show roundS p l = mkR p.length f by rw [hf]; rfl)
  have HE := Lib.hid (RowsAt.empty w p.length f)
  clear hf
  go_enter Try.func88, Try.ntmps88
  go_wp2
  go_loopw [5, 6] (fun v i wr => ∃ k : Nat, k ≤ p.length ∧ i = .int .i64 k ∧ RowsAt w p.length f k v wr) (fun _ i _ => p.length - (intOf i).toNat)
  case atStart => exact ⟨0, by omega, rfl, HE.out⟩
  case round =>
    obtain ⟨k, hk, rfl, hO⟩ := hrel
    obtain ⟨wo, rfl⟩ : ∃ wo : World, wo = wr := ⟨_, rfl⟩
    by_cases hlt : k < p.length
    · have hdk : decide ((k : Int) < p.length) = true := decide_eq_true (by omega)
      have HRo := Lib.hid (RowAt.empty wo f k)
      go_wp2
      go_loopw [7, 8] (fun u i wr => ∃ j : Nat, j ≤ p.length ∧ i = .int .i64 j ∧ RowAt wo f k j u wr) (fun _ i _ => p.length - (intOf i).toNat)
      case atStart => exact ⟨0, by omega, rfl, HRo.out⟩
      case round =>
        clear HRo
        obtain ⟨j, hj, rfl, hR⟩ := hrel
        by_cases hjl : j < p.length
        · have hF := hO.2.trans hR.2
          have hpx := h.fresh hF
          have hux := h'.fresh hF
          obtain ⟨b1, o1, g1, q1, c1, heq, hc1, hc2⟩ := hux.sq2n hs hlt hjl
          subst heq
          have hfe := HF.out k j
          obtain ⟨z, hz⟩ : ∃ z, z = ent l k j := ⟨_, rfl⟩
          rw [← hz] at hc2 hfe
          clear hz
          cases hz1 : (z == 1)
          · have HX := Lib.hid (show f k j = 0 by rw [hfe, hz1]; rfl)
            clear hfe
            go_wp2_with (at_builtin; refine wpList_append_at _ wo f k j 0 _ rfl _ _ rfl _ rfl hR rfl HX.out (by omega) ?_)
            intro u' w2 hR2
            clear hR
            go_wp2
            go_roundw
            case rel => exact ⟨j + 1, hjl, by go_num, hR2⟩
            case measure => simp [intOf]; omega
          · have HE1 := Lib.hid (show f k j = if matchB p l k j && matchB p l j k then 1 else 0 by rw [hfe, hz1]; rfl)
            clear hfe
            go_wp2_with fail
            refine (l3Matched_any _ _ p l k j _ hpx hux hp hs hlt hjl).mono ?_
            rintro e w5 ⟨rfl, rfl⟩
            cases hm1 : matchB p l k j
            · have HX := Lib.hid (show f k j = 0 by rw [HE1.out, hm1]; rfl)
              clear hm1
              go_wp2_with (at_builtin; refine wpList_append_at _ wo f k j 0 _ rfl _ _ rfl _ rfl hR rfl HX.out (by omega) ?_)
              intro u' w2 hR2
              clear hR
              go_wp2
              go_roundw
              case rel => exact ⟨j + 1, hjl, by go_num, hR2⟩
              case measure => simp [intOf]; omega
            · have HE2 := Lib.hid (show f k j = if matchB p l j k then 1 else 0 by rw [HE1.out, hm1]; rfl)
              clear hm1
              go_wp2_with fail
              refine (l3Matched_any _ _ p l j k _ hpx hux hp hs hjl hlt).mono ?_
              rintro e w5 ⟨rfl, rfl⟩
              cases hm2 : matchB p l j k
              · have HX := Lib.hid (show f k j = 0 by rw [HE2.out, hm2]; rfl)
                clear hm2
                go_wp2_with (at_builtin; refine wpList_append_at _ wo f k j 0 _ rfl _ _ rfl _ rfl hR rfl HX.out (by omega) ?_)
                intro u' w2 hR2
                clear hR
                go_wp2
                go_roundw
                case rel => exact ⟨j + 1, hjl, by go_num, hR2⟩
                case measure => simp [intOf]; omega
              · have HX := Lib.hid (show f k j = 1 by rw [HE2.out, hm2]; rfl)
                clear hm2
                go_wp2_with (at_builtin; refine wpList_append_at _ wo f k j 1 _ rfl _ _ rfl _ rfl hR rfl HX.out (by omega) ?_)
                intro u' w2 hR2
                clear hR
                go_wp2
                go_roundw
                case rel => exact ⟨j + 1, hjl, by go_num, hR2⟩
                case measure => simp [intOf]; omega
        · rw [show j = p.length by omega] at hR
          obtain ⟨xa, xc, rfl⟩ := hR.form
          go_wp2_with (at_builtin; refine wpList_append_rowAt _ wo w _ f k _ _ _ rfl _ _ rfl rfl hO hR _ rfl (by first | rfl | simp [World.setCell]) (by omega) ?_)
          intro v' w2 hO2
          clear hO hR
          go_wp2
          go_roundw
          case rel => exact ⟨k + 1, hlt, by go_num, hO2⟩
          case measure => simp [intOf]; omega
    · rw [show k = p.length by omega] at hO
      go_wp2
      go_ret
      exact ⟨_, rfl, by rw [HR.out, ← partR_full]; exact hO.1, hO.2⟩

/-- what LeftAfter answers -/
def leftI (p : List (List Int)) (m : Int) : List (List Int) := if picB p && inB m 0 30 then leftL p m.toNat else []
theorem leftI_in {p : List (List Int)} {m : Nat} (hp : picB p = true) (hm : m ≤ 30) : leftI p m = leftL p m := by
  have : inB (m : Int) 0 30 = true := (inB_iff _ _ _).2 (by omega)
  simp [leftI, hp, this]
theorem leftI_noPic {p : List (List Int)} {m : Int} (hp : picB p = false) : leftI p m = [] := by simp [leftI, hp]
theorem leftI_noNum {p : List (List Int)} {m : Int} (hm : inB m 0 30 = false) : leftI p m = [] := by simp [leftI, hm]

set_option maxHeartbeats 1000000 in
theorem specLeftAfter_any (v : Value) (p : List (List Int)) (m : Int) (w : World) (h : RowsR w v p) :
    Calls Try.prog 73 #[v, .int .i64 m] w fun e w' => ∃ r, e = .returned r ∧ OwnsR w.heap.size w'.heap.size w' r (leftI p m) ∧ Fresh w w' := by
  cases hp : picB p
  · have HX := Lib.hid (leftI_noPic (m := m) hp)
    go_enter Try.func73, Try.ntmps73
    go_wp2_with fail
    refine (specPictureOk_any _ p _ h).mono ?_
    rintro e w1 ⟨rfl, rfl⟩
    rw [hp]
    clear hp
    go_wp2
    go_ret
    exact ⟨_, rfl, by rw [HX.out]; exact OwnsR.empty w, (Fresh.refl w).alloc _⟩
  · cases hm : inB m 0 30
    · have HX := Lib.hid (leftI_noNum (p := p) hm)
      go_enter Try.func73, Try.ntmps73
      go_wp2_with fail
      refine (specPictureOk_any _ p _ h).mono ?_
      rintro e w1 ⟨rfl, rfl⟩
      rw [hp]
      go_wp2_with fail
      refine (l1In_any _ _ _ _).mono ?_
      rintro e w' ⟨rfl, rfl⟩
      rw [hm]
      clear hm
      go_wp2
      go_ret
      exact ⟨_, rfl, by rw [HX.out]; exact OwnsR.empty w, (Fresh.refl w).alloc _⟩
    · have hm2 := (inB_iff _ _ _).1 hm
      obtain ⟨r, rfl⟩ := Int.eq_ofNat_of_zero_le hm2.1
      have hr : r ≤ 30 := by omega
      have HX := Lib.hid (leftI_in hp hr)
      have hn5 := ((picB_iff p).1 hp).2.1
      clear hm2
      obtain ⟨pa, pc, rfl⟩ := h.len
      go_enter Try.func73, Try.ntmps73
      go_wp2_with fail
      refine (specPictureOk_any _ p _ h).mono ?_
      rintro e w1 ⟨rfl, rfl⟩
      rw [hp]
      go_wp2_with fail
      refine (l1In_any _ _ _ _).mono ?_
      rintro e w' ⟨rfl, rfl⟩
      rw [hm]
      clear hm
      go_wp2_with fail
      refine (l3Start_any p.length hn5 _).mono ?_
      rintro e w1 ⟨r1, rfl, hO1, hF1⟩
      have hO1 : OwnsR w.heap.size w1.heap.size w1 r1 (leftL p 0) := hO1
      go_wp2
      go_loopw [5, 6] (fun l i wr => ∃ k : Nat, k ≤ r ∧ i = .int .i64 k ∧ OwnsR w.heap.size wr.heap.size wr l (leftL p k) ∧ Fresh w wr) (fun _ i _ => r - (intOf i).toNat)
      case atStart => exact ⟨0, by omega, rfl, hO1, hF1⟩
      case round =>
        clear hO1 hF1
        obtain ⟨k, hk, rfl, hO, hF⟩ := hrel
        by_cases hlt : k < r
        · have HS := Lib.hid (left_roundS hp k)
          have hsq : Sq p.length (leftL p k) := by have := pic_sq (leftL_pic hp k); rwa [leftL_len] at this
          go_wp2_with fail
          refine (l3Round_any _ _ p (leftL p k) _ (h.fresh hF) hO.rows hp hsq).mono ?_
          rintro e w2 ⟨r2, rfl, hO2, hF2⟩
          rw [HS.out] at hO2
          have hO3 := hO2.wider hF.size (Nat.le_refl _)
          have hF3 := hF.trans hF2
          clear hO2 hF2 hO hF hsq
          go_wp2
          go_roundw
          case rel => exact ⟨k + 1, hlt, by go_num, hO3, hF3⟩
          case measure => simp [intOf]; omega
        · rw [show k = r by omega] at hO
          go_wp2
          go_ret
          exact ⟨_, rfl, by rw [HX.out]; exact hO, hF⟩

theorem specSameRows_any (v : Value) (p : List (List Int)) (w : World) (h : RowsR w v p) :
    Calls Try.prog 56 #[v] w fun e w' => ∃ r, e = .returned r ∧ OwnsR w.heap.size w'.heap.size w' r (leftI p p.length) ∧ Fresh w w' := by
  obtain ⟨pa, pc, rfl⟩ := h.len
  go_enter Try.func56, Try.ntmps56
  go_wp2_with fail
  refine (specLeftAfter_any _ p _ _ h).mono ?_
  rintro e w1 ⟨r1, rfl, hO1, hF1⟩
  go_wp2
  go_ret
  exact ⟨_, rfl, hO1, hF1⟩

/-- do two nodes draw the same set? -/
def sameB (p : List (List Int)) (a b : Int) : Bool := nodeB p a && nodeB p b && ent (leftL p p.length) a.toNat b.toNat == 1
theorem sameB_noA {p : List (List Int)} {a b : Int} (h : nodeB p a = false) : sameB p a b = false := by simp [sameB, h]
theorem sameB_noB {p : List (List Int)} {a b : Int} (h : nodeB p b = false) : sameB p a b = false := by simp [sameB, h]
theorem sameB_in {p : List (List Int)} {a b : Nat} (ha : nodeB p a = true) (hb : nodeB p b = true) : sameB p a b = (ent (leftL p p.length) a b == 1) := by simp [sameB, ha, hb]
theorem nodeB_in {p : List (List Int)} (hp : picB p = true) (a : Int) : nodeB p a = inB a 0 ((p.length : Int) - 1) := by
  rw [Bool.eq_iff_iff, nodeB_iff, inB_iff]
  constructor
  · intro h; omega
  · intro h; exact ⟨hp, by omega⟩
theorem inB_empty (a : Int) : inB a 0 (-1) = false := by rw [inB_false]; omega

set_option maxHeartbeats 400000 in
theorem specSameAt_any (v : Value) (p : List (List Int)) (a b : Int) (w : World) (h : RowsR w v p) :
    Calls Try.prog 35 #[v, .int .i64 a, .int .i64 b] w fun e w' => e = .returned (.bool (sameB p a b)) ∧ Fresh w w' := by
  cases hp : picB p
  · have HX := Lib.hid (sameB_noA (p := p) (a := a) (b := b) (by simp [nodeB, hp]))
    have HE := Lib.hid (leftI_noPic (m := p.length) hp)
    have HI := Lib.hid (inB_empty a)
    clear hp
    go_enter Try.func35, Try.ntmps35
    go_wp2_with fail
    refine (specSameRows_any _ p _ h).mono ?_
    rintro e w1 ⟨r1, rfl, hO1, hF1⟩
    rw [HE.out] at hO1
    obtain ⟨ra, rc, rfl⟩ := hO1.rows.lenEq rfl
    clear hO1
    go_wp2_with fail
    refine (l1In_any _ _ _ _).mono ?_
    rintro e w' ⟨rfl, rfl⟩
    rw [HI.out]
    go_wp2
    go_ret
    exact ⟨ret_bool HX.out.symm, hF1⟩
  · have hn5 := (picB_iff p).1 hp
    obtain ⟨h1, h5, -⟩ := hn5
    have HE := Lib.hid (leftI_in hp (show p.length ≤ 30 by omega))
    have HLL := Lib.hid (leftL_len p p.length)
    have HNA := Lib.hid (nodeB_in hp a)
    have HNB := Lib.hid (nodeB_in hp b)
    have HSQ := Lib.hid (show Sq p.length (leftL p p.length) by have := pic_sq (leftL_pic hp p.length); rwa [leftL_len] at this)
    cases ha : nodeB p a
    · have HX := Lib.hid (sameB_noA (p := p) (a := a) (b := b) ha)
      rw [HNA.out] at ha
      have HA := Lib.hid ha
      clear ha hp
      go_enter Try.func35, Try.ntmps35
      go_wp2_with fail
      refine (specSameRows_any _ p _ h).mono ?_
      rintro e w1 ⟨r1, rfl, hO1, hF1⟩
      rw [HE.out] at hO1
      obtain ⟨ra, rc, rfl⟩ := hO1.rows.lenEq HLL.out
      go_wp2_with fail
      refine (l1In_any _ _ _ _).mono ?_
      rintro e w' ⟨rfl, rfl⟩
      rw [HA.out]
      go_wp2
      go_ret
      exact ⟨ret_bool HX.out.symm, hF1⟩
    · have hai := (nodeB_iff p a).1 ha
      obtain ⟨i, rfl⟩ := Int.eq_ofNat_of_zero_le hai.2.1
      have hil : i < p.length := by omega
      clear hai
      cases hb : nodeB p b
      · have HX := Lib.hid (sameB_noB (p := p) (a := i) (b := b) hb)
        rw [HNA.out] at ha
        rw [HNB.out] at hb
        have HA := Lib.hid ha
        have HB := Lib.hid hb
        clear ha hp hb
        go_enter Try.func35, Try.ntmps35
        go_wp2_with fail
        refine (specSameRows_any _ p _ h).mono ?_
        rintro e w1 ⟨r1, rfl, hO1, hF1⟩
        rw [HE.out] at hO1
        obtain ⟨ra, rc, rfl⟩ := hO1.rows.lenEq HLL.out
        go_wp2_with fail
        refine (l1In_any _ _ _ _).mono ?_
        rintro e w' ⟨rfl, rfl⟩
        rw [HA.out]
        go_wp2_with fail
        refine (l1In_any _ _ _ _).mono ?_
        rintro e w' ⟨rfl, rfl⟩
        rw [HB.out]
        go_wp2
        go_ret
        exact ⟨ret_bool HX.out.symm, hF1⟩
      · have hbi := (nodeB_iff p b).1 hb
        obtain ⟨j, rfl⟩ := Int.eq_ofNat_of_zero_le hbi.2.1
        have hjl : j < p.length := by omega
        clear hbi
        have HX := Lib.hid (sameB_in (p := p) (a := i) (b := j) ha hb)
        rw [HNA.out] at ha
        rw [HNB.out] at hb
        have HA := Lib.hid ha
        have HB := Lib.hid hb
        clear ha hp hb
        go_enter Try.func35, Try.ntmps35
        go_wp2_with fail
        refine (specSameRows_any _ p _ h).mono ?_
        rintro e w1 ⟨r1, rfl, hO1, hF1⟩
        rw [HE.out] at hO1
        obtain ⟨ra, rc, rfl⟩ := hO1.rows.lenEq HLL.out
        obtain ⟨b1, o1, g1, q1, c1, rfl, hc1, hc2⟩ := hO1.rows.sq2n HSQ.out hil hjl
        obtain ⟨z, hz⟩ : ∃ z, z = ent (leftL p p.length) i j := ⟨_, rfl⟩
        rw [← hz] at HX hc2
        clear hz hO1
        go_wp2_with fail
        refine (l1In_any _ _ _ _).mono ?_
        rintro e w' ⟨rfl, rfl⟩
        rw [HA.out]
        go_wp2_with fail
        refine (l1In_any _ _ _ _).mono ?_
        rintro e w' ⟨rfl, rfl⟩
        rw [HB.out]
        go_wp2
        go_ret
        exact ⟨ret_bool HX.out.symm, hF1⟩
end Go.Proofs.Ytkicgodmgafkoaa
