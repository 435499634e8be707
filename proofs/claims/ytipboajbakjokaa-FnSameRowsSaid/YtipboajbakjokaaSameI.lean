/- What the program answers on sameness: walks. -/
import Derived.Test.YtipboajbakjokaaRnd2
namespace Go.Proofs.Ytipboajbakjokaa
open Go.RowKit

theorem inB30 (m : Int) : inB m 0 30 = (decide (0 ≤ m) && decide (m ≤ 30)) := rfl
set_option maxHeartbeats 400000 in
theorem implLeftAfter_any (v : Value) (p : List (List Int)) (m : Int) (w : World) (h : RowsR w v p) :
    Calls Try.prog 31 #[v, .int .i64 m] w fun e w' => ∃ r, e = .returned r ∧ OwnsR w.heap.size w'.heap.size w' r (leftI p m) ∧ Fresh w w' := by
  cases hp : picB p
  · have HX := Lib.hid (leftI_noPic (m := m) hp)
    go_enter Try.func31, Try.ntmps31
    go_wp2_with fail
    refine (isPicture_any _ p _ h).mono ?_
    rintro e w1 ⟨rfl, rfl⟩
    rw [hp]
    clear hp
    go_wp2
    go_ret
    exact ⟨_, rfl, by rw [HX.out]; exact OwnsR.nil _ _ _, Fresh.refl _⟩
  · by_cases h0 : m < 0
    · have HX := Lib.hid (leftI_noNum (p := p) (m := m) (by rw [inB_false]; omega))
      go_enter Try.func31, Try.ntmps31
      go_wp2_with fail
      refine (isPicture_any _ p _ h).mono ?_
      rintro e w1 ⟨rfl, rfl⟩
      rw [hp]
      clear hp
      go_wp2
      go_ret
      exact ⟨_, rfl, by rw [HX.out]; exact OwnsR.nil _ _ _, Fresh.refl _⟩
    · by_cases h1 : 30 < m
      · have HX := Lib.hid (leftI_noNum (p := p) (m := m) (by rw [inB_false]; omega))
        go_enter Try.func31, Try.ntmps31
        go_wp2_with fail
        refine (isPicture_any _ p _ h).mono ?_
        rintro e w1 ⟨rfl, rfl⟩
        rw [hp]
        clear hp
        go_wp2
        go_ret
        exact ⟨_, rfl, by rw [HX.out]; exact OwnsR.nil _ _ _, Fresh.refl _⟩
      · obtain ⟨r, rfl⟩ := Int.eq_ofNat_of_zero_le (show 0 ≤ m by omega)
        have hr : r ≤ 30 := by omega
        have HX := Lib.hid (leftI_in hp hr)
        go_enter Try.func31, Try.ntmps31
        go_wp2_with fail
        refine (isPicture_any _ p _ h).mono ?_
        rintro e w1 ⟨rfl, rfl⟩
        rw [hp]
        go_wp2_with fail
        refine (leftAfter_any _ p r _ h hp hr).mono ?_
        rintro e w1 ⟨r1, rfl, hO1, hF1⟩
        go_wp2
        go_ret
        exact ⟨_, rfl, by rw [HX.out]; exact hO1, hF1⟩

set_option maxHeartbeats 400000 in
theorem implSameRows_any (v : Value) (p : List (List Int)) (w : World) (h : RowsR w v p) :
    Calls Try.prog 33 #[v] w fun e w' => ∃ r, e = .returned r ∧ OwnsR w.heap.size w'.heap.size w' r (leftI p p.length) ∧ Fresh w w' := by
  cases hp : picB p
  · have HX := Lib.hid (leftI_noPic (m := p.length) hp)
    go_enter Try.func33, Try.ntmps33
    go_wp2_with fail
    refine (isPicture_any _ p _ h).mono ?_
    rintro e w1 ⟨rfl, rfl⟩
    rw [hp]
    clear hp
    go_wp2
    go_ret
    exact ⟨_, rfl, by rw [HX.out]; exact OwnsR.nil _ _ _, Fresh.refl _⟩
  · have hr : p.length ≤ 30 := by have := ((picB_iff p).1 hp).2.1; omega
    have HX := Lib.hid (leftI_in hp hr)
    obtain ⟨pa, pc, rfl⟩ := h.len
    go_enter Try.func33, Try.ntmps33
    go_wp2_with fail
    refine (isPicture_any _ p _ h).mono ?_
    rintro e w1 ⟨rfl, rfl⟩
    rw [hp]
    go_wp2_with fail
    refine (leftAfter_any _ p _ _ h hp hr).mono ?_
    rintro e w1 ⟨r1, rfl, hO1, hF1⟩
    go_wp2
    go_ret
    exact ⟨_, rfl, by rw [HX.out]; exact hO1, hF1⟩

set_option maxHeartbeats 400000 in
theorem implSameAt_any (v : Value) (p : List (List Int)) (a b : Int) (w : World) (h : RowsR w v p) :
    Calls Try.prog 29 #[v, .int .i64 a, .int .i64 b] w fun e w' => e = .returned (.bool (sameB p a b)) ∧ Fresh w w' := by
  obtain ⟨pa, pc, rfl⟩ := h.len
  cases ha : nodeB p a
  · have HX := Lib.hid (sameB_noA (p := p) (a := a) (b := b) ha)
    go_enter Try.func29, Try.ntmps29
    go_wp2_with fail
    refine (hasNode_any _ p a _ h).mono ?_
    rintro e w1 ⟨rfl, rfl⟩
    rw [ha]
    clear ha
    go_wp2
    go_ret
    exact ⟨ret_bool HX.out.symm, Fresh.refl _⟩
  · cases hb : nodeB p b
    · have HX := Lib.hid (sameB_noB (p := p) (a := a) (b := b) hb)
      go_enter Try.func29, Try.ntmps29
      go_wp2_with fail
      refine (hasNode_any _ p a _ h).mono ?_
      rintro e w1 ⟨rfl, rfl⟩
      rw [ha]
      go_wp2_with fail
      refine (hasNode_any _ p b _ h).mono ?_
      rintro e w1 ⟨rfl, rfl⟩
      rw [hb]
      clear ha hb
      go_wp2
      go_ret
      exact ⟨ret_bool HX.out.symm, Fresh.refl _⟩
    · have hai := (nodeB_iff p a).1 ha
      obtain ⟨hp, hai0, hai1⟩ := hai
      obtain ⟨i, rfl⟩ := Int.eq_ofNat_of_zero_le hai0
      have hil : i < p.length := by omega
      have hbi := (nodeB_iff p b).1 hb
      obtain ⟨-, hbi0, hbi1⟩ := hbi
      obtain ⟨j, rfl⟩ := Int.eq_ofNat_of_zero_le hbi0
      have hjl : j < p.length := by omega
      have hn5 := ((picB_iff p).1 hp).2.1
      have HX := Lib.hid (sameB_in (p := p) (a := i) (b := j) ha hb)
      have HSQ := Lib.hid (show Sq p.length (leftL p p.length) by have := pic_sq (leftL_pic hp p.length); rwa [leftL_len] at this)
      go_enter Try.func29, Try.ntmps29
      go_wp2_with fail
      refine (hasNode_any _ p i _ h).mono ?_
      rintro e w1 ⟨rfl, rfl⟩
      rw [ha]
      go_wp2_with fail
      refine (hasNode_any _ p j _ h).mono ?_
      rintro e w1 ⟨rfl, rfl⟩
      rw [hb]
      clear ha hb
      go_wp2_with fail
      refine (leftAfter_any _ p _ _ h hp (by omega)).mono ?_
      rintro e w1 ⟨r1, rfl, hO1, hF1⟩
      obtain ⟨ra, rc, rfl⟩ := hO1.rows.lenEq HSQ.out.1
      obtain ⟨b1, o1, g1, q1, c1, rfl, hc1, hc2⟩ := hO1.rows.sq2n HSQ.out hil hjl
      obtain ⟨z, hz⟩ : ∃ z, z = ent (leftL p p.length) i j := ⟨_, rfl⟩
      rw [← hz] at HX hc2
      clear hz hO1
      go_wp2
      go_ret
      exact ⟨ret_bool HX.out.symm, hF1⟩

/-- what KindsOf answers -/
def kindsI (p : List (List Int)) : List Int := if picB p then kindsL p else []
/-- the first k of it -/
def kindsTo (p : List (List Int)) (k : Nat) : List Int := (List.range k).map fun i => ((kindN p i : Nat) : Int)
theorem kindsTo_step (p : List (List Int)) (k : Nat) : kindsTo p (k + 1) = kindsTo p k ++ [((kindN p k : Nat) : Int)] := by simp [kindsTo, List.range_succ]
theorem kindsTo_len (p : List (List Int)) (k : Nat) : (kindsTo p k).length = k := by simp [kindsTo]
theorem kindsTo_full (p : List (List Int)) : kindsTo p p.length = kindsL p := rfl
theorem idx_kind {p : List (List Int)} (h : picB p = true) {k : Nat} (hk : k < p.length) (hk2 : k < (leftL p p.length).length) : idxP (leftL p p.length)[k] ((1 : Int) == ·) = ((kindN p k : Nat) : Int) := by
  have hs := (kindN_spec h hk).2.1
  have hkl := kindN_lt h hk
  have hr := left_row (m := p.length) hk
  have hg : (leftL p p.length)[k] = (leftL p p.length).getD k [] := by simp [List.getD_eq_getElem?_getD, hk2]
  have e : ((1 : Int) == ·) = (· == (1 : Int)) := by funext x; rw [Bool.eq_iff_iff, beq_iff_eq, beq_iff_eq]; exact eq_comm
  unfold idxP kindN
  rw [hg, e, if_pos]
  rw [List.any_eq_true, hr]
  exact ⟨ent (leftL p p.length) k (kindN p k), List.mem_map.2 ⟨_, List.mem_range.2 hkl, rfl⟩, by rw [hs]; rfl⟩

set_option maxHeartbeats 400000 in
theorem kindsOf_any (v : Value) (p : List (List Int)) (w : World) (h : RowsR w v p) (hp : picB p = true) :
    Calls Try.prog 68 #[v] w fun e w' => ∃ r, e = .returned r ∧ Owns w.heap.size w'.heap.size w' r (kindsL p) ∧ Fresh w w' := by
  have hn5 := ((picB_iff p).1 hp).2.1
  have hsq : Sq p.length (leftL p p.length) := by have := pic_sq (leftL_pic hp p.length); rwa [leftL_len] at this
  have HSQ := Lib.hid hsq
  obtain ⟨pa, pc, rfl⟩ := h.len
  clear hsq
  go_enter Try.func68, Try.ntmps68
  go_wp2_with fail
  have hF0 : Fresh w (w.alloc (Obj.cells #[] 3)) := (Fresh.refl w).alloc _
  have hE := (Owns.empty w)
  refine (leftAfter_any _ p _ _ (h.fresh hF0) hp (by omega)).mono ?_
  rintro e w1 ⟨r1, rfl, hO1, hF1⟩
  have hE1 := (hE.fresh hF1).wider (Nat.le_refl _) hF1.size
  have hF01 := hF0.trans hF1
  obtain ⟨ra, rc, rfl⟩ := hO1.rows.lenEq HSQ.out.1
  have hoff : OffU (.slice (some ⟨w.heap.size, 0, none⟩) 0 0) (w.alloc (Obj.cells #[] 3)).heap.size w1.heap.size := ⟨by simp, fun g hg => by simp [Value.ownBlock] at hg; simp; omega⟩
  obtain ⟨lo, hlo⟩ : ∃ lo, lo = (w.alloc (Obj.cells #[] 3)).heap.size := ⟨_, rfl⟩
  obtain ⟨hi, hhi⟩ : ∃ hi, hi = w1.heap.size := ⟨_, rfl⟩
  rw [← hlo, ← hhi] at hO1 hoff
  have hhi2 : hi ≤ w1.heap.size := by omega
  clear hF0 hF1 hE hlo hhi
  go_wp2
  go_loopw [3, 12] (fun u i wr => ∃ k : Nat, k ≤ p.length ∧ i = .int .i64 k ∧ Owns w.heap.size wr.heap.size wr u (kindsTo p k) ∧ Fresh w wr ∧ OffU u lo hi ∧ hi ≤ wr.heap.size ∧ OwnsR lo hi wr (.slice ra p.length rc) (leftL p p.length)) (fun _ i _ => p.length - (intOf i).toNat)
  case atStart => exact ⟨0, by omega, rfl, hE1, hF01, hoff, hhi2, hO1⟩
  case round =>
    clear hE1 hF01 hO1 hoff hhi2
    obtain ⟨k, hk, rfl, hO, hF, hoff, hhi, hL⟩ := hrel
    by_cases hlt : k < p.length
    · have hkl : k < (leftL p p.length).length := by rw [HSQ.out.1]; exact hlt
      obtain ⟨b1, o1, xa, xc, rfl, hc, hI⟩ := RowsR.rowLen (a := ra) (cap := rc) (by have := hL.rows; rw [HSQ.out.1]; exact this) hkl
      have HIX := Lib.hid (idx_kind hp hlt hkl)
      have HST := Lib.hid (kindsTo_step p k)
      have HKN := Lib.hid (kindsTo_len p k)
      obtain ⟨row, hrow⟩ : ∃ row, row = (leftL p p.length)[k] := ⟨_, rfl⟩
      rw [← hrow] at hc hI HIX
      clear hrow
      go_wp2_with fail
      refine (sliceIndex_any _ row 1 _ hI).mono ?_
      rintro e w' ⟨rfl, rfl⟩
      rw [HIX.out]
      go_wp2_with (at_builtin; refine wpList_append_off _ w _ _ _ lo hi rfl _ _ rfl _ rfl hO hF hoff hhi rfl (by rw [HKN.out]; omega) ?_)
      intro u' w3 hO3 hF3 hoff3 hK3
      have hL3 := hL.keeps hK3 (fun _ h1 h2 => Outside.off h1 h2)
      have hhi3 := Nat.le_trans hhi hK3.size
      clear hO hF hoff hhi hL hK3 hI hc
      go_wp2
      go_roundw
      case rel => exact ⟨k + 1, hlt, by go_num, by rw [HST.out]; exact hO3, hF3, hoff3, hhi3, hL3⟩
      case measure => simp [intOf]; omega
    · rw [show k = p.length by omega, kindsTo_full] at hO
      go_wp2
      go_ret
      exact ⟨_, rfl, hO, hF⟩

theorem kindsI_in {p : List (List Int)} (h : picB p = true) : kindsI p = kindsL p := by simp [kindsI, h]
theorem kindsI_no {p : List (List Int)} (h : picB p = false) : kindsI p = [] := by simp [kindsI, h]
theorem implKindsOf_any (v : Value) (p : List (List Int)) (w : World) (h : RowsR w v p) :
    Calls Try.prog 38 #[v] w fun e w' => ∃ r, e = .returned r ∧ Owns w.heap.size w'.heap.size w' r (kindsI p) ∧ Fresh w w' := by
  cases hp : picB p
  · have HX := Lib.hid (kindsI_no hp)
    go_enter Try.func38, Try.ntmps38
    go_wp2_with fail
    refine (isPicture_any _ p _ h).mono ?_
    rintro e w1 ⟨rfl, rfl⟩
    rw [hp]
    clear hp
    go_wp2
    go_ret
    exact ⟨_, rfl, by rw [HX.out]; exact Owns.nil _ _ _, Fresh.refl _⟩
  · have HX := Lib.hid (kindsI_in hp)
    go_enter Try.func38, Try.ntmps38
    go_wp2_with fail
    refine (isPicture_any _ p _ h).mono ?_
    rintro e w1 ⟨rfl, rfl⟩
    rw [hp]
    go_wp2_with fail
    refine (kindsOf_any _ p _ h hp).mono ?_
    rintro e w1 ⟨r1, rfl, hO1, hF1⟩
    go_wp2
    go_ret
    exact ⟨_, rfl, by rw [HX.out]; exact hO1, hF1⟩
end Go.Proofs.Ytipboajbakjokaa
