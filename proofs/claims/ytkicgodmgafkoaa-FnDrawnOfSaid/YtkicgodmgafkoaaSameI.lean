/- What the program answers on sameness: walks. -/
import Derived.Test.YtkicgodmgafkoaaRnd2
namespace Go.Proofs.Ytkicgodmgafkoaa
open Go.RowKit

theorem inB30 (m : Int) : inB m 0 30 = (decide (0 ≤ m) && decide (m ≤ 30)) := rfl


set_option maxHeartbeats 400000 in
theorem implSameAt_any (v : Value) (p : List (List Int)) (a b : Int) (w : World) (h : RowsR w v p) :
    Calls Try.prog 34 #[v, .int .i64 a, .int .i64 b] w fun e w' => e = .returned (.bool (sameB p a b)) ∧ Fresh w w' := by
  obtain ⟨pa, pc, rfl⟩ := h.len
  cases ha : nodeB p a
  · have HX := Lib.hid (sameB_noA (p := p) (a := a) (b := b) ha)
    go_enter Try.func34, Try.ntmps34
    go_wp2_with fail
    refine (hasNode_any _ p a _ h).mono ?_
    rintro e w1 ⟨rfl, rfl⟩
    rw [ha]
    clear ha
    go_wp2
    go_ret
    exact ⟨ret_bool HX.out.symm, Fresh.refl _⟩
  · cases hb : nodeB p b
    · have HX := Lib.hid (sameB_noB (p := p) (a := a) (b := b) hb)
      go_enter Try.func34, Try.ntmps34
      go_wp2_with fail
      refine (hasNode_any _ p a _ h).mono ?_
      rintro e w1 ⟨rfl, rfl⟩
      rw [ha]
      go_wp2_with fail
      refine (hasNode_any _ p b _ h).mono ?_
      rintro e w1 ⟨rfl, rfl⟩
      rw [hb]
      clear ha hb
      go_wp2
      go_ret
      exact ⟨ret_bool HX.out.symm, Fresh.refl _⟩
    · have hai := (nodeB_iff p a).1 ha
      obtain ⟨hp, hai0, hai1⟩ := hai
      obtain ⟨i, rfl⟩ := Int.eq_ofNat_of_zero_le hai0
      have hil : i < p.length := by omega
      have hbi := (nodeB_iff p b).1 hb
      obtain ⟨-, hbi0, hbi1⟩ := hbi
      obtain ⟨j, rfl⟩ := Int.eq_ofNat_of_zero_le hbi0
      have hjl : j < p.length := by omega
      have hn5 := ((picB_iff p).1 hp).2.1
      have HX := Lib.hid (sameB_in (p := p) (a := i) (b := j) ha hb)
      have HSQ := Lib.hid (show Sq p.length (leftL p p.length) by have := pic_sq (leftL_pic hp p.length); rwa [leftL_len] at this)
      go_enter Try.func34, Try.ntmps34
      go_wp2_with fail
      refine (hasNode_any _ p i _ h).mono ?_
      rintro e w1 ⟨rfl, rfl⟩
      rw [ha]
      go_wp2_with fail
      refine (hasNode_any _ p j _ h).mono ?_
      rintro e w1 ⟨rfl, rfl⟩
      rw [hb]
      clear ha hb
      go_wp2_with fail
      refine (leftAfter_any _ p _ _ h hp (by omega)).mono ?_
      rintro e w1 ⟨r1, rfl, hO1, hF1⟩
      obtain ⟨ra, rc, rfl⟩ := hO1.rows.lenEq HSQ.out.1
      obtain ⟨b1, o1, g1, q1, c1, rfl, hc1, hc2⟩ := hO1.rows.sq2n HSQ.out hil hjl
      obtain ⟨z, hz⟩ : ∃ z, z = ent (leftL p p.length) i j := ⟨_, rfl⟩
      rw [← hz] at HX hc2
      clear hz hO1
      go_wp2
      go_ret
      exact ⟨ret_bool HX.out.symm, hF1⟩

/-- what KindsOf answers -/
def kindsI (p : List (List Int)) : List Int := if picB p then kindsL p else []
/-- the first k of it -/
def kindsTo (p : List (List Int)) (k : Nat) : List Int := (List.range k).map fun i => ((kindN p i : Nat) : Int)
theorem kindsTo_step (p : List (List Int)) (k : Nat) : kindsTo p (k + 1) = kindsTo p k ++ [((kindN p k : Nat) : Int)] := by simp [kindsTo, List.range_succ]
theorem kindsTo_len (p : List (List Int)) (k : Nat) : (kindsTo p k).length = k := by simp [kindsTo]
theorem kindsTo_full (p : List (List Int)) : kindsTo p p.length = kindsL p := rfl
theorem idx_kind {p : List (List Int)} (h : picB p = true) {k : Nat} (hk : k < p.length) (hk2 : k < (leftL p p.length).length) : idxP (leftL p p.length)[k] ((1 : Int) == ·) = ((kindN p k : Nat) : Int) := by
  have hs := (kindN_spec h hk).2.1
  have hkl := kindN_lt h hk
  have hr := left_row (m := p.length) hk
  have hg : (leftL p p.length)[k] = (leftL p p.length).getD k [] := by simp [List.getD_eq_getElem?_getD, hk2]
  have e : ((1 : Int) == ·) = (· == (1 : Int)) := by funext x; rw [Bool.eq_iff_iff, beq_iff_eq, beq_iff_eq]; exact eq_comm
  unfold idxP kindN
  rw [hg, e, if_pos]
  rw [List.any_eq_true, hr]
  exact ⟨ent (leftL p p.length) k (kindN p k), List.mem_map.2 ⟨_, List.mem_range.2 hkl, rfl⟩, by rw [hs]; rfl⟩


end Go.Proofs.Ytkicgodmgafkoaa
