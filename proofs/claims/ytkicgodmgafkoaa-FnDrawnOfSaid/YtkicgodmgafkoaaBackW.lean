/- Ways back in a picture: the program's walks. -/
import Derived.Test.YtkicgodmgafkoaaReachW
import Derived.Deep.RegionHeld3
namespace Go.Proofs.Ytkicgodmgafkoaa
open Go.RowKit

theorem dec_reach {p : List (List Int)} (hp : picB p = true) {u a : Nat} (hu : u < p.length) : decide (a ∈ reachL p u) = reach p u a := by
  rw [Bool.eq_iff_iff, decide_eq_true_eq]; exact reachL_mem hp hu
theorem any_loop {p : List (List Int)} (hp : picB p = true) {a : Nat} (ha : a < p.length) : (((arrowsL p a).map Int.ofNat).any fun u => reach p u.toNat a) = loopB p a := by
  rw [Bool.eq_iff_iff, List.any_eq_true, loopB_iff]
  constructor
  · rintro ⟨z, hz, e⟩
    obtain ⟨u, hu, rfl⟩ := List.mem_map.1 hz
    have := (arrowsL_mem hp ha).1 hu
    exact ⟨u, this.1, this.2, e⟩
  · rintro ⟨u, h1, h2, h3⟩
    exact ⟨Int.ofNat u, List.mem_map.2 ⟨u, (arrowsL_mem hp ha).2 ⟨h1, h2⟩, rfl⟩, h3⟩
theorem any_back {p : List (List Int)} (hp : picB p = true) {a : Nat} (ha : a < p.length) : (((reachL p a).map Int.ofNat).any fun u => loopB p u.toNat) = backB p a := by
  rw [Bool.eq_iff_iff, List.any_eq_true, backB_iff hp ha]
  constructor
  · rintro ⟨z, hz, e⟩
    obtain ⟨u, hu, rfl⟩ := List.mem_map.1 hz
    exact ⟨u, (reachL_mem hp ha).1 hu, e⟩
  · rintro ⟨u, h1, h2⟩
    exact ⟨Int.ofNat u, List.mem_map.2 ⟨u, (reachL_mem hp ha).2 h1, rfl⟩, h2⟩

set_option maxHeartbeats 1000000 in
theorem onLoop1_any (bp bn : Nat) (v : Value) (p : List (List Int)) (u a : Nat) (w : World) (hc : w.cell? ⟨bp, 0, none⟩ = some v) (h : RowsR w v p) (hx : w.cell? ⟨bn, 0, none⟩ = some (.int .i64 (a : Int))) (hp : picB p = true) (hu : u < p.length) :
    Calls Try.prog 84 #[.int .i64 (u : Int), .pointer (some ⟨bp, 0, none⟩), .pointer (some ⟨bn, 0, none⟩)] w fun e w' => e = .returned (.bool (reach p u a)) ∧ Fresh w w' := by
  have HD := Lib.hid ((any_mem (reachL p u) a).trans (dec_reach hp hu))
  have HH := Lib.hid h
  clear h
  go_enter Try.func84, Try.ntmps84
  go_wp2
  go_region_held3 (fun w' => w'.cell? ⟨bp, 0, none⟩ = some v ∧ w'.cell? ⟨bn, 0, none⟩ = some (.int .i64 (a : Int)) ∧ Fresh w w')
    (first | exact ⟨hc, hx, Fresh.refl _⟩ | exact ⟨hc, hx, (Fresh.refl _).drew⟩ | exact ⟨hF2.cell (w := w.drew) hc, hF2.cell (w := w.drew) hx, ((Fresh.refl w).drew).trans hF2⟩ | go_keep)
    (first | (go_at_call 45; refine (reachedFrom_any _ p u _ (HH.out.fresh ((Fresh.refl _).drew)) hp hu).mono ?_; rintro e w2 ⟨r2, rfl, hO2, hF2⟩) | (go_at_call 66; refine (sliceContains_any _ _ _ _ hO2.ints).mono ?_; rintro e w' ⟨rfl, rfl⟩; rw [HD.out]))
  go_wp2
  go_ret
  exact ⟨rfl, ((Fresh.refl w).drew).trans hF2⟩
set_option maxRecDepth 100000 in
set_option maxHeartbeats 1000000 in
theorem onLoop_any (v : Value) (p : List (List Int)) (a : Nat) (w : World) (h : RowsR w v p) (hp : picB p = true) (ha : a < p.length) :
    Calls Try.prog 70 #[v, .int .i64 (a : Int)] w fun e w' => e = .returned (.bool (loopB p a)) ∧ Fresh w w' := by
  have hn5 := ((picB_iff p).1 hp).2.1
  have hla : p[a].length ≤ 1048576 := by rw [pic_row hp ha]; omega
  have HL := Lib.hid (any_loop hp ha)
  have hF1 : Fresh w (w.alloc (Obj.cells #[v] 22)) := (Fresh.refl w).alloc _
  have hF2 : Fresh (w.alloc (Obj.cells #[v] 22)) ((w.alloc (Obj.cells #[v] 22)).alloc (Obj.cells #[.int .i64 (a : Int)] 3)) := (Fresh.refl _).alloc _
  have hb1 : (w.alloc (Obj.cells #[v] 22)).cell? ⟨w.heap.size, 0, none⟩ = some v := one_new w _ _ 0 _ rfl
  have hb1' := hF2.cell hb1
  have hb2 : ((w.alloc (Obj.cells #[v] 22)).alloc (Obj.cells #[.int .i64 (a : Int)] 3)).cell? ⟨w.heap.size + 1, 0, none⟩ = some (.int .i64 (a : Int)) := by
    simp
  obtain ⟨pa, pc, rfl⟩ := h.len
  clear hb1
  go_enter Try.func70, Try.ntmps70
  go_wp2_with fail
  refine (arrowsOf_any _ p a _ (h.fresh (hF1.trans hF2)) ha hla).mono ?_
  rintro e w2 ⟨r2, rfl, hO2, hF3⟩
  go_wp2_with fail
  refine (containsFunc_any 84 #[.pointer (some ⟨w.heap.size, 0, none⟩), .pointer (some ⟨w.heap.size + 1, 0, none⟩)] _ _ (fun u => reach p u.toNat a) _ hO2.ints (fun _ _ => rfl) ?_).mono ?_
  · intro z hz w3 hF4
    obtain ⟨u, hu, rfl⟩ := List.mem_map.1 hz
    have hul := ((arrowsL_mem hp ha).1 hu).1
    exact onLoop1_any _ _ _ p u a w3 (hF4.cell (hF3.cell hb1')) (((h.fresh (hF1.trans hF2)).fresh hF3).fresh hF4) (hF4.cell (hF3.cell hb2)) hp hul
  rintro e w3 ⟨rfl, hF4⟩
  rw [HL.out]
  go_wp2
  go_ret
  exact ⟨rfl, (((hF1.trans hF2).trans hF3).trans hF4)⟩

set_option maxHeartbeats 400000 in
theorem comesBack1_any (bp : Nat) (v : Value) (p : List (List Int)) (u : Nat) (w : World) (hc : w.cell? ⟨bp, 0, none⟩ = some v) (h : RowsR w v p) (hp : picB p = true) (hu : u < p.length) :
    Calls Try.prog 69 #[.int .i64 (u : Int), .pointer (some ⟨bp, 0, none⟩)] w fun e w' => e = .returned (.bool (loopB p u)) ∧ Fresh w w' := by
  go_enter Try.func69, Try.ntmps69
  go_wp2_with fail
  refine (onLoop_any _ p u _ h hp hu).mono ?_
  rintro e w2 ⟨rfl, hF⟩
  go_wp2
  go_ret
  exact ⟨rfl, hF⟩
set_option maxRecDepth 100000 in
set_option maxHeartbeats 1000000 in
theorem comesBack_any (v : Value) (p : List (List Int)) (a : Nat) (w : World) (h : RowsR w v p) (hp : picB p = true) (ha : a < p.length) :
    Calls Try.prog 46 #[v, .int .i64 (a : Int)] w fun e w' => e = .returned (.bool (backB p a)) ∧ Fresh w w' := by
  have HL := Lib.hid (any_back hp ha)
  have hF1 : Fresh w (w.alloc (Obj.cells #[v] 22)) := (Fresh.refl w).alloc _
  have hb1 : (w.alloc (Obj.cells #[v] 22)).cell? ⟨w.heap.size, 0, none⟩ = some v := one_new w _ _ 0 _ rfl
  obtain ⟨pa, pc, rfl⟩ := h.len
  go_enter Try.func46, Try.ntmps46
  go_wp2_with fail
  refine (reachedFrom_any _ p a _ (h.fresh hF1) hp ha).mono ?_
  rintro e w2 ⟨r2, rfl, hO2, hF3⟩
  go_wp2_with fail
  refine (containsFunc_any 69 #[.pointer (some ⟨w.heap.size, 0, none⟩)] _ _ (fun u => loopB p u.toNat) _ hO2.ints (fun _ _ => rfl) ?_).mono ?_
  · intro z hz w3 hF4
    obtain ⟨u, hu, rfl⟩ := List.mem_map.1 hz
    have hul := reach_lt hp ha ((reachL_mem hp ha).1 hu)
    exact comesBack1_any _ _ p u w3 (hF4.cell (hF3.cell hb1)) (((h.fresh hF1).fresh hF3).fresh hF4) hp hul
  rintro e w3 ⟨rfl, hF4⟩
  rw [HL.out]
  go_wp2
  go_ret
  exact ⟨rfl, ((hF1.trans hF3).trans hF4)⟩

/-- what ReachedFrom answers -/
def reachI (p : List (List Int)) (a : Int) : List Int := if nodeB p a then (reachL p a.toNat).map Int.ofNat else []
theorem reachI_in {p : List (List Int)} {a : Nat} (h : nodeB p a = true) : reachI p a = (reachL p a).map Int.ofNat := by simp [reachI, h]
theorem reachI_no {p : List (List Int)} {a : Int} (h : nodeB p a = false) : reachI p a = [] := by simp [reachI, h]
/-- what ComesBack answers -/
def backI (p : List (List Int)) (a : Int) : Bool := nodeB p a && backB p a.toNat
theorem backI_in {p : List (List Int)} {a : Nat} (h : nodeB p a = true) : backI p a = backB p a := by simp [backI, h]
theorem backI_no {p : List (List Int)} {a : Int} (h : nodeB p a = false) : backI p a = false := by simp [backI, h]

theorem implReachedFrom_any (v : Value) (p : List (List Int)) (a : Int) (w : World) (h : RowsR w v p) :
    Calls Try.prog 14 #[v, .int .i64 a] w fun e w' => ∃ r, e = .returned r ∧ Owns w.heap.size w'.heap.size w' r (reachI p a) ∧ Fresh w w' := by
  cases ha : nodeB p a
  · have HX := Lib.hid (reachI_no ha)
    go_enter Try.func14, Try.ntmps14
    go_wp2_with fail
    refine (hasNode_any _ p a _ h).mono ?_
    rintro e w1 ⟨rfl, rfl⟩
    rw [ha]
    clear ha
    go_wp2
    go_ret
    exact ⟨_, rfl, by rw [HX.out]; exact Owns.nil _ _ _, Fresh.refl _⟩
  · obtain ⟨hp, h0, h1⟩ := (nodeB_iff p a).1 ha
    obtain ⟨i, rfl⟩ := Int.eq_ofNat_of_zero_le h0
    have hil : i < p.length := by omega
    have HX := Lib.hid (reachI_in ha)
    go_enter Try.func14, Try.ntmps14
    go_wp2_with fail
    refine (hasNode_any _ p i _ h).mono ?_
    rintro e w1 ⟨rfl, rfl⟩
    rw [ha]
    clear ha
    go_wp2_with fail
    refine (reachedFrom_any _ p i _ h hp hil).mono ?_
    rintro e w1 ⟨r1, rfl, hO, hF⟩
    go_wp2
    go_ret
    exact ⟨_, rfl, by rw [HX.out]; exact hO, hF⟩

theorem implComesBack_any (v : Value) (p : List (List Int)) (a : Int) (w : World) (h : RowsR w v p) :
    Calls Try.prog 21 #[v, .int .i64 a] w fun e w' => e = .returned (.bool (backI p a)) ∧ Fresh w w' := by
  cases ha : nodeB p a
  · have HX := Lib.hid (backI_no ha)
    go_enter Try.func21, Try.ntmps21
    go_wp2_with fail
    refine (hasNode_any _ p a _ h).mono ?_
    rintro e w1 ⟨rfl, rfl⟩
    rw [ha]
    clear ha
    go_wp2
    go_ret
    exact ⟨ret_bool HX.out.symm, Fresh.refl _⟩
  · obtain ⟨hp, h0, h1⟩ := (nodeB_iff p a).1 ha
    obtain ⟨i, rfl⟩ := Int.eq_ofNat_of_zero_le h0
    have hil : i < p.length := by omega
    have HX := Lib.hid (backI_in ha)
    go_enter Try.func21, Try.ntmps21
    go_wp2_with fail
    refine (hasNode_any _ p i _ h).mono ?_
    rintro e w1 ⟨rfl, rfl⟩
    rw [ha]
    clear ha
    go_wp2_with fail
    refine (comesBack_any _ p i _ h hp hil).mono ?_
    rintro e w1 ⟨rfl, hF⟩
    go_wp2
    go_ret
    exact ⟨ret_bool HX.out.symm, hF⟩
end Go.Proofs.Ytkicgodmgafkoaa
