/- Ways back in a picture: the reference's walk. -/
import Derived.Test.YtkicgodmgafkoaaReachS
namespace Go.Proofs.Ytkicgodmgafkoaa
open Go.RowKit

theorem back_yes {p : List (List Int)} (hp : picB p = true) {a x u : Nat} (ha : a < p.length) (hx : reach p a x = true) (hu : u < p.length) (e : ent p x u = 1) (hr : reach p u x = true) : backB p a = true :=
  (backB_iff hp ha).2 ⟨x, hx, loopB_iff.2 ⟨u, hu, e, hr⟩⟩
/-- of the first k that are reached no way comes back -/
def NoLoop (p : List (List Int)) (L : List Nat) (k : Nat) : Prop := ∀ i (h : i < L.length), i < k → loopB p L[i] = false
theorem NoLoop.step {p : List (List Int)} {L : List Nat} {k : Nat} (h : NoLoop p L k) (hk : k < L.length) (e : loopB p L[k] = false) : NoLoop p L (k + 1) := by
  intro i hi hik
  by_cases hik2 : i = k
  · subst hik2; exact e
  · exact h i hi (by omega)
theorem NoLoop.all {p : List (List Int)} (hp : picB p = true) {a k : Nat} (ha : a < p.length) (h : NoLoop p (reachL p a) k) (hk : ¬ k < (reachL p a).length) : backB p a = false := by
  rw [Bool.eq_false_iff]; intro e
  obtain ⟨x, h1, h2⟩ := (backB_iff hp ha).1 e
  obtain ⟨i, hi, rfl⟩ := List.getElem_of_mem ((reachL_mem hp ha).2 h1)
  rw [h i hi (by omega)] at h2; cases h2
/-- by the first j arrows no way comes back -/
def NoWay (p : List (List Int)) (x j : Nat) : Prop := ∀ u, u < j → ent p x u = 1 → reach p u x = false
theorem NoWay.step {p : List (List Int)} {x j : Nat} (h : NoWay p x j) (e : ent p x j = 1 → reach p j x = false) : NoWay p x (j + 1) := by
  intro u hu
  by_cases huj : u = j
  · subst huj; exact e
  · exact h u (by omega)
theorem NoWay.all {p : List (List Int)} {x j : Nat} (h : NoWay p x j) (hj : ¬ j < p.length) : loopB p x = false := by
  rw [Bool.eq_false_iff]; intro e
  obtain ⟨u, h1, h2, h3⟩ := loopB_iff.1 e
  rw [h u (by omega) h2] at h3; cases h3
def NotIn (L : List Nat) (x m : Nat) : Prop := ∀ i (h : i < L.length), i < m → L[i] ≠ x
theorem NotIn.step {L : List Nat} {x m : Nat} (h : NotIn L x m) (hm : m < L.length) (e : L[m] ≠ x) : NotIn L x (m + 1) := by
  intro i hi him
  by_cases him2 : i = m
  · subst him2; exact e
  · exact h i hi (by omega)
theorem NotIn.reach {p : List (List Int)} (hp : picB p = true) {u x m : Nat} (hu : u < p.length) (h : NotIn (reachL p u) x m) (hm : ¬ m < (reachL p u).length) : reach p u x = false := by
  rw [Bool.eq_false_iff]; intro e
  obtain ⟨i, hi, he⟩ := List.getElem_of_mem ((reachL_mem hp hu).2 e)
  exact h i hi (by omega) he
/-- a read of a slice of nodes -/
theorem IntsK.nodeCell {w : World} {a : Option Addr} {c : Nat} {L : List Nat} (h : Ints w (.slice a L.length c) (L.map Int.ofNat)) {k : Nat} (hk : k < L.length) : ∃ b o, a = some ⟨b, o, none⟩ ∧ w.cell? ⟨b, o + k, none⟩ = some (.int .i64 ((L[k] : Nat) : Int)) := by
  obtain ⟨b, off, cap2, heq, hcell⟩ := h.at (k := k) (by simpa using hk)
  rw [List.length_map] at heq
  simp only [Value.slice.injEq, true_and] at heq
  refine ⟨b, off, heq.1, ?_⟩
  have := hcell k (by simpa using hk)
  rw [List.getElem_map] at this
  exact this
theorem IntsK.lenMap {w : World} {v : Value} {L : List Nat} (h : Ints w v (L.map Int.ofNat)) : ∃ a c, v = .slice a L.length c := by
  obtain ⟨a, c, e⟩ := h.len
  rw [List.length_map] at e
  exact ⟨a, c, e⟩

set_option maxHeartbeats 2000000 in
theorem specComesBack_any (v : Value) (p : List (List Int)) (a : Int) (w : World) (h : RowsR w v p) :
    Calls Try.prog 20 #[v, .int .i64 a] w fun e w' => e = .returned (.bool (backI p a)) ∧ Fresh w w' := by
  cases ha : nodeB p a
  · have HX := Lib.hid (backI_no ha)
    have HR := Lib.hid (reachI_no ha)
    clear ha
    go_enter Try.func20, Try.ntmps20
    go_wp2_with fail
    refine (specReachedFrom_any _ p a _ h).mono ?_
    rintro e w1 ⟨r1, rfl, hO, hF⟩
    rw [HR.out] at hO
    obtain ⟨ra, rc, hr⟩ := hO.ints.len
    subst hr
    clear hO
    go_wp2
    go_loop [6] (fun i => i = .int .i64 0) (fun _ => 0)
    case atStart => rfl
    case round =>
      obtain rfl := hrel
      go_wp2
      go_ret
      exact ⟨ret_bool HX.out.symm, hF⟩
  · obtain ⟨hp, hai0, hai1⟩ := (nodeB_iff p a).1 ha
    obtain ⟨n, rfl⟩ := Int.eq_ofNat_of_zero_le hai0
    have hnl : n < p.length := by omega
    have hn5 := ((picB_iff p).1 hp).2.1
    have HX := Lib.hid (backI_in ha)
    have HR := Lib.hid (reachI_in ha)
    have HSQ := Lib.hid (pic_sq hp)
    have HP := Lib.hid hp
    have HIN := Lib.hid (fun x (hx : x ∈ reachL p n) => (reachL_mem hp hnl).1 hx)
    have HYES := Lib.hid (fun x u hx hu e hr => back_yes hp (a := n) (x := x) (u := u) hnl hx hu e hr)
    have HNO := Lib.hid (fun k h1 h2 => NoLoop.all hp (a := n) (k := k) hnl h1 h2)
    obtain ⟨pa, pc, rfl⟩ := h.len
    clear ha hp hai0 hai1
    go_enter Try.func20, Try.ntmps20
    go_wp2_with fail
    refine (specReachedFrom_any _ p n _ h).mono ?_
    rintro e w1 ⟨r1, rfl, hO, hF⟩
    rw [HR.out] at hO
    obtain ⟨ra, rc, hr⟩ := hO.ints.lenMap
    subst hr
    have hLn := reachL_len p n
    have hI := hO.ints
    generalize reachL p n = L at HIN HNO hI hLn
    have h1 := h.fresh hF
    clear hO h
    go_wp2
    go_loopw [6] (fun i wr => ∃ k : Nat, k ≤ L.length ∧ i = .int .i64 k ∧ NoLoop p L k ∧ Fresh w1 wr) (fun i _ => L.length - (intOf i).toNat)
    case atStart => exact ⟨0, by omega, rfl, fun i hi h => by omega, Fresh.refl _⟩
    case round =>
      obtain ⟨k, hk, rfl, hN, hF2⟩ := hrel
      by_cases hlt : k < L.length
      · have hxr := HIN.out L[k] (List.getElem_mem hlt)
        have hxl := reach_lt HP.out hnl hxr
        have HNS := Lib.hid (fun e => hN.step hlt e)
        have HCX := Lib.hid (fun (w' : World) (hf : Fresh w1 w') => (hI.fresh hf).nodeCell hlt)
        obtain ⟨x, hx⟩ : ∃ x, x = L[k] := ⟨_, rfl⟩
        rw [← hx] at hxr hxl HNS HCX
        have hdk : decide ((k : Int) < L.length) = true := decide_eq_true (by omega)
        have HXR := Lib.hid hxr
        clear hx hN hxr
        go_wp2
        go_loopw [7] (fun i wr => ∃ j : Nat, j ≤ p.length ∧ i = .int .i64 j ∧ NoWay p x j ∧ Fresh w1 wr) (fun i _ => p.length - (intOf i).toNat)
        case atStart => exact ⟨0, by omega, rfl, fun u hu => by omega, hF2⟩
        case round =>
          clear hF2
          obtain ⟨j, hj, rfl, hW, hF2⟩ := hrel
          by_cases hjl : j < p.length
          · obtain ⟨b0, o0, rfl, hc0⟩ := HCX.out _ hF2
            obtain ⟨b1, o1, g1, q1, c1, rfl, hc1, hc2⟩ := (h1.fresh hF2).sq2n HSQ.out hxl hjl
            have hbit := pic_bit HP.out hxl hjl
            have HWS := Lib.hid (fun e => hW.step e)
            obtain ⟨z, hz⟩ : ∃ z, z = ent p x j := ⟨_, rfl⟩
            rw [← hz] at hc2 hbit HWS
            have HZ := Lib.hid hz.symm
            have hdj : decide ((j : Int) < p.length) = true := decide_eq_true (by omega)
            clear hW hz
            rcases hbit with rfl | rfl
            · have HW2 := Lib.hid (HWS.out (fun e => by cases e))
              go_wp2
              go_roundw
              case rel => exact ⟨j + 1, hjl, by go_num, HW2.out, hF2⟩
              case measure => simp [intOf]; omega
            · have HRJ := Lib.hid (reachI_in (p := p) (a := j) ((nodeB_iff p j).2 ⟨HP.out, by omega, by omega⟩))
              go_wp2_with fail
              refine (specReachedFrom_any _ p j _ (h1.fresh hF2)).mono ?_
              rintro e w2 ⟨r2, rfl, hO2, hF3⟩
              rw [HRJ.out] at hO2
              obtain ⟨ya, yc, hr⟩ := hO2.ints.lenMap
              subst hr
              have hI2 := hO2.ints
              have hF4 := hF2.trans hF3
              have hMn := reachL_len p j
              have HNI := Lib.hid (fun m h1 h2 => NotIn.reach HP.out (u := j) (x := x) (m := m) hjl h1 h2)
              have HMR := Lib.hid (fun y (hy : y ∈ reachL p j) => (reachL_mem HP.out hjl).1 hy)
              generalize reachL p j = M at HNI hI2 hMn HMR
              clear hO2 hF2 hF3 hc0 hc1 hc2
              go_wp2
              go_loopw [9] (fun i wr => ∃ m : Nat, m ≤ M.length ∧ i = .int .i64 m ∧ NotIn M x m ∧ Fresh w2 wr) (fun i _ => M.length - (intOf i).toNat)
              case atStart => exact ⟨0, by omega, rfl, fun i hi h => by omega, Fresh.refl _⟩
              case round =>
                obtain ⟨m, hm, rfl, hNI, hF5⟩ := hrel
                have hF6 := hF4.trans hF5
                by_cases hml : m < M.length
                · obtain ⟨b2, o2, rfl, hd1⟩ := (hI2.fresh hF5).nodeCell hml
                  obtain ⟨b3, o3, heq, hd2⟩ := HCX.out _ hF6
                  simp only [Option.some.injEq, Addr.mk.injEq, and_true] at heq
                  obtain ⟨rfl, rfl⟩ := heq
                  have HS := Lib.hid (fun e => hNI.step hml e)
                  have HYR := Lib.hid (HMR.out M[m] (List.getElem_mem hml))
                  obtain ⟨y, hy⟩ : ∃ y, y = M[m] := ⟨_, rfl⟩
                  rw [← hy] at hd1 HS HYR
                  have hk0 : (0 : Int) ≤ (k : Int) := Int.natCast_nonneg _
                  have hk1 : (k : Int) < (L.length : Int) := by omega
                  have hm0 : (0 : Int) ≤ (m : Int) := Int.natCast_nonneg _
                  have hm1 : (m : Int) < (M.length : Int) := by omega
                  clear hy hNI
                  by_cases hyx : y = x
                  · subst hyx
                    have HB := Lib.hid (HYES.out y j HXR.out hjl HZ.out HYR.out)
                    go_wp2
                    go_quiet (fail)
                    go_wp2
                    go_ret
                    exact ⟨ret_bool (by rw [HX.out, HB.out]), (hF.trans hF6).drewN _⟩
                  · have HS2 := Lib.hid (HS.out hyx)
                    have hne : (((y : Nat) : Int) == ((x : Nat) : Int)) = false := by rw [beq_eq_false_iff_ne]; omega
                    clear hyx
                    go_wp2
                    go_quiet (fail)
                    go_wp2
                    go_roundw
                    case rel => exact ⟨m + 1, hml, by go_num, HS2.out, hF5.drewN _⟩
                    case measure => simp [intOf]; omega
                · have HW2 := Lib.hid (HWS.out (fun _ => HNI.out m hNI hml))
                  clear hNI
                  go_wp2
                  go_roundw
                  case rel => exact ⟨j + 1, hjl, by go_num, HW2.out, hF6⟩
                  case measure => simp [intOf]; omega
          · have HN2 := Lib.hid (HNS.out (hW.all hjl))
            clear hW
            go_wp2
            go_roundw
            case rel => exact ⟨k + 1, hlt, by go_num, HN2.out, hF2⟩
            case measure => simp [intOf]; omega
      · have HB := Lib.hid (HNO.out k hN hlt)
        clear hN
        go_wp2
        go_ret
        exact ⟨ret_bool (by rw [HX.out, HB.out]), hF.trans hF2⟩
end Go.Proofs.Ytkicgodmgafkoaa
