/- The laws FnReachedFrom and FnComesBack, walked: they answer true. -/
import Derived.Test.YtkicgodmgafkoaaDraw7
import Derived.Test.YtkicgodmgafkoaaBackS
import Derived.Test.YtkicgodmgafkoaaAlive
namespace Go.Proofs.Ytkicgodmgafkoaa
open Go.RowKit

theorem mem_ofNat {L : List Nat} {x : Nat} (h : x ∈ L) : (((x : Nat) : Int) ∈ L.map Int.ofNat) := List.mem_map.2 ⟨x, h, rfl⟩
theorem asc_map {L : List Nat} (h : L.Pairwise (· < ·)) : ascB (L.map Int.ofNat) = true := by
  rw [ascB_iff]
  intro j hj
  rw [List.length_map] at hj
  rw [List.getElem_map, List.getElem_map]
  have := List.pairwise_iff_getElem.1 h j (j + 1) (by omega) hj (by omega)
  exact Int.ofNat_lt.2 this
theorem reachL_pos {p : List (List Int)} (hp : picB p = true) {a : Nat} (ha : a < p.length) : 0 < (reachL p a).length := List.length_pos_of_mem ((reachL_mem hp ha).2 (reach_self a))

set_option maxHeartbeats 1000000 in
theorem fnReachedFrom_walk (w : World) (v : Value) (bs : List Int) (h : Bytes w v bs) (hb : ∀ x ∈ bs, 0 ≤ x ∧ x ≤ 255) :
    Calls Try.prog 5 #[v] w fun e w' => e = .returned (.bool true) ∧ Fresh w w' := by
  obtain ⟨a, cap, rfl⟩ := h.len
  have hbd := h.bound
  by_cases hl : bs.length ≤ 1048576
  case neg =>
    go_enter Try.func5, Try.ntmps5
    go_wp2
    go_ret
    exact ⟨rfl, Fresh.refl _⟩
  go_enter Try.func5, Try.ntmps5
  go_wp2_with fail
  refine (drawReachedFrom_any _ bs _ h hb).mono ?_
  rintro e w1 ⟨r, p, m, rfl, hp, hsp, hF⟩
  clear hsp h hb
  go_wp2_with fail
  refine (implReachedFrom_any _ p m _ hp).mono ?_
  rintro e w2 ⟨r2, rfl, hO2, hF2⟩
  have hL2 := hO2.ints
  have hp2 := hp.fresh hF2
  have hF2' := hF.trans hF2
  clear hO2 hF hF2 hp
  go_wp2_with fail
  refine (specReachedFrom_any _ p m _ hp2).mono ?_
  rintro e w3 ⟨r3, rfl, hO3, hF3⟩
  have hL3 := hL2.fresh hF3
  have hp3 := hp2.fresh hF3
  have hF3' := hF2'.trans hF3
  clear hL2 hp2 hF2' hF3
  go_wp2_with fail
  refine (sameInts_any _ _ (reachI p m) (reachI p m) _ hL3 hO3.ints).mono ?_
  rintro e w4 ⟨rfl, hF4⟩
  have hL4 := hL3.fresh hF4
  have hp4 := hp3.fresh hF4
  have hF4' := hF3'.trans hF4
  clear hL3 hO3 hp3 hF3' hF4
  cases hnode : nodeB p m
  · rw [reachI_no hnode] at hL4
    obtain ⟨la, lc, hv⟩ := hL4.len
    subst hv
    clear hnode
    go_wp2_with fail
    refine (alive_any _).mono ?_
    rintro e w2 ⟨rfl, rfl⟩
    go_wp2
    go_ret
    exact ⟨rfl, hF4'⟩
  obtain ⟨hpic, h0, h1⟩ := (nodeB_iff p m).1 hnode
  obtain ⟨n, rfl⟩ := Int.eq_ofNat_of_zero_le h0
  have hnl : n < p.length := by omega
  rw [reachI_in hnode] at hL4
  have hn5 := ((picB_iff p).1 hpic).2.1
  have hLn := reachL_len p n
  have hLp := reachL_pos hpic hnl
  have HP := Lib.hid hpic
  have HMEM := Lib.hid (fun x => reachL_mem hpic hnl (b := x))
  have HASC := Lib.hid (asc_map (reachL_asc p n))
  generalize reachL p n = L at hL4 hLn hLp HMEM HASC
  obtain ⟨la, lc, hv⟩ := hL4.lenMap
  subst hv
  have hz : ((L.length : Int) == 0) = false := by rw [beq_eq_false_iff_ne]; omega
  clear hnode h0 h1 hpic
  go_wp2
  go_loopw [6] (fun i wr => ∃ k : Nat, k ≤ L.length ∧ i = .int .i64 k ∧ Fresh w4 wr) (fun i _ => L.length - (intOf i).toNat)
  case atStart => exact ⟨0, by omega, rfl, Fresh.refl _⟩
  case round =>
    obtain ⟨k, hk, rfl, hF⟩ := hrel
    by_cases hlt : k < L.length
    · obtain ⟨b0, o0, rfl, hc0⟩ := (hL4.fresh hF).nodeCell hlt
      have hxr := (HMEM.out L[k]).1 (List.getElem_mem hlt)
      have hxl := reach_lt HP.out hnl hxr
      obtain ⟨x, hx⟩ : ∃ x, x = L[k] := ⟨_, rfl⟩
      rw [← hx] at hc0 hxr hxl
      have HXR := Lib.hid hxr
      have HRX := Lib.hid (reachI_in (p := p) (a := x) ((nodeB_iff p x).2 ⟨HP.out, by omega, by omega⟩))
      have hdk : decide ((k : Int) < L.length) = true := decide_eq_true (by omega)
      clear hx hxr
      go_wp2_with fail
      refine (implReachedFrom_any _ p x _ (hp4.fresh hF)).mono ?_
      rintro e w5 ⟨r5, rfl, hO5, hF5⟩
      rw [HRX.out] at hO5
      have hM := hO5.ints
      have HM2 := Lib.hid (fun y (hy : y ∈ reachL p x) => (HMEM.out y).2 (reach_trans HP.out hnl HXR.out ((reachL_mem HP.out hxl).1 hy)))
      have hMn := reachL_len p x
      generalize reachL p x = M at hM HM2 hMn
      obtain ⟨ya, yc, hv⟩ := hM.lenMap
      subst hv
      have hF6 := hF.trans hF5
      clear hF hF5 hO5 hc0
      go_wp2
      go_loopw [8] (fun i wr => ∃ j : Nat, j ≤ M.length ∧ i = .int .i64 j ∧ Fresh w5 wr) (fun i _ => M.length - (intOf i).toNat)
      case atStart => exact ⟨0, by omega, rfl, Fresh.refl _⟩
      case round =>
        obtain ⟨j, hj, rfl, hF7⟩ := hrel
        by_cases hjl : j < M.length
        · obtain ⟨b1, o1, rfl, hc1⟩ := (hM.fresh hF7).nodeCell hjl
          have HY := Lib.hid (decide_eq_true (mem_ofNat (HM2.out M[j] (List.getElem_mem hjl))))
          obtain ⟨y, hy⟩ : ∃ y, y = M[j] := ⟨_, rfl⟩
          rw [← hy] at hc1 HY
          clear hy
          go_wp2_with fail
          refine (hasInt_any _ _ _ _ (hL4.fresh (hF6.trans hF7))).mono ?_
          rintro e w8 ⟨rfl, hF8⟩
          rw [HY.out]
          have hF9 := hF7.trans hF8
          clear hF7 hF8 hc1
          go_wp2
          go_roundw
          case rel => exact ⟨j + 1, hjl, by go_num, hF9⟩
          case measure => simp [intOf]; omega
        · have hF9 := hF6.trans hF7
          clear hF6 hF7
          go_wp2
          go_roundw
          case rel => exact ⟨k + 1, hlt, by go_num, hF9⟩
          case measure => simp [intOf]; omega
    · have HY := Lib.hid (decide_eq_true (mem_ofNat ((HMEM.out n).2 (reach_self n))))
      go_wp2_with fail
      refine (hasInt_any _ _ _ _ (hL4.fresh hF)).mono ?_
      rintro e w8 ⟨rfl, hF8⟩
      rw [HY.out]
      go_wp2_with fail
      refine (ascend_any _ _ _ (hL4.fresh (hF.trans hF8))).mono ?_
      rintro e w9 ⟨rfl, hF9⟩
      rw [HASC.out]
      go_wp2
      go_ret
      exact ⟨rfl, ((hF4'.trans hF).trans hF8).trans hF9⟩

/-- the sum of the first j numbers of a node's row -/
def rowSum (p : List (List Int)) (x j : Nat) : Int := ((List.range j).map fun b => ent p x b).sum
theorem rowSum_step (p : List (List Int)) (x j : Nat) : rowSum p x (j + 1) = rowSum p x j + ent p x j := by
  simp [rowSum, List.range_succ]
theorem rowSum_bd {p : List (List Int)} (hp : picB p = true) {x : Nat} (hx : x < p.length) : ∀ j, j ≤ p.length → 0 ≤ rowSum p x j ∧ rowSum p x j ≤ j := by
  intro j
  induction j with
  | zero => intro _; simp [rowSum]
  | succ j ih =>
    intro hj
    have := ih (by omega)
    rw [rowSum_step]
    rcases pic_bit hp hx (show j < p.length by omega) with e | e <;> rw [e] <;> omega
theorem rowSum_zero {p : List (List Int)} (hp : picB p = true) {x : Nat} (hx : x < p.length) (h : ∀ b, ent p x b ≠ 1) : ∀ j, j ≤ p.length → rowSum p x j = 0 := by
  intro j
  induction j with
  | zero => intro _; simp [rowSum]
  | succ j ih =>
    intro hj
    rw [rowSum_step, ih (by omega)]
    rcases pic_bit hp hx (show j < p.length by omega) with e | e
    · rw [e]; rfl
    · exact absurd e (h j)
/-- has some of the first k no arrows? -/
def endsTo (p : List (List Int)) (L : List Nat) (k : Nat) : Bool := (L.take k).any fun x => rowSum p x p.length == 0
theorem endsTo_step (p : List (List Int)) (L : List Nat) {k : Nat} (hk : k < L.length) : endsTo p L (k + 1) = (endsTo p L k || (rowSum p L[k] p.length == 0)) := by
  unfold endsTo
  rw [List.take_succ_eq_append_getElem hk, List.any_append]; simp
theorem ends_end {p : List (List Int)} (hp : picB p = true) {a k : Nat} (ha : a < p.length) (hk : ¬ k < (reachL p a).length) (hb : backB p a = false) : endsTo p (reachL p a) k = true := by
  obtain ⟨v, h1, h2⟩ := ends_of hp _ a (Nat.le_refl _) ha hb
  unfold endsTo
  rw [List.take_of_length_le (by omega), List.any_eq_true]
  exact ⟨v, (reachL_mem hp ha).2 h1, by rw [rowSum_zero hp (reach_lt hp ha h1) h2 _ (Nat.le_refl _)]; rfl⟩

set_option maxHeartbeats 1000000 in
theorem fnComesBack_walk (w : World) (v : Value) (bs : List Int) (h : Bytes w v bs) (hb : ∀ x ∈ bs, 0 ≤ x ∧ x ≤ 255) :
    Calls Try.prog 6 #[v] w fun e w' => e = .returned (.bool true) ∧ Fresh w w' := by
  obtain ⟨a, cap, rfl⟩ := h.len
  have hbd := h.bound
  by_cases hl : bs.length ≤ 1048576
  case neg =>
    go_enter Try.func6, Try.ntmps6
    go_wp2
    go_ret
    exact ⟨rfl, Fresh.refl _⟩
  go_enter Try.func6, Try.ntmps6
  go_wp2_with fail
  refine (drawComesBack_any _ bs _ h hb).mono ?_
  rintro e w1 ⟨r, p, m, rfl, hp, hsp, hF⟩
  clear hsp h hb
  go_wp2_with fail
  refine (implComesBack_any _ p m _ hp).mono ?_
  rintro e w2 ⟨rfl, hF2⟩
  have hp2 := hp.fresh hF2
  have hF2' := hF.trans hF2
  clear hF hF2 hp
  go_wp2_with fail
  refine (specComesBack_any _ p m _ hp2).mono ?_
  rintro e w3 ⟨rfl, hF3⟩
  have hp3 := hp2.fresh hF3
  have hF3' := hF2'.trans hF3
  clear hp2 hF2' hF3
  obtain ⟨ok, hok⟩ : ∃ ok, ok = backI p m := ⟨_, rfl⟩
  rw [← hok]
  have HOK := Lib.hid hok
  clear hok
  go_wp2_with fail
  refine (specReachedFrom_any _ p m _ hp3).mono ?_
  rintro e w4 ⟨r4, rfl, hO4, hF4⟩
  have hL4 := hO4.ints
  have hp4 := hp3.fresh hF4
  have hF4' := hF3'.trans hF4
  clear hO4 hp3 hF3' hF4
  cases hnode : nodeB p m
  · rw [reachI_no hnode] at hL4
    have hokf : ok = false := by rw [HOK.out, backI_no hnode]
    subst hokf
    obtain ⟨la, lc, hv⟩ := hL4.len
    subst hv
    clear hnode
    go_wp2_with fail
    refine (alive_any _).mono ?_
    rintro e w2 ⟨rfl, rfl⟩
    go_wp2
    go_ret
    exact ⟨rfl, hF4'⟩
  obtain ⟨hpic, h0, h1⟩ := (nodeB_iff p m).1 hnode
  obtain ⟨n, rfl⟩ := Int.eq_ofNat_of_zero_le h0
  have hnl : n < p.length := by omega
  rw [reachI_in hnode] at hL4
  have hn5 := ((picB_iff p).1 hpic).2.1
  have hLn := reachL_len p n
  have hLp := reachL_pos hpic hnl
  have HP := Lib.hid hpic
  have HSQ := Lib.hid (pic_sq hpic)
  have HMEM := Lib.hid (fun x => reachL_mem hpic hnl (b := x))
  have HEND := Lib.hid (fun k hk hb => ends_end hpic (a := n) (k := k) hnl hk hb)
  have HOKB := Lib.hid (show ok = backB p n by rw [HOK.out, backI_in hnode])
  generalize reachL p n = L at hL4 hLn hLp HMEM HEND
  obtain ⟨la, lc, hv⟩ := hL4.lenMap
  subst hv
  obtain ⟨pa, pc, rfl⟩ := hp4.len
  have hz : ((L.length : Int) == 0) = false := by rw [beq_eq_false_iff_ne]; omega
  have HE0 := Lib.hid (show endsTo p L 0 = false from rfl)
  clear hnode h0 h1 hpic HOK
  go_wp2
  go_loopw [7, 8] (fun en i wr => ∃ k : Nat, k ≤ L.length ∧ i = .int .i64 k ∧ en = .bool (endsTo p L k) ∧ Fresh w4 wr) (fun _ i _ => L.length - (intOf i).toNat)
  case atStart => exact ⟨0, by omega, rfl, by rw [HE0.out], Fresh.refl _⟩
  case round =>
    obtain ⟨k, hk, rfl, rfl, hF⟩ := hrel
    obtain ⟨en, hen⟩ : ∃ en, en = endsTo p L k := ⟨_, rfl⟩
    rw [← hen]
    have HEN := Lib.hid hen
    clear hen
    by_cases hlt : k < L.length
    · obtain ⟨b0, o0, rfl, hc0⟩ := (hL4.fresh hF).nodeCell hlt
      have hxr := (HMEM.out L[k]).1 (List.getElem_mem hlt)
      have hxl := reach_lt HP.out hnl hxr
      have HST := Lib.hid (endsTo_step p L hlt)
      obtain ⟨x, hx⟩ : ∃ x, x = L[k] := ⟨_, rfl⟩
      rw [← hx] at hc0 hxr hxl HST
      have HXR := Lib.hid hxr
      have HBX := Lib.hid (backI_in (p := p) (a := x) ((nodeB_iff p x).2 ⟨HP.out, by omega, by omega⟩))
      have HBD := Lib.hid (fun j hj => rowSum_bd HP.out hxl j hj)
      have hdk : decide ((k : Int) < L.length) = true := decide_eq_true (by omega)
      have HR0 := Lib.hid (show rowSum p x 0 = 0 from rfl)
      clear hx hxr
      go_wp2
      go_loop [9, 10] (fun s i => ∃ j : Nat, j ≤ p.length ∧ i = .int .i64 j ∧ s = .int .i64 (rowSum p x j)) (fun _ i => p.length - (intOf i).toNat)
      case atStart => exact ⟨0, by omega, rfl, by rw [HR0.out]⟩
      case round =>
        obtain ⟨j, hj, rfl, rfl⟩ := hrel
        have hbd2 := HBD.out j hj
        by_cases hjl : j < p.length
        · obtain ⟨b1, o1, g1, q1, c1, rfl, hc1, hc2⟩ := (hp4.fresh hF).sq2n HSQ.out hxl hjl
          have hbit := pic_bit HP.out hxl hjl
          have HRS := Lib.hid (rowSum_step p x j)
          obtain ⟨z, hz⟩ : ∃ z, z = ent p x j := ⟨_, rfl⟩
          obtain ⟨s, hs⟩ : ∃ s, s = rowSum p x j := ⟨_, rfl⟩
          rw [← hz] at hc2 hbit HRS
          rw [← hs] at hbd2 HRS ⊢
          have hz0 : 0 ≤ z := by omega
          have hz1 : z ≤ 1 := by omega
          obtain ⟨s0, s1⟩ := hbd2
          clear hz hs hbit
          go_wp2
          go_round
          case rel => exact ⟨j + 1, hjl, by go_num, by rw [HRS.out]⟩
          case measure => simp [intOf]; omega
        · rw [show j = p.length by omega]
          obtain ⟨s, hs⟩ : ∃ s, s = rowSum p x p.length := ⟨_, rfl⟩
          rw [← hs] at HST ⊢
          clear hs hbd2
          have HST2 := Lib.hid (show endsTo p L (k + 1) = (en || (s == 0)) by rw [HST.out, HEN.out])
          cases hok : ok
          · have HBX2 := Lib.hid (show backB p x = false from back_reach HP.out hnl HXR.out (by rw [← HOKB.out]; exact hok))
            subst hok
            cases hen2 : en
            · subst hen2
              go_wp2_with fail
              refine (implComesBack_any _ p x _ (hp4.fresh hF)).mono ?_
              rintro e w5 ⟨rfl, hF5⟩
              rw [HBX.out, HBX2.out]
              have hF6 := hF.trans hF5
              clear hF hF5
              go_wp2
              go_roundw
              case rel => exact ⟨k + 1, hlt, by go_num, by rw [HST2.out]; rfl, hF6⟩
              case measure => simp [intOf]; omega
            · subst hen2
              go_wp2_with fail
              refine (implComesBack_any _ p x _ (hp4.fresh hF)).mono ?_
              rintro e w5 ⟨rfl, hF5⟩
              rw [HBX.out, HBX2.out]
              have hF6 := hF.trans hF5
              clear hF hF5
              go_wp2
              go_roundw
              case rel => exact ⟨k + 1, hlt, by go_num, by rw [HST2.out]; rfl, hF6⟩
              case measure => simp [intOf]; omega
          · subst hok
            cases hen2 : en
            · subst hen2
              go_wp2
              go_roundw
              case rel => exact ⟨k + 1, hlt, by go_num, by rw [HST2.out]; rfl, hF⟩
              case measure => simp [intOf]; omega
            · subst hen2
              go_wp2
              go_roundw
              case rel => exact ⟨k + 1, hlt, by go_num, by rw [HST2.out]; rfl, hF⟩
              case measure => simp [intOf]; omega
    · cases hok : ok
      · have hent : en = true := by rw [HEN.out]; exact HEND.out k hlt (by rw [← HOKB.out]; exact hok)
        subst hok
        subst hent
        go_wp2
        go_ret
        exact ⟨rfl, hF4'.trans hF⟩
      · subst hok
        go_wp2
        go_ret
        exact ⟨rfl, hF4'.trans hF⟩
end Go.Proofs.Ytkicgodmgafkoaa
