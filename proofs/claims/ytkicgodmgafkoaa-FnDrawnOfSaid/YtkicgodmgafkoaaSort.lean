/- The library's sort of a few ints, walked: an insertion sort. -/
import Derived.Test.YtkicgodmgafkoaaReach
import Derived.BigRegion
namespace Go.Proofs.Ytkicgodmgafkoaa
open Go.RowKit

/-! ### plain -/
theorem getD_set (l : List Int) (i k : Nat) (x : Int) (h : i < l.length) : (l.set i x).getD k 0 = if k = i then x else l.getD k 0 := by
  simp only [List.getD_eq_getElem?_getD, List.getElem?_set]
  by_cases hk : k = i
  · subst hk; simp [h]
  · have : ¬ i = k := fun e => hk e.symm
    simp [hk, this]
def swpL (l : List Int) (i j : Nat) : List Int := (l.set i (l.getD j 0)).set j (l.getD i 0)
theorem swpL_len (l : List Int) (i j : Nat) : (swpL l i j).length = l.length := by simp [swpL]
theorem swpL_perm {l : List Int} {i j : Nat} (hi : i < l.length) (hj : j < l.length) : (swpL l i j).Perm l := by
  have e1 : l.getD j 0 = l[j] := by simp [List.getD_eq_getElem?_getD, hj]
  have e2 : l.getD i 0 = l[i] := by simp [List.getD_eq_getElem?_getD, hi]
  rw [swpL, e1, e2]
  exact List.set_set_perm hi hj
theorem swpL_get {l : List Int} {i j k : Nat} (hi : i < l.length) (hj : j < l.length) : (swpL l i j).getD k 0 = if k = j then l.getD i 0 else if k = i then l.getD j 0 else l.getD k 0 := by
  rw [swpL, getD_set _ _ _ _ (by simpa using hj)]
  by_cases h : k = j
  · rw [if_pos h, if_pos h]
  · rw [if_neg h, if_neg h, getD_set _ _ _ _ hi]
/-- the first i ascend -/
def SortTo (l : List Int) (i : Nat) : Prop := ∀ p q, p < q → q < i → l.getD p 0 ≤ l.getD q 0
/-- .. one at j is on its way -/
def InsIn (l : List Int) (i j : Nat) : Prop := (∀ p q, p < q → q ≤ i → p ≠ j → q ≠ j → l.getD p 0 ≤ l.getD q 0) ∧ ∀ q, j < q → q ≤ i → l.getD j 0 ≤ l.getD q 0
theorem SortTo.ins {l : List Int} {i : Nat} (h : SortTo l i) : InsIn l i i :=
  ⟨fun p q hpq hq _ hqi => h p q hpq (by omega), fun q h1 h2 => by omega⟩
theorem InsIn.stop {l : List Int} {i j : Nat} (h : InsIn l i j) (hs : j = 0 ∨ l.getD (j - 1) 0 ≤ l.getD j 0) : SortTo l (i + 1) := by
  intro p q hpq hq
  by_cases hp : p = j
  · subst hp; exact h.2 q hpq (by omega)
  · by_cases hqj : q = j
    · subst hqj
      rcases hs with h0 | h0
      · omega
      · by_cases hp1 : p = q - 1
        · subst hp1; exact h0
        · have := h.1 p (q - 1) (by omega) (by omega) hp (by omega)
          omega
    · exact h.1 p q hpq (by omega) hp hqj
theorem InsIn.step {l : List Int} {i j : Nat} (h : InsIn l i j) (hi : i < l.length) (hj : 0 < j) (hji : j ≤ i) (hs : l.getD j 0 < l.getD (j - 1) 0) : InsIn (swpL l j (j - 1)) i (j - 1) := by
  have e : ∀ k, (swpL l j (j - 1)).getD k 0 = if k = j - 1 then l.getD j 0 else if k = j then l.getD (j - 1) 0 else l.getD k 0 := fun k => swpL_get (by omega) (by omega)
  refine ⟨fun p q hpq hq hp hqj => ?_, fun q h1 h2 => ?_⟩
  · rw [e, e, if_neg hp, if_neg hqj]
    by_cases hqj2 : q = j
    · subst hqj2
      rw [if_neg (by omega), if_pos rfl]
      exact h.1 p (q - 1) (by omega) (by omega) (by omega) (by omega)
    · rw [if_neg hqj2]
      by_cases hpj : p = j
      · subst hpj
        rw [if_pos rfl]
        exact h.1 (p - 1) q (by omega) hq (by omega) hqj2
      · rw [if_neg hpj]
        exact h.1 p q hpq hq hpj hqj2
  · rw [e, e, if_pos rfl, if_neg (by omega)]
    by_cases hqj2 : q = j
    · rw [if_pos hqj2]; omega
    · rw [if_neg hqj2]; exact h.2 q (by omega) h2

theorem isNaN_any (x : Int) (w : World) : Calls Try.prog 108 #[.int .i64 x] w fun e w' => e = .returned (.bool false) ∧ w = w' := by
  have h : (x != x) = false := by simp
  go_enter Try.func108, Try.ntmps108
  go_wp2
  go_ret
  exact ⟨rfl, rfl⟩
theorem cmpLess_any (x y : Int) (w : World) : Calls Try.prog 97 #[.int .i64 x, .int .i64 y] w fun e w' => e = .returned (.bool (decide (x < y))) ∧ w = w' := by
  go_enter Try.func97, Try.ntmps97
  go_wp2_with (go_at_call 108; refine (isNaN_any _ _).mono ?_; rintro e w' ⟨rfl, rfl⟩)
  go_ret
  exact ⟨rfl, rfl⟩
set_option maxRecDepth 1000000 in
set_option maxHeartbeats 2000000 in
theorem insertionSort_any (lo hi g n cap : Nat) (zs : List Int) (w : World) (h : Owns lo hi w (.slice (some ⟨g, 0, none⟩) n cap) zs) (hn : n = zs.length) (hn5 : n ≤ 5) :
    Calls Try.prog 91 #[.slice (some ⟨g, 0, none⟩) n cap, .int .i64 0, .int .i64 (n : Int)] w fun e w' => e = .returned (.tuple #[]) ∧ ∃ zs', Owns lo hi w' (.slice (some ⟨g, 0, none⟩) n cap) zs' ∧ zs'.Perm zs ∧ SortTo zs' n ∧ Keeps (fun k => k = g) w w' := by
  have hS1 : SortTo zs 1 := fun p q h1 h2 => by omega
  have HZN := Lib.hid hn
  clear hn
  go_enter Try.func91, Try.ntmps91
  go_wp2
  go_loopw [6] (fun i wr => ∃ (k : Nat) (l : List Int), 1 ≤ k ∧ (k ≤ n ∨ k = 1) ∧ i = .int .i64 k ∧ Owns lo hi wr (.slice (some ⟨g, 0, none⟩) n cap) l ∧ l.Perm zs ∧ SortTo l k ∧ Keeps (fun k => k = g) w wr) (fun i _ => n - (intOf i).toNat)
  case atStart => exact ⟨1, zs, by omega, .inr rfl, by go_num, h, List.Perm.refl _, hS1, Keeps.refl _ _⟩
  case round =>
    clear h hS1
    obtain ⟨k, l, hk1, hk, rfl, hO, hP, hS, hK⟩ := hrel
    by_cases hlt : k < n
    · have hI := hS.ins
      have hdk : decide ((k : Int) < n) = true := decide_eq_true (by omega)
      have HLEN := Lib.hid (show l.length = n by rw [HZN.out]; exact hP.length_eq)
      clear hS hk
      go_wp2
      go_loopw [7] (fun i wr => ∃ (j : Nat) (l : List Int), j ≤ k ∧ i = .int .i64 j ∧ Owns lo hi wr (.slice (some ⟨g, 0, none⟩) n cap) l ∧ l.Perm zs ∧ InsIn l k j ∧ Keeps (fun k => k = g) w wr) (fun i _ => (intOf i).toNat)
      case atStart => exact ⟨k, l, by omega, rfl, hO, hP, hI, hK⟩
      case round =>
        clear hO hP hI hK HLEN
        obtain ⟨j, l, hj, rfl, hO, hP, hI, hK⟩ := hrel
        have HLEN := Lib.hid (show n = l.length by rw [HZN.out]; exact hP.length_eq.symm)
        by_cases hj0 : j = 0
        · subst hj0
          have HS := Lib.hid (hI.stop (.inl rfl))
          have hd : decide ((0 : Int) < 0) = false := rfl
          clear hI
          go_wp2
          go_quiet (fail)
          go_wp2
          go_roundw
          case rel => exact ⟨k + 1, l, by omega, .inl hlt, by go_num, hO.fresh ((Fresh.refl _).drewN _), hP, HS.out, hK.drewN _⟩
          case measure => simp [intOf]; omega
        · have hjp : 0 < j := by omega
          have hjl : j < l.length := by have := HLEN.out; omega
          have hc1 : wr.cell? ⟨g, j, none⟩ = some (.int .i64 (l.getD j 0)) := by rw [hO.cell HLEN.out j hjl]; simp [List.getD_eq_getElem?_getD, hjl]
          have hc2 : wr.cell? ⟨g, j - 1, none⟩ = some (.int .i64 (l.getD (j - 1) 0)) := by
            rw [hO.cell HLEN.out (j - 1) (by omega)]; simp [List.getD_eq_getElem?_getD, show j - 1 < l.length by omega]
          have HO := Lib.hid hO
          have HI := Lib.hid hI
          have HJL := Lib.hid hjl
          have HSW := Lib.hid (show swpL l j (j - 1) = (l.set j (l.getD (j - 1) 0)).set (j - 1) (l.getD j 0) from rfl)
          have HSTOP := Lib.hid (fun (e : l.getD (j - 1) 0 ≤ l.getD j 0) => hI.stop (.inr e))
          have HSTEP := Lib.hid (fun (e : l.getD j 0 < l.getD (j - 1) 0) => hI.step (by have := HLEN.out; omega) hjp hj e)
          obtain ⟨x, hx⟩ : ∃ x, x = l.getD j 0 := ⟨_, rfl⟩
          obtain ⟨y, hy⟩ : ∃ y, y = l.getD (j - 1) 0 := ⟨_, rfl⟩
          rw [← hx] at hc1 HSTOP HSTEP HSW
          rw [← hy] at hc2 HSTOP HSTEP HSW
          have s1 : IntKind.i64.wrap ((j : Int) - 1) = (j : Int) - 1 := IntWalk.i64_in _ (by omega)
          have s2 : (0 : Int) ≤ (j : Int) - 1 := by omega
          have s3 : ((j : Int) - 1).toNat = j - 1 := by omega
          have s4 : (j : Int) - 1 < (n : Int) := by omega
          have s5 : (j : Int) < (n : Int) := by omega
          have s6 : decide ((0 : Int) < (j : Int)) = true := decide_eq_true (by omega)
          have s7 : decide (0 < j) = true := decide_eq_true hjp
          have s8 : (0 : Int) ≤ (j : Int) := by omega
          have s9 : (0 : Int) < (j : Int) := by omega
          clear hx hy hO hI hjl hj0
          by_cases hxy : x < y
          · have HX := Lib.hid (HSTEP.out hxy)
            have HQ := Lib.hid (show ∀ m : Nat, Calls Try.prog 97 #[.int .i64 x, .int .i64 y] (wr.drewN m) fun e w' => e = .returned (.bool true) ∧ w' = wr.drewN m from
              fun m => (cmpLess_any _ _ _).mono fun e w' ⟨a, b⟩ => ⟨by rw [a, decide_eq_true hxy], b.symm⟩)
            clear hxy HSTOP HSTEP
            go_wp2
            go_quiet ((go_at_call 97; exact Calls.quiet_of_same (HQ.out _)))
            go_wp2
            have hOq := HO.out.fresh ((Fresh.refl wr).drewN nq)
            have hKq := hK.drewN nq
            have c1 : (wr.drewN nq).cell? ⟨g, j, none⟩ = some (.int .i64 x) := hc1
            have c2 : (wr.drewN nq).cell? ⟨g, j - 1, none⟩ = some (.int .i64 y) := hc2
            clear hc1 hc2 HO hK
            generalize wr.drewN nq = wq at *
            have HQO := Lib.hid (And.intro hOq hKq)
            have f1 : wq.frozen? ⟨g, j, none⟩ = false := (hOq.store HLEN.out j 0).1
            have f2 : wq.frozen? ⟨g, j - 1, none⟩ = false := (hOq.store HLEN.out (j - 1) 0).1
            clear hOq hKq
            go_region
            have hO2 := HQO.out.1.store HLEN.out j y
            have hO3 := hO2.2.1.store (by rw [List.length_set]; exact HLEN.out) (j - 1) x
            have hO4 := hO3.2.1
            rw [← HSW.out] at hO4
            have hF := (Fresh.refl ((wq.setCell ⟨g, j, none⟩ (.int .i64 y)).setCell ⟨g, j - 1, none⟩ (.int .i64 x))).drew
            have HR := Lib.hid (And.intro (hO4.fresh hF) (((HQO.out.2.trans hO2.2.2).trans hO3.2.2).fresh hF))
            have HP := Lib.hid ((swpL_perm HJL.out (show j - 1 < l.length by have := HJL.out; omega)).trans hP)
            clear hO2 hO3 hO4 hF hP c1 c2 f1 f2
            go_wp2
            go_roundw
            case rel => exact ⟨j - 1, swpL l j (j - 1), by omega, by go_num, HR.out.1, HP.out, HX.out, HR.out.2⟩
            case measure => simp [intOf]; omega
          · have HX := Lib.hid (HSTOP.out (by omega))
            have HQ := Lib.hid (show ∀ m : Nat, Calls Try.prog 97 #[.int .i64 x, .int .i64 y] (wr.drewN m) fun e w' => e = .returned (.bool false) ∧ w' = wr.drewN m from
              fun m => (cmpLess_any _ _ _).mono fun e w' ⟨a, b⟩ => ⟨by rw [a, decide_eq_false hxy], b.symm⟩)
            clear hxy HSTOP HSTEP
            go_wp2
            go_quiet ((go_at_call 97; exact Calls.quiet_of_same (HQ.out _)))
            go_wp2
            go_roundw
            case rel => exact ⟨k + 1, l, by omega, .inl hlt, by go_num, HO.out.fresh ((Fresh.refl _).drewN _), hP, HX.out, hK.drewN _⟩
            case measure => simp [intOf]; omega
    · have HX := Lib.hid (show SortTo l n from fun p q h1 h2 => hS p q h1 (by omega))
      go_wp2
      go_end0
      exact ⟨rfl, l, hO, hP, HX.out, hK⟩

/-- some int -/
def AnInt (w : World) (e : Ending) (w' : World) : Prop := ∃ y : Int, e = .returned (.int .i64 y) ∧ w = w'
set_option maxRecDepth 100000 in
set_option maxHeartbeats 1000000 in
theorem len64_any (x : Int) (h0 : 0 ≤ x) (h1 : x ≤ 5) (w : World) : Calls Try.prog 101 #[.int .u64 x] w (AnInt w) := by
  have hx : x = 0 ∨ x = 1 ∨ x = 2 ∨ x = 3 ∨ x = 4 ∨ x = 5 := by omega
  rcases hx with rfl | rfl | rfl | rfl | rfl | rfl
  all_goals
    go_enter Try.func101, Try.ntmps101
    go_wp2
    go_ret
    exact ⟨_, rfl, rfl⟩
theorem len_any (x : Int) (h0 : 0 ≤ x) (h1 : x ≤ 5) (w : World) : Calls Try.prog 82 #[.int .u64 x] w (AnInt w) := by
  go_enter Try.func82, Try.ntmps82
  go_wp2_with fail
  refine (len64_any x h0 h1 _).mono ?_
  rintro e w' ⟨y, rfl, rfl⟩
  go_wp2
  go_ret
  exact ⟨_, rfl, rfl⟩
set_option maxRecDepth 100000 in
set_option maxHeartbeats 1000000 in
theorem pdqsort_any (lo hi g n cap : Nat) (zs : List Int) (y : Int) (w : World) (h : Owns lo hi w (.slice (some ⟨g, 0, none⟩) n cap) zs) (hn : n = zs.length) (hn5 : n ≤ 5) :
    Calls Try.prog 81 #[.slice (some ⟨g, 0, none⟩) n cap, .int .i64 0, .int .i64 (n : Int), .int .i64 y] w fun e w' => e = .returned (.tuple #[]) ∧ ∃ zs', Owns lo hi w' (.slice (some ⟨g, 0, none⟩) n cap) zs' ∧ zs'.Perm zs ∧ SortTo zs' n ∧ Keeps (fun k => k = g) w w' := by
  have HH := Lib.hid h
  have HN := Lib.hid hn
  clear h hn
  go_enter Try.func81, Try.ntmps81
  go_wp2
  go_loopw [1, 2] (fun a b wr => a = .int .i64 0 ∧ b = .int .i64 (n : Int) ∧ wr = w) (fun _ _ _ => 0)
  case atStart => exact ⟨rfl, rfl, rfl⟩
  case round =>
    obtain ⟨rfl, rfl, rfl⟩ := hrel
    go_wp2_with fail
    refine (insertionSort_any lo hi g n cap zs _ HH.out HN.out hn5).mono ?_
    rintro e w' ⟨rfl, zs', h1, h2, h3, h4⟩
    go_wp2
    exact bodyPost_ret (v := .tuple #[]) (by simp [results, Try.results81, go_sem]) rfl ⟨rfl, zs', h1, h2, h3, h4⟩
theorem sliceSort_any (lo hi g n cap : Nat) (zs : List Int) (w : World) (h : Owns lo hi w (.slice (some ⟨g, 0, none⟩) n cap) zs) (hn : n = zs.length) (hn5 : n ≤ 5) :
    Calls Try.prog 67 #[.slice (some ⟨g, 0, none⟩) n cap] w fun e w' => e = .returned (.tuple #[]) ∧ ∃ zs', Owns lo hi w' (.slice (some ⟨g, 0, none⟩) n cap) zs' ∧ zs'.Perm zs ∧ SortTo zs' n ∧ Keeps (fun k => k = g) w w' := by
  have HH := Lib.hid h
  have HN := Lib.hid hn
  clear h hn
  go_enter Try.func67, Try.ntmps67
  go_wp2_with fail
  refine (len_any (n : Int) (by omega) (by omega) _).mono ?_
  rintro e w' ⟨y, rfl, rfl⟩
  go_wp2_with fail
  refine (pdqsort_any lo hi g n cap zs y _ HH.out HN.out hn5).mono ?_
  rintro e w' ⟨rfl, zs', h1, h2, h3, h4⟩
  go_wp2
  go_end0
  exact ⟨rfl, zs', h1, h2, h3, h4⟩

/-- a sorted list of different nodes is the nodes in ascending order -/
theorem sorted_is {zs : List Int} {L M : List Nat} (hp : zs.Perm (L.map Int.ofNat)) (hs : SortTo zs zs.length) (hnd : L.Nodup) (hM : M.Pairwise (· < ·)) (hm : ∀ x, x ∈ L ↔ x ∈ M) : zs = M.map Int.ofNat := by
  obtain ⟨N, hN⟩ : ∃ N : List Nat, zs = N.map Int.ofNat := by
    refine ⟨zs.map Int.toNat, ?_⟩
    rw [List.map_map]
    conv => lhs; rw [← List.map_id zs]
    apply List.map_congr_left
    intro z hz
    obtain ⟨x, _, rfl⟩ := List.mem_map.1 (hp.mem_iff.1 hz)
    rfl
  subst hN
  have hp2 : N.Perm L := by
    have := hp.map Int.toNat
    rw [List.map_map, List.map_map] at this
    have e : (Int.toNat ∘ Int.ofNat) = id := by funext x; rfl
    rwa [e, List.map_id, List.map_id] at this
  have hndN : N.Nodup := hp2.nodup_iff.2 hnd
  have hsN : N.Pairwise (· < ·) := by
    rw [List.pairwise_iff_getElem]
    intro i j hi hj hij
    have h1 := hs i j hij (by simpa using hj)
    have e1 : (N.map Int.ofNat).getD i 0 = ((N[i] : Nat) : Int) := by simp [List.getD_eq_getElem?_getD, hi]
    have e2 : (N.map Int.ofNat).getD j 0 = ((N[j] : Nat) : Int) := by simp [List.getD_eq_getElem?_getD, hj]
    rw [e1, e2] at h1
    have hne : N[i] ≠ N[j] := List.pairwise_iff_getElem.1 hndN i j hi hj hij
    omega
  rw [asc_ext hsN hM fun x => by rw [← hm x]; exact hp2.mem_iff]
end Go.Proofs.Ytkicgodmgafkoaa
