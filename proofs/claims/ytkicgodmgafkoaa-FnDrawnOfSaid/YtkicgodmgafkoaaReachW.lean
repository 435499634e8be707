/- What is reached in a picture: the program's walk. -/
import Derived.Test.YtkicgodmgafkoaaSort
namespace Go.Proofs.Ytkicgodmgafkoaa
open Go.RowKit

theorem nodup_len : ∀ (n : Nat) (L : List Nat), L.Nodup → (∀ x ∈ L, x < n) → L.length ≤ n := by
  intro n
  induction n with
  | zero =>
    intro L _ h
    cases L with
    | nil => simp
    | cons x L => have := h x (by simp); omega
  | succ n ih =>
    intro L hnd h
    by_cases hn : n ∈ L
    · have h1 := ih (L.erase n) (hnd.erase n) (fun x hx => by
        have h2 := (hnd.mem_erase_iff).1 hx
        have := h x h2.2
        have := h2.1
        omega)
      rw [List.length_erase_of_mem hn] at h1
      omega
    · have h1 := ih L hnd (fun x hx => by
        have := h x hx
        have : x ≠ n := fun e => hn (e ▸ hx)
        omega)
      omega
/-- a search that goes along arrows: all are reached; of the first i all arrows have been followed -/
structure BFS (p : List (List Int)) (a : Nat) (L : List Nat) (i : Nat) : Prop where
  nodup : L.Nodup
  sub : ∀ x ∈ L, reach p a x = true
  self : a ∈ L
  done : ∀ j, j < i → j < L.length → ∀ b, ent p (L.getD j 0) b = 1 → b ∈ L
theorem BFS.first (p : List (List Int)) (a : Nat) : BFS p a [a] 0 := ⟨by simp, fun x hx => by simp at hx; subst hx; exact reach_self _, by simp, fun j hj => by omega⟩
theorem BFS.len {p : List (List Int)} (hp : picB p = true) {a : Nat} (ha : a < p.length) {L : List Nat} {i : Nat} (h : BFS p a L i) : L.length ≤ p.length :=
  nodup_len _ _ h.nodup fun x hx => reach_lt hp ha (h.sub x hx)
theorem getD_app {L : List Nat} {v j : Nat} (hj : j < L.length) : (L ++ [v]).getD j 0 = L.getD j 0 := by
  simp [List.getD_eq_getElem?_getD, List.getElem?_append, hj]
theorem BFS.push {p : List (List Int)} (hp : picB p = true) {a : Nat} (ha : a < p.length) {L : List Nat} {i v : Nat} (h : BFS p a L i) (hi : i < L.length) (hv : v ∉ L) (e : ent p (L.getD i 0) v = 1) : BFS p a (L ++ [v]) i := by
  have hm : L.getD i 0 ∈ L := by
    rw [List.getD_eq_getElem?_getD, List.getElem?_eq_getElem hi]; exact List.getElem_mem hi
  refine ⟨?_, ?_, by simp [h.self], ?_⟩
  · rw [List.nodup_append]
    refine ⟨h.nodup, by simp, fun x hx y hy => ?_⟩
    simp at hy; subst hy
    exact fun e => hv (e ▸ hx)
  · intro x hx
    rcases List.mem_append.1 hx with hx | hx
    · exact h.sub x hx
    · simp at hx; subst hx; exact reach_step hp ha (h.sub _ hm) e
  · intro j hj hjl b hb
    rw [getD_app (by omega)] at hb
    exact List.mem_append.2 (.inl (h.done j hj (by omega) b hb))
theorem BFS.next {p : List (List Int)} {a : Nat} {L : List Nat} {i : Nat} (h : BFS p a L i) (hd : ∀ b, ent p (L.getD i 0) b = 1 → b ∈ L) : BFS p a L (i + 1) :=
  ⟨h.nodup, h.sub, h.self, fun j hj hjl b hb => by
    by_cases hji : j = i
    · subst hji; exact hd b hb
    · exact h.done j (by omega) hjl b hb⟩
theorem BFS.all {p : List (List Int)} (hp : picB p = true) {a : Nat} (ha : a < p.length) {L : List Nat} {i : Nat} (h : BFS p a L i) (hi : ¬ i < L.length) (x : Nat) : x ∈ L ↔ x ∈ reachL p a := by
  rw [reachL_mem hp ha]
  refine ⟨h.sub x, fun hr => reach_ind (P := fun x => x ∈ L) h.self (fun y b _ hy e => ?_) hr⟩
  obtain ⟨j, hj, rfl⟩ := List.getElem_of_mem hy
  refine h.done j (by omega) hj b ?_
  have : L.getD j 0 = L[j] := by simp [List.getD_eq_getElem?_getD, hj]
  rw [this]; exact e
/-- of the arrows of one node the first t have been followed -/
def Followed (xs L : List Nat) (t : Nat) : Prop := ∀ j (h : j < xs.length), j < t → xs[j] ∈ L
theorem Followed.step {xs L : List Nat} {t : Nat} (h : Followed xs L t) (ht : t < xs.length) (e : xs[t] ∈ L) : Followed xs L (t + 1) := by
  intro j hj hjt
  by_cases hjt2 : j = t
  · subst hjt2; exact e
  · exact h j hj (by omega)
theorem Followed.more {xs L : List Nat} {t v : Nat} (h : Followed xs L t) : Followed xs (L ++ [v]) t := fun j hj hjt => List.mem_append.2 (.inl (h j hj hjt))
theorem any_mem (L : List Nat) (v : Nat) : ((L.map Int.ofNat).any fun z => ((v : Nat) : Int) == z) = decide (v ∈ L) := by
  rw [Bool.eq_iff_iff, List.any_eq_true, decide_eq_true_eq]
  constructor
  · rintro ⟨z, hz, e⟩
    obtain ⟨x, hx, rfl⟩ := List.mem_map.1 hz
    rw [beq_iff_eq] at e
    have : v = x := Int.ofNat.inj e
    rw [this]; exact hx
  · intro h
    exact ⟨Int.ofNat v, List.mem_map.2 ⟨v, h, rfl⟩, by rw [beq_iff_eq]; rfl⟩

theorem sliceContains_any (v : Value) (zs : List Int) (x : Int) (w : World) (h : Ints w v zs) :
    Calls Try.prog 66 #[v, .int .i64 x] w fun e w' => e = .returned (.bool (zs.any (x == ·))) ∧ w = w' := by
  have HX := Lib.hid (idxP_nonneg zs (x == ·))
  go_enter Try.func66, Try.ntmps66
  go_wp2_with fail
  refine (sliceIndex_any _ zs x _ h).mono ?_
  rintro e w' ⟨rfl, rfl⟩
  go_wp2
  go_ret
  exact ⟨ret_bool HX.out, rfl⟩

set_option maxHeartbeats 2000000 in
theorem reachedFrom_any (v : Value) (p : List (List Int)) (a : Nat) (w : World) (h : RowsR w v p) (hp : picB p = true) (ha : a < p.length) :
    Calls Try.prog 45 #[v, .int .i64 (a : Int)] w fun e w' => ∃ r, e = .returned r ∧ Owns w.heap.size w'.heap.size w' r ((reachL p a).map Int.ofNat) ∧ Fresh w w' := by
  have hn5 := ((picB_iff p).1 hp).2.1
  have hF0 : Fresh w (w.alloc (Obj.cells #[.int .i64 (a : Int)] 3)) := (Fresh.refl w).alloc _
  have hO0 : Owns w.heap.size (w.alloc (Obj.cells #[.int .i64 (a : Int)] 3)).heap.size (w.alloc (Obj.cells #[.int .i64 (a : Int)] 3)) (.slice (some ⟨w.heap.size, 0, none⟩) 1 1) (([a] : List Nat).map Int.ofNat) := by
    refine ⟨?_, fun g hg => ?_⟩
    · exact World.ownsRow_lit (base := w.heap.size) (size := 1) w #[.int .i64 (a : Int)] 1 (Nat.le_refl _) (by unfold maxLen; omega) rfl
    · simp [Value.ownBlock] at hg; subst hg; simp
  have hnn0 : (Value.slice (some ⟨w.heap.size, 0, none⟩) 1 1) ≠ .slice none 0 0 := by simp
  have HI := Lib.hid (And.intro hO0 hF0)
  clear hO0 hF0
  go_enter Try.func45, Try.ntmps45
  go_wp2
  go_loopw [5, 6] (fun u i wr => ∃ (k : Nat) (L : List Nat), k ≤ L.length ∧ i = .int .i64 k ∧ BFS p a L k ∧ u ≠ .slice none 0 0 ∧ Owns w.heap.size wr.heap.size wr u (L.map Int.ofNat) ∧ Fresh w wr) (fun _ i _ => p.length - (intOf i).toNat)
  case atStart => exact ⟨0, [a], by omega, rfl, BFS.first p a, hnn0, HI.out.1, HI.out.2⟩
  case round =>
    clear HI hnn0
    obtain ⟨k, L, hk, rfl, hB, hnn, hO, hF⟩ := hrel
    obtain ⟨wo, rfl⟩ : ∃ wo : World, wo = wr := ⟨_, rfl⟩
    obtain ⟨ua, uc, hu⟩ := hO.ints.len
    rw [List.length_map] at hu
    subst hu
    have hLn := hB.len hp ha
    by_cases hlt : k < L.length
    · obtain ⟨x, hx⟩ : ∃ x, x = L.getD k 0 := ⟨_, rfl⟩
      have hxm : x ∈ L := by rw [hx, List.getD_eq_getElem?_getD, List.getElem?_eq_getElem hlt]; exact List.getElem_mem hlt
      have hxl := reach_lt hp ha (hB.sub x hxm)
      obtain ⟨b, off, cap2, heq, hcell⟩ := hO.ints.at (k := k) (by simpa using hlt)
      rw [List.length_map] at heq
      simp only [Value.slice.injEq, true_and] at heq; obtain ⟨rfl, rfl⟩ := heq
      have hc : wo.cell? ⟨b, off + k, none⟩ = some (.int .i64 (x : Int)) := by
        have := hcell k (by simpa using hlt)
        rw [List.getElem_map] at this
        rw [this, hx]; simp [List.getD_eq_getElem?_getD, hlt]
      have HX := Lib.hid hx
      have hLx : p[x].length ≤ 1048576 := by rw [pic_row hp hxl]; omega
      clear hcell hx hxm
      go_wp2_with fail
      refine (arrowsOf_any _ p x _ (h.fresh hF) hxl hLx).mono ?_
      rintro e w2 ⟨r2, rfl, hA2, hF2⟩
      have hO2 := (hO.fresh hF2).wider (Nat.le_refl _) hF2.size
      have hF2' := hF.trans hF2
      have hbl := (hO.blk b rfl).2.1
      obtain ⟨xs, hxs⟩ : ∃ xs, xs = arrowsL p x := ⟨_, rfl⟩
      have HXE := Lib.hid (show ∀ t (ht : t < xs.length), ent p x xs[t] = 1 by
        intro t ht; subst hxs; exact ((arrowsL_mem hp hxl).1 (List.getElem_mem ht)).2)
      have HXA := Lib.hid (show ∀ b, ent p x b = 1 → b ∈ xs by
        intro b hb; rw [hxs]; exact (arrowsL_mem hp hxl).2 ⟨ent_lt hp hxl hb, hb⟩)
      rw [← hxs] at hA2
      obtain ⟨xa, xc, hv⟩ := hA2.ints.len
      rw [List.length_map] at hv
      subst hv
      obtain ⟨lo, hlo⟩ : ∃ lo, lo = wo.heap.size := ⟨_, rfl⟩
      obtain ⟨hi, hhi⟩ : ∃ hi, hi = w2.heap.size := ⟨_, rfl⟩
      rw [← hlo, ← hhi] at hA2
      have hoff : OffU (.slice (some ⟨b, off, none⟩) L.length uc) lo hi := ⟨hnn, fun g hg => by simp [Value.ownBlock] at hg; omega⟩
      have hhi2 : hi ≤ w2.heap.size := by omega
      have hxb := hA2.ints.bound
      rw [List.length_map] at hxb
      have hXK : L.getD k 0 = x := HX.out.symm
      have HS := Lib.hid (And.intro hB (And.intro hXK (And.intro hO2 (And.intro hF2' (And.intro hoff (And.intro hhi2 hA2))))))
      clear hxs hlo hhi hO hF hF2 hB hXK hO2 hF2' hoff hhi2 hA2 HX hnn hbl hc
      go_wp2
      go_loopw [5, 24] (fun u i wr => ∃ (t : Nat) (L : List Nat), t ≤ xs.length ∧ i = .int .i64 t ∧ BFS p a L k ∧ k < L.length ∧ L.getD k 0 = x ∧ Followed xs L t ∧ Owns w.heap.size wr.heap.size wr u (L.map Int.ofNat) ∧ Fresh w wr ∧ OffU u lo hi ∧ hi ≤ wr.heap.size ∧ Owns lo hi wr (.slice xa xs.length xc) (xs.map Int.ofNat)) (fun _ i _ => xs.length - (intOf i).toNat)
      case atStart => exact ⟨0, L, by omega, rfl, HS.out.1, hlt, HS.out.2.1, fun j hj h => by omega, HS.out.2.2.1, HS.out.2.2.2.1, HS.out.2.2.2.2.1, HS.out.2.2.2.2.2.1, HS.out.2.2.2.2.2.2⟩
      case round =>
        clear HS hlt hk hLn
        obtain ⟨t, L, ht, rfl, hB, hkl, hXK, hFo, hO, hF, hoff, hhi, hA⟩ := hrel
        have HXK := Lib.hid hXK
        have HB := Lib.hid hB
        have HFO := Lib.hid hFo
        have hLn := hB.len hp ha
        have HNN := Lib.hid hoff.1
        obtain ⟨ua, uc, hu⟩ := hO.ints.len
        rw [List.length_map] at hu
        subst hu
        clear hXK hB hFo
        by_cases htl : t < xs.length
        · obtain ⟨b2, off2, cap2, heq, hcell⟩ := hA.ints.at (k := t) (by simpa using htl)
          rw [List.length_map] at heq
          simp only [Value.slice.injEq, true_and] at heq; obtain ⟨rfl, rfl⟩ := heq
          have hev := HXE.out t htl
          have HFS := Lib.hid (fun (L' : List Nat) (hf : Followed xs L' t) (e : xs[t] ∈ L') => hf.step htl e)
          have hc : wr.cell? ⟨b2, off2 + t, none⟩ = some (.int .i64 ((xs[t] : Nat) : Int)) := by
            have := hcell t (by simpa using htl)
            rw [List.getElem_map] at this
            exact this
          obtain ⟨v, hv⟩ : ∃ v, v = xs[t] := ⟨_, rfl⟩
          rw [← hv] at hev hc HFS
          have HEV := Lib.hid hev
          have HAM := Lib.hid (any_mem L v)
          clear hv hcell hev
          go_wp2_with fail
          refine (sliceContains_any _ _ _ _ hO.ints).mono ?_
          rintro e w' ⟨rfl, rfl⟩
          rw [HAM.out]
          by_cases hvl : v ∈ L
          · have HD := Lib.hid (decide_eq_true hvl)
            have HF2 := Lib.hid (HFS.out L HFO.out hvl)
            rw [HD.out]
            clear hvl
            go_wp2
            go_roundw
            case rel => exact ⟨t + 1, L, htl, by go_num, HB.out, hkl, HXK.out, HF2.out, hO, hF, hoff, hhi, hA⟩
            case measure => simp [intOf]; omega
          · have HD := Lib.hid (decide_eq_false hvl)
            have HB2 := Lib.hid (HB.out.push hp ha hkl hvl (by rw [HXK.out]; exact HEV.out))
            have HF2 := Lib.hid (HFS.out (L ++ [v]) HFO.out.more (by simp))
            have HG2 := Lib.hid (show (L ++ [v]).getD k 0 = x by rw [getD_app hkl]; exact HXK.out)
            have HL2 := Lib.hid (show (L ++ [v]).map Int.ofNat = L.map Int.ofNat ++ [(v : Int)] by rw [List.map_append]; rfl)
            have HLL := Lib.hid (show (L.map Int.ofNat).length ≤ 5 by rw [List.length_map]; omega)
            rw [HD.out]
            clear hvl
            go_wp2_with (at_builtin; refine wpList_append_off _ w _ _ _ lo hi rfl _ _ rfl _ rfl hO hF hoff hhi rfl (by have := HLL.out; omega) ?_)
            intro u' w4 hO4 hF4 hoff4 hK4
            have hA4 := hA.keeps hK4 (fun _ h1 h2 => Outside.off h1 h2)
            have hhi4 := Nat.le_trans hhi hK4.size
            clear hO hF hoff hhi hA hK4 hc
            go_wp2
            go_roundw
            case rel => exact ⟨t + 1, L ++ [v], htl, by go_num, HB2.out, by simp; omega, HG2.out, HF2.out, by rw [HL2.out]; exact hO4, hF4, hoff4, hhi4, hA4⟩
            case measure => simp [intOf]; omega
        · have HB2 := Lib.hid (HB.out.next (fun b hb => by
            rw [HXK.out] at hb
            obtain ⟨j, hj, rfl⟩ := List.getElem_of_mem (HXA.out b hb)
            exact HFO.out j hj (by omega)))
          go_wp2
          go_roundw
          case rel => exact ⟨k + 1, L, hkl, by go_num, HB2.out, HNN.out, hO, hF⟩
          case measure => simp [intOf]; omega
    · have HALL := Lib.hid (hB.all hp ha hlt)
      have hnd := hB.nodup
      have hself := hB.self
      have hL0 : 0 < L.length := List.length_pos_of_mem hself
      obtain ⟨g, cap, heq, hg1, hg2, hg3, -⟩ := hO.form (by simpa using hL0)
      rw [List.length_map] at heq
      simp only [Value.slice.injEq, true_and] at heq
      obtain ⟨rfl, rfl⟩ := heq
      have HND := Lib.hid hnd
      clear hnd hB hself
      go_wp2_with fail
      refine (sliceSort_any w.heap.size wo.heap.size g L.length uc (L.map Int.ofNat) _ hO (by simp) (by omega)).mono ?_
      rintro e w2 ⟨rfl, zs', hO2, hP2, hS2, hK2⟩
      have hlen : zs'.length = L.length := by rw [hP2.length_eq, List.length_map]
      rw [← hlen] at hS2
      have HZ := Lib.hid (sorted_is hP2 hS2 HND.out (reachL_asc p a) HALL.out)
      have hF2 := hF.keepsTrans hK2 (fun i hi => by omega)
      rw [HZ.out] at hO2
      have hO3 := hO2.wider (Nat.le_refl _) hK2.size
      clear hS2 hP2 hO2 hO hF hK2 hlen
      go_wp2
      go_ret
      exact ⟨_, rfl, hO3, hF2⟩
end Go.Proofs.Ytkicgodmgafkoaa
