/- What the program's and the reference's functions on codes answer: those with loops over members. -/
import Derived.Test.YtipadgpgcdjflaaCodes
namespace Go.Proofs.Ytipadgpgcdjflaa
open Go.RowKit

/-! ### SetOf -/
theorem shl_one (x : Int) (h0 : 0 ≤ x) (h1 : x ≤ 15) : wrap64 (2 ^ x.toNat) = ((2 ^ x.toNat : Nat) : Int) := by
  have h : (2 : Nat) ^ x.toNat ≤ 2 ^ 15 := Nat.pow_le_pow_right (by decide) (by omega)
  have e : ((2 : Int) ^ x.toNat) = ((2 ^ x.toNat : Nat) : Int) := by simp
  rw [e]
  generalize 2 ^ x.toNat = N at h
  rw [wrap64]; omega

/-- what the loop of SetOf has gathered after k rounds -/
def SetTo (zs : List Int) (k : Nat) (s : Int) : Prop := (∀ z ∈ zs.take k, 0 ≤ z ∧ z ≤ 15) ∧ s = ((setL ((zs.take k).map Int.toNat) : Nat) : Int)
theorem SetTo.start (zs : List Int) : SetTo zs 0 0 := ⟨by simp, by simp [setL]⟩
theorem SetTo.bd {zs : List Int} {k : Nat} {s : Int} (h : SetTo zs k s) : 0 ≤ s ∧ s ≤ 65535 := by
  have : setL ((zs.take k).map Int.toNat) < 65536 := setL_lt _ (by
    intro m hm
    obtain ⟨z, hz, rfl⟩ := List.mem_map.1 hm
    have := h.1 z hz; omega)
  rw [h.2]; omega
theorem SetTo.step {zs : List Int} {k : Nat} {s : Int} (h : SetTo zs k s) (hk : k < zs.length) (h0 : 0 ≤ zs[k]) (h1 : zs[k] ≤ 15) :
    SetTo zs (k + 1) (bits .or .i64 s (wrap64 (2 ^ (zs[k]).toNat))) := by
  have hb := h.bd
  obtain ⟨h2, rfl⟩ := h
  have e : zs.take (k + 1) = zs.take k ++ [zs[k]] := List.take_succ_eq_append_getElem hk
  refine ⟨?_, ?_⟩
  · rw [e]; intro z hz
    rcases List.mem_append.1 hz with hz | hz
    · exact h2 z hz
    · simp at hz; subst hz; exact ⟨h0, h1⟩
  · rw [e, List.map_append, List.map_singleton, setL_snoc, shl_one _ h0 h1]
    have h3 : (2 : Nat) ^ (zs[k]).toNat ≤ 2 ^ 15 := Nat.pow_le_pow_right (by decide) (by omega)
    exact or_i64 _ _ (by omega) (by omega)
theorem SetTo.all {zs : List Int} {k : Nat} {s : Int} (h : SetTo zs k s) (hk : ¬ k < zs.length) : s = setOfI zs := by
  have e : zs.take k = zs := List.take_of_length_le (by omega)
  rw [SetTo, e] at h
  unfold setOfI
  rw [if_pos (List.all_eq_true.2 fun z hz => (inB_iff z 0 15).2 (h.1 z hz))]
  exact h.2
theorem setOfI_bad {zs : List Int} {k : Nat} (hk : k < zs.length) (h : ¬ (0 ≤ zs[k] ∧ zs[k] ≤ 15)) : setOfI zs = -1 := by
  unfold setOfI
  rw [if_neg]
  intro hh
  have := List.all_eq_true.1 hh zs[k] (List.getElem_mem hk)
  exact h ((inB_iff _ 0 15).1 this)


set_option maxHeartbeats 400000 in
theorem specSetOf_any (v : Value) (zs : List Int) (w : World) (h : Ints w v zs) :
    Calls Try.prog 30 #[v] w fun e w' => e = .returned (.int .i64 (setOfI zs)) ∧ Fresh w w' := by
  obtain ⟨a, cap, rfl⟩ := h.len
  have hb := h.bound
  go_enter Try.func30, Try.ntmps30
  go_wp2
  go_loopw [3, 4] (fun s i wr => ∃ k : Nat, ∃ n : Int, k ≤ zs.length ∧ i = .int .i64 k ∧ s = .int .i64 n ∧ SetTo zs k n ∧ Fresh w wr) (fun _ i _ => zs.length - (intOf i).toNat)
  case atStart => exact ⟨0, 0, Nat.zero_le _, rfl, rfl, SetTo.start zs, Fresh.refl _⟩
  case round =>
    obtain ⟨k, n, hk, rfl, rfl, hE, hF⟩ := hrel
    by_cases hlt : k < zs.length
    · obtain ⟨b, off, cap2, heq, hcell⟩ := (h.fresh hF).at hlt
      simp only [Value.slice.injEq, true_and] at heq; obtain ⟨rfl, rfl⟩ := heq
      have hc := hcell k hlt
      clear hcell h
      obtain ⟨x, hx⟩ : ∃ x, x = zs[k] := ⟨_, rfl⟩
      by_cases hin : 0 ≤ x ∧ x ≤ 15
      · have H2 := Lib.hid (hE.step hlt (by omega) (by omega))
        rw [← hx] at hc H2
        clear hx
        obtain ⟨h1, h2⟩ := hin
        go_wp2
        go_roundw
        case rel => exact ⟨k + 1, _, hlt, by go_num, rfl, H2.out, hF⟩
        case measure => simp [intOf]; omega
      · have HX := Lib.hid (setOfI_bad hlt (by omega))
        have hB : inB x 0 15 = false := (inB_false _ _ _).2 hin
        rw [← hx] at hc
        clear hx hin
        go_wp2_with (go_at_call 25; refine (l1In_any _ _ _ _).mono ?_; rintro e w' ⟨rfl, rfl⟩)
        go_ret
        exact ⟨ret_int HX.out.symm, hF⟩
    · have HX := Lib.hid (hE.all hlt)
      go_wp2
      go_ret
      exact ⟨ret_int HX.out, hF⟩

/-! ### membersOf -/
/-- the members below m -/
def memTo (n m : Nat) : List Nat := (List.range m).filter n.testBit
theorem memTo_step (n m : Nat) : memTo n (m + 1) = memTo n m ++ if n.testBit m then [m] else [] := by
  rw [memTo, memTo, List.range_succ, List.filter_append]
  cases h : n.testBit m <;> simp [h]
theorem memTo_all {n m : Nat} (hm : m ≤ 16) (h : ∀ i, m ≤ i → n.testBit i = false) : memTo n m = memL n := by
  obtain ⟨d, hd⟩ : ∃ d, 16 = m + d := ⟨16 - m, by omega⟩
  have key : ∀ d, memTo n (m + d) = memTo n m := by
    intro d
    induction d with
    | zero => rfl
    | succ d ih => rw [← Nat.add_assoc, memTo_step, ih, h _ (by omega)]; simp
  rw [← key d, ← hd]; rfl
theorem memTo_len (n m : Nat) : (memTo n m).length ≤ m := by
  have := List.length_filter_le n.testBit (List.range m)
  simpa [memTo] using this
theorem memL_len (n : Nat) : (memL n).length ≤ 16 := memTo_len n 16
theorem memL_mem {n m : Nat} (h : m ∈ memL n) : m ≤ 15 := by have := (mem_memL.1 h).1; omega

/-- what stands behind an append of one element -/
theorem Owns.pushed {W wr w1 : World} {v v' : Value} {xs : List Int} {x : Int} {o : Obj} (_h : Owns W.heap.size wr.heap.size wr v xs) (hF : Fresh W wr)
    (hown' : w1.ownsRow W.heap.size 3 1 v' (xs.length + 1) (xs.map (Value.int .i64) ++ [.int .i64 x])) (hgr : (wr.alloc o).grownBy w1 v.ownBlock) :
    Owns W.heap.size w1.heap.size w1 v' (xs ++ [x]) ∧ Fresh W w1 := by
  refine ⟨⟨by simpa using hown', fun g hg => (hown'.lt g hg).2⟩, ?_⟩
  exact (hF.alloc o).grown hgr fun k hk => (_h.blk k hk).1

theorem shr_zero {s : Int} {m : Nat} (h0 : 0 ≤ s) (h : ¬ 0 < s / 2 ^ m) : ∀ i, m ≤ i → s.toNat.testBit i = false := by
  obtain ⟨n, rfl⟩ := Int.eq_ofNat_of_zero_le h0
  intro i hi
  have hz : n / 2 ^ m = 0 := by
    have e : ((n : Int) / 2 ^ m) = ((n / 2 ^ m : Nat) : Int) := by simp
    rw [e] at h
    generalize n / 2 ^ m = q at h
    omega
  have hlt : n < 2 ^ m := by
    rcases Nat.div_eq_zero_iff.1 hz with h1 | h1
    · have := Nat.two_pow_pos m; omega
    · exact h1
  exact Nat.testBit_lt_two_pow (Nat.lt_of_lt_of_le hlt (Nat.pow_le_pow_right (by decide) hi))
theorem shr_pos {s : Int} {m : Nat} (h0 : 0 ≤ s) (h1 : s ≤ 65535) (h : 0 < s / 2 ^ m) : m < 16 := by
  obtain ⟨n, rfl⟩ := Int.eq_ofNat_of_zero_le h0
  have e : ((n : Int) / 2 ^ m) = ((n / 2 ^ m : Nat) : Int) := by simp
  rw [e] at h
  rcases Nat.lt_or_ge m 16 with h2 | h2
  · exact h2
  · exfalso
    have h3 : 2 ^ 16 ≤ 2 ^ m := Nat.pow_le_pow_right (by decide) h2
    have : n / 2 ^ m = 0 := Nat.div_eq_of_lt (by omega)
    omega
theorem and_test {s : Int} {m : Nat} (h0 : 0 ≤ s) (h1 : s ≤ 65535) : (bits .and .i64 (s / 2 ^ m) 1 == 1) = s.toNat.testBit m := by
  have := shr_le s m h0
  have e := bit_eq s m h0
  rw [Int.toNat_natCast] at e
  rw [and_one _ this.1 (by omega), e]
  cases s.toNat.testBit m <;> simp

theorem Owns.pushedAt {lo hi : Nat} {W wr w1 : World} {v v' : Value} {xs : List Int} {x : Int} {o : Obj} (_h : Owns lo hi wr v xs) (hF : Fresh W wr) (hlo : W.heap.size ≤ lo)
    (hown' : w1.ownsRow lo 3 1 v' (xs.length + 1) (xs.map (Value.int .i64) ++ [.int .i64 x])) (hgr : (wr.alloc o).grownBy w1 v.ownBlock) :
    Owns lo w1.heap.size w1 v' (xs ++ [x]) ∧ Fresh W w1 ∧ Keeps (fun k => lo ≤ k) wr w1 := by
  refine ⟨⟨by simpa using hown', fun g hg => (hown'.lt g hg).2⟩, ?_, ?_⟩
  · exact (hF.alloc o).grown hgr fun k hk => Nat.le_trans hlo (_h.blk k hk).1
  · exact Keeps.grown ((Keeps.refl _ wr).alloc o) hgr fun k hk _ => (_h.blk k hk).1

set_option maxHeartbeats 400000 in
theorem membersOf_any (s : Int) (h0 : 0 ≤ s) (h1 : s ≤ 65535) (w : World) :
    Calls Try.prog 27 #[.int .i64 s] w fun e w' => ∃ r, e = .returned r ∧ Owns w.heap.size w'.heap.size w' r ((memL s.toNat).map Int.ofNat) ∧ Fresh w w' := by
  obtain ⟨i0, hi, hz0, hz1, hz2⟩ := info_parts info_int
  go_enter Try.func27, Try.ntmps27
  go_wp2
  go_loopw [3, 4] (fun v i wr => ∃ m : Nat, m ≤ 16 ∧ i = .int .i64 m ∧ Owns w.heap.size wr.heap.size wr v ((memTo s.toNat m).map Int.ofNat) ∧ Fresh w wr) (fun _ i _ => 16 - (intOf i).toNat)
  case atStart => exact ⟨0, by omega, rfl, Owns.empty w, (Fresh.refl w).alloc _⟩
  case round =>
    obtain ⟨m, hm, rfl, hO, hF⟩ := hrel
    have hlen := memTo_len s.toNat m
    by_cases hlt : 0 < s / 2 ^ m
    · have hm' := shr_pos h0 h1 hlt
      have hT := and_test (m := m) h0 h1
      have hS := memTo_step s.toNat m
      cases hbit : s.toNat.testBit m
      · rw [hbit] at hT
        rw [hbit, if_neg (by simp), List.append_nil] at hS
        have HO : Hid (Owns w.heap.size wr.heap.size wr u3 ((memTo s.toNat (m + 1)).map Int.ofNat)) := by rw [hS]; exact hO
        clear hbit hS hO
        go_wp2
        go_roundw
        case rel => exact ⟨m + 1, by omega, by go_num, HO.out, hF⟩
        case measure => simp [intOf]; omega
      · rw [hbit] at hT
        rw [hbit, if_pos rfl] at hS
        obtain ⟨xs, hxs⟩ : ∃ xs, xs = (memTo s.toNat m).map Int.ofNat := ⟨_, rfl⟩
        have hS2 := Lib.hid (show (memTo s.toNat (m + 1)).map Int.ofNat = xs ++ [(m : Int)] by rw [hS, List.map_append, hxs]; rfl)
        have hl : xs.length ≤ m := by rw [hxs]; simpa using hlen
        rw [← hxs] at hO
        have hown := hO.1
        clear hbit hS hxs hlen
        go_wp2_with (at_builtin; refine wpList_append_own _ rfl _ _ 32 rfl w.heap.size 3 i0 (.int .i64 0) 1 8 Try.underlying32 hi hz0 hz1 hz2 rfl (by decide) _ _ _ rfl (hown.alloc _) ⟨wr.heap.size, 0, none⟩ 1 1 [.int .i64 m] rfl rfl ?c1 ?c2 ?c3 ?c4 ?c5 ?_)
        case c1 => exact one_new _ _ _
        case c2 => intro u hu; simp at hu; subst hu; rfl
        case c3 => unfold maxLen; omega
        case c4 => omega
        case c5 => have := hF.size; simp; omega
        intro v' w1 hown' hgr _
        have hP := hO.pushed hF hown' hgr
        clear hown' hgr hown hO
        go_wp2
        go_roundw
        case rel => exact ⟨m + 1, by omega, by go_num, by rw [hS2.out]; exact hP.1, hP.2⟩
        case measure => simp [intOf]; omega
    · have HX := Lib.hid (memTo_all hm (shr_zero h0 hlt))
      go_wp2
      go_ret
      refine ⟨_, rfl, ?_, hF⟩
      rw [HX.out] at hO; exact hO
end Go.Proofs.Ytipadgpgcdjflaa
