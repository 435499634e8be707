/- What the program's and the reference's functions on codes answer: members, members of members, how deep a set is. -/
import Derived.Test.YtipadgpgcdjflaaCodes2
namespace Go.Proofs.Ytipadgpgcdjflaa
open Go.RowKit

theorem memsI_in {s : Int} (h : isCodeB s = true) : memsI s = (memL s.toNat).map Int.ofNat := by simp [memsI, h]
theorem memsI_out {s : Int} (h : isCodeB s = false) : memsI s = [] := by simp [memsI, h]
theorem memsI_len (s : Int) : (memsI s).length ≤ 16 := by
  unfold memsI; split
  · simpa using memL_len s.toNat
  · simp
theorem memsI_mem {s x : Int} (h : x ∈ memsI s) : 0 ≤ x ∧ x ≤ 15 := by
  unfold memsI at h; split at h
  · obtain ⟨m, hm, rfl⟩ := List.mem_map.1 h
    have := memL_mem hm
    simp; omega
  · simp at h


theorem memsTo_step (s : Int) (m : Nat) (hm : m < 16) (h : isCodeB s = true) : memTo s.toNat (m + 1) = memTo s.toNat m ++ if hasB s m then [m] else [] := by
  rw [memTo_step, hasB_in h ((inB_iff _ 0 15).2 (by omega)), Int.toNat_natCast]
/-- what spec.MembersOf has gathered -/
def gathered (s : Int) (m : Nat) : List Int := if isCodeB s then (memTo s.toNat m).map Int.ofNat else []
theorem gathered_step (s : Int) (m : Nat) (hm : m < 16) : gathered s (m + 1) = gathered s m ++ if hasB s m then [(m : Int)] else [] := by
  unfold gathered
  cases h : isCodeB s
  · rw [if_neg (by simp), if_neg (by simp), hasB_out (by simp [h])]; simp
  · rw [if_pos rfl, if_pos rfl, memsTo_step s m hm h]
    cases hasB s m <;> simp
theorem gathered_len (s : Int) (m : Nat) : (gathered s m).length ≤ m := by
  unfold gathered; split
  · simpa using memTo_len s.toNat m
  · simp
theorem gathered_all (s : Int) : gathered s 16 = memsI s := rfl

set_option maxHeartbeats 400000 in
theorem specMembersOf_any (s : Int) (w : World) :
    Calls Try.prog 16 #[.int .i64 s] w fun e w' => ∃ r, e = .returned r ∧ Owns w.heap.size w'.heap.size w' r (memsI s) ∧ Fresh w w' := by
  obtain ⟨i0, hi, hz0, hz1, hz2⟩ := info_parts info_int
  go_enter Try.func16, Try.ntmps16
  go_wp2
  go_loopw [3, 4] (fun v i wr => ∃ m : Nat, m ≤ 16 ∧ i = .int .i64 m ∧ Owns w.heap.size wr.heap.size wr v (gathered s m) ∧ Fresh w wr) (fun _ i _ => 16 - (intOf i).toNat)
  case atStart => exact ⟨0, by omega, rfl, (show gathered s 0 = [] by unfold gathered; split <;> rfl) ▸ Owns.empty w, (Fresh.refl w).alloc _⟩
  case round =>
    obtain ⟨m, hm, rfl, hO, hF⟩ := hrel
    have hlen := gathered_len s m
    by_cases hlt : m < 16
    · have hS := gathered_step s m hlt
      obtain ⟨xs, hxs⟩ : ∃ xs, xs = gathered s m := ⟨_, rfl⟩
      rw [← hxs] at hO hS hlen
      clear hxs
      cases hbit : hasB s m
      · rw [hbit, if_neg (by simp), List.append_nil] at hS
        have HO : Hid (Owns w.heap.size wr.heap.size wr u3 (gathered s (m + 1))) := by rw [hS]; exact hO
        clear hS hO
        go_wp2_with (go_at_call 26; refine (specHas_any _ _ _).mono ?_; rintro e w' ⟨rfl, rfl⟩)
        go_roundw
        case rel => exact ⟨m + 1, by omega, by go_num, HO.out, hF⟩
        case measure => simp [intOf]; omega
      · rw [hbit, if_pos rfl] at hS
        have hS2 := Lib.hid hS
        have hown := hO.1
        clear hS
        go_wp2_with (first | (go_at_call 26; refine (specHas_any _ _ _).mono ?_; rintro e w' ⟨rfl, rfl⟩) | (at_builtin; refine wpList_append_own _ rfl _ _ 32 rfl w.heap.size 3 i0 (.int .i64 0) 1 8 Try.underlying32 hi hz0 hz1 hz2 rfl (by decide) _ _ _ rfl (hown.alloc _) ⟨wr.heap.size, 0, none⟩ 1 1 [.int .i64 m] rfl rfl ?c1 ?c2 ?c3 ?c4 ?c5 ?_))
        case c1 => exact one_new _ _ _
        case c2 => intro u hu; simp at hu; subst hu; rfl
        case c3 => unfold maxLen; omega
        case c4 => omega
        case c5 => have := hF.size; simp; omega
        intro v' w1 hown' hgr _
        have hP := hO.pushed hF hown' hgr
        clear hown' hgr hown hO
        go_wp2
        go_roundw
        case rel => exact ⟨m + 1, by omega, by go_num, by rw [hS2.out]; exact hP.1, hP.2⟩
        case measure => simp [intOf]; omega
    · obtain rfl : m = 16 := by omega
      go_wp2
      go_ret
      exact ⟨_, rfl, (gathered_all s) ▸ hO, hF⟩

/-! ### members of members -/
def orTo (l : List Nat) (k : Nat) : Nat := (l.take k).foldl (fun s m => s ||| m) 0
theorem orTo_step (l : List Nat) (k : Nat) (hk : k < l.length) : orTo l (k + 1) = orTo l k ||| l[k] := by
  rw [orTo, orTo, List.take_succ_eq_append_getElem hk, List.foldl_append]; rfl
theorem orTo_lt (n k : Nat) : orTo (memL n) k < 65536 := foldl_or_lt _ 0 (by omega) fun m hm => memL_mem (List.mem_of_mem_take hm)
theorem orTo_all (n k : Nat) (hk : ¬ k < (memL n).length) : orTo (memL n) k = allN n := by
  rw [orTo, List.take_of_length_le (by omega)]; rfl
theorem or_nat (a b : Nat) (ha : a < 65536) (hb : b < 65536) : bits .or .i64 (a : Int) (b : Int) = ((a ||| b : Nat) : Int) := or_i64 a b (by omega) (by omega)
theorem memL_get_lt (n k : Nat) (hk : k < (memL n).length) : (memL n)[k] < 16 := by have := memL_mem (List.getElem_mem hk); omega
theorem mapNat_get (l : List Nat) (k : Nat) (hk : k < (l.map Int.ofNat).length) : (l.map Int.ofNat)[k] = ((l[k]'(by simpa using hk) : Nat) : Int) := by simp

/-- a list of naturals that lies in memory as ints: an element -/
theorem Owns.natAt {lo hi : Nat} {w : World} {v : Value} {l : List Nat} (h : Owns lo hi w v (l.map Int.ofNat)) {k : Nat} (hk : k < l.length) :
    ∃ b off cap, v = .slice (some ⟨b, off, none⟩) l.length cap ∧ w.cell? ⟨b, off + k, none⟩ = some (.int .i64 ((l[k] : Nat) : Int)) := by
  obtain ⟨b, off, cap, hv, hc⟩ := h.ints.at (k := k) (by simpa using hk)
  refine ⟨b, off, cap, by simpa using hv, ?_⟩
  have := hc k (by simpa using hk)
  rwa [mapNat_get] at this
theorem Owns.natLen {lo hi : Nat} {w : World} {v : Value} {l : List Nat} (h : Owns lo hi w v (l.map Int.ofNat)) : ∃ a cap, v = .slice a l.length cap := by
  obtain ⟨a, cap, hv⟩ := h.ints.len
  exact ⟨a, cap, by simpa using hv⟩




end Go.Proofs.Ytipadgpgcdjflaa
