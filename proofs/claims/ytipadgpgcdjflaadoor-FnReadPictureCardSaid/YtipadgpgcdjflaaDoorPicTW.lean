/- The texts of pictures: walks. -/
import Derived.Test.YtipadgpgcdjflaaDoorStrD
import Derived.Test.YtipadgpgcdjflaaDoorPicT
namespace Go.Proofs.YtipadgpgcdjflaaDoor
open Go.RowKit

theorem dec_dig (v : Nat) (hv : v < 10) : Lib.decDigits v = [dig v] := by
  rw [Lib.decDigits, dif_pos hv]; rfl
theorem itoa_any (v : Nat) (hv : v < 10) (w : World) :
    Calls Tryd.prog 43 #[.int .i64 (v : Int)] w fun e w' => e = .returned (.string (strV [dig v])) ∧ w = w' := by
  have h := Tryd.strconv_Itoa_small v (by omega) w
  rw [dec_dig v hv] at h
  exact h.mono fun e w' ⟨h1, h2⟩ => ⟨h1, h2.symm⟩
theorem Owns.natAt {lo hi : Nat} {w : World} {v : Value} {l : List Nat} (h : Owns lo hi w v (l.map Int.ofNat)) {k : Nat} (hk : k < l.length) :
    ∃ b off cap, v = .slice (some ⟨b, off, none⟩) l.length cap ∧ w.cell? ⟨b, off + k, none⟩ = some (.int .i64 ((l[k] : Nat) : Int)) := by
  obtain ⟨b, off, cap, hv, hc⟩ := h.ints.at (k := k) (by simpa using hk)
  refine ⟨b, off, cap, by simpa using hv, ?_⟩
  have := hc k (by simpa using hk)
  rw [List.getElem_map] at this
  exact this
theorem Owns.natLen {lo hi : Nat} {w : World} {v : Value} {l : List Nat} (h : Owns lo hi w v (l.map Int.ofNat)) : ∃ a cap, v = .slice a l.length cap := by
  obtain ⟨a, cap, hv⟩ := h.ints.len
  exact ⟨a, cap, by simpa using hv⟩
theorem arrowsL_lt {p : List (List Int)} (h : picB p = true) {i : Nat} (hi : i < p.length) : ∀ v ∈ arrowsL p i, v < 5 := by
  intro v hv
  have := ((arrowsL_mem h hi).1 hv).1
  have := ((picB_iff p).1 h).2.1
  omega

set_option maxHeartbeats 1000000 in
theorem pictureText_any (v : Value) (p : List (List Int)) (w : World) (h : RowsR w v p) (hp : picB p = true) :
    Calls Tryd.prog 31 #[v] w fun e w' => e = .returned (.string (strV (picText p))) ∧ Fresh w w' := by
  obtain ⟨pa, pc, rfl⟩ := h.len
  have hn1 := ((picB_iff p).1 hp).1
  have hn5 := ((picB_iff p).1 hp).2.1
  have HP := Lib.hid hp
  have HLT := Lib.hid (fun i (hi : i < p.length) => arrowsL_lt hp hi)
  have HPL := Lib.hid (fun i (hi : i < p.length) => partL_len hp hi)
  have HRL := Lib.hid (fun i (hi : i < p.length) => pic_row hp hi)
  have HTL := Lib.hid (textTo_len hp p.length (Nat.le_refl _))
  have HPT := Lib.hid (show picText p = Lib.join (partsTo p p.length) [47] from rfl)
  clear hp
  have HE := Lib.hid (OwnsT.empty w)
  go_enter Tryd.func31, Tryd.ntmps31
  go_wp2
  go_loopw [3, 11] (fun v i wr => ∃ k : Nat, k ≤ p.length ∧ i = .int .i64 k ∧ OwnsT w.heap.size wr.heap.size wr v (partsTo p k) ∧ OffT v 0 0 ∧ Fresh w wr) (fun _ i _ => p.length - (intOf i).toNat)
  case atStart => exact ⟨0, by omega, rfl, HE.out, ⟨by simp, fun g hg => by omega⟩, (Fresh.refl w).alloc _⟩
  case round =>
    obtain ⟨k, hk, rfl, hT, hOff, hF⟩ := hrel
    by_cases hlt : k < p.length
    · have hlt1 := HLT.out k hlt
      have hpl := HPL.out k hlt
      have HPD := Lib.hid (show partL p k = digs (arrowsL p k) from rfl)
      have HAO := Lib.hid (arrowsOf_any _ p k wr (h.fresh hF) hlt (by rw [HRL.out k hlt]; omega))
      obtain ⟨l, hl⟩ : ∃ l, l = arrowsL p k := ⟨_, rfl⟩
      have hll : l.length ≤ 5 := by rw [HPD.out, digs_len, ← hl] at hpl; exact hpl
      rw [← hl] at hlt1 HPD HAO
      have HLT1 := Lib.hid hlt1
      clear hl hlt1 hpl
      go_wp2_with fail
      refine HAO.out.mono ?_
      rintro e w1 ⟨r, rfl, hO, hF1⟩
      obtain ⟨a, cap, rfl⟩ := hO.natLen
      have hT1 := (hT.fresh hF1).wider hF1.size
      have hF2 := hF.trans hF1
      clear hT hF hF1 HAO
      go_wp2
      go_loop [5, 18] (fun s i => ∃ j : Nat, j ≤ l.length ∧ i = .int .i64 j ∧ s = .string (strV (digs (l.take j)))) (fun _ i => l.length - (intOf i).toNat)
      case atStart => exact ⟨0, by omega, rfl, rfl⟩
      case round =>
        obtain ⟨j, hj, rfl, rfl⟩ := hrel
        have hsz : (strV (digs (l.take j))).size ≤ 5 := by rw [strV_size, digs_len, List.length_take]; omega
        by_cases hjl : j < l.length
        · obtain ⟨b, off, cap2, heq, hc⟩ := hO.natAt hjl
          simp only [Value.slice.injEq, true_and] at heq; obtain ⟨rfl, rfl⟩ := heq
          have H3 := Lib.hid (digs_take l j hjl)
          have g1 := HLT1.out _ (List.getElem_mem hjl)
          obtain ⟨x, hx⟩ : ∃ x, x = l[j] := ⟨_, rfl⟩
          rw [← hx] at hc H3 g1
          obtain ⟨s, hs⟩ : ∃ s, s = digs (l.take j) := ⟨_, rfl⟩
          rw [← hs] at hsz H3 ⊢
          have hz2 : (strV [dig x]).size ≤ 1 := Nat.le_refl 1
          clear hx hs
          go_wp2_with fail
          refine (itoa_any x (by omega) _).mono ?_
          rintro e w2 ⟨rfl, rfl⟩
          go_wp2
          go_round
          case rel => exact ⟨j + 1, by omega, by go_num, by rw [H3.out, strV_app]⟩
          case measure => simp [intOf]; omega
        · have H3 := Lib.hid (show digs (l.take j) = partL p k by rw [List.take_of_length_le (by omega), HPD.out])
          have HPS := Lib.hid (partsTo_step p k)
          have hpl2 := partsTo_len p k
          rw [H3.out] at hsz ⊢
          obtain ⟨xs, hxs⟩ : ∃ xs, xs = partsTo p k := ⟨_, rfl⟩
          rw [← hxs] at hT1 HPS hpl2
          obtain ⟨s, hs⟩ : ∃ s, s = partL p k := ⟨_, rfl⟩
          rw [← hs] at HPS hsz ⊢
          have hpl3 : xs.length ≤ 5 := by omega
          clear hxs hs hpl2
          go_wp2_with (at_builtin; refine wpList_append_str w1 w xs (strV s) _ 0 0 rfl _ _ rfl _ rfl hT1 hF2 hOff (Nat.zero_le _) rfl (by omega) ?_)
          intro v8 w8 hT8 hF8 hOff8 hK8
          clear hT1 hF2 hOff hK8
          go_wp2
          go_roundw
          case rel => exact ⟨k + 1, by omega, by go_num, by rw [HPS.out]; exact hT8, hOff8, hF8⟩
          case measure => simp [intOf]; omega
    · have hke : k = p.length := by omega
      subst hke
      have hpl2 := partsTo_len p p.length
      have hn0 : 0 < (partsTo p p.length).length := by omega
      obtain ⟨g, tc, rfl, hg1, hg2, hg3⟩ := hT.cells hn0
      have HJ := Lib.hid (join_texts g tc (partsTo p p.length) wr hg3 hg1 hg2 (by omega) (by have := HTL.out; rw [← HPT.out, picText]; omega))
      rw [hpl2] at HJ ⊢
      rw [← HPT.out] at HJ
      clear hpl2 hn0 hT hOff hg1 hg2 hg3
      go_wp2_with fail
      refine HJ.out.mono ?_
      rintro e w2 ⟨rfl, hF2⟩
      go_wp2
      go_ret
      exact ⟨rfl, hF.trans hF2⟩
set_option maxHeartbeats 400000 in
theorem implPictureText_any (v : Value) (p : List (List Int)) (w : World) (h : RowsR w v p) :
    Calls Tryd.prog 13 #[v] w fun e w' => e = .returned (.string (strV (picI p))) ∧ Fresh w w' := by
  cases hp : picB p
  · have HX := Lib.hid (picI_no hp)
    go_enter Tryd.func13, Tryd.ntmps13
    go_wp2_with fail
    refine (isPicture_any _ p _ h).mono ?_
    rintro e w' ⟨rfl, rfl⟩
    rw [hp]
    clear hp
    go_wp2
    go_ret
    exact ⟨by rw [HX.out]; rfl, Fresh.refl _⟩
  · have HX := Lib.hid (picI_in hp)
    have HT := Lib.hid (pictureText_any v p w h hp)
    go_enter Tryd.func13, Tryd.ntmps13
    go_wp2_with fail
    refine (isPicture_any _ p _ h).mono ?_
    rintro e w' ⟨rfl, rfl⟩
    rw [hp]
    clear hp
    go_wp2_with fail
    refine HT.out.mono ?_
    rintro e w1 ⟨rfl, hF⟩
    go_wp2
    go_ret
    exact ⟨by rw [HX.out]; rfl, hF⟩
end Go.Proofs.YtipadgpgcdjflaaDoor
