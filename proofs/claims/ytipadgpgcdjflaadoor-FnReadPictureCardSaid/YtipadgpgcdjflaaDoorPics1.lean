/- What the program and the reference answer on pictures: whether they are some; empty ones; arrows. -/
import Derived.Test.YtipadgpgcdjflaaDoorRows2
import Derived.Test.YtipadgpgcdjflaaDoorCodes
import Derived.Test.YtipadgpgcdjflaaDoorPics
namespace Go.Proofs.YtipadgpgcdjflaaDoor
open Go.RowKit

set_option maxHeartbeats 400000 in
theorem areBits_any (v : Value) (row : List Int) (n : Int) (w : World) (h : Ints w v row) :
    Calls Tryd.prog 41 #[v, .int .i64 n] w fun e w' => e = .returned (.bool (bitsB row n)) ∧ w = w' := by
  obtain ⟨a, cap, rfl⟩ := h.len
  have hb := h.bound
  go_enter Tryd.func41, Tryd.ntmps41
  go_wp2
  go_loop [9] (fun i => ∃ k : Nat, k ≤ row.length ∧ i = .int .i64 k ∧ BitsTo row k) (fun i => row.length - (intOf i).toNat)
  case atStart => exact ⟨0, by omega, rfl, fun j _ h => by omega⟩
  case round =>
    obtain ⟨k, hk, rfl, hB⟩ := hrel
    by_cases hlt : k < row.length
    · obtain ⟨b, off, cap2, heq, hcell⟩ := h.at hlt
      simp only [Value.slice.injEq, true_and] at heq; obtain ⟨rfl, rfl⟩ := heq
      have hc := hcell k hlt
      have HS := Lib.hid (fun e => hB.step hlt e)
      have HN := Lib.hid (fun e => bits_bad (n := n) hlt e)
      obtain ⟨x, hx⟩ : ∃ x, x = row[k] := ⟨_, rfl⟩
      rw [← hx] at hc HS HN
      clear hx hcell h hB
      by_cases h0 : x = 0
      · subst h0
        have HX := Lib.hid (HS.out (.inl rfl))
        go_wp2
        go_round
        case rel => exact ⟨k + 1, hlt, by go_num, HX.out⟩
        case measure => simp [intOf]; omega
      · by_cases h1 : x = 1
        · subst h1
          have HX := Lib.hid (HS.out (.inr rfl))
          clear h0
          go_wp2
          go_round
          case rel => exact ⟨k + 1, hlt, by go_num, HX.out⟩
          case measure => simp [intOf]; omega
        · have HX := Lib.hid (HN.out (by omega))
          have e0 : (x != 0) = true := by rw [bne_iff_ne]; exact h0
          have e1 : (x != 1) = true := by rw [bne_iff_ne]; exact h1
          clear h0 h1
          go_wp2
          go_ret
          exact ⟨ret_bool HX.out.symm, rfl⟩
    · have HX := Lib.hid (hB.bits (n := n) hlt)
      go_wp2
      go_ret
      exact ⟨ret_bool HX.out, rfl⟩

set_option maxHeartbeats 400000 in
theorem isPicture_any (v : Value) (p : List (List Int)) (w : World) (h : RowsR w v p) :
    Calls Tryd.prog 30 #[v] w fun e w' => e = .returned (.bool (picB p)) ∧ w = w' := by
  obtain ⟨a, cap, rfl⟩ := h.len
  have hb := h.bound
  by_cases h1 : 1 ≤ p.length
  · by_cases h5 : p.length ≤ 5
    · go_enter Tryd.func30, Tryd.ntmps30
      go_wp2
      go_loop [15] (fun i => ∃ k : Nat, k ≤ p.length ∧ i = .int .i64 k ∧ RowsTo p k) (fun i => p.length - (intOf i).toNat)
      case atStart => exact ⟨0, by omega, rfl, fun j _ h => by omega⟩
      case round =>
        obtain ⟨k, hk, rfl, hB⟩ := hrel
        by_cases hlt : k < p.length
        · obtain ⟨b, off, x1, x2, rfl, hc, hI⟩ := h.rowLen hlt
          have HS := Lib.hid (fun e => hB.step hlt e)
          have HN := Lib.hid (fun e => pic_bad hlt e)
          obtain ⟨x, hx⟩ : ∃ x, x = p[k] := ⟨_, rfl⟩
          rw [← hx] at hc HS HN hI
          clear hx h hB
          go_wp2_with fail
          refine (areBits_any _ x _ _ hI).mono ?_
          rintro e w' ⟨rfl, rfl⟩
          cases hbb : bitsB x p.length
          · have HX := Lib.hid (HN.out hbb)
            clear hbb
            go_wp2
            go_ret
            exact ⟨ret_bool HX.out.symm, rfl⟩
          · have HX := Lib.hid (HS.out hbb)
            clear hbb
            go_wp2
            go_round
            case rel => exact ⟨k + 1, hlt, by go_num, HX.out⟩
            case measure => simp [intOf]; omega
        · have HX := Lib.hid (hB.pic hlt h1 h5)
          go_wp2
          go_ret
          exact ⟨ret_bool HX.out.symm, rfl⟩
    · have HX := Lib.hid (pic_size (p := p) (by omega))
      go_enter Tryd.func30, Tryd.ntmps30
      go_wp2
      go_ret
      exact ⟨ret_bool HX.out.symm, rfl⟩
  · have HX := Lib.hid (pic_size (p := p) (by omega))
    go_enter Tryd.func30, Tryd.ntmps30
    go_wp2
    go_ret
    exact ⟨ret_bool HX.out.symm, rfl⟩

set_option maxHeartbeats 400000 in
theorem implPictureOk_any (v : Value) (p : List (List Int)) (w : World) (h : RowsR w v p) :
    Calls Tryd.prog 19 #[v] w fun e w' => e = .returned (.bool (picB p)) ∧ w = w' := by
  go_enter Tryd.func19, Tryd.ntmps19
  go_wp2_with fail
  refine (isPicture_any _ p _ h).mono ?_
  rintro e w' ⟨rfl, rfl⟩
  go_wp2
  go_ret
  exact ⟨rfl, rfl⟩

theorem pic_badLen {p : List (List Int)} {k : Nat} (hk : k < p.length) (e : ¬ p[k].length = p.length) : picB p = false :=
  pic_bad hk (by rw [Bool.eq_false_iff]; intro h; have := ((bitsB_iff _ _).1 h).2; omega)
theorem pic_badBit {p : List (List Int)} {k j : Nat} (hk : k < p.length) (hj : j < p[k].length) (e : ¬ (p[k][j] = 0 ∨ p[k][j] = 1)) : picB p = false :=
  pic_bad hk (bits_bad hj e)
theorem bits_ok {row : List Int} {n k : Nat} (h : BitsTo row k) (hk : ¬ k < row.length) (hl : row.length = n) : bitsB row n = true := by
  rw [bitsB_iff]; exact ⟨h.all hk, by omega⟩

set_option maxHeartbeats 1000000 in
theorem specPictureOk_any (v : Value) (p : List (List Int)) (w : World) (h : RowsR w v p) :
    Calls Tryd.prog 15 #[v] w fun e w' => e = .returned (.bool (picB p)) ∧ w = w' := by
  obtain ⟨a, cap, rfl⟩ := h.len
  have hb := h.bound
  go_enter Tryd.func15, Tryd.ntmps15
  go_wp2
  go_loop [3] (fun i => ∃ k : Nat, k ≤ p.length ∧ i = .int .i64 k ∧ RowsTo p k) (fun i => p.length - (intOf i).toNat)
  case atStart => exact ⟨0, by omega, rfl, fun j _ h => by omega⟩
  case round =>
    obtain ⟨k, hk, rfl, hB⟩ := hrel
    by_cases hlt : k < p.length
    · have hd : decide ((k : Int) < p.length) = true := decide_eq_true (by omega)
      obtain ⟨b, off, x1, x2, rfl, hc, hI⟩ := h.rowLen hlt
      have HS := Lib.hid (fun e => hB.step hlt e)
      have HL := Lib.hid (fun e => pic_badLen hlt e)
      obtain ⟨x, hx⟩ : ∃ x, x = p[k] := ⟨_, rfl⟩
      rw [← hx] at hc hI HS HL
      have HN := Lib.hid (show ∀ (j : Nat) (hj : j < x.length), ¬ (x[j] = 0 ∨ x[j] = 1) → picB p = false by
        subst hx; exact fun j hj e => pic_badBit hlt hj e)
      clear hx h hB
      by_cases hl : x.length = p.length
      · have hne : ((x.length : Int) != p.length) = false := by simp; omega
        have hlp := Lib.hid hl
        clear hl
        go_wp2
        go_loop [4] (fun i => ∃ j : Nat, j ≤ p.length ∧ i = .int .i64 j ∧ BitsTo x j) (fun i => p.length - (intOf i).toNat)
        case atStart => exact ⟨0, by omega, rfl, fun j _ h => by omega⟩
        case round =>
          obtain ⟨j, hj, rfl, hBB⟩ := hrel
          by_cases hjl : j < p.length
          · have hjx : j < x.length := by have := hlp.out; omega
            obtain ⟨b2, off2, cap2, heq, hcell⟩ := hI.at hjx
            simp only [Value.slice.injEq, true_and] at heq; obtain ⟨rfl, rfl⟩ := heq
            have hc2 := hcell j hjx
            have HS2 := Lib.hid (fun e => hBB.step hjx e)
            have HN2 := Lib.hid (HN.out j hjx)
            obtain ⟨y, hy⟩ : ∃ y, y = x[j] := ⟨_, rfl⟩
            rw [← hy] at hc2 HS2 HN2
            clear hy hcell hI hBB
            by_cases hbit : inB y 0 1 = true
            · have HX := Lib.hid (HS2.out (by have := (inB_iff y 0 1).1 hbit; omega))
              go_wp2_with (go_at_call 23; refine (l1In_any _ _ _ _).mono ?_; rintro e w' ⟨rfl, rfl⟩)
              go_round
              case rel => exact ⟨j + 1, hjl, by go_num, HX.out⟩
              case measure => simp [intOf]; omega
            · have hbit : inB y 0 1 = false := by simpa using hbit
              have HX := Lib.hid (HN2.out (by have := (inB_false y 0 1).1 hbit; omega))
              go_wp2_with (go_at_call 23; refine (l1In_any _ _ _ _).mono ?_; rintro e w' ⟨rfl, rfl⟩)
              go_ret
              exact ⟨ret_bool HX.out.symm, rfl⟩
          · have HX := Lib.hid (HS.out (bits_ok hBB (by have := hlp.out; omega) hlp.out))
            go_wp2
            go_round
            case rel => exact ⟨k + 1, hlt, by go_num, HX.out⟩
            case measure => simp [intOf]; omega
      · have hne : ((x.length : Int) != p.length) = true := by rw [bne_iff_ne]; omega
        have HX := Lib.hid (HL.out hl)
        clear hl
        go_wp2
        go_ret
        exact ⟨ret_bool HX.out.symm, rfl⟩
    · have HX := Lib.hid (hB.inB hlt)
      go_wp2_with (go_at_call 23; refine (l1In_any _ _ _ _).mono ?_; rintro e w' ⟨rfl, rfl⟩)
      go_ret
      exact ⟨ret_bool HX.out, rfl⟩


/-- what make leaves, with its bounds -/
theorem Owns.madeAt {w w' : World} {n : Nat} {v : Value} (h : w'.ownsRow w.heap.size 3 1 v n (madeCells #[Value.int .i64 0] n).toList) : Owns w.heap.size w'.heap.size w' v (List.replicate n 0) :=
  Owns.made (by simpa using h)
set_option maxHeartbeats 400000 in
theorem emptyPicture_any (n : Nat) (hn : n ≤ 1048576) (w : World) :
    Calls Tryd.prog 39 #[.int .i64 (n : Int)] w fun e w' => ∃ r, e = .returned r ∧ OwnsR w.heap.size w'.heap.size w' r (List.replicate n (List.replicate n 0)) ∧ Fresh w w' := by
  obtain ⟨i0, hi, hz0, hz1, hz2⟩ := info_parts info_int
  have hby : i0.bytes * n ≤ 281474976710656 := by rw [hz2]; omega
  clear hz2
  go_enter Tryd.func39, Tryd.ntmps39
  go_wp2
  go_loopw [3, 6] (fun v i wr => ∃ k : Nat, k ≤ n ∧ i = .int .i64 k ∧ OwnsR w.heap.size wr.heap.size wr v (List.replicate k (List.replicate n 0)) ∧ Fresh w wr) (fun _ i _ => n - (intOf i).toNat)
  case atStart => exact ⟨0, by omega, rfl, OwnsR.empty w, (Fresh.refl w).alloc _⟩
  case round =>
    obtain ⟨k, hk, rfl, hO, hF⟩ := hrel
    by_cases hlt : k < n
    · go_wp2_with (at_make; refine wpList_make_full _ rfl _ _ 38 rfl wr.heap.size 3 i0 (.int .i64 0) 1 Tryd.underlying38 hi hz0 hz1 .i64 .i64 _ _ n rfl rfl rfl rfl hby ?c2 ?c3 ?_)
      case c2 => unfold maxLen; omega
      case c3 => exact Nat.le_refl _
      intro w1 hown hgr
      have hF1 : Fresh wr w1 := (Fresh.refl wr).grown hgr (fun k hk => by cases hk)
      have hu := Owns.madeAt hown
      have hO1 := hO.fresh hF1
      have hs := hF.size
      have hs1 := hF1.size
      have HR := Lib.hid (show List.replicate k (List.replicate n (0 : Int)) ++ [List.replicate n 0] = List.replicate (k + 1) (List.replicate n 0) by rw [List.replicate_succ'])
      obtain ⟨rows, hrows⟩ : ∃ rows, rows = List.replicate k (List.replicate n (0 : Int)) := ⟨_, rfl⟩
      obtain ⟨z, hz⟩ : ∃ z, z = List.replicate n (0 : Int) := ⟨_, rfl⟩
      have hrl : rows.length = k := by rw [hrows]; simp
      rw [← hrows] at hO1
      rw [← hrows, ← hz] at HR
      rw [← hz] at hu
      clear hown hgr hrows hO
      have hA := Lib.hid ((hu.fresh ((Fresh.refl w1).alloc (Obj.cells #[.slice (some ⟨wr.heap.size, 0, none⟩) n n] 38))).wider hs (hi' := (w1.alloc (Obj.cells #[.slice (some ⟨wr.heap.size, 0, none⟩) n n] 38)).heap.size) (by simp))
      have hB := Lib.hid (hO1.fresh ((Fresh.refl w1).alloc (Obj.cells #[.slice (some ⟨wr.heap.size, 0, none⟩) n n] 38)))
      clear hu hO1
      go_wp2_with (at_builtin; refine wpList_append_row _ rfl _ _ rfl w.heap.size _ _ rows rfl hB.out ?_ ⟨w1.heap.size, 0, none⟩ 1 (.slice (some ⟨wr.heap.size, 0, none⟩) n n) z rfl ?_ hA.out ?_ ?_ ?_)
      · simp; omega
      · exact one_new w1 _ _ 0 _ rfl
      · intro g hg; simp [Value.ownBlock] at hg; omega
      · omega
      intro v' w2 hO2 hK2
      have hF2 : Fresh w w2 := ((hF.trans hF1).alloc _).keepsTrans hK2 (fun i hi => (hB.out.blk i hi).1)
      clear hA hB hK2
      go_wp2
      go_roundw
      case rel => exact ⟨k + 1, hlt, by go_num, by rw [hz] at HR; rw [← HR.out]; exact hO2, hF2⟩
      case measure => simp [intOf]; omega
    · go_wp2
      go_ret
      obtain rfl : k = n := by omega
      exact ⟨_, rfl, hO, hF⟩
end Go.Proofs.YtipadgpgcdjflaaDoor
