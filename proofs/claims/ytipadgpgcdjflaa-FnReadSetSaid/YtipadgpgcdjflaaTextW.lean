/- The texts of sets: walks. -/
import Derived.Test.YtipadgpgcdjflaaStrM
import Derived.Test.YtipadgpgcdjflaaCodes4
namespace Go.Proofs.Ytipadgpgcdjflaa
open Go.RowKit

/-- the first k texts -/
def textsTo (l : List Nat) (k : Nat) : List (List UInt8) := (l.map textL).take k
theorem textsTo_step (l : List Nat) (k : Nat) (h : k < l.length) : textsTo l (k + 1) = textsTo l k ++ [textL l[k]] := by
  rw [textsTo, textsTo, List.take_succ_eq_append_getElem (by simpa using h), List.getElem_map]
theorem textsTo_all (l : List Nat) (k : Nat) (h : ¬ k < l.length) : textsTo l k = l.map textL := List.take_of_length_le (by simpa using h)
theorem textsTo_len (l : List Nat) (k : Nat) : (textsTo l k).length ≤ k := by rw [textsTo, List.length_take]; omega

theorem str_braces (l : List UInt8) : Ending.returned (Value.string (⟨#[123]⟩ ++ strV l ++ ⟨#[125]⟩)) = Ending.returned (Value.string (strV (123 :: (l ++ [125])))) := by
  congr 2
theorem join_texts (g tc : Nat) (ls : List (List UInt8)) (w : World) (hc : ∀ (j : Nat) x, (ls.map strV)[j]? = some x → w.cell? ⟨g, 0 + j, none⟩ = some (.string x)) (hg : g < w.heap.size) (hcap : ls.length ≤ tc) (hn : ls.length ≤ 1048576) (hlen : (Lib.join ls [44]).length ≤ 1048576) :
    Calls Try.prog 28 #[.slice (some ⟨g, 0, none⟩) ls.length tc, .string ⟨#[44]⟩] w fun e w' => e = .returned (.string (strV (Lib.join ls [44]))) ∧ Fresh w w' := by
  have e1 : (ls.map strV).map (fun x => x.data.toList) = ls := by rw [List.map_map]; exact (List.map_congr_left fun x _ => rfl).trans (List.map_id _)
  have h := Try.strings_Join g 0 tc (ls.map strV) ⟨#[44]⟩ w hc hg (by simp; omega) (by simpa using hcap) (by rw [e1]; exact Nat.le_trans hlen (by omega))
  rw [e1, List.length_map] at h
  exact h
set_option maxHeartbeats 1000000 in
theorem setText_any (K : Nat) : ∀ (s : Int) (_ : 0 ≤ s) (_ : s ≤ 65535) (_ : s < K) (w : World),
    Calls Try.prog 18 #[.int .i64 s] w fun e w' => e = .returned (.string (strV (textL s.toNat))) ∧ Fresh w w' := by
  induction K with
  | zero =>
    intro s h0 h1 h2 w
    exact absurd h2 (by omega)
  | succ K ih =>
    intro s h0 h1 hK w
    have IH := Lib.hid ih
    clear ih
    have hlen := memL_len s.toNat
    have HTX := Lib.hid (textL_eq s.toNat)
    have HSM := Lib.hid (texts_len s.toNat (memL s.toNat).length)
    have hg := memL_get_lt s.toNat
    have hg2 := memL_get_mem s.toNat
    have hm := fun w => membersOf_any s h0 h1 w
    obtain ⟨l, hl⟩ : ∃ l, l = memL s.toNat := ⟨_, rfl⟩
    rw [← hl] at hlen HTX HSM hg hm hg2
    clear hl
    have HG := Lib.hid hg
    have HG2 := Lib.hid hg2
    have HM := Lib.hid hm
    have HE := Lib.hid (OwnsT.empty w)
    have hF0 : Fresh w (w.alloc (Obj.cells #[] 9)) := (Fresh.refl w).alloc _
    clear hg hm hg2
    go_enter Try.func18, Try.ntmps18
    go_wp2_with fail
    refine (HM.out _).mono ?_
    rintro e w1 ⟨r, rfl, hO, hF⟩
    have hT := (HE.out.fresh hF).wider hF.size
    have hF1 := hF0.trans hF
    have hO1 := hO
    obtain ⟨hi, hhi⟩ : ∃ hi, hi = w1.heap.size := ⟨_, rfl⟩
    obtain ⟨lo, hlo⟩ : ∃ lo, lo = (w.alloc (Obj.cells #[] 9)).heap.size := ⟨_, rfl⟩
    rw [← hlo, ← hhi] at hO1
    have hloe : lo = w.heap.size + 1 := by rw [hlo]; simp
    have hOff0 : OffT (.slice (some ⟨w.heap.size, 0, none⟩) 0 0) lo hi := ⟨by simp, fun g hg => by simp [Value.ownBlock] at hg; omega⟩
    have hle : hi ≤ w1.heap.size := by omega
    obtain ⟨a, cap, rfl⟩ := hO.natLen
    clear HE hF0 hF HM hO hlo hloe hhi
    go_wp2
    go_loopw [3, 10] (fun v i wr => ∃ k : Nat, k ≤ l.length ∧ i = .int .i64 k ∧ OwnsT w.heap.size wr.heap.size wr v (textsTo l k) ∧ OffT v lo hi ∧ Fresh w wr ∧ hi ≤ wr.heap.size ∧ Owns lo hi wr (.slice a l.length cap) (l.map Int.ofNat)) (fun _ i _ => l.length - (intOf i).toNat)
    case atStart => exact ⟨0, by omega, rfl, hT, hOff0, hF1, hle, hO1⟩
    case round =>
      clear hT hF1 hOff0 hO1 hle
      obtain ⟨k, hk, rfl, hT, hOff, hF1, hhi2, hO1⟩ := hrel
      have hTL := textsTo_len l k
      by_cases hlt : k < l.length
      · obtain ⟨b, off, cap2, heq, hc⟩ := hO1.natAt hlt
        simp only [Value.slice.injEq, true_and] at heq; obtain ⟨rfl, rfl⟩ := heq
        have H3 := Lib.hid (textsTo_step l k hlt)
        have g1 := HG.out k hlt
        have g2 := HG2.out k hlt
        obtain ⟨x, hx⟩ : ∃ x, x = l[k] := ⟨_, rfl⟩
        rw [← hx] at hc H3 g1 g2
        clear hx
        obtain ⟨xs, hxs⟩ : ∃ xs, xs = textsTo l k := ⟨_, rfl⟩
        rw [← hxs] at hT H3 hTL
        clear hxs
        go_wp2_with fail
        refine (IH.out (x : Int) (by omega) (by omega) (by omega) _).mono ?_
        rintro e w2 ⟨rfl, hF3⟩
        rw [Int.toNat_natCast]
        have hT2 := (hT.fresh hF3).wider hF3.size
        have hF4 := hF1.trans hF3
        have hO2 := hO1.fresh hF3
        have hhi3 : hi ≤ w2.heap.size := by have := hF3.size; omega
        clear hT hF1 hF3 hc hO1 hhi2
        go_wp2_with (at_builtin; refine wpList_append_str w2 w xs (strV (textL x)) _ lo hi rfl _ _ rfl _ rfl hT2 hF4 hOff hhi3 rfl (by omega) ?_)
        intro v8 w8 hT8 hF8 hOff8 hK8
        have hO8 := hO2.keeps hK8 (fun g h1 h2 h3 => h3 ⟨h1, h2⟩)
        have hhi8 : hi ≤ w8.heap.size := by have := hK8.size; omega
        clear hT2 hF4 hOff hhi3 hO2 hK8
        go_wp2
        go_roundw
        case rel => exact ⟨k + 1, by omega, by go_num, by rw [H3.out]; exact hT8, hOff8, hF8, hhi8, hO8⟩
        case measure => simp [intOf]; omega
      · have HL := Lib.hid (textsTo_all l k hlt)
        rw [HL.out] at hT
        by_cases h0l : l.length = 0
        · have hl0 : l = [] := List.length_eq_zero_iff.1 h0l
          subst hl0
          obtain ⟨ta, tc, rfl⟩ := hT.len
          clear HL
          go_wp2_with fail
          refine (Try.strings_Join_none _ _ _ _).mono ?_
          rintro e w2 ⟨rfl, rfl⟩
          go_wp2
          go_ret
          refine ⟨?_, hF1⟩
          rw [HTX.out]; rfl
        · obtain ⟨g, tc, rfl, hg1, hg2, hg3⟩ := hT.cells (by simp; omega)
          rw [List.length_map]
          have hTB := HSM.out
          rw [List.take_of_length_le (by simp)] at hTB
          have HJ := Lib.hid (join_texts g tc (l.map textL) wr hg3 hg1 hg2 (by simp; omega) (by omega))
          rw [List.length_map] at HJ
          go_wp2_with fail
          refine HJ.out.mono ?_
          rintro e w2 ⟨rfl, hF2⟩
          obtain ⟨jt, hjt⟩ : ∃ jt, jt = Lib.join (l.map textL) [44] := ⟨_, rfl⟩
          have HJT := Lib.hid hjt
          rw [← hjt] at hTB ⊢
          have hsz : (strV jt).size ≤ 500 := by have := hTB; exact this
          clear hjt
          go_wp2
          go_ret
          refine ⟨?_, hF1.trans hF2⟩
          rw [HTX.out, tailT, ← HJT.out]; exact str_braces jt
/-- what SetText answers -/
def textI (s : Int) : List UInt8 := if isCodeB s then textL s.toNat else []
theorem textI_in {s : Int} (h : isCodeB s = true) : textI s = textL s.toNat := by simp [textI, h]
theorem textI_no {s : Int} (h : isCodeB s = false) : textI s = [] := by simp [textI, h]
theorem textI_len (s : Int) : (textI s).length ≤ 502 := by
  cases h : isCodeB s
  · rw [textI_no h]; simp
  · rw [textI_in h]; exact textL_len _
set_option maxHeartbeats 400000 in
theorem implSetText_any (s : Int) (w : World) :
    Calls Try.prog 8 #[.int .i64 s] w fun e w' => e = .returned (.string (strV (textI s))) ∧ Fresh w w' := by
  cases hs : isCodeB s
  · have HX := Lib.hid (textI_no hs)
    go_enter Try.func8, Try.ntmps8
    go_wp2_with fail
    refine (isCode_any _ _).mono ?_
    rintro e w' ⟨rfl, rfl⟩
    rw [hs]
    clear hs
    go_wp2
    go_ret
    exact ⟨by rw [HX.out]; rfl, Fresh.refl _⟩
  · have HX := Lib.hid (textI_in hs)
    obtain ⟨h0, h1⟩ := (isCodeB_iff s).1 hs
    go_enter Try.func8, Try.ntmps8
    go_wp2_with fail
    refine (isCode_any _ _).mono ?_
    rintro e w' ⟨rfl, rfl⟩
    rw [hs]
    clear hs
    go_wp2_with fail
    refine (setText_any 65536 s h0 h1 (by omega) _).mono ?_
    rintro e w1 ⟨rfl, hF⟩
    go_wp2
    go_ret
    exact ⟨by rw [HX.out]; rfl, hF⟩
/-- the text behind the first k members -/
def outTo (l : List Nat) (k : Nat) : List UInt8 := 123 :: Lib.join ((l.map textL).take k) [44]
theorem outTo_zero (l : List Nat) : outTo l 0 = [123] := rfl
theorem join_snoc (ls : List (List UInt8)) (x : List UInt8) : Lib.join (ls ++ [x]) [44] = if ls = [] then x else Lib.join ls [44] ++ [44] ++ x := by
  cases ls with
  | nil => simp [Lib.join_one]
  | cons y r => simp [Lib.join_cons, Lib.joinTail, List.append_assoc]
theorem outTo_first (l : List Nat) (h : 0 < l.length) : outTo l 1 = outTo l 0 ++ textL l[0] := by
  rw [outTo, List.take_succ_eq_append_getElem (by simpa using h), List.getElem_map, join_snoc]
  simp [outTo, Lib.join_nil]
theorem outTo_step (l : List Nat) (k : Nat) (hk : 0 < k) (h : k < l.length) : outTo l (k + 1) = outTo l k ++ [44] ++ textL l[k] := by
  rw [outTo, List.take_succ_eq_append_getElem (by simpa using h), List.getElem_map, join_snoc, if_neg, outTo]
  · simp
  · intro e
    have := congrArg List.length e
    rw [List.length_take, List.length_map, List.length_nil] at this; omega
theorem outTo_all (l : List Nat) (k : Nat) (h : ¬ k < l.length) : outTo l k ++ [125] = 123 :: tailT l := by
  rw [outTo, List.take_of_length_le (by simpa using h), tailT]; rfl
theorem outTo_len (n k : Nat) : (outTo (memL n) k).length ≤ 501 := by
  have := texts_len n k
  simp [outTo]; omega
theorem strV_app (a b : List UInt8) : strV a ++ strV b = strV (a ++ b) := by
  apply ByteArray.ext
  simp [strV]
theorem strV_size (a : List UInt8) : (strV a).size = a.length := rfl
set_option maxHeartbeats 1000000 in
theorem specSetTextN_any (K : Nat) : ∀ (s : Int) (_ : 0 ≤ s) (_ : s ≤ 65535) (_ : s < K) (w : World),
    Calls Try.prog 7 #[.int .i64 s] w fun e w' => e = .returned (.string (strV (textL s.toNat))) ∧ Fresh w w' := by
  induction K with
  | zero =>
    intro s h0 h1 h2 w
    exact absurd h2 (by omega)
  | succ K ih =>
    intro s h0 h1 hK w
    have IH := Lib.hid ih
    clear ih
    have hs := (isCodeB_iff s).2 ⟨h0, h1⟩
    have HMI := Lib.hid (memsI_in hs)
    have HS := Lib.hid hs
    clear hs
    have hlen := memL_len s.toNat
    have HTX := Lib.hid (textL_eq s.toNat)
    have HOL := Lib.hid (outTo_len s.toNat)
    have hg := memL_get_lt s.toNat
    have hg2 := memL_get_mem s.toNat
    obtain ⟨l, hl⟩ : ∃ l, l = memL s.toNat := ⟨_, rfl⟩
    rw [← hl] at hlen HTX HOL hg HMI hg2
    clear hl
    have HG := Lib.hid hg
    have HG2 := Lib.hid hg2
    clear hg hg2
    go_enter Try.func7, Try.ntmps7
    go_wp2_with fail
    refine (specCodeOk_any _ _).mono ?_
    rintro e w' ⟨rfl, rfl⟩
    rw [HS.out]
    go_wp2_with fail
    refine (specMembersOf_any _ _).mono ?_
    rintro e w1 ⟨r, rfl, hO, hF⟩
    rw [HMI.out] at hO
    obtain ⟨a, cap, rfl⟩ := hO.natLen
    go_wp2
    go_loopw [3, 5] (fun o i wr => ∃ k : Nat, k ≤ l.length ∧ i = .int .i64 k ∧ o = .string (strV (outTo l k)) ∧ Fresh w1 wr) (fun _ i _ => l.length - (intOf i).toNat)
    case atStart => exact ⟨0, by omega, rfl, rfl, Fresh.refl _⟩
    case round =>
      obtain ⟨k, hk, rfl, rfl, hF2⟩ := hrel
      have hoz : (strV (outTo l k)).size ≤ 501 := HOL.out k
      by_cases hlt : k < l.length
      · obtain ⟨b, off, cap2, heq, hc⟩ := (hO.fresh hF2).natAt hlt
        simp only [Value.slice.injEq, true_and] at heq; obtain ⟨rfl, rfl⟩ := heq
        have g1 := HG.out k hlt
        have g2 := HG2.out k hlt
        have htz : (strV (textL l[k])).size ≤ 502 := textL_len _
        by_cases hk0 : k = 0
        · have H3 := Lib.hid (show outTo l (k + 1) = outTo l k ++ textL l[k] by subst hk0; exact outTo_first l hlt)
          obtain ⟨x, hx⟩ : ∃ x, x = l[k] := ⟨_, rfl⟩
          obtain ⟨o, ho⟩ : ∃ o, o = outTo l k := ⟨_, rfl⟩
          rw [← hx, ← ho] at H3
          rw [← hx] at hc g1 g2 htz
          rw [← ho] at hoz ⊢
          have hkk : ¬ (0 : Int) < (k : Int) := by omega
          clear hx ho hk0
          go_wp2_with fail
          refine (IH.out (x : Int) (by omega) (by omega) (by omega) _).mono ?_
          rintro e w2 ⟨rfl, hF3⟩
          rw [Int.toNat_natCast]
          go_wp2
          go_roundw
          case rel => exact ⟨k + 1, by omega, by go_num, by rw [H3.out, strV_app], hF2.trans hF3⟩
          case measure => simp [intOf]; omega
        · have H3 := Lib.hid (outTo_step l k (by omega) hlt)
          obtain ⟨x, hx⟩ : ∃ x, x = l[k] := ⟨_, rfl⟩
          obtain ⟨o, ho⟩ : ∃ o, o = outTo l k := ⟨_, rfl⟩
          rw [← hx, ← ho] at H3
          rw [← hx] at hc g1 g2 htz
          rw [← ho] at hoz ⊢
          have hkk : (0 : Int) < (k : Int) := by omega
          clear hx ho hk0
          go_wp2_with fail
          refine (IH.out (x : Int) (by omega) (by omega) (by omega) _).mono ?_
          rintro e w2 ⟨rfl, hF3⟩
          rw [Int.toNat_natCast]
          go_wp2
          go_roundw
          case rel => exact ⟨k + 1, by omega, by go_num, by rw [H3.out, ← strV_app, ← strV_app]; rfl, hF2.trans hF3⟩
          case measure => simp [intOf]; omega
      · have H3 := Lib.hid (outTo_all l k hlt)
        obtain ⟨o, ho⟩ : ∃ o, o = outTo l k := ⟨_, rfl⟩
        rw [← ho] at H3 hoz ⊢
        clear ho
        go_wp2
        go_ret
        exact ⟨by rw [HTX.out, ← H3.out, ← strV_app]; rfl, hF.trans hF2⟩
set_option maxHeartbeats 400000 in
theorem specSetText_any (s : Int) (w : World) :
    Calls Try.prog 7 #[.int .i64 s] w fun e w' => e = .returned (.string (strV (textI s))) ∧ Fresh w w' := by
  cases hs : isCodeB s
  · have HX := Lib.hid (textI_no hs)
    go_enter Try.func7, Try.ntmps7
    go_wp2_with fail
    refine (specCodeOk_any _ _).mono ?_
    rintro e w' ⟨rfl, rfl⟩
    rw [hs]
    clear hs
    go_wp2
    go_ret
    exact ⟨by rw [HX.out]; rfl, Fresh.refl _⟩
  · obtain ⟨h0, h1⟩ := (isCodeB_iff s).1 hs
    rw [textI_in hs]
    exact specSetTextN_any 65536 s h0 h1 (by omega) w
/-! ### the law -/
set_option maxHeartbeats 400000 in
theorem fnExactSetText_walk (w : World) (s : Int) (_ : -9223372036854775808 ≤ s ∧ s ≤ 9223372036854775807) :
    Calls Try.prog 3 #[.int .i64 s] w fun e w' => e = .returned (.bool true) ∧ Fresh w w' := by
  obtain ⟨t, ht⟩ : ∃ t, t = strV (textI s) := ⟨_, rfl⟩
  have HT := Lib.hid ht
  clear ht
  go_enter Try.func3, Try.ntmps3
  go_wp2_with fail
  refine (specSetText_any s _).mono ?_
  rintro e w1 ⟨rfl, hF1⟩
  rw [← HT.out]
  go_wp2_with fail
  refine (implSetText_any s _).mono ?_
  rintro e w2 ⟨rfl, hF2⟩
  rw [← HT.out]
  go_wp2
  go_ret
  exact ⟨rfl, hF1.trans hF2⟩
end Go.Proofs.Ytipadgpgcdjflaa
