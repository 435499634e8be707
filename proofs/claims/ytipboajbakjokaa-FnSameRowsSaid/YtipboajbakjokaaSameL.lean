/- Rows that tell pairs as they must be; kinds in the reference: walks. -/
import Derived.Test.YtipboajbakjokaaSameI
namespace Go.Proofs.Ytipboajbakjokaa
open Go.RowKit

theorem like_noPic {p l : List (List Int)} (h : picB p = false) : likeB p l = false := by simp [likeB, h]
theorem like_noLen {p l : List (List Int)} (h : ¬ l.length = p.length) : likeB p l = false := by
  rw [Bool.eq_false_iff]; intro e; exact h (likeB_iff.1 e).2.1
theorem like_noRows {p l : List (List Int)} (h : picB l = false) : likeB p l = false := by
  rw [Bool.eq_false_iff]; intro e; rw [(likeB_iff.1 e).2.2.1] at h; cases h
theorem like_noBits {p l : List (List Int)} {k : Nat} (hl : l.length = p.length) (hk : k < l.length) (h : bitsB l[k] p.length = false) : likeB p l = false :=
  like_noRows (pic_bad hk (by rw [hl]; exact h))
theorem like_noAns {p l : List (List Int)} {a b : Nat} (ha : a < p.length) (hb : b < p.length) (he : ent l a b = 1) (h : answB p l a b = false) : likeB p l = false := by
  rw [Bool.eq_false_iff]; intro e
  rw [(likeB_iff.1 e).2.2.2 a b ha hb he] at h; cases h
/-- rows that are rows of bits, up to one -/
def BitRows (n : Nat) (l : List (List Int)) (k : Nat) : Prop := ∀ j (h : j < l.length), j < k → bitsB l[j] n = true
theorem BitRows.step {n : Nat} {l : List (List Int)} {k : Nat} (h : BitRows n l k) (hk : k < l.length) (e : bitsB l[k] n = true) : BitRows n l (k + 1) := by
  intro j hj hjk
  by_cases hjk2 : j = k
  · subst hjk2; exact e
  · exact h j hj (by omega)
theorem BitRows.pic {p l : List (List Int)} {k : Nat} (h : BitRows p.length l k) (hp : picB p = true) (hl : l.length = p.length) (hk : ¬ k < l.length) : picB l = true := by
  rw [← like_pic hp hl, List.all_eq_true]
  intro r hr
  obtain ⟨j, hj, rfl⟩ := List.getElem_of_mem hr
  exact h j hj (by omega)
/-- pairs that are told as they must be, up to one -/
def LikeTo (p l : List (List Int)) (a b : Nat) : Prop := ∀ i j, (i < a ∨ (i = a ∧ j < b)) → i < p.length → j < p.length → ent l i j = 1 → answB p l i j = true
theorem LikeTo.zero (p l : List (List Int)) : LikeTo p l 0 0 := fun i j h => by omega
theorem LikeTo.step {p l : List (List Int)} {a b : Nat} (h : LikeTo p l a b) (e : ent l a b = 1 → answB p l a b = true) : LikeTo p l a (b + 1) := by
  intro i j hij hi hj he
  by_cases hb : i = a ∧ j = b
  · obtain ⟨rfl, rfl⟩ := hb; exact e he
  · exact h i j (by omega) hi hj he
theorem LikeTo.row {p l : List (List Int)} {a b : Nat} (h : LikeTo p l a b) (hb : ¬ b < p.length) : LikeTo p l (a + 1) 0 := by
  intro i j hij hi hj he
  exact h i j (by omega) hi hj he
theorem LikeTo.all {p l : List (List Int)} {a : Nat} (h : LikeTo p l a 0) (ha : ¬ a < p.length) (hp : picB p = true) (hl : l.length = p.length) (hq : picB l = true) : likeB p l = true :=
  likeB_iff.2 ⟨hp, hl, hq, fun i j hi hj he => h i j (by omega) hi hj he⟩

set_option maxHeartbeats 1000000 in
theorem implLikeOk_any (v u : Value) (p l : List (List Int)) (w : World) (h : RowsR w v p) (h' : RowsR w u l) :
    Calls Try.prog 27 #[v, u] w fun e w' => e = .returned (.bool (likeB p l)) ∧ Fresh w w' := by
  obtain ⟨pa, pc, rfl⟩ := h.len
  have hbd := h.bound
  have hbd' := h'.bound
  cases hp : picB p
  · have HX := Lib.hid (like_noPic (l := l) hp)
    go_enter Try.func27, Try.ntmps27
    go_wp2_with fail
    refine (isPicture_any _ p _ h).mono ?_
    rintro e w1 ⟨rfl, rfl⟩
    rw [hp]
    clear hp
    go_wp2
    go_ret
    exact ⟨ret_bool HX.out.symm, Fresh.refl _⟩
  · by_cases hl : l.length = p.length
    case neg =>
      obtain ⟨ua, uc, rfl⟩ := h'.len
      have HX := Lib.hid (like_noLen hl)
      have hne : ((l.length : Int) != p.length) = true := by rw [bne_iff_ne]; omega
      clear hl
      go_enter Try.func27, Try.ntmps27
      go_wp2_with fail
      refine (isPicture_any _ p _ h).mono ?_
      rintro e w1 ⟨rfl, rfl⟩
      rw [hp]
      clear hp
      go_wp2
      go_ret
      exact ⟨ret_bool HX.out.symm, Fresh.refl _⟩
    have hn5 := ((picB_iff p).1 hp).2.1
    obtain ⟨ua, uc, rfl⟩ := h'.lenEq hl
    have hne : ((p.length : Int) != p.length) = false := by simp
    have HL := Lib.hid hl
    clear hl
    go_enter Try.func27, Try.ntmps27
    go_wp2_with fail
    refine (isPicture_any _ p _ h).mono ?_
    rintro e w1 ⟨rfl, rfl⟩
    rw [hp]
    go_wp2
    go_loop [23] (fun i => ∃ k : Nat, k ≤ p.length ∧ i = .int .i64 k ∧ BitRows p.length l k) (fun i => p.length - (intOf i).toNat)
    case atStart => exact ⟨0, by omega, rfl, fun j _ h => by omega⟩
    case round =>
      obtain ⟨k, hk, rfl, hB⟩ := hrel
      by_cases hlt : k < p.length
      · have hlt' : k < l.length := by rw [HL.out]; exact hlt
        obtain ⟨b, off, x1, x2, rfl, hc, hI⟩ := RowsR.rowLen (a := ua) (cap := uc) (by rw [HL.out]; exact h') hlt'
        have HS := Lib.hid (fun e => hB.step hlt' e)
        have HN := Lib.hid (fun e => like_noBits HL.out hlt' e)
        obtain ⟨x, hx⟩ : ∃ x, x = l[k] := ⟨_, rfl⟩
        rw [← hx] at hc HS HN hI
        clear hx hB hlt'
        go_wp2_with fail
        refine (areBits_any _ x _ _ hI).mono ?_
        rintro e w' ⟨rfl, rfl⟩
        cases hbb : bitsB x p.length
        · have HX := Lib.hid (HN.out hbb)
          clear hbb
          go_wp2
          go_ret
          exact ⟨ret_bool HX.out.symm, Fresh.refl _⟩
        · have HX := Lib.hid (HS.out hbb)
          clear hbb
          go_wp2
          go_round
          case rel => exact ⟨k + 1, hlt, by go_num, HX.out⟩
          case measure => simp [intOf]; omega
      · have hq := hB.pic hp HL.out (by rw [HL.out]; exact hlt)
        have HSQ := Lib.hid (show Sq p.length l by have := pic_sq hq; rwa [HL.out] at this)
        have HQ := Lib.hid hq
        clear hB hq
        go_wp2
        go_loopw [35] (fun i wr => ∃ a : Nat, a ≤ p.length ∧ i = .int .i64 a ∧ LikeTo p l a 0 ∧ Fresh w wr) (fun i _ => p.length - (intOf i).toNat)
        case atStart => exact ⟨0, by omega, rfl, LikeTo.zero p l, Fresh.refl _⟩
        case round =>
          clear hlt hk
          obtain ⟨a, ha, rfl, hT, hF⟩ := hrel
          by_cases hal : a < p.length
          · obtain ⟨b1, o1, g1, q1, c1, rfl, hc1, hc2⟩ := (h'.fresh hF).sq2n HSQ.out hal (show 0 < p.length by omega)
            clear hc2
            go_wp2
            go_loopw [42] (fun i wr => ∃ b : Nat, b ≤ p.length ∧ i = .int .i64 b ∧ LikeTo p l a b ∧ Fresh w wr ∧ wr.cell? ⟨b1, o1 + a, none⟩ = some (.slice (some ⟨g1, q1, none⟩) p.length c1)) (fun i _ => p.length - (intOf i).toNat)
            case atStart => exact ⟨0, by omega, rfl, hT, hF, hc1⟩
            case round =>
              clear hT hF hc1
              obtain ⟨b, hb, rfl, hT, hF, hc1⟩ := hrel
              by_cases hbl : b < p.length
              · obtain ⟨b2, o2, g2, q2, c2, heq, hc3, hc4⟩ := (h'.fresh hF).sq2n HSQ.out hal hbl
                simp only [Option.some.injEq, Addr.mk.injEq, and_true] at heq
                obtain ⟨rfl, rfl⟩ := heq
                rw [hc1] at hc3
                simp only [Option.some.injEq, Value.slice.injEq, Addr.mk.injEq, true_and, and_true] at hc3
                obtain ⟨⟨rfl, rfl⟩, rfl⟩ := hc3
                have hbit := pic_bit HQ.out (i := a) (j := b) (by rw [HL.out]; exact hal) (by rw [HL.out]; exact hbl)
                have HS := Lib.hid (fun e => hT.step e)
                have HN := Lib.hid (fun (e1 : ent l a b = 1) (e2 : answB p l a b = false) => like_noAns hal hbl e1 e2)
                obtain ⟨z, hz⟩ : ∃ z, z = ent l a b := ⟨_, rfl⟩
                rw [← hz] at hbit hc4 HS HN
                clear hz hT
                rcases hbit with rfl | rfl
                · have HX := Lib.hid (HS.out (fun e => by cases e))
                  go_wp2
                  go_roundw
                  case rel => exact ⟨b + 1, hbl, by go_num, HX.out, hF, hc1⟩
                  case measure => simp [intOf]; omega
                · go_wp2_with fail
                  refine (answered_any _ _ p l a b _ (h.fresh hF) (h'.fresh hF) hp HSQ.out hal hbl).mono ?_
                  rintro e w5 ⟨rfl, hF5⟩
                  have hF6 := hF.trans hF5
                  have hc6 := hF5.cell hc1
                  cases hans : answB p l a b
                  · have HX := Lib.hid (HN.out trivial hans)
                    clear hans
                    go_wp2
                    go_ret
                    exact ⟨ret_bool HX.out.symm, hF6⟩
                  · have HX := Lib.hid (HS.out (fun _ => hans))
                    clear hans hc1 hF hF5
                    go_wp2
                    go_roundw
                    case rel => exact ⟨b + 1, hbl, by go_num, HX.out, hF6, hc6⟩
                    case measure => simp [intOf]; omega
              · have HX := Lib.hid (hT.row hbl)
                clear hT
                go_wp2
                go_roundw
                case rel => exact ⟨a + 1, hal, by go_num, HX.out, hF⟩
                case measure => simp [intOf]; omega
          · have HX := Lib.hid (hT.all hal hp HL.out HQ.out)
            clear hT
            go_wp2
            go_ret
            exact ⟨ret_bool HX.out.symm, hF⟩

theorem answ_match {p l : List (List Int)} (hp : picB p = true) {a b : Nat} (ha : a < p.length) (hb : b < p.length) : answB p l a b = (matchB p l a b && matchB p (backL p.length l) b a) := by
  rw [matchB_half hp ha hb, matchB_back hp ha hb]; rfl

set_option maxHeartbeats 1600000 in
theorem specLikeOk_any (v u : Value) (p l : List (List Int)) (w : World) (h : RowsR w v p) (h' : RowsR w u l) :
    Calls Try.prog 26 #[v, u] w fun e w' => e = .returned (.bool (likeB p l)) ∧ Fresh w w' := by
  obtain ⟨pa, pc, rfl⟩ := h.len
  have hbd := h.bound
  have hbd' := h'.bound
  cases hp : picB p
  · have HX := Lib.hid (like_noPic (l := l) hp)
    go_enter Try.func26, Try.ntmps26
    go_wp2_with fail
    refine (specPictureOk_any _ p _ h).mono ?_
    rintro e w1 ⟨rfl, rfl⟩
    rw [hp]
    clear hp
    go_wp2
    go_ret
    exact ⟨ret_bool HX.out.symm, Fresh.refl _⟩
  · cases hq : picB l
    · have HX := Lib.hid (like_noRows (p := p) hq)
      go_enter Try.func26, Try.ntmps26
      go_wp2_with fail
      refine (specPictureOk_any _ p _ h).mono ?_
      rintro e w1 ⟨rfl, rfl⟩
      rw [hp]
      go_wp2_with fail
      refine (specPictureOk_any _ l _ h').mono ?_
      rintro e w1 ⟨rfl, rfl⟩
      rw [hq]
      clear hp hq
      go_wp2
      go_ret
      exact ⟨ret_bool HX.out.symm, Fresh.refl _⟩
    · by_cases hl : l.length = p.length
      case neg =>
        obtain ⟨ua, uc, rfl⟩ := h'.len
        have HX := Lib.hid (like_noLen hl)
        have hne : ((l.length : Int) != p.length) = true := by rw [bne_iff_ne]; omega
        clear hl
        go_enter Try.func26, Try.ntmps26
        go_wp2_with fail
        refine (specPictureOk_any _ p _ h).mono ?_
        rintro e w1 ⟨rfl, rfl⟩
        rw [hp]
        go_wp2_with fail
        refine (specPictureOk_any _ l _ h').mono ?_
        rintro e w1 ⟨rfl, rfl⟩
        rw [hq]
        clear hp hq
        go_wp2
        go_ret
        exact ⟨ret_bool HX.out.symm, Fresh.refl _⟩
      have hn5 := ((picB_iff p).1 hp).2.1
      obtain ⟨ua, uc, rfl⟩ := h'.lenEq hl
      have hne : ((p.length : Int) != p.length) = false := by simp
      have HL := Lib.hid hl
      have HSQ := Lib.hid (show Sq p.length l by have := pic_sq hq; rwa [hl] at this)
      have HQ := Lib.hid hq
      obtain ⟨f, hf⟩ : ∃ f : Nat → Nat → Int, f = fun i j => ent l j i := ⟨_, rfl⟩
      have HF := Lib.hid (fun i j => congrFun (congrFun hf i) j)
      have HBK := Lib.hid (show mkR p.length f = backL p.length l by rw [hf]; rfl)
      clear hl hf
      go_enter Try.func26, Try.ntmps26
      go_wp2_with fail
      refine (specPictureOk_any _ p _ h).mono ?_
      rintro e w1 ⟨rfl, rfl⟩
      rw [hp]
      go_wp2_with fail
      refine (specPictureOk_any _ l _ h').mono ?_
      rintro e w1 ⟨rfl, rfl⟩
      rw [hq]
      clear hq
      go_wp2
      go_loopw [5] (fun i wr => ∃ a : Nat, a ≤ p.length ∧ i = .int .i64 a ∧ LikeTo p l a 0 ∧ Fresh w wr) (fun i _ => p.length - (intOf i).toNat)
      case atStart => exact ⟨0, by omega, rfl, LikeTo.zero p l, Fresh.refl _⟩
      case round =>
        obtain ⟨a, ha, rfl, hT, hF⟩ := hrel
        by_cases hal : a < p.length
        · have hda : decide ((a : Int) < p.length) = true := decide_eq_true (by omega)
          go_wp2
          go_loopw [6] (fun i wr => ∃ b : Nat, b ≤ p.length ∧ i = .int .i64 b ∧ LikeTo p l a b ∧ Fresh w wr) (fun i _ => p.length - (intOf i).toNat)
          case atStart => exact ⟨0, by omega, rfl, hT, hF⟩
          case round =>
            clear hT hF
            obtain ⟨b, hb, rfl, hT, hF⟩ := hrel
            obtain ⟨wb, rfl⟩ : ∃ wb : World, wb = wr := ⟨_, rfl⟩
            by_cases hbl : b < p.length
            · have hdb : decide ((b : Int) < p.length) = true := decide_eq_true (by omega)
              obtain ⟨b1, o1, g1, q1, c1, rfl, hc1, hc2⟩ := (h'.fresh hF).sq2n HSQ.out hal hbl
              have hbit := pic_bit HQ.out (i := a) (j := b) (by rw [HL.out]; exact hal) (by rw [HL.out]; exact hbl)
              have HS := Lib.hid (fun e => hT.step e)
              have HN := Lib.hid (fun (e1 : ent l a b = 1) (e2 : answB p l a b = false) => like_noAns hal hbl e1 e2)
              obtain ⟨z, hz⟩ : ∃ z, z = ent l a b := ⟨_, rfl⟩
              rw [← hz] at hbit hc2 HS HN
              clear hz hT
              rcases hbit with rfl | rfl
              · have HX := Lib.hid (HS.out (fun e => by cases e))
                go_wp2
                go_roundw
                case rel => exact ⟨b + 1, hbl, by go_num, HX.out, hF⟩
                case measure => simp [intOf]; omega
              · have HE := Lib.hid (RowsAt.empty wb p.length f)
                go_wp2
                go_loopw [7, 8] (fun y i wr => ∃ m : Nat, m ≤ p.length ∧ i = .int .i64 m ∧ RowsAt wb p.length f m y wr) (fun _ i _ => p.length - (intOf i).toNat)
                case atStart => exact ⟨0, by omega, rfl, HE.out⟩
                case round =>
                  clear HE
                  obtain ⟨m, hm, rfl, hO⟩ := hrel
                  obtain ⟨wo, rfl⟩ : ∃ wo : World, wo = wr := ⟨_, rfl⟩
                  by_cases hml : m < p.length
                  · have hdm : decide ((m : Int) < p.length) = true := decide_eq_true (by omega)
                    have HRo := Lib.hid (RowAt.empty wo f m)
                    go_wp2
                    go_loopw [9, 10] (fun y i wr => ∃ j : Nat, j ≤ p.length ∧ i = .int .i64 j ∧ RowAt wo f m j y wr) (fun _ i _ => p.length - (intOf i).toNat)
                    case atStart => exact ⟨0, by omega, rfl, HRo.out⟩
                    case round =>
                      clear HRo
                      obtain ⟨j, hj, rfl, hR⟩ := hrel
                      by_cases hjl : j < p.length
                      · have hF2 := (hF.trans hO.2).trans hR.2
                        obtain ⟨b2, o2, g2, q2, c2, heq, hc3, hc4⟩ := (h'.fresh hF2).sq2n HSQ.out hjl hml
                        simp only [Option.some.injEq, Addr.mk.injEq, and_true] at heq
                        obtain ⟨rfl, rfl⟩ := heq
                        have hfe := HF.out m j
                        obtain ⟨y, hy⟩ : ∃ y, y = ent l j m := ⟨_, rfl⟩
                        rw [← hy] at hc4 hfe
                        have HFE := Lib.hid hfe
                        clear hfe hy hF2
                        go_wp2_with (at_builtin; refine wpList_append_at _ wo f m j y _ rfl _ _ rfl _ rfl hR rfl HFE.out (by omega) ?_)
                        intro u' w2 hR2
                        clear hR
                        go_wp2
                        go_roundw
                        case rel => exact ⟨j + 1, hjl, by go_num, hR2⟩
                        case measure => simp [intOf]; omega
                      · rw [show j = p.length by omega] at hR
                        obtain ⟨xa, xc, rfl⟩ := hR.form
                        go_wp2_with (at_builtin; refine wpList_append_rowAt _ wo wb _ f m _ _ _ rfl _ _ rfl rfl hO hR _ rfl (by first | rfl | simp [World.setCell]) (by omega) ?_)
                        intro v' w2 hO2
                        clear hO hR
                        go_wp2
                        go_roundw
                        case rel => exact ⟨m + 1, hml, by go_num, hO2⟩
                        case measure => simp [intOf]; omega
                  · rw [show m = p.length by omega] at hO
                    have hB := hO.rowsR HBK.out
                    have hFb := hF.trans hO.2
                    have HAM := Lib.hid (answ_match (l := l) hp hal hbl)
                    clear hO hc1 hc2 hF
                    go_wp2_with fail
                    refine (l3Matched_any _ _ p l a b _ (h.fresh hFb) (h'.fresh hFb) hp HSQ.out hal hbl).mono ?_
                    rintro e w5 ⟨rfl, rfl⟩
                    cases hm1 : matchB p l a b
                    · have HX := Lib.hid (HN.out trivial (by rw [HAM.out, hm1]; rfl))
                      clear hm1
                      go_wp2
                      go_ret
                      exact ⟨ret_bool HX.out.symm, hFb⟩
                    · have HM2 := Lib.hid (show answB p l a b = matchB p (backL p.length l) b a by rw [HAM.out, hm1]; rfl)
                      clear hm1
                      go_wp2_with fail
                      refine (l3Matched_any _ _ p (backL p.length l) b a _ (h.fresh hFb) hB hp (mkR_sq _ _) hbl hal).mono ?_
                      rintro e w5 ⟨rfl, rfl⟩
                      rw [← HM2.out]
                      cases hm2 : answB p l a b
                      · have HX := Lib.hid (HN.out trivial hm2)
                        clear hm2
                        go_wp2
                        go_ret
                        exact ⟨ret_bool HX.out.symm, hFb⟩
                      · have HX := Lib.hid (HS.out (fun _ => hm2))
                        clear hm2
                        go_wp2
                        go_roundw
                        case rel => exact ⟨b + 1, hbl, by go_num, HX.out, hFb⟩
                        case measure => simp [intOf]; omega
            · have HX := Lib.hid (hT.row hbl)
              clear hT
              go_wp2
              go_roundw
              case rel => exact ⟨a + 1, hal, by go_num, HX.out, hF⟩
              case measure => simp [intOf]; omega
        · have HX := Lib.hid (hT.all hal hp HL.out HQ.out)
          clear hT
          go_wp2
          go_ret
          exact ⟨ret_bool HX.out.symm, hF⟩

/-- no node below j is left with k -/
def NoKind (p : List (List Int)) (k j : Nat) : Prop := ∀ i, i < j → ent (leftL p p.length) k i ≠ 1
theorem NoKind.step {p : List (List Int)} {k j : Nat} (h : NoKind p k j) (e : ent (leftL p p.length) k j ≠ 1) : NoKind p k (j + 1) := by
  intro i hi
  by_cases hij : i = j
  · subst hij; exact e
  · exact h i (by omega)
theorem NoKind.found {p : List (List Int)} (hp : picB p = true) {k j : Nat} (hk : k < p.length) (h : NoKind p k j) (e : ent (leftL p p.length) k j = 1) : kindN p k = j := by
  obtain ⟨h1, h2, h3⟩ := kindN_spec hp hk
  apply Nat.le_antisymm
  · exact Nat.le_of_not_lt fun hl => h3 j hl e
  · exact Nat.le_of_not_lt fun hl => h _ hl h2
theorem NoKind.none {p : List (List Int)} (hp : picB p = true) {k j : Nat} (hk : k < p.length) (h : NoKind p k j) (hj : ¬ j < p.length) : False := by
  obtain ⟨h1, h2, h3⟩ := kindN_spec hp hk
  exact h _ (by omega) h2

set_option maxHeartbeats 1000000 in
theorem specKindsOf_any (v : Value) (p : List (List Int)) (w : World) (h : RowsR w v p) :
    Calls Try.prog 37 #[v] w fun e w' => ∃ r, e = .returned r ∧ Owns w.heap.size w'.heap.size w' r (kindsI p) ∧ Fresh w w' := by
  have hF0 : Fresh w (w.alloc (Obj.cells #[] 3)) := (Fresh.refl w).alloc _
  have hE := (Owns.empty w)
  cases hp : picB p
  · have HX := Lib.hid (kindsI_no hp)
    have HE := Lib.hid (leftI_noPic (m := p.length) hp)
    clear hp
    go_enter Try.func37, Try.ntmps37
    go_wp2_with fail
    refine (specSameRows_any _ p _ (h.fresh hF0)).mono ?_
    rintro e w1 ⟨r1, rfl, hO1, hF1⟩
    rw [HE.out] at hO1
    obtain ⟨ra, rc, rfl⟩ := hO1.rows.lenEq rfl
    clear hO1
    have hE1 := (hE.fresh hF1).wider (Nat.le_refl _) hF1.size
    have hF01 := hF0.trans hF1
    clear hE hF0 hF1
    go_wp2
    go_loop [3, 5] (fun u i => u = .slice (some ⟨w.heap.size, 0, none⟩) 0 0 ∧ i = .int .i64 0) (fun _ _ => 0)
    case atStart => exact ⟨rfl, rfl⟩
    case round =>
      obtain ⟨rfl, rfl⟩ := hrel
      go_wp2
      go_ret
      exact ⟨_, rfl, by rw [HX.out]; exact hE1, hF01⟩
  · have hn5 := ((picB_iff p).1 hp).2.1
    have HX := Lib.hid (kindsI_in hp)
    have HE := Lib.hid (leftI_in hp (show p.length ≤ 30 by omega))
    have hsq : Sq p.length (leftL p p.length) := by have := pic_sq (leftL_pic hp p.length); rwa [leftL_len] at this
    have HSQ := Lib.hid hsq
    clear hsq
    go_enter Try.func37, Try.ntmps37
    go_wp2_with fail
    refine (specSameRows_any _ p _ (h.fresh hF0)).mono ?_
    rintro e w1 ⟨r1, rfl, hO1, hF1⟩
    rw [HE.out] at hO1
    have hE1 := (hE.fresh hF1).wider (Nat.le_refl _) hF1.size
    have hF01 := hF0.trans hF1
    obtain ⟨ra, rc, rfl⟩ := hO1.rows.lenEq HSQ.out.1
    have hoff : OffU (.slice (some ⟨w.heap.size, 0, none⟩) 0 0) (w.alloc (Obj.cells #[] 3)).heap.size w1.heap.size := ⟨by simp, fun g hg => by simp [Value.ownBlock] at hg; simp; omega⟩
    obtain ⟨lo, hlo⟩ : ∃ lo, lo = (w.alloc (Obj.cells #[] 3)).heap.size := ⟨_, rfl⟩
    obtain ⟨hi, hhi⟩ : ∃ hi, hi = w1.heap.size := ⟨_, rfl⟩
    rw [← hlo, ← hhi] at hO1 hoff
    have hhi2 : hi ≤ w1.heap.size := by omega
    clear hF0 hF1 hE hlo hhi
    go_wp2
    go_loopw [3, 5] (fun u i wr => ∃ k : Nat, k ≤ p.length ∧ i = .int .i64 k ∧ Owns w.heap.size wr.heap.size wr u (kindsTo p k) ∧ Fresh w wr ∧ OffU u lo hi ∧ hi ≤ wr.heap.size ∧ OwnsR lo hi wr (.slice ra p.length rc) (leftL p p.length)) (fun _ i _ => p.length - (intOf i).toNat)
    case atStart => exact ⟨0, by omega, rfl, hE1, hF01, hoff, hhi2, hO1⟩
    case round =>
      clear hE1 hF01 hO1 hoff hhi2
      obtain ⟨k, hk, rfl, hO, hF, hoff, hhi, hL⟩ := hrel
      obtain ⟨wo, rfl⟩ : ∃ wo : World, wo = wr := ⟨_, rfl⟩
      by_cases hlt : k < p.length
      · have hdk : decide ((k : Int) < p.length) = true := decide_eq_true (by omega)
        have HST := Lib.hid (kindsTo_step p k)
        have HKN := Lib.hid (kindsTo_len p k)
        go_wp2
        go_loop [3, 6] (fun u i => ∃ j : Nat, j ≤ p.length ∧ i = .int .i64 j ∧ NoKind p k j ∧ Owns w.heap.size wo.heap.size wo u (kindsTo p k) ∧ OffU u lo hi) (fun _ i => p.length - (intOf i).toNat)
        case atStart => exact ⟨0, by omega, rfl, fun i hi => by omega, hO, hoff⟩
        case round =>
          clear hO hoff
          obtain ⟨j, hj, rfl, hN, hO, hoff⟩ := hrel
          by_cases hjl : j < p.length
          · obtain ⟨b1, o1, g1, q1, c1, rfl, hc1, hc2⟩ := hL.rows.sq2n HSQ.out hlt hjl
            have HS := Lib.hid (fun e => hN.step e)
            have HFd := Lib.hid (fun e => hN.found hp hlt e)
            obtain ⟨z, hz⟩ : ∃ z, z = ent (leftL p p.length) k j := ⟨_, rfl⟩
            rw [← hz] at hc2 HS HFd
            clear hz hN
            cases hz1 : (z == 1)
            · have HX := Lib.hid (HS.out (by simpa using hz1))
              go_wp2
              go_round
              case rel => exact ⟨j + 1, hjl, by go_num, HX.out, hO, hoff⟩
              case measure => simp [intOf]; omega
            · have HX2 := Lib.hid (HFd.out (by simpa using hz1))
              go_wp2_with (at_builtin; refine wpList_append_off _ w _ _ _ lo hi rfl _ _ rfl _ rfl hO hF hoff hhi rfl (by rw [HKN.out]; omega) ?_)
              intro u' w3 hO3 hF3 hoff3 hK3
              have hL3 := hL.keeps hK3 (fun _ h1 h2 => Outside.off h1 h2)
              have hhi3 := Nat.le_trans hhi hK3.size
              clear hO hF hoff hhi hL hK3 hc1 hc2
              go_wp2
              go_roundw
              case rel => exact ⟨k + 1, hlt, by go_num, by rw [HST.out, HX2.out]; exact hO3, hF3, hoff3, hhi3, hL3⟩
              case measure => simp [intOf]; omega
          · exact absurd trivial (fun _ => hN.none hp hlt hjl)
      · rw [show k = p.length by omega, kindsTo_full] at hO
        go_wp2
        go_ret
        exact ⟨_, rfl, by rw [HX.out]; exact hO, hF⟩
end Go.Proofs.Ytipboajbakjokaa
