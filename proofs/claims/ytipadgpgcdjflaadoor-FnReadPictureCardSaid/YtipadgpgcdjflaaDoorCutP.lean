/- Reading the texts of pictures: plain words. No program in sight. -/
import Derived.Test.YtipadgpgcdjflaaDoorPicT
import Derived.Lib.IndexBytes
import Derived.Lib.SplitLaws
namespace Go.Proofs.YtipadgpgcdjflaaDoor
open Go.RowKit

/-- a text cut at its slashes -/
def cutL : List UInt8 → List (List UInt8)
  | [] => [[]]
  | c :: l => if c = 47 then [] :: cutL l else (c :: (cutL l).headD []) :: (cutL l).tail
theorem cutL_none : ∀ a : List UInt8, (47 : UInt8) ∉ a → cutL a = [a]
  | [], _ => rfl
  | c :: l, h => by
    have h1 : ¬ c = 47 := fun e => h (by simp [e])
    rw [cutL, if_neg h1, cutL_none l (fun e => h (by simp [e]))]; rfl
theorem cutL_app : ∀ (a b : List UInt8), (47 : UInt8) ∉ a → cutL (a ++ 47 :: b) = a :: cutL b
  | [], b, _ => by rw [List.nil_append, cutL, if_pos rfl]
  | c :: l, b, h => by
    have h1 : ¬ c = 47 := fun e => h (by simp [e])
    rw [List.cons_append, cutL, if_neg h1, cutL_app l b (fun e => h (by simp [e]))]; rfl
/-- a text with a slash, parted at the first one -/
theorem first_slash : ∀ l : List UInt8, (47 : UInt8) ∈ l → ∃ a b, l = a ++ 47 :: b ∧ (47 : UInt8) ∉ a
  | [], h => by cases h
  | c :: l, h => by
    by_cases hc : c = 47
    · exact ⟨[], l, by simp [hc], by simp⟩
    · have hl : (47 : UInt8) ∈ l := by
        rcases List.mem_cons.1 h with e | e
        · exact absurd e.symm hc
        · exact e
      obtain ⟨a, b, rfl, ha⟩ := first_slash l hl
      exact ⟨c :: a, b, rfl, by
        intro e
        rcases List.mem_cons.1 e with e | e
        · exact hc e.symm
        · exact ha e⟩
theorem cutL_len (l : List UInt8) : 1 ≤ (cutL l).length ∧ (cutL l).length ≤ l.length + 1 := by
  induction l with
  | nil => simp [cutL]
  | cons c l ih =>
    rw [cutL]
    split
    · simp; omega
    · simp; omega
theorem index_slash (a b : List UInt8) (h : (47 : UInt8) ∉ a) : Lib.index (a ++ 47 :: b) [47] = a.length := by
  rw [Lib.index_one]
  induction a with
  | nil => simp [Lib.indexByte]
  | cons c a ih =>
    have h1 : (c == 47) = false := by rw [beq_eq_false_iff_ne]; intro e; exact h (by simp [e])
    have h2 := ih (fun e => h (by simp [e]))
    rw [List.cons_append, Lib.indexByte, h1, h2]
    have h3 : ((a.length : Int) == -1) = false := by rw [beq_eq_false_iff_ne]; omega
    rw [h3]; simp
theorem count_slash (a b : List UInt8) (h : (47 : UInt8) ∉ a) : Lib.count (a ++ 47 :: b) [47] = Lib.count b [47] + 1 := by
  rw [Lib.count_one, Lib.count_one, List.count_append, List.count_eq_zero_of_not_mem h, List.count_cons_self]; omega
theorem count_none (a : List UInt8) (h : (47 : UInt8) ∉ a) : Lib.count a [47] = 0 := by
  rw [Lib.count_one, List.count_eq_zero_of_not_mem h]
/-- what strings.Split gives -/
theorem split_cut : ∀ (K : Nat) (l : List UInt8), l.length < K → Lib.splitK [47] 0 (Lib.count l [47]) l = cutL l := by
  intro K
  induction K with
  | zero => intro l h; omega
  | succ K ih =>
    intro l hl
    by_cases h : (47 : UInt8) ∈ l
    · obtain ⟨a, b, rfl, ha⟩ := first_slash l h
      rw [count_slash a b ha, cutL_app a b ha, Lib.splitK, index_slash a b ha]
      have h3 : ((a.length : Int) == -1) = false := by rw [beq_eq_false_iff_ne]; omega
      rw [h3]
      have e1 : (a ++ 47 :: b).take ((a.length : Int).toNat + 0) = a := by simp
      have e2 : (a ++ 47 :: b).drop ((a.length : Int).toNat + ([47] : List UInt8).length) = b := by
        rw [Int.toNat_natCast, List.length_singleton, ← List.drop_drop]; simp
      rw [if_neg (by simp), e1, e2, ih b (by simp at hl; omega)]
    · rw [count_none l h, cutL_none l h]; rfl
theorem splitB_cut (s : ByteArray) : (Lib.splitB ⟨#[47]⟩ 0 (Lib.countB s ⟨#[47]⟩) s).map (fun x => x.data.toList) = cutL s.data.toList := by
  rw [Lib.splitB_data]
  exact split_cut (s.data.toList.length + 1) _ (by omega)
/-- cutting, as far as it has come -/
def CutAt (l : List UInt8) (k from_ : Nat) (done : List (List UInt8)) : Prop :=
  from_ ≤ k ∧ k ≤ l.length ∧ done.length ≤ from_ ∧ cutL l = done ++ cutL (l.drop from_) ∧ (47 : UInt8) ∉ (l.drop from_).take (k - from_)
theorem CutAt.start (l : List UInt8) : CutAt l 0 0 [] := ⟨by omega, by omega, by simp, by simp, by simp⟩
theorem take_more {l : List UInt8} {k f : Nat} (h1 : f ≤ k) (hk : k < l.length) : (l.drop f).take (k + 1 - f) = (l.drop f).take (k - f) ++ [l[k]] := by
  rw [show k + 1 - f = (k - f) + 1 by omega, List.take_succ_eq_append_getElem (by simp; omega), List.getElem_drop]
  simp only [show f + (k - f) = k by omega]
theorem CutAt.step {l : List UInt8} {k f : Nat} {done : List (List UInt8)} (h : CutAt l k f done) (hk : k < l.length) (hc : l[k] ≠ 47) : CutAt l (k + 1) f done := by
  obtain ⟨h1, h2, h3, h4, h5⟩ := h
  refine ⟨by omega, by omega, h3, h4, ?_⟩
  rw [take_more h1 hk]
  intro e
  rcases List.mem_append.1 e with e | e
  · exact h5 e
  · simp at e; exact hc e.symm
theorem CutAt.cut {l : List UInt8} {k f : Nat} {done : List (List UInt8)} (h : CutAt l k f done) (hk : k < l.length) (hc : l[k] = 47) : CutAt l (k + 1) (k + 1) (done ++ [(l.drop f).take (k - f)]) := by
  obtain ⟨h1, h2, h3, h4, h5⟩ := h
  refine ⟨by omega, by omega, by simp; omega, ?_, by simp⟩
  have e : l.drop f = (l.drop f).take (k - f) ++ 47 :: l.drop (k + 1) := by
    have e1 := (List.take_append_drop (k - f) (l.drop f)).symm
    rw [List.drop_drop, show f + (k - f) = k by omega, List.drop_eq_getElem_cons hk, hc] at e1
    exact e1
  rw [h4, List.append_assoc]
  congr 1
  conv => lhs; rw [e]
  rw [cutL_app _ _ h5]; rfl
theorem CutAt.all {l : List UInt8} {k f : Nat} {done : List (List UInt8)} (h : CutAt l k f done) (hk : ¬ k < l.length) : cutL l = done ++ [l.drop f] := by
  obtain ⟨h1, h2, h3, h4, h5⟩ := h
  rw [h4, cutL_none]
  intro e
  rw [List.take_of_length_le (by simp; omega)] at h5
  exact h5 e

/-! ### what is read -/
/-- a digit among some bytes -/
def hasD (l : List UInt8) (b : Nat) : Bool := l.any fun c => c.toNat == 48 + b
def bitD (l : List UInt8) (b : Nat) : Int := if hasD l b then 1 else 0
theorem bitD_bit (l : List UInt8) (b : Nat) : bitD l b = 0 ∨ bitD l b = 1 := by unfold bitD; split <;> simp
/-- a digit of a node of n -/
def okC (n : Nat) (c : UInt8) : Bool := decide (48 ≤ c.toNat) && decide (c.toNat < 48 + n)
def okD (n : Nat) (l : List UInt8) : Bool := l.all (okC n)
theorem hasD_snoc (l : List UInt8) (c : UInt8) (b : Nat) : hasD (l ++ [c]) b = (hasD l b || c.toNat == 48 + b) := by simp [hasD, List.any_append]
theorem bitD_snoc (l : List UInt8) (c : UInt8) (b v : Nat) (hv : c.toNat = 48 + v) : bitD (l ++ [c]) b = if b = v then 1 else bitD l b := by
  unfold bitD
  rw [hasD_snoc]
  by_cases e : b = v
  · subst e; rw [if_pos rfl, hv]; simp
  · rw [if_neg e]
    have : (c.toNat == 48 + b) = false := by rw [beq_eq_false_iff_ne]; omega
    rw [this, Bool.or_false]
/-- a node's part -/
def pieceOf (l : List UInt8) (a : Nat) : List UInt8 := (cutL l).getD a []
/-- the picture that a text tells, if it tells one -/
def candP (l : List UInt8) : List (List Int) := mkR (cutL l).length fun a b => bitD (pieceOf l a) b
def rpB (l : List UInt8) : Bool := (decide ((cutL l).length ≤ 5) && (cutL l).all (okD (cutL l).length)) && decide (picText (candP l) = l)
def rpL (l : List UInt8) : List (List Int) := if rpB l then candP l else []
theorem candP_len (l : List UInt8) : (candP l).length = (cutL l).length := mkR_len _ _
theorem candP_pic {l : List UInt8} (h : (cutL l).length ≤ 5) : picB (candP l) = true := mkR_pic (cutL_len l).1 h fun _ _ => bitD_bit _ _
theorem candP_no {l : List UInt8} (h : ¬ (cutL l).length ≤ 5) : picB (candP l) = false := pic_size (by rw [candP_len]; omega)
theorem rp_long {l : List UInt8} (h : ¬ (cutL l).length ≤ 5) : rpB l = false := by simp [rpB, h]
theorem rp_bad {l : List UInt8} {a k : Nat} (ha : a < (cutL l).length) (hk : k < (cutL l)[a].length) (h : okC (cutL l).length (cutL l)[a][k] = false) : rpB l = false := by
  rw [Bool.eq_false_iff]
  intro e
  simp only [rpB, Bool.and_eq_true, List.all_eq_true] at e
  have := e.1.2 _ (List.getElem_mem ha)
  rw [okD, List.all_eq_true] at this
  rw [this _ (List.getElem_mem hk)] at h; cases h
/-- all bytes of the first k parts are digits -/
def OkTo (l : List UInt8) (k : Nat) : Prop := ∀ a (h : a < (cutL l).length), a < k → okD (cutL l).length (cutL l)[a] = true
theorem rp_whole {l : List UInt8} (h5 : (cutL l).length ≤ 5) (h : OkTo l (cutL l).length) : rpB l = decide (picText (candP l) = l) := by
  have : (cutL l).all (okD (cutL l).length) = true := by
    rw [List.all_eq_true]; intro x hx
    obtain ⟨a, ha, rfl⟩ := List.getElem_of_mem hx
    exact h a ha ha
  simp [rpB, h5, this]
theorem rpL_no {l : List UInt8} (h : rpB l = false) : rpL l = [] := by simp [rpL, h]
theorem rpL_yes {l : List UInt8} (h : rpB l = true) : rpL l = candP l := by simp [rpL, h]
theorem rp_pic {l : List UInt8} (h : rpB l = true) : picB (rpL l) = true ∧ picText (rpL l) = l := by
  rw [rpL_yes h]
  simp only [rpB, Bool.and_eq_true, decide_eq_true_eq] at h
  exact ⟨candP_pic h.1.1, h.2⟩

/-! ### a picture's text is read -/
theorem dig_toNat {v : Nat} (h : v < 5) : (dig v).toNat = 48 + v := by
  unfold dig
  rw [UInt8.toNat_ofNat']
  omega
theorem digs_slash {l : List Nat} (h : ∀ v ∈ l, v < 5) : (47 : UInt8) ∉ digs l := by
  intro e
  obtain ⟨v, hv, e⟩ := List.mem_map.1 e
  have h1 := dig_toNat (h v hv)
  rw [e] at h1
  simp at h1; omega
theorem partL_lt {p : List (List Int)} (h : picB p = true) {i : Nat} (hi : i < p.length) : ∀ v ∈ arrowsL p i, v < p.length := fun _ hv => ((arrowsL_mem h hi).1 hv).1
theorem cut_join : ∀ (x : List UInt8) (r : List (List UInt8)), (∀ y ∈ x :: r, (47 : UInt8) ∉ y) → cutL (Lib.join (x :: r) [47]) = x :: r
  | x, [], h => by rw [Lib.join_one]; exact cutL_none x (h x (by simp))
  | x, y :: r, h => by
    have e : Lib.join (x :: y :: r) [47] = x ++ 47 :: Lib.join (y :: r) [47] := by simp [Lib.join_cons, Lib.joinTail]
    rw [e, cutL_app x _ (h x (by simp)), cut_join y r fun z hz => h z (by simp [hz])]
theorem cut_text {p : List (List Int)} (h : picB p = true) : cutL (picText p) = partsTo p p.length := by
  have h1 := ((picB_iff p).1 h).1
  have h5 := ((picB_iff p).1 h).2.1
  have hp : ∀ y ∈ partsTo p p.length, (47 : UInt8) ∉ y := by
    intro y hy
    obtain ⟨i, hi, rfl⟩ := List.mem_map.1 hy
    have := List.mem_range.1 hi
    exact digs_slash fun v hv => by have := partL_lt h this v hv; omega
  have hl := partsTo_len p p.length
  rw [picText, textTo]
  cases hq : partsTo p p.length with
  | nil => rw [hq] at hl; simp at hl; omega
  | cons x r => exact cut_join x r (by rw [← hq]; exact hp)
theorem hasD_digs {l : List Nat} (h : ∀ v ∈ l, v < 5) {b : Nat} (_hb : b < 5) : hasD (digs l) b = decide (b ∈ l) := by
  rw [Bool.eq_iff_iff, decide_eq_true_eq, hasD, List.any_eq_true]
  constructor
  · rintro ⟨c, hc, e⟩
    obtain ⟨v, hv, rfl⟩ := List.mem_map.1 hc
    have := dig_toNat (h v hv)
    rw [beq_iff_eq] at e
    have : v = b := by omega
    rw [← this]; exact hv
  · intro hb2
    exact ⟨dig b, List.mem_map.2 ⟨b, hb2, rfl⟩, by rw [dig_toNat (h b hb2)]; simp⟩
theorem cand_text {p : List (List Int)} (h : picB p = true) : candP (picText p) = p := by
  have h5 := ((picB_iff p).1 h).2.1
  have hl := partsTo_len p p.length
  rw [candP, cut_text h, hl]
  conv => rhs; rw [pic_eq h]
  apply mkR_congr
  intro i j hi hj
  have e : pieceOf (picText p) i = digs (arrowsL p i) := by
    rw [pieceOf, cut_text h, List.getD_eq_getElem?_getD, List.getElem?_eq_getElem (by omega), Option.getD_some]
    simp [partsTo, partL]
  rw [e, bitD, hasD_digs (fun v hv => by have := partL_lt h hi v hv; omega) (by omega)]
  have hm := arrowsL_mem h hi (j := j)
  by_cases hb : j ∈ arrowsL p i
  · rw [if_pos (by simpa using hb), (hm.1 hb).2]
  · rw [if_neg (by simpa using hb)]
    rcases pic_bit h hi hj with e | e
    · exact e.symm
    · exact absurd (hm.2 ⟨hj, e⟩) hb
theorem rp_text {p : List (List Int)} (h : picB p = true) : rpB (picText p) = true ∧ rpL (picText p) = p := by
  have h5 := ((picB_iff p).1 h).2.1
  have hl := partsTo_len p p.length
  have hB : rpB (picText p) = true := by
    rw [rp_whole (by rw [cut_text h, hl]; exact h5), cand_text h]
    · simp
    · intro a ha _
      have ha2 : a < p.length := by rw [cut_text h, hl] at ha; exact ha
      rw [okD, List.all_eq_true]
      intro c hc
      have e : (cutL (picText p))[a] = digs (arrowsL p a) := by
        have : (cutL (picText p))[a]? = some (digs (arrowsL p a)) := by rw [cut_text h]; simp [partsTo, partL, ha2]
        rw [List.getElem?_eq_getElem ha] at this
        exact Option.some.inj this
      rw [e] at hc
      obtain ⟨v, hv, rfl⟩ := List.mem_map.1 hc
      have h1 := partL_lt h ha2 v hv
      have h2 := dig_toNat (v := v) (by omega)
      simp [okC, cut_text h, hl, h2, h1]
  exact ⟨hB, by rw [rpL_yes hB, cand_text h]⟩
end Go.Proofs.YtipadgpgcdjflaaDoor
