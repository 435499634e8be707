/- The laws' helpers on slices of rows: copies, comparisons, sizes, marks. -/
import Derived.Test.YtipadgpgcdjflaaDoorInts
import Derived.Test.YtipadgpgcdjflaaDoorRowsM
namespace Go.Proofs.YtipadgpgcdjflaaDoor
open Go.RowKit

/-! ### toIntSS -/
def toRelR (W : World) (v : Value) (rows : List (List Int)) (k : Nat) (wr : World) : Prop :=
  OwnsR W.heap.size wr.heap.size wr v (rows.take k ++ List.replicate (rows.length - k) []) ∧ Fresh W wr

theorem toRelR_form {W : World} {g n c : Nat} {rows : List (List Int)} {k : Nat} {wr : World} (h : toRelR W (.slice (some ⟨g, 0, none⟩) n c) rows k wr) : g < wr.heap.size := (h.1.blk g rfl).2.2

set_option maxHeartbeats 400000 in
theorem toIntSS_any (v : Value) (rows : List (List Int)) (w : World) (h : RowsR w v rows) (hlen : rows.length ≤ 1048576) (hr : ∀ r ∈ rows, r.length ≤ 1048576) :
    Calls Tryd.prog 21 #[v] w fun e w' => ∃ r, e = .returned r ∧ OwnsR w.heap.size w'.heap.size w' r rows ∧ Fresh w w' := by
  obtain ⟨i0, hi, hz0, hz1, hz2⟩ := info_parts info_ints
  obtain ⟨a, cap, rfl⟩ := h.len
  have hby : i0.bytes * rows.length ≤ 281474976710656 := by rw [hz2]; omega
  clear hz2
  go_enter Tryd.func21, Tryd.ntmps21
  go_wp2_with (at_make; refine wpList_make_full _ rfl _ _ 22 rfl w.heap.size 38 i0 (.slice none 0 0) 1 Tryd.underlying22 hi hz0 hz1 .i64 .i64 _ _ rows.length rfl rfl rfl rfl hby ?c2 ?c3 ?_)
  case c2 => unfold maxLen; omega
  case c3 => exact Nat.le_refl _
  intro w1 hown hgr
  have hR : toRelR w (.slice (some ⟨w.heap.size, 0, none⟩) rows.length rows.length) rows 0 w1 := by
    refine ⟨?_, (Fresh.refl w).grown hgr (fun k hk => by cases hk)⟩
    simpa using OwnsR.made (w := w) hown
  clear hown hgr hby
  go_wp2
  go_loopw [4] (fun i wr => ∃ k : Nat, k ≤ rows.length ∧ i = .int .i64 k ∧ toRelR w (.slice (some ⟨w.heap.size, 0, none⟩) rows.length rows.length) rows k wr) (fun i _ => rows.length - (intOf i).toNat)
  case atStart => exact ⟨0, Nat.zero_le _, rfl, hR⟩
  case round =>
    clear hR
    obtain ⟨k, hk, rfl, hR⟩ := hrel
    by_cases hlt : k < rows.length
    · obtain ⟨b, off, a', c, rfl, hc, hI⟩ := (h.fresh hR.2).rowLen hlt
      have hl := hr rows[k] (List.getElem_mem hlt)
      have HS := Lib.hid (set_take_rep [] rows k hlt)
      obtain ⟨x, hx⟩ : ∃ x, x = rows[k] := ⟨_, rfl⟩
      rw [← hx] at hc hI hl HS
      clear hx
      go_wp2_with fail
      refine (toIntS_any _ x _ hI hl).mono ?_
      rintro e w2 ⟨u, rfl, hO, hF⟩
      have hO1 := hR.1.fresh hF
      have hs := hF.size
      have hs0 := hR.2.size
      have hform := hO.ints.len
      obtain ⟨ua, uc, rfl⟩ := hform
      obtain ⟨f1, ⟨y, f2⟩, f3, f4⟩ := hO1.setRow (i := k) (by simp; omega) (by simp; omega) (hO.wider hs0 (Nat.le_refl _)) (fun g hg => (hO.blk g hg).1) hs
      rw [HS.out] at f3
      have hF2 : Fresh w (w2.setCell ⟨w.heap.size, k, none⟩ (.slice ua x.length uc)) := (hR.2.trans hF).setCell (Nat.le_refl _) _
      have HR' : Hid (toRelR w (.slice (some ⟨w.heap.size, 0, none⟩) rows.length rows.length) rows (k + 1) (w2.setCell ⟨w.heap.size, k, none⟩ (.slice ua x.length uc))) :=
        ⟨f3.wider (Nat.le_refl _) (by simp [World.setCell]), hF2⟩
      clear hR hO hO1 f3 f4 hF hI hc h HS
      go_wp2
      go_roundw
      case rel => exact ⟨k + 1, hlt, by go_num, HR'.out⟩
      case measure => simp [intOf]; omega
    · go_wp2
      go_ret
      obtain rfl : k = rows.length := by omega
      refine ⟨_, rfl, ?_, hR.2⟩
      have := hR.1
      rwa [Nat.sub_self, List.take_length, List.replicate_zero, List.append_nil] at this

/-! ### eqIntSS -/
def EqToR (xs ys : List (List Int)) (k : Nat) : Prop := ∀ j (h1 : j < xs.length) (h2 : j < ys.length), j < k → xs[j] = ys[j]
theorem EqToR.step {xs ys : List (List Int)} {k : Nat} (h : EqToR xs ys k) (h1 : k < xs.length) (h2 : k < ys.length) (e : xs[k] = ys[k]) : EqToR xs ys (k + 1) := by
  intro j a b hj
  by_cases hjk : j = k
  · subst hjk; exact e
  · exact h j a b (by omega)
theorem EqToR.all {xs ys : List (List Int)} {k : Nat} (h : EqToR xs ys k) (hl : xs.length = ys.length) (hk : ¬ k < xs.length) : xs = ys :=
  List.ext_getElem hl fun j hj _ => h j hj (by omega) (by omega)

set_option maxHeartbeats 400000 in
theorem eqIntSS_any (v u : Value) (xs ys : List (List Int)) (w : World) (h : RowsR w v xs) (h' : RowsR w u ys) :
    Calls Tryd.prog 9 #[v, u] w fun e w' => e = .returned (.bool (decide (xs = ys))) ∧ Fresh w w' := by
  obtain ⟨a, cap, rfl⟩ := h.len
  obtain ⟨a', cap', rfl⟩ := h'.len
  have hb := h.bound
  have hb' := h'.bound
  by_cases hl : xs.length = ys.length
  case neg =>
    have hne : ((xs.length : Int) != ys.length) = true := by rw [bne_iff_ne]; omega
    go_enter Tryd.func9, Tryd.ntmps9
    go_wp2
    go_ret
    exact ⟨ret_bool (decide_eq_false fun e => hl (by rw [e])).symm, Fresh.refl _⟩
  have hne : ((xs.length : Int) != ys.length) = false := by simp; omega
  have HL := Lib.hid hl
  clear hl
  go_enter Tryd.func9, Tryd.ntmps9
  go_wp2
  go_loopw [5] (fun i wr => ∃ k : Nat, k ≤ xs.length ∧ i = .int .i64 k ∧ EqToR xs ys k ∧ Fresh w wr) (fun i _ => xs.length - (intOf i).toNat)
  case atStart => exact ⟨0, Nat.zero_le _, rfl, fun j _ _ h => by omega, Fresh.refl _⟩
  case round =>
    obtain ⟨k, hk, rfl, hE, hF⟩ := hrel
    by_cases hlt : k < xs.length
    · obtain ⟨b, off, x1, x2, rfl, hc, hI⟩ := (h.fresh hF).rowLen hlt
      have hlt' : k < ys.length := by have := HL.out; omega
      obtain ⟨b', off', y1, y2, rfl, hc', hI'⟩ := (h'.fresh hF).rowLen hlt'
      have HE := Lib.hid (fun e => hE.step hlt hlt' e)
      have HN := Lib.hid (fun (e : xs[k] ≠ ys[k]) (e2 : xs = ys) => by subst e2; exact e rfl)
      obtain ⟨p, hp⟩ : ∃ p, p = xs[k] := ⟨_, rfl⟩
      obtain ⟨q, hq⟩ : ∃ q, q = ys[k] := ⟨_, rfl⟩
      rw [← hp] at hc hI HE HN
      rw [← hq] at hc' hI' HE HN
      clear hp hq h h' hE
      have hQ : ∀ n, Calls Tryd.prog 25 #[.slice x1 p.length x2, .slice y1 q.length y2] (wr.drewN n) fun e w' => e = .returned (.bool (decide (p = q))) ∧ ∃ m, w' = (wr.drewN n).drewN m :=
        fun n => eqIntS_q _ _ p q _ (hI.drewN n) (hI'.drewN n)
      have HQ := Lib.hid hQ
      clear hQ hI hI'
      by_cases hpq : p = q
      · have hd : decide (p = q) = true := decide_eq_true hpq
        have HX := Lib.hid (HE.out hpq)
        rw [hd] at HQ
        clear hpq hd
        go_wp2
        go_quiet ((go_at_call 25; exact Calls.quiet_of (HQ.out _)))
        go_wp2
        go_roundw
        case rel => exact ⟨k + 1, hlt, by go_num, HX.out, hF.drewN _⟩
        case measure => simp [intOf]; omega
      · have hd : decide (p = q) = false := decide_eq_false hpq
        have HX := Lib.hid (HN.out hpq)
        rw [hd] at HQ
        clear hpq hd
        go_wp2
        go_quiet ((go_at_call 25; exact Calls.quiet_of (HQ.out _)))
        go_wp2
        go_ret
        exact ⟨ret_bool (decide_eq_false HX.out).symm, hF.drewN _⟩
    · go_wp2
      go_ret
      exact ⟨ret_bool (decide_eq_true (hE.all HL.out hlt)).symm, hF⟩
set_option maxHeartbeats 400000 in
theorem sameRows_any (v u : Value) (xs ys : List (List Int)) (w : World) (h : RowsR w v xs) (h' : RowsR w u ys) :
    Calls Tryd.prog 17 #[v, u] w fun e w' => e = .returned (.bool (decide (xs = ys))) ∧ Fresh w w' := by
  obtain ⟨a, cap, rfl⟩ := h.len
  obtain ⟨a', cap', rfl⟩ := h'.len
  have hb := h.bound
  have hb' := h'.bound
  by_cases hl : xs.length = ys.length
  case neg =>
    have hne : ((xs.length : Int) != ys.length) = true := by rw [bne_iff_ne]; omega
    go_enter Tryd.func17, Tryd.ntmps17
    go_wp2
    go_ret
    exact ⟨ret_bool (decide_eq_false fun e => hl (by rw [e])).symm, Fresh.refl _⟩
  have hne : ((xs.length : Int) != ys.length) = false := by simp; omega
  have HL := Lib.hid hl
  clear hl
  go_enter Tryd.func17, Tryd.ntmps17
  go_wp2
  go_loopw [5] (fun i wr => ∃ k : Nat, k ≤ xs.length ∧ i = .int .i64 k ∧ EqToR xs ys k ∧ Fresh w wr) (fun i _ => xs.length - (intOf i).toNat)
  case atStart => exact ⟨0, Nat.zero_le _, rfl, fun j _ _ h => by omega, Fresh.refl _⟩
  case round =>
    obtain ⟨k, hk, rfl, hE, hF⟩ := hrel
    by_cases hlt : k < xs.length
    · obtain ⟨b, off, x1, x2, rfl, hc, hI⟩ := (h.fresh hF).rowLen hlt
      have hlt' : k < ys.length := by have := HL.out; omega
      obtain ⟨b', off', y1, y2, rfl, hc', hI'⟩ := (h'.fresh hF).rowLen hlt'
      have HE := Lib.hid (fun e => hE.step hlt hlt' e)
      have HN := Lib.hid (fun (e : xs[k] ≠ ys[k]) (e2 : xs = ys) => by subst e2; exact e rfl)
      obtain ⟨p, hp⟩ : ∃ p, p = xs[k] := ⟨_, rfl⟩
      obtain ⟨q, hq⟩ : ∃ q, q = ys[k] := ⟨_, rfl⟩
      rw [← hp] at hc hI HE HN
      rw [← hq] at hc' hI' HE HN
      clear hp hq h h' hE
      have hQ : ∀ n, Calls Tryd.prog 34 #[.slice x1 p.length x2, .slice y1 q.length y2] (wr.drewN n) fun e w' => e = .returned (.bool (decide (p = q))) ∧ ∃ m, w' = (wr.drewN n).drewN m :=
        fun n => sameInts_q _ _ p q _ (hI.drewN n) (hI'.drewN n)
      have HQ := Lib.hid hQ
      clear hQ hI hI'
      by_cases hpq : p = q
      · have hd : decide (p = q) = true := decide_eq_true hpq
        have HX := Lib.hid (HE.out hpq)
        rw [hd] at HQ
        clear hpq hd
        go_wp2
        go_quiet ((go_at_call 34; exact Calls.quiet_of (HQ.out _)))
        go_wp2
        go_roundw
        case rel => exact ⟨k + 1, hlt, by go_num, HX.out, hF.drewN _⟩
        case measure => simp [intOf]; omega
      · have hd : decide (p = q) = false := decide_eq_false hpq
        have HX := Lib.hid (HN.out hpq)
        rw [hd] at HQ
        clear hpq hd
        go_wp2
        go_quiet ((go_at_call 34; exact Calls.quiet_of (HQ.out _)))
        go_wp2
        go_ret
        exact ⟨ret_bool (decide_eq_false HX.out).symm, hF.drewN _⟩
    · go_wp2
      go_ret
      exact ⟨ret_bool (decide_eq_true (hE.all HL.out hlt)).symm, hF⟩

/-! ### szIntSS -/
/-- what szIntSS answers: less than 0, or the rows are few and short -/
def SzPost (rows : List (List Int)) (left : Int) (w : World) (e : Ending) (w' : World) : Prop :=
  ∃ n : Int, e = .returned (.int .i64 n) ∧ (n = -1 ∨ (0 ≤ n ∧ n ≤ left ∧ rows.length ≤ left ∧ ∀ r ∈ rows, (r.length : Int) ≤ left)) ∧ w = w'
def SzTo (rows : List (List Int)) (left : Int) (k : Nat) (n : Int) : Prop := 0 ≤ n ∧ n ≤ left ∧ ∀ j (h : j < rows.length), j < k → (rows[j].length : Int) ≤ left
theorem SzTo.step {rows : List (List Int)} {left : Int} {k : Nat} {n : Int} (h : SzTo rows left k n) (hk : k < rows.length) (h0 : (rows[k].length : Int) ≤ n) : SzTo rows left (k + 1) (n - rows[k].length) := by
  obtain ⟨h1, h2, h3⟩ := h
  refine ⟨by omega, by omega, fun j hj hjk => ?_⟩
  by_cases hjk2 : j = k
  · subst hjk2; omega
  · exact h3 j hj (by omega)
theorem SzTo.all {rows : List (List Int)} {left : Int} {k : Nat} {n : Int} (h : SzTo rows left k n) (hk : ¬ k < rows.length) : ∀ r ∈ rows, (r.length : Int) ≤ left := by
  intro r hr
  obtain ⟨j, hj, rfl⟩ := List.getElem_of_mem hr
  exact h.2.2 j hj (by omega)

theorem szI_lo {n : Nat} {left : Int} (h : (n : Int) ≤ left) : szI n left = left - n := by unfold szI; rw [if_pos h]
theorem szI_hi {n : Nat} {left : Int} (h : ¬ (n : Int) ≤ left) : szI n left = -1 := by unfold szI; rw [if_neg h]
set_option maxHeartbeats 400000 in
theorem szIntSS_any (v : Value) (rows : List (List Int)) (left : Int) (w : World) (h : RowsR w v rows) (h0 : 0 ≤ left) (h1 : left ≤ 1048576) :
    Calls Tryd.prog 20 #[v, .int .i64 left] w (SzPost rows left w) := by
  obtain ⟨a, cap, rfl⟩ := h.len
  have hb := h.bound
  by_cases hl : (rows.length : Int) ≤ left
  case neg =>
    go_enter Tryd.func20, Tryd.ntmps20
    go_wp2
    go_ret
    exact ⟨-1, rfl, .inl rfl, rfl⟩
  have hS : SzTo rows left 0 (left - rows.length) := ⟨by omega, by omega, fun j _ h => by omega⟩
  have h2 : (0 : Int) ≤ left - rows.length := by omega
  go_enter Tryd.func20, Tryd.ntmps20
  go_wp2
  go_loop [1, 5] (fun m i => ∃ (k : Nat) (n : Int), k ≤ rows.length ∧ i = .int .i64 k ∧ m = .int .i64 n ∧ SzTo rows left k n) (fun _ i => rows.length - (intOf i).toNat)
  case atStart => exact ⟨0, _, by omega, rfl, rfl, hS⟩
  case round =>
    clear hS
    obtain ⟨k, n, hk, rfl, rfl, hS⟩ := hrel
    have hn0 := hS.1
    have hn1 := hS.2.1
    by_cases hlt : k < rows.length
    · obtain ⟨b, off, x1, x2, rfl, hc, hI⟩ := h.rowLen hlt
      have HS := Lib.hid (fun e => hS.step hlt e)
      obtain ⟨p, hp⟩ : ∃ p, p = rows[k] := ⟨_, rfl⟩
      rw [← hp] at hc hI HS
      clear hp h hS
      by_cases hx : (p.length : Int) ≤ n
      · have HX := Lib.hid (HS.out hx)
        have e1 := Lib.hid (szI_lo hx)
        go_wp2_with fail
        refine (szIntS_any _ p n _ hI hn0 (by omega)).mono ?_
        rintro e w' ⟨rfl, rfl⟩
        rw [e1.out]
        have hx2 : (0 : Int) ≤ n - p.length := by omega
        go_wp2
        go_round
        case rel => exact ⟨k + 1, _, hlt, by go_num, rfl, HX.out⟩
        case measure => simp [intOf]; omega
      · have e1 := Lib.hid (szI_hi hx)
        go_wp2_with fail
        refine (szIntS_any _ p n _ hI hn0 (by omega)).mono ?_
        rintro e w' ⟨rfl, rfl⟩
        rw [e1.out]
        go_wp2
        go_ret
        exact ⟨-1, rfl, .inl rfl, rfl⟩
    · have HX := Lib.hid (hS.all hlt)
      go_wp2
      go_ret
      exact ⟨n, rfl, .inr ⟨hn0, hn1, hl, HX.out⟩, rfl⟩

/-! ### marks on rows -/
def sumTo (rows : List (List Int)) (i : Nat) : Nat := ((rows.take i).map List.length).sum
theorem sumTo_step (rows : List (List Int)) (i : Nat) (hi : i < rows.length) : sumTo rows (i + 1) = sumTo rows i + rows[i].length := by
  rw [sumTo, sumTo, List.take_succ_eq_append_getElem hi, List.map_append, List.sum_append]
  simp only [List.map_cons, List.map_nil, List.sum_cons, List.sum_nil, Nat.add_zero]
theorem sumTo_le (rows : List (List Int)) (i B : Nat) (h : ∀ r ∈ rows, r.length ≤ B) : sumTo rows i ≤ i * B := by
  induction i with
  | zero => simp [sumTo]
  | succ i ih =>
    by_cases hi : i < rows.length
    · rw [sumTo_step rows i hi]
      have := h _ (List.getElem_mem hi)
      have e : (i + 1) * B = i * B + B := Nat.succ_mul i B
      omega
    · have e : sumTo rows (i + 1) = sumTo rows i := by
        rw [sumTo, sumTo, List.take_of_length_le (by omega), List.take_of_length_le (by omega)]
      have e2 : (i + 1) * B = i * B + B := Nat.succ_mul i B
      omega
/-- the first i rows marked, the others as they were -/
def mixR (k : Int) (rows : List (List Int)) (i : Nat) : List (List Int) :=
  (List.range rows.length).map fun j => if j < i then marks (k + sumTo rows j) (rows.getD j []).length else rows.getD j []
def marksR (k : Int) (rows : List (List Int)) : List (List Int) := mixR k rows rows.length
def totalR (rows : List (List Int)) : Nat := sumTo rows rows.length
theorem mixR_len (k : Int) (rows : List (List Int)) (i : Nat) : (mixR k rows i).length = rows.length := by simp [mixR]
theorem mixR_zero (k : Int) (rows : List (List Int)) : mixR k rows 0 = rows := by
  apply List.ext_getElem (by simp [mixR])
  intro i h1 h2
  simp [mixR, List.getD_eq_getElem?_getD, h2]
theorem mixR_get (k : Int) (rows : List (List Int)) (i j : Nat) (h : j < (mixR k rows i).length) : (mixR k rows i)[j] = if j < i then marks (k + sumTo rows j) (rows[j]'(by rwa [mixR_len] at h)).length else rows[j]'(by rwa [mixR_len] at h) := by
  have hj : j < rows.length := by rwa [mixR_len] at h
  simp [mixR, List.getD_eq_getElem?_getD, hj]
theorem mixR_set (k : Int) (rows : List (List Int)) (i : Nat) (hi : i < rows.length) : (mixR k rows i).set i (marks (k + sumTo rows i) rows[i].length) = mixR k rows (i + 1) := by
  apply List.ext_getElem (by simp [mixR])
  intro j h1 h2
  rw [mixR_get]
  by_cases hij : i = j
  · subst hij; rw [List.getElem_set_self, if_pos (by omega)]
  · rw [List.getElem_set_ne hij, mixR_get]
    by_cases h : j < i
    · rw [if_pos h, if_pos (by omega)]
    · rw [if_neg h, if_neg (by omega)]
theorem marksR_len (k : Int) (rows : List (List Int)) : (marksR k rows).length = rows.length := mixR_len _ _ _
theorem marksR_get (k : Int) (rows : List (List Int)) (j : Nat) (h : j < rows.length) : (marksR k rows)[j]'(by rw [marksR_len]; exact h) = marks (k + sumTo rows j) rows[j].length := by
  unfold marksR
  rw [mixR_get, if_pos h]

set_option maxHeartbeats 400000 in
theorem markIntSS_any (lo hi : Nat) (v : Value) (rows : List (List Int)) (k : Int) (w : World) (h : OwnsR lo hi w v rows) (h0 : 0 ≤ k) (h1 : k ≤ 1048576) (hl : rows.length ≤ 1048576) (hr : ∀ r ∈ rows, r.length ≤ 1048576) :
    Calls Tryd.prog 10 #[v, .int .i64 k] w fun e w' => e = .returned (.int .i64 (k + totalR rows)) ∧ OwnsR lo hi w' v (marksR k rows) ∧ Keeps (fun b => lo ≤ b ∧ b < hi) w w' := by
  obtain ⟨a, cap, rfl⟩ := h.rows.len
  have hO : OwnsR lo hi w (.slice a rows.length cap) (mixR k rows 0) := by rw [mixR_zero]; exact h
  clear h
  go_enter Tryd.func10, Tryd.ntmps10
  go_wp2
  go_loopw [1, 5] (fun m i wr => ∃ j : Nat, j ≤ rows.length ∧ i = .int .i64 j ∧ m = .int .i64 (k + (sumTo rows j : Nat)) ∧ OwnsR lo hi wr (.slice a rows.length cap) (mixR k rows j) ∧ Keeps (fun b => lo ≤ b ∧ b < hi) w wr) (fun _ i _ => rows.length - (intOf i).toNat)
  case atStart => exact ⟨0, by omega, rfl, by simp [sumTo], hO, Keeps.refl _ _⟩
  case round =>
    clear hO
    obtain ⟨j, hj, rfl, rfl, hO, hK⟩ := hrel
    by_cases hlt : j < rows.length
    · obtain ⟨g, c, heq, hg1, hg2, hg3⟩ := hO.form (by rw [mixR_len]; omega)
      rw [mixR_len] at heq
      simp only [Value.slice.injEq, true_and] at heq; obtain ⟨rfl, rfl⟩ := heq
      obtain ⟨u, hc, hu, hback⟩ := hO.rowOwn (by rw [mixR_len]) (i := j) (by rw [mixR_len]; omega)
      rw [mixR_get, if_neg (by omega)] at hu
      have hrl := hr rows[j] (List.getElem_mem hlt)
      have hst := sumTo_le rows j 1048576 hr
      have H1 := Lib.hid (sumTo_step rows j hlt)
      have H2 := Lib.hid (mixR_set k rows j hlt)
      have hst2 : sumTo rows j ≤ 1099511627776 := Nat.le_trans hst (by omega)
      obtain ⟨p, hp⟩ : ∃ p, p = rows[j] := ⟨_, rfl⟩
      rw [← hp] at hu hrl H1 H2
      clear hp hst
      have hst3 : (0 : Int) ≤ (sumTo rows j : Nat) := Int.natCast_nonneg _
      have HB := Lib.hid hback
      clear hback hO
      obtain ⟨ua, uc, rfl⟩ := hu.ints.len
      go_wp2_with fail
      refine (markIntS_rng lo hi _ p _ _ hu (by omega) (by omega)).mono ?_
      rintro e w2 ⟨rfl, hu2, hK2⟩
      have hO2 := HB.out w2 _ hu2 hK2
      rw [H2.out] at hO2
      have hK3 : Keeps (fun b => lo ≤ b ∧ b < hi) w w2 := hK.trans (hK2.mono fun b _ hb => ⟨(hu.blk b hb).1, (hu.blk b hb).2.1⟩)
      go_wp2
      go_roundw
      case rel => exact ⟨j + 1, hlt, by go_num, by rw [H1.out]; congr 1; omega, hO2, hK3⟩
      case measure => simp [intOf]; omega
    · go_wp2
      go_ret
      obtain rfl : j = rows.length := by omega
      exact ⟨rfl, hO, hK⟩

theorem heldI_marksK (k : Int) (n : Nat) : heldI (marks k n) k = k + n := by
  unfold heldI; rw [if_pos (by rw [marks_length]), marks_length]
set_option maxHeartbeats 400000 in
theorem heldIntSS_any (v : Value) (rows : List (List Int)) (k : Int) (w : World) (h : RowsR w v (marksR k rows)) (h0 : 0 ≤ k) (h1 : k ≤ 1048576) (hl : rows.length ≤ 1048576) (hr : ∀ r ∈ rows, r.length ≤ 1048576) :
    Calls Tryd.prog 11 #[v, .int .i64 k] w fun e w' => e = .returned (.int .i64 (k + totalR rows)) ∧ Fresh w w' := by
  obtain ⟨a, cap, hv⟩ := h.len
  subst hv
  have hml := marksR_len k rows
  have HM := Lib.hid hml
  rw [hml]
  clear hml
  go_enter Tryd.func11, Tryd.ntmps11
  go_wp2
  go_loopw [1, 5] (fun m i wr => ∃ j : Nat, j ≤ rows.length ∧ i = .int .i64 j ∧ m = .int .i64 (k + (sumTo rows j : Nat)) ∧ Fresh w wr) (fun _ i _ => rows.length - (intOf i).toNat)
  case atStart => exact ⟨0, by omega, rfl, by simp [sumTo], Fresh.refl _⟩
  case round =>
    obtain ⟨j, hj, rfl, rfl, hF⟩ := hrel
    by_cases hlt : j < rows.length
    · obtain ⟨b, off, x1, x2, rfl, hc, hI⟩ := (h.fresh hF).rowLen (i := j) (by rw [HM.out]; exact hlt)
      rw [marksR_get k rows j hlt] at hc hI
      have hrl := hr rows[j] (List.getElem_mem hlt)
      have hst := sumTo_le rows j 1048576 hr
      have hst2 : sumTo rows j ≤ 1099511627776 := Nat.le_trans hst (by omega)
      have H1 := Lib.hid (sumTo_step rows j hlt)
      have H2 := Lib.hid (heldI_marksK (k + sumTo rows j) rows[j].length)
      have H3 := Lib.hid (marks_length (k + sumTo rows j) rows[j].length)
      obtain ⟨n, hn⟩ : ∃ n, n = rows[j].length := ⟨_, rfl⟩
      rw [← hn] at hc hI hrl H1 H2 H3
      obtain ⟨ms, hms⟩ : ∃ ms, ms = marks (k + sumTo rows j) n := ⟨_, rfl⟩
      rw [← hms] at hc hI H2 H3
      have hst3 : (0 : Int) ≤ (sumTo rows j : Nat) := Int.natCast_nonneg _
      clear hn hms hst h
      go_wp2_with fail
      refine (heldIntS_any _ ms _ _ hI (by omega) (by rw [H3.out]; omega)).mono ?_
      rintro e w2 ⟨rfl, hF2⟩
      rw [H2.out]
      have hpos : (0 : Int) ≤ k + (sumTo rows j : Nat) + n := by omega
      go_wp2
      go_roundw
      case rel => exact ⟨j + 1, hlt, by go_num, by rw [H1.out]; congr 1; omega, hF.trans hF2⟩
      case measure => simp [intOf]; omega
    · go_wp2
      go_ret
      obtain rfl : j = rows.length := by omega
      exact ⟨rfl, hF⟩
end Go.Proofs.YtipadgpgcdjflaaDoor
