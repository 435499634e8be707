/- The laws' helpers on slices of ints: copies, comparisons, marks. -/
import Derived.Test.YtipadgpgcdjflaaDoorBase
namespace Go.Proofs.YtipadgpgcdjflaaDoor
open Go.RowKit

theorem ret_bool {a b : Bool} (h : a = b) : Ending.returned (.bool a) = Ending.returned (.bool b) := by rw [h]
theorem ret_int {a b : Int} (h : a = b) : Ending.returned (.int .i64 a) = Ending.returned (.int .i64 b) := by rw [h]
/-- only draws -/
def Drew (w w' : World) : Prop := ∃ n, w' = w.drewN n
theorem Drew.refl (w : World) : Drew w w := ⟨0, rfl⟩
theorem Drew.drewN {w w' : World} (h : Drew w w') (n : Nat) : Drew w (w'.drewN n) := by
  obtain ⟨m, rfl⟩ := h
  exact ⟨m + n, by rw [World.drewN_drewN]⟩
theorem Drew.fresh {w w' : World} (h : Drew w w') : Fresh w w' := by
  obtain ⟨m, rfl⟩ := h
  exact (Fresh.refl w).drewN m
theorem Drew.trans {a b c : World} (h : Drew a b) (k : Drew b c) : Drew a c := by
  obtain ⟨n, rfl⟩ := k
  exact h.drewN n
/-! ### toIntS -/
theorem set_take_rep {α : Type} (d : α) (zs : List α) (k : Nat) (hk : k < zs.length) :
    (zs.take k ++ List.replicate (zs.length - k) d).set k zs[k] = zs.take (k + 1) ++ List.replicate (zs.length - (k + 1)) d := by
  apply List.ext_getElem?
  intro i
  rw [List.getElem?_set]
  by_cases h1 : k = i
  · subst h1
    have e2 : k < min (k + 1) zs.length := by omega
    have e3 : k < min k zs.length + (zs.length - k) := by omega
    simp [List.getElem?_append, e2, e3]
  · simp only [h1, if_false, List.getElem?_append, List.length_take, List.getElem?_take, List.getElem?_replicate]
    by_cases h2 : i < k
    · have e1 : i < min k zs.length := by omega
      have e2 : i < min (k + 1) zs.length := by omega
      rw [if_pos e1, if_pos e2, if_pos h2, if_pos (by omega)]
    · have e1 : ¬ i < min k zs.length := by omega
      have e2 : ¬ i < min (k + 1) zs.length := by omega
      rw [if_neg e1, if_neg e2]
      have e3 : min k zs.length = k := by omega
      have e4 : min (k + 1) zs.length = k + 1 := by omega
      rw [e3, e4]
      have e5 : (i - k < zs.length - k) = (i - (k + 1) < zs.length - (k + 1)) := by apply propext; omega
      simp only [e5]

theorem set_take_replicate (zs : List Int) (k : Nat) (hk : k < zs.length) :
    (zs.take k ++ List.replicate (zs.length - k) (0 : Int)).set k zs[k] = zs.take (k + 1) ++ List.replicate (zs.length - (k + 1)) 0 := set_take_rep 0 zs k hk

/-- what toIntS' loop has done after k rounds -/
def toRel (W : World) (v : Value) (zs : List Int) (k : Nat) (wr : World) : Prop :=
  Owns W.heap.size (W.heap.size + 1) wr v (zs.take k ++ List.replicate (zs.length - k) 0) ∧ Fresh W wr

theorem toRel_step {W : World} {g n : Nat} {zs : List Int} {k : Nat} {wr : World} (hk : k < zs.length)
   (h : toRel W (.slice (some ⟨g, 0, none⟩) zs.length n) zs k wr) :
   wr.frozen? ⟨g, k, none⟩ = false ∧ wr.cell? ⟨g, k, none⟩ = some (.int .i64 0) ∧ toRel W (.slice (some ⟨g, 0, none⟩) zs.length n) zs (k+1) (wr.setCell ⟨g, k, none⟩ (.int .i64 zs[k])) := by
  obtain ⟨h1, h2⟩ := h
  have hl : zs.length = (zs.take k ++ List.replicate (zs.length - k) (0 : Int)).length := by simp; omega
  obtain ⟨s1, s2, s3⟩ := h1.store hl k zs[k]
  refine ⟨s1, ?_, ?_, ?_⟩
  · rw [h1.cell hl k (by simp; omega)]
    congr 2
    rw [List.getElem_append_right (by simp; omega)]; simp
  · rw [set_take_replicate zs k hk] at s2; exact s2
  · exact h2.setCell (h1.blk g rfl).1 _

theorem toRel_made {w w1 : World} (zs : List Int) (hown : w1.ownsRow w.heap.size 3 1 (.slice (some ⟨w.heap.size, 0, none⟩) zs.length zs.length) zs.length (madeCells #[Value.int .i64 0] zs.length).toList) (hgr : w.grownBy w1 none) :
    toRel w (.slice (some ⟨w.heap.size, 0, none⟩) zs.length zs.length) zs 0 w1 := by
  refine ⟨⟨?_, ?_⟩, (Fresh.refl w).grown hgr (fun k hk => by cases hk)⟩
  · have := (Owns.made (w := w) (n := zs.length) (by simpa using hown)).1
    simpa using this
  · intro g hg; simp [Value.ownBlock] at hg; omega

set_option maxHeartbeats 400000 in
theorem toIntS_any (v : Value) (zs : List Int) (w : World) (h : Ints w v zs) (hlen : zs.length ≤ 1048576) :
    Calls Tryd.prog 37 #[v] w fun e w' => ∃ r, e = .returned r ∧ Owns w.heap.size w'.heap.size w' r zs ∧ Fresh w w' := by
  obtain ⟨i0, hi, hz0, hz1, hz2⟩ := info_parts info_int
  obtain ⟨a, cap, rfl⟩ := h.len
  have hby : i0.bytes * zs.length ≤ 281474976710656 := by rw [hz2]; omega
  clear hz2
  go_enter Tryd.func37, Tryd.ntmps37
  go_wp2_with (at_make; refine wpList_make_full _ rfl _ _ 38 rfl w.heap.size 3 i0 (.int .i64 0) 1 Tryd.underlying38 hi hz0 hz1 .i64 .i64 _ _ zs.length rfl rfl rfl rfl hby ?c2 ?c3 ?_)
  case c2 => unfold maxLen; omega
  case c3 => exact Nat.le_refl _
  intro w1 hown hgr
  have hR := toRel_made zs hown hgr
  clear hown hgr hby
  go_wp2
  go_loopw [4] (fun i wr => ∃ k : Nat, k ≤ zs.length ∧ i = .int .i64 k ∧ toRel w (.slice (some ⟨w.heap.size, 0, none⟩) zs.length zs.length) zs k wr) (fun i _ => zs.length - (intOf i).toNat)
  case atStart => exact ⟨0, Nat.zero_le _, rfl, hR⟩
  case round =>
    clear hR
    obtain ⟨k, hk, rfl, hR⟩ := hrel
    by_cases hlt : k < zs.length
    · obtain ⟨hfz, hu, hR'⟩ := toRel_step hlt hR
      obtain ⟨b, off, cap', heq, hcell⟩ := (h.fresh hR.2).at hlt
      simp only [Value.slice.injEq, true_and] at heq; obtain ⟨rfl, rfl⟩ := heq
      have hc := hcell k hlt
      clear hR hcell h
      go_wp2
      go_roundw
      case rel => exact ⟨k + 1, hlt, by go_num, hR'⟩
      case measure => simp [intOf]; omega
    · go_wp2
      go_ret
      obtain rfl : k = zs.length := by omega
      refine ⟨_, rfl, ?_, hR.2⟩
      have := hR.1
      rw [Nat.sub_self, List.take_length, List.replicate_zero, List.append_nil] at this
      refine this.wider (Nat.le_refl _) ?_
      have := this.1.lt w.heap.size
      simp [Value.ownBlock] at this; omega
/-! ### eqIntS -/
theorem eq_of_prefix {xs ys : List Int} (hl : xs.length = ys.length) (h : ∀ j (hj : j < xs.length), xs[j] = ys[j]) : xs = ys :=
  List.ext_getElem hl fun i h1 _ => h i h1

def EqTo (xs ys : List Int) (k : Nat) : Prop := ∀ j (h1 : j < xs.length) (h2 : j < ys.length), j < k → xs[j] = ys[j]
theorem EqTo.step {xs ys : List Int} {k : Nat} (h : EqTo xs ys k) (h1 : k < xs.length) (h2 : k < ys.length) (e : (xs[k] != ys[k]) = false) : EqTo xs ys (k + 1) := by
  intro j a b hj
  by_cases hjk : j = k
  · subst hjk; simpa using e
  · exact h j a b (by omega)
theorem EqTo.all {xs ys : List Int} {k : Nat} (h : EqTo xs ys k) (hl : xs.length = ys.length) (hk : ¬ k < xs.length) : xs = ys :=
  eq_of_prefix hl fun j hj => h j hj (by omega) (by omega)

set_option maxHeartbeats 400000 in
theorem eqIntS_q (v u : Value) (xs ys : List Int) (w : World) (h : Ints w v xs) (h' : Ints w u ys) :
    Calls Tryd.prog 25 #[v, u] w fun e w' => e = .returned (.bool (decide (xs = ys))) ∧ Drew w w' := by
  obtain ⟨a, cap, rfl⟩ := h.len
  obtain ⟨a', cap', rfl⟩ := h'.len
  have hb := h.bound
  have hb' := h'.bound
  by_cases hl : xs.length = ys.length
  case neg =>
    have hne : ((xs.length : Int) != ys.length) = true := by simp; omega
    go_enter Tryd.func25, Tryd.ntmps25
    go_wp2
    go_ret
    exact ⟨ret_bool (decide_eq_false fun e => hl (by rw [e])).symm, Drew.refl _⟩
  have hne : ((xs.length : Int) != ys.length) = false := by simp; omega
  have HL := Lib.hid hl
  clear hl
  go_enter Tryd.func25, Tryd.ntmps25
  go_wp2
  go_loopw [5] (fun i wr => ∃ k : Nat, k ≤ xs.length ∧ i = .int .i64 k ∧ EqTo xs ys k ∧ Drew w wr) (fun i _ => xs.length - (intOf i).toNat)
  case atStart => exact ⟨0, Nat.zero_le _, rfl, fun j _ _ h => by omega, Drew.refl _⟩
  case round =>
    obtain ⟨k, hk, rfl, hE, hF⟩ := hrel
    by_cases hlt : k < xs.length
    · obtain ⟨b, off, cap2, heq, hcell⟩ := (h.fresh hF.fresh).at hlt
      simp only [Value.slice.injEq, true_and] at heq; obtain ⟨rfl, rfl⟩ := heq
      have hlt' : k < ys.length := by have := HL.out; omega
      obtain ⟨b', off', cap2', heq, hcell'⟩ := (h'.fresh hF.fresh).at hlt'
      simp only [Value.slice.injEq, true_and] at heq; obtain ⟨rfl, rfl⟩ := heq
      have hc := hcell k hlt
      have hc' := hcell' k hlt'
      clear hcell hcell' h h'
      by_cases hx : (xs[k] != ys[k]) = false
      · have H2 := Lib.hid (hE.step hlt hlt' hx)
        go_wp2
        go_quiet (fail)
        go_wp2
        go_roundw
        case rel => exact ⟨k + 1, hlt, by go_num, H2.out, hF.drewN _⟩
        case measure => simp [intOf]; omega
      · have hx : (xs[k] != ys[k]) = true := by simpa using hx
        have HX : Hid (xs ≠ ys) := fun e => by subst e; simp at hx
        go_wp2
        go_quiet (fail)
        go_wp2
        go_ret
        exact ⟨ret_bool (decide_eq_false HX.out).symm, hF.drewN _⟩
    · go_wp2
      go_ret
      exact ⟨ret_bool (decide_eq_true (hE.all HL.out hlt)).symm, hF⟩

theorem eqIntS_any (v u : Value) (xs ys : List Int) (w : World) (h : Ints w v xs) (h' : Ints w u ys) :
    Calls Tryd.prog 25 #[v, u] w fun e w' => e = .returned (.bool (decide (xs = ys))) ∧ Fresh w w' :=
  (eqIntS_q v u xs ys w h h').mono fun _ _ ⟨a, b⟩ => ⟨a, b.fresh⟩
set_option maxHeartbeats 400000 in
theorem sameInts_q (v u : Value) (xs ys : List Int) (w : World) (h : Ints w v xs) (h' : Ints w u ys) :
    Calls Tryd.prog 34 #[v, u] w fun e w' => e = .returned (.bool (decide (xs = ys))) ∧ Drew w w' := by
  obtain ⟨a, cap, rfl⟩ := h.len
  obtain ⟨a', cap', rfl⟩ := h'.len
  have hb := h.bound
  have hb' := h'.bound
  by_cases hl : xs.length = ys.length
  case neg =>
    have hne : ((xs.length : Int) != ys.length) = true := by simp; omega
    go_enter Tryd.func34, Tryd.ntmps34
    go_wp2
    go_ret
    exact ⟨ret_bool (decide_eq_false fun e => hl (by rw [e])).symm, Drew.refl _⟩
  have hne : ((xs.length : Int) != ys.length) = false := by simp; omega
  have HL := Lib.hid hl
  clear hl
  go_enter Tryd.func34, Tryd.ntmps34
  go_wp2
  go_loopw [5] (fun i wr => ∃ k : Nat, k ≤ xs.length ∧ i = .int .i64 k ∧ EqTo xs ys k ∧ Drew w wr) (fun i _ => xs.length - (intOf i).toNat)
  case atStart => exact ⟨0, Nat.zero_le _, rfl, fun j _ _ h => by omega, Drew.refl _⟩
  case round =>
    obtain ⟨k, hk, rfl, hE, hF⟩ := hrel
    by_cases hlt : k < xs.length
    · obtain ⟨b, off, cap2, heq, hcell⟩ := (h.fresh hF.fresh).at hlt
      simp only [Value.slice.injEq, true_and] at heq; obtain ⟨rfl, rfl⟩ := heq
      have hlt' : k < ys.length := by have := HL.out; omega
      obtain ⟨b', off', cap2', heq, hcell'⟩ := (h'.fresh hF.fresh).at hlt'
      simp only [Value.slice.injEq, true_and] at heq; obtain ⟨rfl, rfl⟩ := heq
      have hc := hcell k hlt
      have hc' := hcell' k hlt'
      clear hcell hcell' h h'
      by_cases hx : (xs[k] != ys[k]) = false
      · have H2 := Lib.hid (hE.step hlt hlt' hx)
        go_wp2
        go_quiet (fail)
        go_wp2
        go_roundw
        case rel => exact ⟨k + 1, hlt, by go_num, H2.out, hF.drewN _⟩
        case measure => simp [intOf]; omega
      · have hx : (xs[k] != ys[k]) = true := by simpa using hx
        have HX : Hid (xs ≠ ys) := fun e => by subst e; simp at hx
        go_wp2
        go_quiet (fail)
        go_wp2
        go_ret
        exact ⟨ret_bool (decide_eq_false HX.out).symm, hF.drewN _⟩
    · go_wp2
      go_ret
      exact ⟨ret_bool (decide_eq_true (hE.all HL.out hlt)).symm, hF⟩

theorem sameInts_any (v u : Value) (xs ys : List Int) (w : World) (h : Ints w v xs) (h' : Ints w u ys) :
    Calls Tryd.prog 34 #[v, u] w fun e w' => e = .returned (.bool (decide (xs = ys))) ∧ Fresh w w' :=
  (sameInts_q v u xs ys w h h').mono fun _ _ ⟨a, b⟩ => ⟨a, b.fresh⟩
/-! ### szIntS -/
/-- what szIntS answers -/
def szI (n : Nat) (left : Int) : Int := if (n : Int) ≤ left then left - n else -1
set_option maxHeartbeats 400000 in
theorem szIntS_any (v : Value) (zs : List Int) (left : Int) (w : World) (h : Ints w v zs) (h0 : 0 ≤ left) (h1 : left ≤ 1048576) :
    Calls Tryd.prog 36 #[v, .int .i64 left] w fun e w' => e = .returned (.int .i64 (szI zs.length left)) ∧ w = w' := by
  obtain ⟨a, cap, rfl⟩ := h.len
  have hb := h.bound
  by_cases hl : (zs.length : Int) ≤ left
  · go_enter Tryd.func36, Tryd.ntmps36
    go_wp2
    go_ret
    exact ⟨ret_int (by unfold szI; rw [if_pos (by omega)]), rfl⟩
  · go_enter Tryd.func36, Tryd.ntmps36
    go_wp2
    go_ret
    exact ⟨ret_int (by unfold szI; rw [if_neg (by omega)]), rfl⟩
/-! ### marks -/
/-- the numbers k, k + 1, .. -/
def marks (k : Int) (n : Nat) : List Int := (List.range n).map fun i : Nat => k + (i : Int)
theorem marks_length (k : Int) (n : Nat) : (marks k n).length = n := by simp [marks]
theorem marks_get (k : Int) (n i : Nat) (h : i < (marks k n).length) : (marks k n)[i] = k + i := by simp [marks]

theorem set_marks (zs : List Int) (k : Int) (j : Nat) (hj : j < zs.length) :
    (marks k j ++ zs.drop j).set j (k + j) = marks k (j + 1) ++ zs.drop (j + 1) := by
  apply List.ext_getElem?
  intro i
  rw [List.getElem?_set]
  by_cases h1 : j = i
  · subst h1
    have e3 : j < j + (zs.length - j) := by omega
    simp [List.getElem?_append, marks, e3]
  · simp only [h1, if_false, List.getElem?_append, marks_length, List.getElem?_drop]
    by_cases h2 : i < j
    · rw [if_pos h2, if_pos (by omega)]
      simp [marks, h2, show i < j + 1 by omega]
    · rw [if_neg h2, if_neg (by omega)]
      congr 1; omega

/-- what markIntS' loop has done after j rounds -/
def markRel (lo hi : Nat) (W : World) (v : Value) (zs : List Int) (k : Int) (j : Nat) (wr : World) : Prop :=
  Owns lo hi wr v (marks k j ++ zs.drop j) ∧ Keeps (fun b => lo ≤ b ∧ b < hi) W wr

theorem markRel_form {lo hi : Nat} {W : World} {v : Value} {zs : List Int} {k : Int} {j : Nat} {wr : World} (hj : j < zs.length)
    (h : markRel lo hi W v zs k j wr) : ∃ g cap, v = .slice (some ⟨g, 0, none⟩) zs.length cap := by
  obtain ⟨g, cap, hv, _⟩ := h.1.form (by simp [marks_length]; omega)
  have : (marks k j ++ zs.drop j).length = zs.length := by simp [marks_length]; omega
  rw [this] at hv
  exact ⟨g, cap, hv⟩

theorem markRel_step {lo hi : Nat} {W : World} {g n : Nat} {zs : List Int} {k : Int} {j : Nat} {wr : World} (hj : j < zs.length)
    (h : markRel lo hi W (.slice (some ⟨g, 0, none⟩) zs.length n) zs k j wr) :
    wr.frozen? ⟨g, j, none⟩ = false ∧ (∃ u, wr.cell? ⟨g, j, none⟩ = some (.int .i64 u)) ∧ markRel lo hi W (.slice (some ⟨g, 0, none⟩) zs.length n) zs k (j+1) (wr.setCell ⟨g, j, none⟩ (.int .i64 (k + j))) := by
  obtain ⟨h1, h2⟩ := h
  have hl : zs.length = (marks k j ++ zs.drop j).length := by simp [marks_length]; omega
  obtain ⟨s1, s2, s3⟩ := h1.store hl j (k + j)
  refine ⟨s1, ⟨_, h1.cell hl j (by omega)⟩, ?_, ?_⟩
  · rw [set_marks zs k j hj] at s2; exact s2
  · exact h2.trans (s3.mono fun b _ hb => by subst hb; have := h1.blk b rfl; exact ⟨this.1, this.2.1⟩)

set_option maxHeartbeats 400000 in
theorem markIntS_any (lo hi : Nat) (v : Value) (zs : List Int) (k : Int) (w : World) (h : Owns lo hi w v zs) (h0 : 0 ≤ k) (h1 : k + zs.length ≤ 1125899906842624) :
    Calls Tryd.prog 26 #[v, .int .i64 k] w fun e w' => e = .returned (.int .i64 (k + zs.length)) ∧ Owns lo hi w' v (marks k zs.length) ∧ Keeps (fun b => lo ≤ b ∧ b < hi) w w' := by
  obtain ⟨a, cap, rfl⟩ := h.ints.len
  have hb := h.ints.bound
  have hR : markRel lo hi w (.slice a zs.length cap) zs k 0 w := ⟨by simpa [marks] using h, Keeps.refl _ _⟩
  clear h
  go_enter Tryd.func26, Tryd.ntmps26
  go_wp2
  go_loopw [1, 5] (fun m i wr => ∃ j : Nat, j ≤ zs.length ∧ i = .int .i64 j ∧ m = .int .i64 (k + j) ∧ markRel lo hi w (.slice a zs.length cap) zs k j wr) (fun _ i _ => zs.length - (intOf i).toNat)
  case atStart => exact ⟨0, Nat.zero_le _, rfl, by simp, hR⟩
  case round =>
    clear hR
    obtain ⟨j, hj, rfl, rfl, hR⟩ := hrel
    by_cases hlt : j < zs.length
    · obtain ⟨g, cap', heq⟩ := markRel_form hlt hR
      simp only [Value.slice.injEq, true_and] at heq; obtain ⟨rfl, rfl⟩ := heq
      obtain ⟨hfz, ⟨u, hu⟩, hR'⟩ := markRel_step hlt hR
      clear hR
      go_wp2
      go_roundw
      case rel => exact ⟨j + 1, hlt, by go_num, by go_num, hR'⟩
      case measure => simp [intOf]; omega
    · go_wp2
      go_ret
      obtain rfl : j = zs.length := by omega
      refine ⟨rfl, ?_, hR.2⟩
      have := hR.1
      rwa [List.drop_length, List.append_nil] at this

theorem Owns.tight {lo hi : Nat} {w : World} {v : Value} {zs : List Int} (h : Owns lo hi w v zs) : (v = .slice none 0 0 ∧ zs = []) ∨ ∃ g, v.ownBlock = some g ∧ Owns g (g + 1) w v zs ∧ lo ≤ g ∧ g < hi := by
  rcases h.1.2 with ⟨h1, h2⟩ | ⟨g, cap, cur, hv, hg, r⟩
  · exact .inl ⟨h1, List.length_eq_zero_iff.1 h2⟩
  · refine .inr ⟨g, by subst hv; rfl, ⟨⟨h.1.1, .inr ⟨g, cap, cur, hv, Nat.le_refl _, r⟩⟩, fun k hk => ?_⟩, hg, h.2 g (by subst hv; rfl)⟩
    subst hv; simp [Value.ownBlock] at hk; omega
/-- .. and nothing but its own block is written -/
theorem markIntS_rng (lo hi : Nat) (v : Value) (zs : List Int) (k : Int) (w : World) (h : Owns lo hi w v zs) (h0 : 0 ≤ k) (h1 : k + zs.length ≤ 1125899906842624) :
    Calls Tryd.prog 26 #[v, .int .i64 k] w fun e w' => e = .returned (.int .i64 (k + zs.length)) ∧ Owns lo hi w' v (marks k zs.length) ∧ Keeps (fun b => v.ownBlock = some b) w w' := by
  rcases h.tight with ⟨rfl, rfl⟩ | ⟨g, hg, hO, hlo, hhi⟩
  · refine (markIntS_any 0 0 _ [] k w (Owns.nil _ _ _) h0 h1).mono fun e w' ⟨a, b, c⟩ => ⟨a, b.ofLt' (fun g hg => by simp [Value.ownBlock] at hg) (fun g hg => by simp [Value.ownBlock] at hg), c.mono fun b _ hb => by omega⟩
  · refine (markIntS_any g (g + 1) v zs k w hO h0 h1).mono fun e w' ⟨a, b, c⟩ => ⟨a, b.wider hlo (by omega), c.mono fun b _ hb => ?_⟩
    have : b = g := by omega
    subst this; exact hg
/-! ### heldIntS -/
def HeldTo (zs : List Int) (k : Int) (j : Nat) : Prop := ∀ i (h : i < zs.length), i < j → zs[i] = k + i
/-- what heldIntS answers -/
def heldI (zs : List Int) (k : Int) : Int := if zs = marks k zs.length then k + zs.length else -1
theorem HeldTo.step {zs : List Int} {k : Int} {j : Nat} (h : HeldTo zs k j) (h1 : j < zs.length) (e : (zs[j] != k + j) = false) : HeldTo zs k (j + 1) := by
  intro i a hi
  by_cases hij : i = j
  · subst hij; simpa using e
  · exact h i a (by omega)
theorem HeldTo.all {zs : List Int} {k : Int} {j : Nat} (h : HeldTo zs k j) (hj : ¬ j < zs.length) : zs = marks k zs.length :=
  List.ext_getElem (by simp [marks_length]) fun i h1 h2 => by rw [marks_get]; exact h i h1 (by omega)

set_option maxHeartbeats 400000 in
theorem heldIntS_any (v : Value) (zs : List Int) (k : Int) (w : World) (h : Ints w v zs) (h0 : 0 ≤ k) (h1 : k + zs.length ≤ 1125899906842624) :
    Calls Tryd.prog 27 #[v, .int .i64 k] w fun e w' => e = .returned (.int .i64 (heldI zs k)) ∧ Fresh w w' := by
  obtain ⟨a, cap, rfl⟩ := h.len
  have hb := h.bound
  go_enter Tryd.func27, Tryd.ntmps27
  go_wp2
  go_loopw [1, 5] (fun m i wr => ∃ j : Nat, j ≤ zs.length ∧ i = .int .i64 j ∧ m = .int .i64 (k + j) ∧ HeldTo zs k j ∧ Fresh w wr) (fun _ i _ => zs.length - (intOf i).toNat)
  case atStart => exact ⟨0, Nat.zero_le _, rfl, by simp, fun i _ h => by omega, Fresh.refl _⟩
  case round =>
    obtain ⟨j, hj, rfl, rfl, hE, hF⟩ := hrel
    by_cases hlt : j < zs.length
    · obtain ⟨b, off, cap2, heq, hcell⟩ := (h.fresh hF).at hlt
      simp only [Value.slice.injEq, true_and] at heq; obtain ⟨rfl, rfl⟩ := heq
      have hc := hcell j hlt
      clear hcell h
      by_cases hx : (zs[j] != k + j) = false
      · have H2 := Lib.hid (hE.step hlt hx)
        go_wp2
        go_roundw
        case rel => exact ⟨j + 1, hlt, by go_num, by go_num, H2.out, hF⟩
        case measure => simp [intOf]; omega
      · have hx : (zs[j] != k + j) = true := by simpa using hx
        have HX : Hid (zs ≠ marks k zs.length) := by
          intro e
          have e2 : zs[j] = (marks k zs.length)[j]'(by rw [marks_length]; exact hlt) := by congr
          rw [marks_get] at e2
          simp [e2] at hx
        go_wp2
        go_ret
        exact ⟨ret_int (by unfold heldI; rw [if_neg HX.out]), hF⟩
    · go_wp2
      go_ret
      obtain rfl : j = zs.length := by omega
      exact ⟨ret_int (by unfold heldI; rw [if_pos (hE.all hlt)]), hF⟩


end Go.Proofs.YtipadgpgcdjflaaDoor
