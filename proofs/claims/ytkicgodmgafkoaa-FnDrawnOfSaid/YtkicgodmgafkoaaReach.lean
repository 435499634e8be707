/- Plain words for ways in a picture: what is reached, ways back. No program in sight. -/
import Derived.Test.YtkicgodmgafkoaaSame
namespace Go.Proofs.Ytkicgodmgafkoaa
open Go.RowKit

/-- what is reached from a node by at most k arrows -/
def reachB (p : List (List Int)) (a : Nat) : Nat → Nat → Bool
  | 0, b => a == b
  | k + 1, b => reachB p a k b || (List.range p.length).any fun x => reachB p a k x && ent p x b == 1
def reach (p : List (List Int)) (a b : Nat) : Bool := reachB p a p.length b
theorem reachB_succ_iff {p : List (List Int)} {a k b : Nat} : reachB p a (k + 1) b = true ↔ reachB p a k b = true ∨ ∃ x, x < p.length ∧ reachB p a k x = true ∧ ent p x b = 1 := by
  simp [reachB, List.any_eq_true]
theorem reachB_mono {p : List (List Int)} {a k b : Nat} (h : reachB p a k b = true) : reachB p a (k + 1) b = true := reachB_succ_iff.2 (.inl h)
theorem reachB_mono' {p : List (List Int)} {a k b : Nat} (d : Nat) (h : reachB p a k b = true) : reachB p a (k + d) b = true := by
  induction d with
  | zero => exact h
  | succ d ih => exact reachB_mono ih
/-- whatever holds of the node and goes along arrows holds of what is reached -/
theorem reachB_ind {p : List (List Int)} {a : Nat} {P : Nat → Prop} (h0 : P a) (hs : ∀ x b, x < p.length → P x → ent p x b = 1 → P b) : ∀ k b, reachB p a k b = true → P b := by
  intro k
  induction k with
  | zero => intro b h; simp [reachB] at h; subst h; exact h0
  | succ k ih =>
    intro b h
    rcases reachB_succ_iff.1 h with h | ⟨x, hx, h1, h2⟩
    · exact ih b h
    · exact hs x b hx (ih x h1) h2
theorem ent_lt {p : List (List Int)} (h : picB p = true) {x b : Nat} (hx : x < p.length) (e : ent p x b = 1) : b < p.length := by
  apply Nat.lt_of_not_le
  intro hb
  have hr := pic_row h hx
  have hg : p.getD x [] = p[x] := by simp [List.getD_eq_getElem?_getD, hx]
  have hl : (p.getD x []).length = p.length := by rw [hg]; exact hr
  rw [ent, List.getD_eq_getElem?_getD (l := p.getD x []), List.getElem?_eq_none (by omega)] at e
  cases e
theorem reachB_lt {p : List (List Int)} (h : picB p = true) {a k b : Nat} (ha : a < p.length) (hr : reachB p a k b = true) : b < p.length :=
  reachB_ind (P := fun b => b < p.length) ha (fun _ _ hx _ e => ent_lt h hx e) k b hr
/-- how many are reached -/
def reachN (p : List (List Int)) (a k : Nat) : Nat := ((List.range p.length).filter (reachB p a k)).length
theorem reachN_le (p : List (List Int)) (a k : Nat) : reachN p a k ≤ p.length := by
  have := List.length_filter_le (reachB p a k) (List.range p.length)
  simpa [reachN] using this
theorem reachB_grow {p : List (List Int)} (h : picB p = true) {a : Nat} (ha : a < p.length) (k : Nat) : (∀ b, reachB p a (k + 1) b = reachB p a k b) ∨ reachN p a k < reachN p a (k + 1) := by
  by_cases hx : ∃ b, reachB p a k b = false ∧ reachB p a (k + 1) b = true
  · right
    obtain ⟨b, h1, h2⟩ := hx
    exact filter_len_lt (fun x _ hr => reachB_mono hr) ⟨b, List.mem_range.2 (reachB_lt h ha h2), h1, h2⟩
  · left
    intro b
    rw [Bool.eq_iff_iff]
    refine ⟨fun hb => ?_, reachB_mono⟩
    cases hk : reachB p a k b
    · exact absurd ⟨b, hk, hb⟩ hx
    · rfl
theorem reachB_stays {p : List (List Int)} {a k : Nat} (h : ∀ b, reachB p a (k + 1) b = reachB p a k b) (d : Nat) : ∀ b, reachB p a (k + d) b = reachB p a k b := by
  induction d with
  | zero => intro b; rfl
  | succ d ih =>
    intro b
    show reachB p a (k + d + 1) b = _
    rw [← h b, Bool.eq_iff_iff, reachB_succ_iff, reachB_succ_iff]
    simp only [ih]
theorem reachB_count {p : List (List Int)} (h : picB p = true) {a : Nat} (ha : a < p.length) (k : Nat) : (∃ j, j < k ∧ ∀ b, reachB p a (j + 1) b = reachB p a j b) ∨ k < reachN p a k := by
  induction k with
  | zero =>
    right
    have : a ∈ (List.range p.length).filter (reachB p a 0) := by
      rw [List.mem_filter]; exact ⟨List.mem_range.2 ha, by simp [reachB]⟩
    exact List.length_pos_of_mem this
  | succ k ih =>
    rcases ih with ⟨j, hj, e⟩ | ih
    · exact .inl ⟨j, by omega, e⟩
    · rcases reachB_grow h ha k with e | e
      · exact .inl ⟨k, by omega, e⟩
      · right; omega
/-- behind as many rounds as there are nodes nothing more is reached -/
theorem reachB_stable {p : List (List Int)} (h : picB p = true) {a : Nat} (ha : a < p.length) (b : Nat) : reachB p a (p.length + 1) b = reachB p a p.length b := by
  rcases reachB_count h ha p.length with ⟨j, hj, e⟩ | hc
  · have h1 := reachB_stays e (p.length - j) b
    have h2 := reachB_stays e (p.length + 1 - j) b
    rw [show j + (p.length - j) = p.length by omega] at h1
    rw [show j + (p.length + 1 - j) = p.length + 1 by omega] at h2
    rw [h1, h2]
  · have := reachN_le p a p.length; omega

theorem reach_self {p : List (List Int)} (a : Nat) : reach p a a = true := by
  have := reachB_mono' (p := p) (a := a) (k := 0) (b := a) p.length (by simp [reachB])
  rwa [Nat.zero_add] at this
theorem reach_step {p : List (List Int)} (h : picB p = true) {a x b : Nat} (ha : a < p.length) (hx : reach p a x = true) (e : ent p x b = 1) : reach p a b = true := by
  rw [reach, ← reachB_stable h ha, reachB_succ_iff]
  exact .inr ⟨x, reachB_lt h ha hx, hx, e⟩
theorem reach_ind {p : List (List Int)} {a : Nat} {P : Nat → Prop} (h0 : P a) (hs : ∀ x b, x < p.length → P x → ent p x b = 1 → P b) {b : Nat} (hr : reach p a b = true) : P b := reachB_ind h0 hs _ _ hr
theorem reach_lt {p : List (List Int)} (h : picB p = true) {a b : Nat} (ha : a < p.length) (hr : reach p a b = true) : b < p.length := reachB_lt h ha hr
theorem reach_trans {p : List (List Int)} (h : picB p = true) {a x b : Nat} (ha : a < p.length) (h1 : reach p a x = true) (h2 : reach p x b = true) : reach p a b = true :=
  reach_ind (P := fun b => reach p a b = true) h1 (fun _ _ _ hx e => reach_step h ha hx e) h2
/-- the nodes that are reached, in ascending order -/
def reachL (p : List (List Int)) (a : Nat) : List Nat := (List.range p.length).filter (reach p a)
theorem reachL_mem {p : List (List Int)} (h : picB p = true) {a b : Nat} (ha : a < p.length) : b ∈ reachL p a ↔ reach p a b = true := by
  rw [reachL, List.mem_filter, List.mem_range]
  exact ⟨fun x => x.2, fun x => ⟨reach_lt h ha x, x⟩⟩
theorem range_asc (n : Nat) : (List.range n).Pairwise (· < ·) := List.pairwise_lt_range
theorem reachL_asc (p : List (List Int)) (a : Nat) : (reachL p a).Pairwise (· < ·) := (range_asc _).filter _
theorem reachL_len (p : List (List Int)) (a : Nat) : (reachL p a).length ≤ p.length := by
  have := List.length_filter_le (reach p a) (List.range p.length)
  simpa [reachL] using this
/-- lists that ascend and have the same members are one -/
theorem asc_ext {l1 l2 : List Nat} (h1 : l1.Pairwise (· < ·)) (h2 : l2.Pairwise (· < ·)) (hm : ∀ x, x ∈ l1 ↔ x ∈ l2) : l1 = l2 := by
  induction l1 generalizing l2 with
  | nil =>
    cases l2 with
    | nil => rfl
    | cons y l2 => have := (hm y).2 (by simp); cases this
  | cons x l1 ih =>
    cases l2 with
    | nil => have := (hm x).1 (by simp); cases this
    | cons y l2 =>
      rw [List.pairwise_cons] at h1 h2
      have hxy : x = y := by
        have a1 := (hm x).1 (by simp)
        have a2 := (hm y).2 (by simp)
        rcases List.mem_cons.1 a1 with e | e
        · exact e
        · rcases List.mem_cons.1 a2 with e2 | e2
          · exact e2.symm
          · have b1 := h2.1 x e; have b2 := h1.1 y e2; omega
      subst hxy
      rw [ih h1.2 h2.2]
      intro z
      constructor
      · intro hz
        rcases List.mem_cons.1 ((hm z).1 (by simp [hz])) with e | e
        · have := h1.1 z hz; omega
        · exact e
      · intro hz
        rcases List.mem_cons.1 ((hm z).2 (by simp [hz])) with e | e
        · have := h2.1 z hz; omega
        · exact e

/-! ### ways back -/
/-- does a way lead from a node back to it? -/
def loopB (p : List (List Int)) (v : Nat) : Bool := (List.range p.length).any fun u => ent p v u == 1 && reach p u v
theorem loopB_iff {p : List (List Int)} {v : Nat} : loopB p v = true ↔ ∃ u, u < p.length ∧ ent p v u = 1 ∧ reach p u v = true := by
  simp [loopB, List.any_eq_true]
/-- .. to some node that is reached? -/
def backB (p : List (List Int)) (a : Nat) : Bool := (List.range p.length).any fun v => reach p a v && loopB p v
theorem backB_iff {p : List (List Int)} (h : picB p = true) {a : Nat} (ha : a < p.length) : backB p a = true ↔ ∃ v, reach p a v = true ∧ loopB p v = true := by
  simp only [backB, List.any_eq_true, List.mem_range, Bool.and_eq_true]
  exact ⟨fun ⟨v, _, h1, h2⟩ => ⟨v, h1, h2⟩, fun ⟨v, h1, h2⟩ => ⟨v, reach_lt h ha h1, h1, h2⟩⟩
theorem back_reach {p : List (List Int)} (h : picB p = true) {a b : Nat} (ha : a < p.length) (hr : reach p a b = true) (hb : backB p a = false) : backB p b = false := by
  rw [Bool.eq_false_iff]; intro e
  obtain ⟨v, h1, h2⟩ := (backB_iff h (reach_lt h ha hr)).1 e
  have : backB p a = true := (backB_iff h ha).2 ⟨v, reach_trans h ha hr h1, h2⟩
  rw [this] at hb; cases hb
theorem back_arrow {p : List (List Int)} (h : picB p = true) {a b : Nat} (ha : a < p.length) (e : ent p a b = 1) (hb : backB p a = false) : backB p b = false :=
  back_reach h ha (reach_step h ha (reach_self a) e) hb
theorem arrow_lt {p : List (List Int)} (h : picB p = true) {a b : Nat} (ha : a < p.length) (e : ent p a b = 1) : b < p.length := ent_lt h ha e
/-- how many nodes are reached -/
def reachC (p : List (List Int)) (a : Nat) : Nat := (reachL p a).length
theorem reachC_lt {p : List (List Int)} (h : picB p = true) {a b : Nat} (ha : a < p.length) (e : ent p a b = 1) (hb : backB p a = false) : reachC p b < reachC p a := by
  have hbl := ent_lt h ha e
  refine filter_len_lt (fun x _ hx => reach_trans h ha (reach_step h ha (reach_self a) e) hx) ⟨a, List.mem_range.2 ha, ?_, reach_self a⟩
  rw [Bool.eq_false_iff]; intro hr
  have : backB p a = true := (backB_iff h ha).2 ⟨a, reach_self a, loopB_iff.2 ⟨b, hbl, e, hr⟩⟩
  rw [this] at hb; cases hb
theorem reachC_pos {p : List (List Int)} (h : picB p = true) {a : Nat} (ha : a < p.length) : 0 < reachC p a :=
  List.length_pos_of_mem ((reachL_mem h ha).2 (reach_self a))
theorem reachC_le (p : List (List Int)) (a : Nat) : reachC p a ≤ p.length := reachL_len p a
/-- where no way comes back some node that is reached has no arrows -/
theorem ends_of {p : List (List Int)} (h : picB p = true) : ∀ (k a : Nat), reachC p a ≤ k → a < p.length → backB p a = false → ∃ v, reach p a v = true ∧ ∀ b, ent p v b ≠ 1 := by
  intro k
  induction k with
  | zero => intro a hk ha _; have := reachC_pos h ha; omega
  | succ k ih =>
    intro a hk ha hb
    by_cases hx : ∃ b, ent p a b = 1
    · obtain ⟨b, e⟩ := hx
      have hbl := ent_lt h ha e
      have := reachC_lt h ha e hb
      obtain ⟨v, h1, h2⟩ := ih b (by omega) hbl (back_arrow h ha e hb)
      exact ⟨v, reach_trans h ha (reach_step h ha (reach_self a) e) h1, h2⟩
    · exact ⟨a, reach_self a, fun b e => hx ⟨b, e⟩⟩

/-! ### bits that are seen -/
/-- the nodes whose bits a number has -/
def SeenIn (p : List (List Int)) (a s : Nat) : Prop := ∀ b, s.testBit b = true → reach p a b = true
theorem SeenIn.step {p : List (List Int)} (h : picB p = true) {a s k j : Nat} (ha : a < p.length) (hs : SeenIn p a s) (hk : s.testBit k = true) (e : ent p k j = 1) : SeenIn p a (s ||| 2 ^ j) := by
  intro b hb
  rw [Nat.testBit_or, Bool.or_eq_true, Nat.testBit_two_pow, decide_eq_true_eq] at hb
  rcases hb with hb | rfl
  · exact hs b hb
  · exact reach_step h ha (hs k hk) e
/-- what was reached ahead of a round's part: all is seen that is reached by m arrows, and by one more of the arrows ahead of (k, j) -/
def SeenAll (p : List (List Int)) (a s m k j : Nat) : Prop :=
  (∀ b, reachB p a m b = true → s.testBit b = true) ∧ ∀ x b, (x < k ∨ (x = k ∧ b < j)) → x < p.length → b < p.length → reachB p a m x = true → ent p x b = 1 → s.testBit b = true
theorem SeenAll.step {p : List (List Int)} {a s m k j s' : Nat} (h : SeenAll p a s m k j) (hs : ∀ b, s.testBit b = true → s'.testBit b = true) (hj : s.testBit k = true → ent p k j = 1 → s'.testBit j = true) : SeenAll p a s' m k (j + 1) := by
  refine ⟨fun b hb => hs b (h.1 b hb), fun x b hxb hx hbl hr e => ?_⟩
  by_cases hxk : x = k ∧ b = j
  · obtain ⟨rfl, rfl⟩ := hxk
    exact hj (h.1 x hr) e
  · exact hs b (h.2 x b (by omega) hx hbl hr e)
theorem SeenAll.row {p : List (List Int)} {a s m k j : Nat} (h : SeenAll p a s m k j) (hj : ¬ j < p.length) : SeenAll p a s m (k + 1) 0 :=
  ⟨h.1, fun x b hxb hx hbl hr e => h.2 x b (by omega) hx hbl hr e⟩
theorem SeenAll.round {p : List (List Int)} (hp : picB p = true) {a s m k : Nat} (ha : a < p.length) (h : SeenAll p a s m k 0) (hk : ¬ k < p.length) : SeenAll p a s (m + 1) 0 0 := by
  refine ⟨fun b hb => ?_, fun x b hxb => by omega⟩
  rcases reachB_succ_iff.1 hb with hb2 | ⟨x, hx, h1, h2⟩
  · exact h.1 b hb2
  · exact h.2 x b (by omega) hx (reachB_lt hp ha hb) h1 h2
theorem seen_first {p : List (List Int)} {a : Nat} : SeenIn p a (2 ^ a) ∧ SeenAll p a (2 ^ a) 0 0 0 := by
  refine ⟨fun b hb => ?_, fun b hb => ?_, fun x b hxb => by omega⟩
  · rw [Nat.testBit_two_pow, decide_eq_true_eq] at hb; subst hb; exact reach_self _
  · simp [reachB] at hb; subst hb; rw [Nat.testBit_two_pow]; simp
theorem seen_last {p : List (List Int)} {a s : Nat} (h1 : SeenIn p a s) (h2 : SeenAll p a s p.length 0 0) (b : Nat) : s.testBit b = reach p a b := by
  rw [Bool.eq_iff_iff]; exact ⟨h1 b, h2.1 b⟩
end Go.Proofs.Ytkicgodmgafkoaa
