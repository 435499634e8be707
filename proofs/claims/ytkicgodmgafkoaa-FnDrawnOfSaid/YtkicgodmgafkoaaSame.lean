/- Plain words for sameness of nodes: rounds, what is left, the greatest equality. No program in sight. -/
import Derived.Test.YtkicgodmgafkoaaPics2
namespace Go.Proofs.Ytkicgodmgafkoaa
open Go.RowKit

/-- each member of a is answered by one of b, in pairs l -/
def halfB (p l : List (List Int)) (a b : Nat) : Bool := (arrowsL p a).all fun x => (arrowsL p b).any fun y => ent l x y == 1
/-- each member of b is answered by one of a, in pairs l -/
def halfT (p l : List (List Int)) (a b : Nat) : Bool := (arrowsL p b).all fun y => (arrowsL p a).any fun x => ent l x y == 1
def answB (p l : List (List Int)) (a b : Nat) : Bool := halfB p l a b && halfT p l a b
/-- the reference's word for one half -/
def matchB (p l : List (List Int)) (a b : Nat) : Bool := (List.range p.length).all fun k => ent p a k == 0 || (List.range p.length).any fun j => ent p b j == 1 && ent l k j == 1

theorem halfB_iff {p l : List (List Int)} (h : picB p = true) {a b : Nat} (ha : a < p.length) (hb : b < p.length) :
    halfB p l a b = true ↔ ∀ x, x < p.length → ent p a x = 1 → ∃ y, y < p.length ∧ ent p b y = 1 ∧ ent l x y = 1 := by
  simp only [halfB, List.all_eq_true, List.any_eq_true, beq_iff_eq]
  constructor
  · intro hh x hx he
    obtain ⟨y, hy, e⟩ := hh x ((arrowsL_mem h ha).2 ⟨hx, he⟩)
    have := (arrowsL_mem h hb).1 hy
    exact ⟨y, this.1, this.2, e⟩
  · intro hh x hx
    have := (arrowsL_mem h ha).1 hx
    obtain ⟨y, h1, h2, h3⟩ := hh x this.1 this.2
    exact ⟨y, (arrowsL_mem h hb).2 ⟨h1, h2⟩, h3⟩
theorem halfT_iff {p l : List (List Int)} (h : picB p = true) {a b : Nat} (ha : a < p.length) (hb : b < p.length) :
    halfT p l a b = true ↔ ∀ y, y < p.length → ent p b y = 1 → ∃ x, x < p.length ∧ ent p a x = 1 ∧ ent l x y = 1 := by
  simp only [halfT, List.all_eq_true, List.any_eq_true, beq_iff_eq]
  constructor
  · intro hh x hx he
    obtain ⟨y, hy, e⟩ := hh x ((arrowsL_mem h hb).2 ⟨hx, he⟩)
    have := (arrowsL_mem h ha).1 hy
    exact ⟨y, this.1, this.2, e⟩
  · intro hh x hx
    have := (arrowsL_mem h hb).1 hx
    obtain ⟨y, h1, h2, h3⟩ := hh x this.1 this.2
    exact ⟨y, (arrowsL_mem h ha).2 ⟨h1, h2⟩, h3⟩
theorem matchB_iff {p l : List (List Int)} (h : picB p = true) {a b : Nat} (ha : a < p.length) :
    matchB p l a b = true ↔ ∀ x, x < p.length → ent p a x = 1 → ∃ y, y < p.length ∧ ent p b y = 1 ∧ ent l x y = 1 := by
  simp only [matchB, List.all_eq_true, List.any_eq_true, List.mem_range, Bool.or_eq_true, Bool.and_eq_true, beq_iff_eq]
  constructor
  · intro hh x hx he
    rcases hh x hx with h0 | h0
    · rw [he] at h0; cases h0
    · exact h0
  · intro hh x hx
    rcases pic_bit h ha hx with h0 | h0
    · exact .inl h0
    · exact .inr (hh x hx h0)
theorem matchB_half {p l : List (List Int)} (h : picB p = true) {a b : Nat} (ha : a < p.length) (hb : b < p.length) : matchB p l a b = halfB p l a b := by
  rw [Bool.eq_iff_iff, matchB_iff h ha, halfB_iff h ha hb]
/-- the rows turned round -/
def backL (n : Nat) (l : List (List Int)) : List (List Int) := mkR n fun i j => ent l j i
theorem matchB_back {p l : List (List Int)} (h : picB p = true) {a b : Nat} (ha : a < p.length) (hb : b < p.length) : matchB p (backL p.length l) b a = halfT p l a b := by
  rw [Bool.eq_iff_iff, matchB_iff h hb, halfT_iff h ha hb]
  constructor
  · intro hh y hy he
    obtain ⟨x, h1, h2, h3⟩ := hh y hy he
    rw [backL, mkR_ent _ _ hy h1] at h3
    exact ⟨x, h1, h2, h3⟩
  · intro hh y hy he
    obtain ⟨x, h1, h2, h3⟩ := hh y hy he
    refine ⟨x, h1, h2, ?_⟩
    rw [backL, mkR_ent _ _ hy h1]; exact h3

/-- pairs told both ways -/
def Sym (n : Nat) (l : List (List Int)) : Prop := ∀ a b, a < n → b < n → ent l a b = ent l b a
theorem matchB_sym {p l : List (List Int)} (h : picB p = true) (hs : Sym p.length l) {a b : Nat} (ha : a < p.length) (hb : b < p.length) : matchB p l b a = halfT p l a b := by
  rw [Bool.eq_iff_iff, matchB_iff h hb, halfT_iff h ha hb]
  constructor
  · intro hh y hy he
    obtain ⟨x, h1, h2, h3⟩ := hh y hy he
    exact ⟨x, h1, h2, by rw [hs x y h1 hy]; exact h3⟩
  · intro hh y hy he
    obtain ⟨x, h1, h2, h3⟩ := hh y hy he
    exact ⟨x, h1, h2, by rw [hs y x hy h1]; exact h3⟩
theorem answB_sym {p l : List (List Int)} (h : picB p = true) (hs : Sym p.length l) {a b : Nat} (ha : a < p.length) (hb : b < p.length) : answB p l a b = answB p l b a := by
  unfold answB
  rw [← matchB_sym h hs ha hb, ← matchB_sym h hs hb ha, matchB_half h ha hb, matchB_half h hb ha, Bool.and_comm]

/-! ### rounds -/
def roundL (p l : List (List Int)) : List (List Int) := mkR p.length fun a b => if ent l a b == 1 && answB p l a b then 1 else 0
def leftL (p : List (List Int)) : Nat → List (List Int)
  | 0 => mkR p.length fun _ _ => 1
  | k + 1 => roundL p (leftL p k)
/-- the reference's round -/
def roundS (p l : List (List Int)) : List (List Int) := mkR p.length fun a b => if ent l a b == 1 && matchB p l a b && matchB p l b a then 1 else 0

theorem leftL_len (p : List (List Int)) (k : Nat) : (leftL p k).length = p.length := by cases k <;> exact mkR_len _ _
theorem round_bit (p l : List (List Int)) (a b : Nat) : (if ent l a b == 1 && answB p l a b then (1 : Int) else 0) = 0 ∨ (if ent l a b == 1 && answB p l a b then (1 : Int) else 0) = 1 := by
  cases (ent l a b == 1 && answB p l a b) <;> simp
theorem leftL_pic {p : List (List Int)} (h : picB p = true) (k : Nat) : picB (leftL p k) = true := by
  have hp := (picB_iff p).1 h
  cases k with
  | zero => exact mkR_pic hp.1 hp.2.1 fun _ _ => .inr rfl
  | succ k => exact mkR_pic hp.1 hp.2.1 fun a b => round_bit p _ a b
theorem left_zero {p : List (List Int)} {a b : Nat} (ha : a < p.length) (hb : b < p.length) : ent (leftL p 0) a b = 1 := mkR_ent _ _ ha hb
theorem left_succ {p : List (List Int)} {k a b : Nat} (ha : a < p.length) (hb : b < p.length) : ent (leftL p (k + 1)) a b = if ent (leftL p k) a b == 1 && answB p (leftL p k) a b then 1 else 0 := mkR_ent _ _ ha hb
theorem left_bit {p : List (List Int)} (h : picB p = true) {k a b : Nat} (ha : a < p.length) (hb : b < p.length) : ent (leftL p k) a b = 0 ∨ ent (leftL p k) a b = 1 :=
  pic_bit (leftL_pic h k) (by rw [leftL_len]; exact ha) (by rw [leftL_len]; exact hb)
theorem left_succ_iff {p : List (List Int)} {k a b : Nat} (ha : a < p.length) (hb : b < p.length) : ent (leftL p (k + 1)) a b = 1 ↔ ent (leftL p k) a b = 1 ∧ answB p (leftL p k) a b = true := by
  rw [left_succ ha hb]
  by_cases h : (ent (leftL p k) a b == 1 && answB p (leftL p k) a b) = true
  · rw [if_pos h]; simp only [Bool.and_eq_true, beq_iff_eq] at h; simp [h]
  · rw [if_neg h]; simp only [Bool.and_eq_true, beq_iff_eq] at h; simp [h]
theorem left_sym {p : List (List Int)} (h : picB p = true) (k : Nat) : Sym p.length (leftL p k) := by
  induction k with
  | zero => intro a b ha hb; rw [left_zero ha hb, left_zero hb ha]
  | succ k ih => intro a b ha hb; rw [left_succ ha hb, left_succ hb ha, ih a b ha hb, answB_sym h ih ha hb]
theorem left_roundS {p : List (List Int)} (h : picB p = true) (k : Nat) : roundS p (leftL p k) = leftL p (k + 1) := by
  apply mkR_congr
  intro a b ha hb
  rw [matchB_half h ha hb, matchB_sym h (left_sym h k) ha hb, Bool.and_assoc]
  rfl
theorem answB_iff {p l : List (List Int)} (h : picB p = true) {a b : Nat} (ha : a < p.length) (hb : b < p.length) :
    answB p l a b = true ↔ (∀ x, x < p.length → ent p a x = 1 → ∃ y, y < p.length ∧ ent p b y = 1 ∧ ent l x y = 1) ∧ (∀ y, y < p.length → ent p b y = 1 → ∃ x, x < p.length ∧ ent p a x = 1 ∧ ent l x y = 1) := by
  rw [answB, Bool.and_eq_true, halfB_iff h ha hb, halfT_iff h ha hb]
theorem left_refl {p : List (List Int)} (h : picB p = true) (k : Nat) {a : Nat} (ha : a < p.length) : ent (leftL p k) a a = 1 := by
  induction k generalizing a with
  | zero => exact left_zero ha ha
  | succ k ih =>
    rw [left_succ_iff ha ha, answB_iff h ha ha]
    exact ⟨ih ha, fun x hx he => ⟨x, hx, he, ih hx⟩, fun x hx he => ⟨x, hx, he, ih hx⟩⟩
theorem left_trans {p : List (List Int)} (h : picB p = true) (k : Nat) {a b c : Nat} (ha : a < p.length) (hb : b < p.length) (hc : c < p.length)
    (h1 : ent (leftL p k) a b = 1) (h2 : ent (leftL p k) b c = 1) : ent (leftL p k) a c = 1 := by
  induction k generalizing a b c with
  | zero => exact left_zero ha hc
  | succ k ih =>
    rw [left_succ_iff ha hb, answB_iff h ha hb] at h1
    rw [left_succ_iff hb hc, answB_iff h hb hc] at h2
    rw [left_succ_iff ha hc, answB_iff h ha hc]
    refine ⟨ih ha hb hc h1.1 h2.1, fun x hx he => ?_, fun z hz he => ?_⟩
    · obtain ⟨y, hy, e1, e2⟩ := h1.2.1 x hx he
      obtain ⟨z, hz, e3, e4⟩ := h2.2.1 y hy e1
      exact ⟨z, hz, e3, ih hx hy hz e2 e4⟩
    · obtain ⟨y, hy, e1, e2⟩ := h2.2.2 z hz he
      obtain ⟨x, hx, e3, e4⟩ := h1.2.2 y hy e1
      exact ⟨x, hx, e3, ih hx hy hz e4 e2⟩
theorem left_mono {p : List (List Int)} {k a b : Nat} (ha : a < p.length) (hb : b < p.length) (h : ent (leftL p (k + 1)) a b = 1) : ent (leftL p k) a b = 1 := ((left_succ_iff ha hb).1 h).1
theorem left_le {p : List (List Int)} (h : picB p = true) {k a b : Nat} (ha : a < p.length) (hb : b < p.length) : ent (leftL p (k + 1)) a b ≤ ent (leftL p k) a b := by
  have h1 := left_bit h (k := k) ha hb
  have h2 := left_bit h (k := k + 1) ha hb
  have h3 := left_mono (p := p) (k := k) ha hb
  rcases h2 with e | e
  · omega
  · have := h3 e; omega
theorem left_mono' {p : List (List Int)} {k a b : Nat} (d : Nat) (ha : a < p.length) (hb : b < p.length) (h : ent (leftL p (k + d)) a b = 1) : ent (leftL p k) a b = 1 := by
  induction d with
  | zero => exact h
  | succ d ih => exact ih (left_mono ha hb h)

/-! ### nothing is struck out any more -/
/-- the least of its kind -/
def isRep (l : List (List Int)) (i : Nat) : Bool := (List.range i).all fun j => ent l j i != 1
def reps (n : Nat) (l : List (List Int)) : List Nat := (List.range n).filter (isRep l)
theorem isRep_iff (l : List (List Int)) (i : Nat) : isRep l i = true ↔ ∀ j, j < i → ent l j i ≠ 1 := by
  simp [isRep]
/-- the least node left with one -/
theorem rep_of {p : List (List Int)} (h : picB p = true) (k : Nat) : ∀ {a : Nat}, a < p.length → ∃ r, r ≤ a ∧ ent (leftL p k) r a = 1 ∧ isRep (leftL p k) r = true := by
  intro a
  induction a using Nat.strongRecOn with
  | _ a ih =>
    intro ha
    by_cases hr : isRep (leftL p k) a = true
    · exact ⟨a, Nat.le_refl _, left_refl h k ha, hr⟩
    · rw [isRep_iff] at hr
      have : ∃ j, j < a ∧ ent (leftL p k) j a = 1 := by
        apply Classical.byContradiction
        intro hn
        exact hr fun j hj e => hn ⟨j, hj, e⟩
      obtain ⟨j, hj, e⟩ := this
      obtain ⟨r, h1, h2, h3⟩ := ih j hj (by omega)
      exact ⟨r, by omega, left_trans h k (by omega) (by omega) ha h2 e, h3⟩
theorem isRep_mono {p : List (List Int)} {k i : Nat} (hi : i < p.length) (h : isRep (leftL p k) i = true) : isRep (leftL p (k + 1)) i = true := by
  rw [isRep_iff] at h ⊢
  exact fun j hj e => h j hj (left_mono (by omega) hi e)
theorem filter_len_lt {l : List Nat} {f g : Nat → Bool} (h : ∀ x ∈ l, f x = true → g x = true) (hx : ∃ x ∈ l, f x = false ∧ g x = true) : (l.filter f).length < (l.filter g).length := by
  induction l with
  | nil => obtain ⟨x, hx, _⟩ := hx; cases hx
  | cons y l ih =>
    have hle : (l.filter f).length ≤ (l.filter g).length := by
      clear ih hx
      induction l with
      | nil => simp
      | cons z l ih2 =>
        have := ih2 (fun x hx => h x (by simp at hx ⊢; rcases hx with e | e <;> simp [e]))
        have hz := h z (by simp)
        simp only [List.filter_cons]
        cases hf : f z
        · cases g z <;> simp <;> omega
        · rw [hz hf]; simp; omega
    have hy := h y (by simp)
    simp only [List.filter_cons]
    obtain ⟨x, hx, h1, h2⟩ := hx
    rcases List.mem_cons.1 hx with rfl | hx
    · rw [h1, h2]; simp; omega
    · have := ih (fun z hz => h z (by simp [hz])) ⟨x, hx, h1, h2⟩
      cases hf : f y
      · cases g y <;> simp <;> omega
      · rw [hy hf]; simp; omega
theorem reps_lt {p : List (List Int)} (h : picB p = true) {k : Nat} (hne : leftL p (k + 1) ≠ leftL p k) : (reps p.length (leftL p k)).length < (reps p.length (leftL p (k + 1))).length := by
  refine filter_len_lt (fun x hx hr => isRep_mono (List.mem_range.1 hx) hr) ?_
  -- a pair that was struck out
  have hex : ∃ a b, a < p.length ∧ b < p.length ∧ ent (leftL p k) a b = 1 ∧ ent (leftL p (k + 1)) a b ≠ 1 := by
    apply Classical.byContradiction
    intro hn
    apply hne
    rw [pic_eq (leftL_pic h (k + 1)), pic_eq (leftL_pic h k), leftL_len, leftL_len]
    apply mkR_congr
    intro a b ha hb
    have h1 := left_bit h (k := k) ha hb
    have h2 := left_bit h (k := k + 1) ha hb
    have h3 := left_le h (k := k) ha hb
    rcases h1 with e | e
    · omega
    · have : ent (leftL p (k + 1)) a b = 1 := Classical.byContradiction fun e2 => hn ⟨a, b, ha, hb, e, e2⟩
      omega
  obtain ⟨a, b, ha, hb, e1, e2⟩ := hex
  obtain ⟨r, hr1, hr2, hr3⟩ := rep_of h k ha
  have hrl : r < p.length := by omega
  have hrb : ent (leftL p k) r b = 1 := left_trans h k hrl ha hb hr2 e1
  -- one of both parts from r
  have hc : ∃ c, c < p.length ∧ ent (leftL p k) r c = 1 ∧ ent (leftL p (k + 1)) r c ≠ 1 := by
    apply Classical.byContradiction
    intro hn
    have ga : ent (leftL p (k + 1)) r a = 1 := Classical.byContradiction fun e => hn ⟨a, ha, hr2, e⟩
    have gb : ent (leftL p (k + 1)) r b = 1 := Classical.byContradiction fun e => hn ⟨b, hb, hrb, e⟩
    exact e2 (left_trans h (k + 1) ha hrl hb (by rw [left_sym h (k + 1) a r ha hrl]; exact ga) gb)
  obtain ⟨c, hcl, hc1, hc2⟩ := hc
  obtain ⟨r', q1, q2, q3⟩ := rep_of h (k + 1) hcl
  have hr'l : r' < p.length := by omega
  have q4 : ent (leftL p k) r r' = 1 := left_trans h k hrl hcl hr'l hc1 (by rw [left_sym h k c r' hcl hr'l]; exact left_mono hr'l hcl q2)
  have hne' : r' ≠ r := fun e => hc2 (by rw [← e]; exact q2)
  refine ⟨r', List.mem_range.2 hr'l, ?_, q3⟩
  rw [Bool.eq_false_iff]
  intro hrep
  rw [isRep_iff] at hrep hr3
  rcases Nat.lt_or_ge r r' with hlt | hge
  · exact hrep r hlt q4
  · exact hr3 r' (by omega) (by rw [left_sym h k r' r hr'l hrl]; exact q4)
theorem left_stays {p : List (List Int)} {j : Nat} (h : leftL p (j + 1) = leftL p j) (d : Nat) : leftL p (j + d) = leftL p j := by
  induction d with
  | zero => rfl
  | succ d ih => show roundL p (leftL p (j + d)) = _; rw [ih]; exact h
theorem left_count {p : List (List Int)} (h : picB p = true) (k : Nat) : (∃ j, j < k ∧ leftL p (j + 1) = leftL p j) ∨ k < (reps p.length (leftL p k)).length := by
  induction k with
  | zero =>
    right
    have hp := (picB_iff p).1 h
    have : 0 ∈ reps p.length (leftL p 0) := by
      rw [reps, List.mem_filter]
      exact ⟨List.mem_range.2 (by omega), by rw [isRep_iff]; intro j hj; omega⟩
    exact List.length_pos_of_mem this
  | succ k ih =>
    rcases ih with ⟨j, hj, e⟩ | ih
    · exact .inl ⟨j, by omega, e⟩
    · by_cases he : leftL p (k + 1) = leftL p k
      · exact .inl ⟨k, by omega, he⟩
      · right; have := reps_lt h he; omega
theorem left_stable {p : List (List Int)} (h : picB p = true) {k m : Nat} (hk : p.length ≤ k) (hm : p.length ≤ m) : leftL p k = leftL p m := by
  have hj : ∃ j, j < p.length ∧ leftL p (j + 1) = leftL p j := by
    rcases left_count h p.length with hj | hj
    · exact hj
    · have hl : (reps p.length (leftL p p.length)).length ≤ p.length := by
        have := List.length_filter_le (isRep (leftL p p.length)) (List.range p.length)
        simpa [reps] using this
      omega
  obtain ⟨j, hj, e⟩ := hj
  have h1 := left_stays e (k - j)
  have h2 := left_stays e (m - j)
  rw [show j + (k - j) = k by omega] at h1
  rw [show j + (m - j) = m by omega] at h2
  rw [h1, h2]

/-! ### rows that tell pairs as they must be -/
def likeB (p l : List (List Int)) : Bool := picB p && (l.length == p.length) && (l.all fun r => bitsB r p.length) && (List.range p.length).all fun a => (List.range p.length).all fun b => ent l a b == 0 || answB p l a b
theorem like_pic {p l : List (List Int)} (h : picB p = true) (hl : l.length = p.length) : (l.all fun r => bitsB r p.length) = picB l := by
  have hp := (picB_iff p).1 h
  have e1 : decide (1 ≤ l.length) = true := decide_eq_true (by omega)
  have e2 : decide (l.length ≤ 5) = true := decide_eq_true (by omega)
  rw [picB, e1, e2, hl]; rfl
theorem likeB_iff {p l : List (List Int)} : likeB p l = true ↔ picB p = true ∧ l.length = p.length ∧ picB l = true ∧ ∀ a b, a < p.length → b < p.length → ent l a b = 1 → answB p l a b = true := by
  constructor
  · intro h
    simp only [likeB, Bool.and_eq_true, beq_iff_eq] at h
    obtain ⟨⟨⟨h1, h2⟩, h3⟩, h4⟩ := h
    refine ⟨h1, h2, by rw [← like_pic h1 h2]; exact h3, fun a b ha hb he => ?_⟩
    simp only [List.all_eq_true, List.mem_range, Bool.or_eq_true, beq_iff_eq] at h4
    rcases h4 a ha b hb with e | e
    · rw [he] at e; cases e
    · exact e
  · rintro ⟨h1, h2, h3, h4⟩
    simp only [likeB, Bool.and_eq_true, beq_iff_eq]
    refine ⟨⟨⟨h1, h2⟩, by rw [like_pic h1 h2]; exact h3⟩, ?_⟩
    simp only [List.all_eq_true, List.mem_range, Bool.or_eq_true, beq_iff_eq]
    intro a ha b hb
    rcases pic_bit h3 (i := a) (j := b) (by omega) (by omega) with e | e
    · exact .inl e
    · exact .inr (h4 a b ha hb e)
/-- what is left in the end tells pairs as they must be -/
theorem like_left {p : List (List Int)} (h : picB p = true) : likeB p (leftL p p.length) = true := by
  rw [likeB_iff]
  refine ⟨h, leftL_len _ _, leftL_pic h _, fun a b ha hb he => ?_⟩
  have e := left_stable h (Nat.le_succ p.length) (Nat.le_refl _)
  rw [← e] at he
  exact ((left_succ_iff ha hb).1 he).2
/-- .. and all others that do are within it -/
theorem like_within {p l : List (List Int)} (h : likeB p l = true) (k : Nat) {a b : Nat} (ha : a < p.length) (hb : b < p.length) (he : ent l a b = 1) : ent (leftL p k) a b = 1 := by
  rw [likeB_iff] at h
  obtain ⟨h1, h2, h3, h4⟩ := h
  induction k generalizing a b with
  | zero => exact left_zero ha hb
  | succ k ih =>
    rw [left_succ_iff ha hb, answB_iff h1 ha hb]
    have := (answB_iff h1 ha hb).1 (h4 a b ha hb he)
    refine ⟨ih ha hb he, fun x hx e => ?_, fun y hy e => ?_⟩
    · obtain ⟨y, hy, e1, e2⟩ := this.1 x hx e
      exact ⟨y, hy, e1, ih hx hy e2⟩
    · obtain ⟨x, hx, e1, e2⟩ := this.2 y hy e
      exact ⟨x, hx, e1, ih hx hy e2⟩
theorem like_le {p l : List (List Int)} (h : likeB p l = true) {a b : Nat} (ha : a < p.length) (hb : b < p.length) : ent l a b ≤ ent (leftL p p.length) a b := by
  obtain ⟨h1, h2, h3, _⟩ := likeB_iff.1 h
  rcases pic_bit h3 (i := a) (j := b) (by omega) (by omega) with e | e
  · rcases left_bit h1 (k := p.length) ha hb with e2 | e2 <;> omega
  · have := like_within h p.length ha hb e; omega
/-- each node with itself -/
def ownL (n : Nat) : List (List Int) := mkR n fun i j => if i = j then 1 else 0
theorem like_own {p : List (List Int)} (h : picB p = true) : likeB p (ownL p.length) = true := by
  have hp := (picB_iff p).1 h
  rw [likeB_iff]
  refine ⟨h, mkR_len _ _, mkR_pic hp.1 hp.2.1 (fun i j => by by_cases e : i = j <;> simp [e]), fun a b ha hb he => ?_⟩
  have hab : a = b := by
    rw [ownL, mkR_ent _ _ ha hb] at he
    apply Classical.byContradiction
    intro e
    rw [if_neg e] at he; cases he
  subst hab
  rw [answB_iff h ha ha]
  exact ⟨fun x hx e => ⟨x, hx, e, by rw [ownL, mkR_ent _ _ hx hx, if_pos rfl]⟩, fun x hx e => ⟨x, hx, e, by rw [ownL, mkR_ent _ _ hx hx, if_pos rfl]⟩⟩
theorem like_none {p : List (List Int)} (h : picB p = true) : likeB p (mkR p.length fun _ _ => 0) = true := by
  have hp := (picB_iff p).1 h
  rw [likeB_iff]
  refine ⟨h, mkR_len _ _, mkR_pic hp.1 hp.2.1 (fun i j => .inl rfl), fun a b ha hb he => ?_⟩
  rw [mkR_ent _ _ ha hb] at he; cases he

/-! ### kinds -/
/-- the least node that draws the same set -/
def kindN (p : List (List Int)) (k : Nat) : Nat := ((leftL p p.length).getD k []).findIdx (· == 1)
def kindsL (p : List (List Int)) : List Int := (List.range p.length).map fun k => ((kindN p k : Nat) : Int)
theorem left_row {p : List (List Int)} {m k : Nat} (hk : k < p.length) : (leftL p m).getD k [] = (List.range p.length).map fun j => ent (leftL p m) k j := by
  have e : leftL p m = mkR p.length (ent (leftL p m)) := by
    have : ∃ f, leftL p m = mkR p.length f := by cases m <;> exact ⟨_, rfl⟩
    obtain ⟨f, hf⟩ := this
    rw [hf]
    exact mkR_congr fun i j hi hj => (mkR_ent _ f hi hj).symm
  have hk2 : k < (leftL p m).length := by rw [leftL_len]; exact hk
  rw [List.getD_eq_getElem?_getD, List.getElem?_eq_getElem hk2, Option.getD_some]
  have : ∀ (l : List (List Int)) (f : Nat → Nat → Int) (h : k < l.length), l = mkR p.length f → l[k] = (List.range p.length).map fun j => f k j := by
    intro l f h e; subst e; exact mkR_row _ _ _ _
  exact this _ _ hk2 e
theorem kindN_spec {p : List (List Int)} (h : picB p = true) {k : Nat} (hk : k < p.length) :
    kindN p k ≤ k ∧ ent (leftL p p.length) k (kindN p k) = 1 ∧ ∀ j, j < kindN p k → ent (leftL p p.length) k j ≠ 1 := by
  have hr := left_row (m := p.length) hk
  have hself := left_refl h p.length hk
  unfold kindN
  rw [hr]
  obtain ⟨l, hl⟩ : ∃ l, l = (List.range p.length).map fun j => ent (leftL p p.length) k j := ⟨_, rfl⟩
  rw [← hl]
  have hget : ∀ j (hj : j < l.length), l[j] = ent (leftL p p.length) k j := by intro j hj; subst hl; simp
  have hll : l.length = p.length := by rw [hl]; simp
  have hex : ∃ x ∈ l, (x == 1) = true := ⟨_, List.getElem_mem (by omega : k < l.length), by rw [hget k (by omega), hself]; rfl⟩
  have hlt := List.findIdx_lt_length_of_exists hex
  have h1 : (l[l.findIdx (· == 1)] == 1) = true := List.findIdx_getElem (w := hlt)
  have hle : l.findIdx (· == 1) ≤ k := by
    apply Nat.le_of_not_lt
    intro hgt
    have := List.not_of_lt_findIdx (p := (· == 1)) (xs := l) hgt
    rw [hget k (by omega), hself] at this
    simp at this
  refine ⟨hle, ?_, fun j hj e => ?_⟩
  · rw [hget _ hlt] at h1; simpa using h1
  · have := List.not_of_lt_findIdx (p := (· == 1)) (xs := l) hj
    rw [hget j (by omega), e] at this
    simp at this
theorem kindN_lt {p : List (List Int)} (h : picB p = true) {k : Nat} (hk : k < p.length) : kindN p k < p.length := by have := (kindN_spec h hk).1; omega
theorem kindN_eq {p : List (List Int)} (h : picB p = true) {k j : Nat} (hk : k < p.length) (hj : j < p.length) : kindN p k = kindN p j ↔ ent (leftL p p.length) k j = 1 := by
  obtain ⟨a1, a2, a3⟩ := kindN_spec h hk
  obtain ⟨b1, b2, b3⟩ := kindN_spec h hj
  have hsk := left_sym h p.length
  constructor
  · intro e
    rw [← e] at b2
    exact left_trans h p.length hk (by omega) hj a2 (by rw [hsk _ _ (by omega) hj]; exact b2)
  · intro e
    have h1 : ent (leftL p p.length) j (kindN p k) = 1 := left_trans h p.length hj hk (by omega) (by rw [hsk _ _ hj hk]; exact e) a2
    have h2 : ent (leftL p p.length) k (kindN p j) = 1 := left_trans h p.length hk hj (by omega) e b2
    apply Nat.le_antisymm
    · exact Nat.le_of_not_lt fun hl => a3 _ hl h2
    · exact Nat.le_of_not_lt fun hl => b3 _ hl h1
theorem kindN_kind {p : List (List Int)} (h : picB p = true) {k : Nat} (hk : k < p.length) : kindN p (kindN p k) = kindN p k := by
  have := kindN_spec h hk
  rw [kindN_eq h (by omega) hk, left_sym h p.length _ _ (by omega) hk]
  exact this.2.1
theorem kindsL_len (p : List (List Int)) : (kindsL p).length = p.length := by simp [kindsL]
theorem kindsL_get (p : List (List Int)) (k : Nat) (h : k < (kindsL p).length) : (kindsL p)[k] = ((kindN p k : Nat) : Int) := by simp [kindsL]
end Go.Proofs.Ytkicgodmgafkoaa
