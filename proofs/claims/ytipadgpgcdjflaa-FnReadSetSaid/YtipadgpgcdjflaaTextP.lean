/- Plain words for the texts of sets. No program in sight. -/
import Derived.Test.YtipadgpgcdjflaaCodes3
import Derived.Lib.Join
namespace Go.Proofs.Ytipadgpgcdjflaa
open Go.RowKit

/-- the text of a set, looked at as deep as fuel lasts -/
def textF : Nat → Nat → List UInt8
  | 0, _ => []
  | k + 1, n => 123 :: (Lib.join ((memL n).map (textF k)) [44] ++ [125])
theorem textF_more : ∀ (k n : Nat), n < k → ∀ d, textF (k + d) n = textF k n := by
  intro k
  induction k with
  | zero => intro n h; omega
  | succ k ih =>
    intro n hn d
    rw [show k + 1 + d = (k + d) + 1 by omega]
    simp only [textF]
    congr 3
    apply List.map_congr_left
    intro m hm
    exact ih m (by have := mem_lt hm; omega) d
/-- the text of a set -/
def textL (n : Nat) : List UInt8 := textF (n + 1) n
theorem textF_eq {k n : Nat} (h : n < k) : textF k n = textL n := by
  have := textF_more (n + 1) n (by omega) (k - (n + 1))
  rw [show n + 1 + (k - (n + 1)) = k by omega] at this
  exact this
/-- the texts of some sets, commas between, and a brace -/
def tailT (l : List Nat) : List UInt8 := Lib.join (l.map textL) [44] ++ [125]
theorem textL_eq (n : Nat) : textL n = 123 :: tailT (memL n) := by
  unfold textL tailT
  rw [textF]
  congr 3
  apply List.map_congr_left
  intro m hm
  exact textF_eq (mem_lt hm)
theorem tailT_nil : tailT [] = [125] := rfl
theorem tailT_one (m : Nat) : tailT [m] = textL m ++ [125] := by simp [tailT, Lib.join_one]
theorem tailT_cons (m x : Nat) (l : List Nat) : tailT (m :: x :: l) = textL m ++ 44 :: tailT (x :: l) := by
  simp [tailT, Lib.join_cons, Lib.joinTail]
theorem lens_le (l : List (List UInt8)) (B : Nat) (h : ∀ x ∈ l, x.length ≤ B) : Lib.lens l ≤ B * l.length := by
  induction l with
  | nil => simp [Lib.lens]
  | cons x r ih =>
    have h1 := h x (by simp)
    have h2 := ih fun y hy => h y (by simp [hy])
    simp only [Lib.lens, List.map_cons, List.sum_cons, List.length_cons] at h2 ⊢
    rw [Nat.mul_succ]; omega
theorem join_le (l : List (List UInt8)) (B : Nat) (h : ∀ x ∈ l, x.length ≤ B) : (Lib.join l [44]).length ≤ (B + 1) * l.length := by
  cases l with
  | nil => simp [Lib.join_nil]
  | cons x r =>
    rw [Lib.join_length]
    have := lens_le (x :: r) B h
    have h1 : ([44] : List UInt8).length = 1 := rfl
    rw [h1, List.length_cons, Nat.one_mul, Nat.add_mul, Nat.one_mul]
    rw [List.length_cons] at this
    omega
theorem textL_small : ∀ m, m < 16 → (textL m).length ≤ 30 := by
  have h : ∀ m, m < 16 → (textF 17 m).length ≤ 30 := by decide
  intro m hm
  rw [← textF_eq (k := 17) (by omega)]
  exact h m hm
theorem texts_small (n : Nat) : ∀ x ∈ (memL n).map textL, x.length ≤ 30 := by
  intro x hx
  obtain ⟨m, hm, rfl⟩ := List.mem_map.1 hx
  exact textL_small m (mem_memL.1 hm).1
theorem texts_len (n k : Nat) : (Lib.join (((memL n).map textL).take k) [44]).length ≤ 500 := by
  have h1 := join_le (((memL n).map textL).take k) 30 fun x hx => texts_small n x (List.mem_of_mem_take hx)
  have h2 := memL_len n
  have h3 : (((memL n).map textL).take k).length ≤ 16 := by rw [List.length_take, List.length_map]; omega
  omega
theorem textL_len (n : Nat) : (textL n).length ≤ 502 := by
  have := texts_len n (memL n).length
  rw [List.take_of_length_le (by simp)] at this
  rw [textL_eq, tailT]
  simp; omega
theorem textL_pos (n : Nat) : 2 ≤ (textL n).length := by rw [textL_eq, tailT]; simp

/-! ### texts are read in one way -/
theorem tail_inj : ∀ (l l' : List Nat) (r r' : List UInt8), (∀ m ∈ l, ∀ m' s s', m' < 65536 → textL m ++ s = textL m' ++ s' → m = m' ∧ s = s') → (∀ m' ∈ l', m' < 65536) → tailT l ++ r = tailT l' ++ r' → l = l' ∧ r = r' := by
  intro l
  induction l with
  | nil =>
    intro l' r r' _ _ h
    match l' with
    | [] => rw [tailT_nil] at h; exact ⟨rfl, by simpa using h⟩
    | [m] => rw [tailT_nil, tailT_one, textL_eq] at h; simp at h
    | m :: x :: l' => rw [tailT_nil, tailT_cons, textL_eq] at h; simp at h
  | cons m l ih =>
    intro l' r r' hi hl h
    match l, l' with
    | [], [] => rw [tailT_one, textL_eq, tailT_nil] at h; simp at h
    | x :: l, [] => rw [tailT_cons, textL_eq, tailT_nil] at h; simp at h
    | [], [m'] =>
      rw [tailT_one, tailT_one, List.append_assoc, List.append_assoc] at h
      obtain ⟨h1, h2⟩ := hi m (by simp) _ _ _ (hl m' (by simp)) h
      exact ⟨by rw [h1], by simpa using h2⟩
    | [], m' :: y :: l' =>
      rw [tailT_one, tailT_cons, List.append_assoc, List.append_assoc] at h
      obtain ⟨h1, h2⟩ := hi m (by simp) _ _ _ (hl m' (by simp)) h
      simp at h2
    | x :: l, [m'] =>
      rw [tailT_one, tailT_cons, List.append_assoc, List.append_assoc] at h
      obtain ⟨h1, h2⟩ := hi m (by simp) _ _ _ (hl m' (by simp)) h
      simp at h2
    | x :: l, m' :: y :: l' =>
      rw [tailT_cons, tailT_cons, List.append_assoc, List.append_assoc] at h
      obtain ⟨h1, h2⟩ := hi m (by simp) _ _ _ (hl m' (by simp)) h
      simp only [List.cons_append, List.cons.injEq, true_and] at h2
      obtain ⟨h3, h4⟩ := ih (y :: l') r r' (fun z hz => hi z (by simp [hz])) (fun z hz => hl z (by simp [hz])) h2
      exact ⟨by rw [h1, h3], h4⟩
theorem text_inj : ∀ (K n n' : Nat) (r r' : List UInt8), n < K → n < 65536 → n' < 65536 → textL n ++ r = textL n' ++ r' → n = n' ∧ r = r' := by
  intro K
  induction K with
  | zero => intro n _ _ _ h; omega
  | succ K ih =>
    intro n n' r r' hK hn hn' h
    rw [textL_eq, textL_eq] at h
    simp only [List.cons_append, List.cons.injEq, true_and] at h
    obtain ⟨h1, h2⟩ := tail_inj (memL n) (memL n') r r' (fun m hm m' s s' hm' e => ih m m' s s' (by have := mem_lt hm; omega) (by have := (mem_memL.1 hm).1; omega) hm' e) (fun m hm => by have := (mem_memL.1 hm).1; omega) h
    exact ⟨by rw [← setL_memL hn, h1, setL_memL hn'], h2⟩
theorem textL_inj {n n' : Nat} {r r' : List UInt8} (hn : n < 65536) (hn' : n' < 65536) (h : textL n ++ r = textL n' ++ r') : n = n' ∧ r = r' := text_inj (n + 1) n n' r r' (by omega) hn hn' h
theorem textL_inj0 {n n' : Nat} (hn : n < 65536) (hn' : n' < 65536) (h : textL n = textL n') : n = n' :=
  (textL_inj (r := []) (r' := []) hn hn' (by rw [h])).1
/-- the set whose text this is -/
def readV (s : List UInt8) : Option Nat := (List.range 65536).find? fun n => textL n == s
theorem readV_some {s : List UInt8} {n : Nat} : readV s = some n ↔ n < 65536 ∧ s = textL n := by
  constructor
  · intro h
    have h1 := List.find?_some h
    have h2 := List.mem_of_find?_eq_some h
    exact ⟨List.mem_range.1 h2, (beq_iff_eq.1 h1).symm⟩
  · rintro ⟨h1, rfl⟩
    cases h : readV (textL n) with
    | none =>
      have := List.find?_eq_none.1 h n (List.mem_range.2 h1)
      simp at this
    | some m =>
      have h2 := List.find?_some h
      have h3 := List.mem_range.1 (List.mem_of_find?_eq_some h)
      rw [textL_inj0 h3 h1 (beq_iff_eq.1 h2)]
theorem readV_none {s : List UInt8} : readV s = none ↔ ∀ n, n < 65536 → s ≠ textL n := by
  constructor
  · intro h n hn e
    rw [readV_some.2 ⟨hn, e⟩] at h; cases h
  · intro h
    cases hr : readV s with
    | none => rfl
    | some n => obtain ⟨h1, h2⟩ := readV_some.1 hr; exact absurd h2 (h n h1)
theorem readV_more {n : Nat} (hn : n < 65536) (x : UInt8) : readV (textL n ++ [x]) = none := by
  rw [readV_none]
  intro m hm e
  have := (textL_inj (r := [x]) (r' := []) hn hm (by simpa using e)).2
  cases this

/-! ### what reading has told -/
/-- reading at the head of s: the set, the rest, whether it is one -/
def Reads (s : List UInt8) (m : Nat) (r : List UInt8) (ok : Bool) : Prop :=
  m < 65536 ∧ r.length ≤ s.length ∧ (ok = true → r.length < s.length) ∧ ∀ n t, n < 65536 → s = textL n ++ t → ok = true ∧ m = n ∧ r = t
/-- within a set's text, behind the first j members: what is read of c with S gathered, of the body b -/
def Inside (b c : List UInt8) (S : Nat) : Prop :=
  S < 65536 ∧ c.length ≤ b.length ∧ ∀ n t, n < 65536 → b = tailT (memL n) ++ t → ∃ j, j < (memL n).length ∧ S = setL ((memL n).take j) ∧ c = tailT ((memL n).drop j) ++ t
theorem reads_brace {s : List UInt8} (h : ∀ b, s ≠ 123 :: b) : Reads s 0 s false :=
  ⟨by omega, by omega, fun h => (by cases h), fun n t _ e => absurd e (by rw [textL_eq]; exact h _)⟩
theorem reads_empty {b : List UInt8} : Reads (123 :: 125 :: b) 0 b true := by
  refine ⟨by omega, by simp; omega, fun _ => by simp; omega, fun n t hn e => ⟨rfl, ?_⟩⟩
  rw [textL_eq] at e
  simp only [List.cons_append, List.cons.injEq, true_and] at e
  have h0 : memL 0 = [] := by decide
  have := tail_inj [] (memL n) b t (fun m hm => by cases hm) (fun m hm => by have := (mem_memL.1 hm).1; omega) (by rw [tailT_nil]; exact e)
  refine ⟨?_, this.2⟩
  rw [← setL_memL hn, ← this.1]; rfl
theorem inside_start {b : List UInt8} (h : ∀ c, b ≠ 125 :: c) : Inside b b 0 := by
  refine ⟨by omega, by omega, fun n t _ e => ⟨0, ?_, rfl, by simpa using e⟩⟩
  apply List.length_pos_iff.2
  intro h0
  rw [h0, tailT_nil] at e
  exact h _ e
theorem inside_none {b c r : List UInt8} {S m : Nat} {ok : Bool} (h : Inside b c S) (hr : Reads c m r ok) (hx : ok = false ∨ ¬ m ≤ 15) (u : List UInt8) (hu : u.length ≤ b.length + 1) : Reads (123 :: b) 0 u false := by
  refine ⟨by omega, by simpa using hu, fun h => (by cases h), fun n t hn e => ?_⟩
  rw [textL_eq] at e
  simp only [List.cons_append, List.cons.injEq, true_and] at e
  obtain ⟨j, hj, _, hc⟩ := h.2.2 n t hn e
  exfalso
  have hm16 := (mem_memL.1 (List.getElem_mem hj)).1
  have key : ∃ t', c = textL (memL n)[j] ++ t' := by
    rw [List.drop_eq_getElem_cons hj] at hc
    cases hd : (memL n).drop (j + 1) with
    | nil => rw [hd, tailT_one, List.append_assoc] at hc; exact ⟨_, hc⟩
    | cons x l => rw [hd, tailT_cons, List.append_assoc] at hc; exact ⟨_, hc⟩
  obtain ⟨t', ht⟩ := key
  obtain ⟨h1, h2, _⟩ := hr.2.2.2 _ _ (by omega) ht
  rcases hx with hx | hx
  · rw [hx] at h1; cases h1
  · omega
theorem inside_next {b c r : List UInt8} {S m : Nat} (h : Inside b c S) (hr : Reads c m (44 :: r) true) (_hm : m ≤ 15) (hS : S ||| 2 ^ m < 65536) : Inside b r (S ||| 2 ^ m) := by
  refine ⟨hS, by have := hr.2.1; have := h.2.1; simp at *; omega, fun n t hn e => ?_⟩
  obtain ⟨j, hj, hSj, hc⟩ := h.2.2 n t hn e
  have hm16 := (mem_memL.1 (List.getElem_mem hj)).1
  rw [List.drop_eq_getElem_cons hj] at hc
  by_cases hj2 : j + 1 < (memL n).length
  · rw [List.drop_eq_getElem_cons hj2, tailT_cons, List.append_assoc, ← List.drop_eq_getElem_cons hj2] at hc
    obtain ⟨_, h2, h3⟩ := hr.2.2.2 _ _ (by omega) hc
    refine ⟨j + 1, hj2, ?_, by simpa using h3⟩
    rw [List.take_succ_eq_append_getElem hj, setL_snoc, hSj, h2]
  · rw [List.drop_eq_nil_of_le (by omega), tailT_one, List.append_assoc] at hc
    obtain ⟨_, h2, h3⟩ := hr.2.2.2 _ _ (by omega) hc
    simp at h3
theorem inside_end {b c r : List UInt8} {S m : Nat} {ok : Bool} {u : List UInt8} (h : Inside b c S) (hr : Reads c m r true) (_hm : m ≤ 15) (hS : S ||| 2 ^ m < 65536) (h44 : ∀ x, r ≠ 44 :: x)
    (hu : (r = 125 :: u ∧ ok = true) ∨ ((∀ x, r ≠ 125 :: x) ∧ u = r ∧ ok = false)) : Reads (123 :: b) (S ||| 2 ^ m) u ok := by
  have hl1 := hr.2.1
  have hl2 := h.2.1
  refine ⟨hS, ?_, ?_, fun n t hn e => ?_⟩
  · rcases hu with ⟨e, _⟩ | ⟨_, e, _⟩
    · rw [e] at hl1; simp at *; omega
    · rw [e]; simp; omega
  · intro _
    rcases hu with ⟨e, _⟩ | ⟨_, e, _⟩
    · rw [e] at hl1; simp at *; omega
    · rw [e]; simp; omega
  · rw [textL_eq] at e
    simp only [List.cons_append, List.cons.injEq, true_and] at e
    obtain ⟨j, hj, hSj, hc⟩ := h.2.2 n t hn e
    have hm16 := (mem_memL.1 (List.getElem_mem hj)).1
    rw [List.drop_eq_getElem_cons hj] at hc
    by_cases hj2 : j + 1 < (memL n).length
    · rw [List.drop_eq_getElem_cons hj2, tailT_cons, List.append_assoc] at hc
      obtain ⟨_, h2, h3⟩ := hr.2.2.2 _ _ (by omega) hc
      exact absurd h3 (h44 _)
    · rw [List.drop_eq_nil_of_le (by omega), tailT_one, List.append_assoc] at hc
      obtain ⟨_, h2, h3⟩ := hr.2.2.2 _ _ (by omega) hc
      have hlast : S ||| 2 ^ m = n := by
        rw [h2, hSj, ← setL_snoc, ← List.take_succ_eq_append_getElem hj, List.take_of_length_le (by omega), setL_memL hn]
      rcases hu with ⟨e1, e2⟩ | ⟨e1, _⟩
      · rw [h3] at e1; simp at e1; exact ⟨e2, hlast, e1.symm⟩
      · exact absurd h3 (e1 _)
end Go.Proofs.Ytipadgpgcdjflaa
