/- Plain words for the codes at nodes. No program in sight. -/
import Derived.Test.YtkicgodmgafkoaaReach
import Derived.Test.YtkicgodmgafkoaaSetLaws
namespace Go.Proofs.Ytkicgodmgafkoaa
open Go.RowKit

/-- codes that are all there, each at most 15: the set of them -/
def gather : List (Option Nat) → Option Nat
  | [] => some 0
  | o :: l => match o with
    | none => none
    | some m => if m ≤ 15 then (match gather l with | none => none | some s => some (s ||| 2 ^ m)) else none
/-- the code at a node, looked for as deep as fuel lasts -/
def codeF (p : List (List Int)) : Nat → Nat → Option Nat
  | 0, _ => none
  | k + 1, a => gather ((arrowsL p a).map (codeF p k))
theorem gather_some {l : List (Option Nat)} {s : Nat} (h : gather l = some s) : (∀ o ∈ l, ∃ m, o = some m ∧ m ≤ 15) ∧ ∀ i, s.testBit i = true ↔ some i ∈ l := by
  induction l generalizing s with
  | nil => simp [gather] at h; subst h; simp
  | cons o l ih =>
    cases o with
    | none => simp [gather] at h
    | some m =>
      simp only [gather] at h
      by_cases hm : m ≤ 15
      · rw [if_pos hm] at h
        cases hg : gather l with
        | none => rw [hg] at h; simp at h
        | some t =>
          rw [hg] at h
          simp only [Option.some.injEq] at h
          obtain ⟨h1, h2⟩ := ih hg
          refine ⟨fun o ho => ?_, fun i => ?_⟩
          · rcases List.mem_cons.1 ho with e | e
            · exact ⟨m, e, hm⟩
            · exact h1 o e
          · rw [← h, Nat.testBit_or, Bool.or_eq_true, h2, Nat.testBit_two_pow, decide_eq_true_eq, List.mem_cons, Option.some.injEq]
            constructor
            · rintro (e | e)
              · exact .inr e
              · exact .inl e.symm
            · rintro (e | e)
              · exact .inr e.symm
              · exact .inl e
      · rw [if_neg hm] at h; cases h
theorem gather_of {l : List (Option Nat)} (h : ∀ o ∈ l, ∃ m, o = some m ∧ m ≤ 15) : ∃ s, gather l = some s := by
  induction l with
  | nil => exact ⟨0, rfl⟩
  | cons o l ih =>
    obtain ⟨m, rfl, hm⟩ := h o (by simp)
    obtain ⟨s, hs⟩ := ih fun o ho => h o (by simp [ho])
    exact ⟨s ||| 2 ^ m, by simp only [gather, if_pos hm, hs]⟩
theorem gather_lt {l : List (Option Nat)} {s : Nat} (h : gather l = some s) : s < 65536 := by
  obtain ⟨h1, h2⟩ := gather_some h
  apply Nat.lt_pow_two_of_testBit (n := 16)
  intro i hi
  cases hb : s.testBit i
  · rfl
  · obtain ⟨m, e, hm⟩ := h1 _ ((h2 i).1 hb)
    have : i = m := Option.some.inj e
    omega
/-- what the loop over the arrows has gathered behind the first t -/
def GatherTo (l : List (Option Nat)) (t s : Nat) : Prop := (∀ j (h : j < l.length), j < t → ∃ m, l[j] = some m ∧ m ≤ 15) ∧ ∀ i, s.testBit i = true ↔ ∃ j, ∃ h : j < l.length, j < t ∧ l[j] = some i
theorem GatherTo.start (l : List (Option Nat)) : GatherTo l 0 0 := ⟨fun j _ h => by omega, fun i => by simp⟩
theorem GatherTo.step {l : List (Option Nat)} {t s m : Nat} (h : GatherTo l t s) (ht : t < l.length) (e : l[t] = some m) (hm : m ≤ 15) : GatherTo l (t + 1) (s ||| 2 ^ m) := by
  refine ⟨fun j hj hjt => ?_, fun i => ?_⟩
  · by_cases hjt2 : j = t
    · subst hjt2; exact ⟨m, e, hm⟩
    · exact h.1 j hj (by omega)
  · rw [Nat.testBit_or, Bool.or_eq_true, h.2, Nat.testBit_two_pow, decide_eq_true_eq]
    constructor
    · rintro (⟨j, hj, h1, h2⟩ | e2)
      · exact ⟨j, hj, by omega, h2⟩
      · exact ⟨t, ht, by omega, by rw [e, e2]⟩
    · rintro ⟨j, hj, h1, h2⟩
      by_cases hjt2 : j = t
      · subst hjt2
        rw [e] at h2
        exact .inr (Option.some.inj h2)
      · exact .inl ⟨j, hj, by omega, h2⟩
theorem GatherTo.lt {l : List (Option Nat)} {t s : Nat} (h : GatherTo l t s) : s < 65536 := by
  apply Nat.lt_pow_two_of_testBit (n := 16)
  intro i hi
  cases hb : s.testBit i
  · rfl
  · obtain ⟨j, hj, h1, h2⟩ := (h.2 i).1 hb
    obtain ⟨m, e, hm⟩ := h.1 j hj h1
    rw [e] at h2
    have : m = i := Option.some.inj h2
    omega
theorem GatherTo.all {l : List (Option Nat)} {t s : Nat} (h : GatherTo l t s) (ht : ¬ t < l.length) : gather l = some s := by
  obtain ⟨s', hs⟩ := gather_of (l := l) fun o ho => by
    obtain ⟨j, hj, rfl⟩ := List.getElem_of_mem ho
    exact h.1 j hj (by omega)
  rw [hs]
  congr 1
  apply Nat.eq_of_testBit_eq
  intro i
  have h2 := (gather_some hs).2 i
  have h3 := h.2 i
  rw [Bool.eq_iff_iff, h2, h3]
  constructor
  · intro hm
    obtain ⟨j, hj, e⟩ := List.getElem_of_mem hm
    exact ⟨j, hj, by omega, e⟩
  · rintro ⟨j, hj, _, e⟩
    rw [← e]; exact List.getElem_mem hj
theorem gather_bad {l : List (Option Nat)} {t : Nat} (ht : t < l.length) (h : ¬ ∃ m, l[t] = some m ∧ m ≤ 15) : gather l = none := by
  cases hg : gather l with
  | none => rfl
  | some s => exact absurd ((gather_some hg).1 _ (List.getElem_mem ht)) h

/-- enough fuel is enough -/
theorem codeF_more {p : List (List Int)} (h : picB p = true) : ∀ (k a : Nat), a < p.length → backB p a = false → reachC p a ≤ k → ∀ d, codeF p (k + d) a = codeF p k a := by
  intro k
  induction k with
  | zero => intro a ha _ hk; have := reachC_pos h ha; omega
  | succ k ih =>
    intro a ha hb hk d
    rw [show k + 1 + d = (k + d) + 1 by omega]
    simp only [codeF]
    congr 1
    apply List.map_congr_left
    intro v hv
    obtain ⟨hvl, e⟩ := (arrowsL_mem h ha).1 hv
    have := reachC_lt h ha e hb
    exact ih v hvl (back_arrow h ha e hb) (by omega) d
/-- the code at a node -/
def codeL (p : List (List Int)) (a : Nat) : Option Nat := codeF p p.length a
theorem codeL_step {p : List (List Int)} (h : picB p = true) {a : Nat} (ha : a < p.length) (hb : backB p a = false) : codeL p a = gather ((arrowsL p a).map (codeL p)) := by
  have h1 := codeF_more h p.length a ha hb (reachC_le p a) 1
  unfold codeL
  rw [← h1]
  rfl
/-- what CodeAt answers -/
def codeI (p : List (List Int)) (a : Int) : Option Nat := if nodeB p a && !backB p a.toNat then codeL p a.toNat else none
def codeV : Option Nat → Int
  | none => -1
  | some n => n
theorem codeI_no {p : List (List Int)} {a : Int} (h : nodeB p a = false) : codeI p a = none := by simp [codeI, h]
theorem codeI_back {p : List (List Int)} {a : Nat} (h : backB p a = true) : codeI p a = none := by simp [codeI, h]
theorem codeI_in {p : List (List Int)} {a : Nat} (h : nodeB p a = true) (hb : backB p a = false) : codeI p a = codeL p a := by simp [codeI, h, hb]
theorem codeI_some {p : List (List Int)} {a : Nat} {s : Nat} (h : codeI p a = some s) : nodeB p a = true ∧ backB p a = false ∧ codeL p a = some s := by
  unfold codeI at h
  by_cases hc : (nodeB p a && !backB p (a : Int).toNat) = true
  · rw [if_pos hc] at h
    simp only [Bool.and_eq_true, Bool.not_eq_true', Int.toNat_natCast] at hc h
    exact ⟨hc.1, hc.2, h⟩
  · rw [if_neg hc] at h; cases h
theorem codeL_lt {p : List (List Int)} (h : picB p = true) {a s : Nat} (ha : a < p.length) (hb : backB p a = false) (e : codeL p a = some s) : s < 65536 := by
  rw [codeL_step h ha hb] at e; exact gather_lt e
/-- the members of the code at a node are the codes at its arrows -/
theorem codeL_mem {p : List (List Int)} (h : picB p = true) {a s : Nat} (ha : a < p.length) (hb : backB p a = false) (e : codeL p a = some s) :
    (∀ v, v < p.length → ent p a v = 1 → ∃ m, codeL p v = some m ∧ m ≤ 15) ∧ ∀ i, s.testBit i = true ↔ ∃ v, v < p.length ∧ ent p a v = 1 ∧ codeL p v = some i := by
  rw [codeL_step h ha hb] at e
  obtain ⟨h1, h2⟩ := gather_some e
  refine ⟨fun v hv he => h1 _ (List.mem_map.2 ⟨v, (arrowsL_mem h ha).2 ⟨hv, he⟩, rfl⟩), fun i => ?_⟩
  rw [h2, List.mem_map]
  constructor
  · rintro ⟨v, hv, e2⟩
    obtain ⟨hvl, he⟩ := (arrowsL_mem h ha).1 hv
    exact ⟨v, hvl, he, e2⟩
  · rintro ⟨v, hvl, he, e2⟩
    exact ⟨v, (arrowsL_mem h ha).2 ⟨hvl, he⟩, e2⟩
/-- the set at a node is no deeper than it reaches nodes, less one -/
theorem codeL_deep {p : List (List Int)} (h : picB p = true) : ∀ (k a s : Nat), reachC p a ≤ k → a < p.length → backB p a = false → codeL p a = some s → deepN s + 1 ≤ reachC p a := by
  intro k
  induction k with
  | zero => intro a s hk ha; have := reachC_pos h ha; omega
  | succ k ih =>
    intro a s hk ha hb e
    obtain ⟨h1, h2⟩ := codeL_mem h ha hb e
    have hpos := reachC_pos h ha
    rw [deepN_eq]
    have : maxD (memL s) ≤ reachC p a - 1 := maxD_le _ _ fun m hm => by
      obtain ⟨v, hvl, he, e2⟩ := (h2 m).1 (mem_memL.1 hm).2
      have hlt := reachC_lt h ha he hb
      have := ih v m (by omega) hvl (back_arrow h ha he hb) e2
      omega
    omega

/-! ### sameness and codes -/
/-- pairs of nodes with one code -/
def codePairs (p : List (List Int)) : List (List Int) := mkR p.length fun i j => if backB p i = false ∧ backB p j = false ∧ (codeL p i).isSome ∧ codeL p i = codeL p j then 1 else 0
theorem codePairs_iff {p : List (List Int)} {i j : Nat} (hi : i < p.length) (hj : j < p.length) : ent (codePairs p) i j = 1 ↔ backB p i = false ∧ backB p j = false ∧ ∃ s, codeL p i = some s ∧ codeL p j = some s := by
  rw [codePairs, mkR_ent _ _ hi hj]
  constructor
  · intro h
    by_cases hc : backB p i = false ∧ backB p j = false ∧ (codeL p i).isSome ∧ codeL p i = codeL p j
    · obtain ⟨s, hs⟩ := Option.isSome_iff_exists.1 hc.2.2.1
      exact ⟨hc.1, hc.2.1, s, hs, by rw [← hc.2.2.2]; exact hs⟩
    · rw [if_neg hc] at h; cases h
  · rintro ⟨h1, h2, s, h3, h4⟩
    rw [if_pos ⟨h1, h2, by rw [h3]; rfl, by rw [h3, h4]⟩]
theorem like_codes {p : List (List Int)} (h : picB p = true) : likeB p (codePairs p) = true := by
  have hp := (picB_iff p).1 h
  rw [likeB_iff]
  refine ⟨h, mkR_len _ _, mkR_pic hp.1 hp.2.1 (fun i j => ?_), fun a b ha hb he => ?_⟩
  · by_cases hc : backB p i = false ∧ backB p j = false ∧ (codeL p i).isSome ∧ codeL p i = codeL p j
    · right; rw [if_pos hc]
    · left; rw [if_neg hc]
  · obtain ⟨h1, h2, s, h3, h4⟩ := (codePairs_iff ha hb).1 he
    obtain ⟨a1, a2⟩ := codeL_mem h ha h1 h3
    obtain ⟨b1, b2⟩ := codeL_mem h hb h2 h4
    rw [answB_iff h ha hb]
    refine ⟨fun x hx e => ?_, fun y hy e => ?_⟩
    · obtain ⟨m, hm, _⟩ := a1 x hx e
      obtain ⟨y, hy, e2, hm2⟩ := (b2 m).1 ((a2 m).2 ⟨x, hx, e, hm⟩)
      exact ⟨y, hy, e2, (codePairs_iff hx hy).2 ⟨back_arrow h ha e h1, back_arrow h hb e2 h2, m, hm, hm2⟩⟩
    · obtain ⟨m, hm, _⟩ := b1 y hy e
      obtain ⟨x, hx, e2, hm2⟩ := (a2 m).1 ((b2 m).2 ⟨y, hy, e, hm⟩)
      exact ⟨x, hx, e2, (codePairs_iff hx hy).2 ⟨back_arrow h ha e2 h1, back_arrow h hb e h2, m, hm2, hm⟩⟩
/-- left in the end: told as it must be -/
theorem left_end {p : List (List Int)} (h : picB p = true) {a b : Nat} (ha : a < p.length) (hb : b < p.length) (e : ent (leftL p p.length) a b = 1) :
    (∀ x, x < p.length → ent p a x = 1 → ∃ y, y < p.length ∧ ent p b y = 1 ∧ ent (leftL p p.length) x y = 1) ∧ (∀ y, y < p.length → ent p b y = 1 → ∃ x, x < p.length ∧ ent p a x = 1 ∧ ent (leftL p p.length) x y = 1) :=
  (answB_iff h ha hb).1 ((likeB_iff.1 (like_left h)).2.2.2 a b ha hb e)
/-- nodes that draw the same set have the same code -/
theorem same_code {p : List (List Int)} (h : picB p = true) : ∀ (k a b s t : Nat), reachC p a ≤ k → a < p.length → b < p.length → backB p a = false → backB p b = false → codeL p a = some s → codeL p b = some t → ent (leftL p p.length) a b = 1 → s = t := by
  intro k
  induction k with
  | zero => intro a b s t hk ha; have := reachC_pos h ha; omega
  | succ k ih =>
    intro a b s t hk ha hb h1 h2 h3 h4 he
    obtain ⟨a1, a2⟩ := codeL_mem h ha h1 h3
    obtain ⟨b1, b2⟩ := codeL_mem h hb h2 h4
    obtain ⟨l1, l2⟩ := left_end h ha hb he
    apply Nat.eq_of_testBit_eq
    intro i
    rw [Bool.eq_iff_iff, a2, b2]
    constructor
    · rintro ⟨x, hx, e, hm⟩
      obtain ⟨y, hy, e2, hl⟩ := l1 x hx e
      obtain ⟨m, hm2, _⟩ := b1 y hy e2
      have hlt := reachC_lt h ha e h1
      have := ih x y i m (by omega) hx hy (back_arrow h ha e h1) (back_arrow h hb e2 h2) hm hm2 hl
      exact ⟨y, hy, e2, by rw [this]; exact hm2⟩
    · rintro ⟨y, hy, e, hm⟩
      obtain ⟨x, hx, e2, hl⟩ := l2 y hy e
      obtain ⟨m, hm2, _⟩ := a1 x hx e2
      have hlt := reachC_lt h ha e2 h1
      have := ih x y m i (by omega) hx hy (back_arrow h ha e2 h1) (back_arrow h hb e h2) hm2 hm hl
      exact ⟨x, hx, e2, by rw [← this]; exact hm2⟩
theorem same_iff_code {p : List (List Int)} (h : picB p = true) {a b s t : Nat} (ha : a < p.length) (hb : b < p.length) (h1 : backB p a = false) (h2 : backB p b = false) (h3 : codeL p a = some s) (h4 : codeL p b = some t) : ent (leftL p p.length) a b = 1 ↔ s = t := by
  constructor
  · exact same_code h _ a b s t (Nat.le_refl _) ha hb h1 h2 h3 h4
  · intro e
    subst e
    exact like_within (like_codes h) p.length ha hb ((codePairs_iff ha hb).2 ⟨h1, h2, s, h3, h4⟩)
/-- all ways from a node end within k arrows -/
def Ends (p : List (List Int)) : Nat → Nat → Prop
  | 0, _ => False
  | k + 1, a => ∀ x, x < p.length → ent p a x = 1 → Ends p k x
theorem ends_back {p : List (List Int)} (h : picB p = true) : ∀ (k a : Nat), a < p.length → backB p a = false → reachC p a ≤ k → Ends p k a := by
  intro k
  induction k with
  | zero => intro a ha _ hk; have := reachC_pos h ha; omega
  | succ k ih =>
    intro a ha hb hk x hx e
    have := reachC_lt h ha e hb
    exact ih x hx (back_arrow h ha e hb) (by omega)
theorem ends_more {p : List (List Int)} : ∀ (k a : Nat), Ends p k a → Ends p (k + 1) a := by
  intro k
  induction k with
  | zero => intro a h; exact h.elim
  | succ k ih => intro a h x hx e; exact ih x (h x hx e)
theorem ends_reach {p : List (List Int)} (h : picB p = true) {k a b : Nat} (_ha : a < p.length) (he : Ends p k a) (hr : reach p a b = true) : Ends p k b := by
  refine reach_ind (P := fun b => Ends p k b) he (fun x b hx hE e => ?_) hr
  cases k with
  | zero => exact hE.elim
  | succ k => exact ends_more k b (hE b (ent_lt h hx e) e)
theorem ends_noLoop {p : List (List Int)} (h : picB p = true) : ∀ (k v : Nat), v < p.length → Ends p k v → loopB p v = false := by
  intro k
  induction k with
  | zero => intro v _ h; exact h.elim
  | succ k ih =>
    intro v hv he
    rw [Bool.eq_false_iff]; intro hl
    obtain ⟨u, hu, e, hr⟩ := loopB_iff.1 hl
    -- the node after v ends sooner, and so does v, which it reaches
    have hv2 : Ends p k v := ends_reach h hu (he u hu e) hr
    have := ih v hv hv2
    rw [this] at hl; cases hl
theorem ends_iff {p : List (List Int)} (h : picB p = true) {a : Nat} (ha : a < p.length) : backB p a = false ↔ Ends p p.length a := by
  refine ⟨fun hb => ends_back h _ a ha hb (reachC_le p a), fun he => ?_⟩
  rw [Bool.eq_false_iff]; intro hb
  obtain ⟨v, h1, h2⟩ := (backB_iff h ha).1 hb
  have := ends_noLoop h _ v (reach_lt h ha h1) (ends_reach h ha he h1)
  rw [this] at h2; cases h2
theorem same_ends {p : List (List Int)} (h : picB p = true) : ∀ (k a b : Nat), a < p.length → b < p.length → ent (leftL p p.length) a b = 1 → Ends p k a → Ends p k b := by
  intro k
  induction k with
  | zero => intro a b _ _ _ h; exact h
  | succ k ih =>
    intro a b ha hb he hE y hy e
    obtain ⟨x, hx, e2, hl⟩ := (left_end h ha hb he).2 y hy e
    exact ih x y hx hy hl (hE x hx e2)
theorem same_back {p : List (List Int)} (h : picB p = true) {a b : Nat} (ha : a < p.length) (hb : b < p.length) (he : ent (leftL p p.length) a b = 1) : backB p a = backB p b := by
  have h1 := same_ends h p.length a b ha hb he
  have h2 := same_ends h p.length b a hb ha (by rw [left_sym h p.length b a hb ha]; exact he)
  cases hA : backB p a
  · cases hB : backB p b
    · rfl
    · have := (ends_iff h hb).2 (h1 ((ends_iff h ha).1 hA)); rw [this] at hB; cases hB
  · cases hB : backB p b
    · have := (ends_iff h ha).2 (h2 ((ends_iff h hb).1 hB)); rw [this] at hA; cases hA
    · rfl
end Go.Proofs.Ytkicgodmgafkoaa
