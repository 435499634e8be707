/- Memory words for slices of rows: read, and of the call's own. -/
import Derived.Test.YtipadgpgcdjflaaDoorBase
namespace Go.Proofs.YtipadgpgcdjflaaDoor
open Go.RowKit

theorem info_ints : (Tryd.prog.info? 38).map (fun i => (i.zero, i.size, i.bytes)) = some (some (.slice none 0 0), 1, 24) := by kernel_rfl

/-- a slice value that reads as a list of rows -/
def RowsR (w : World) (v : Value) (rows : List (List Int)) : Prop :=
  (rows = [] ∧ ∃ a cap, v = .slice a 0 cap) ∨
  ∃ b off cap, v = .slice (some ⟨b, off, none⟩) rows.length cap ∧ rows.length ≤ cap ∧ cap ≤ maxLen ∧ 0 < rows.length ∧
    ∀ i (h : i < rows.length), ∃ u, w.cell? ⟨b, off + i, none⟩ = some u ∧ Ints w u rows[i]

theorem RowsR.len {w : World} {v : Value} {rows : List (List Int)} (h : RowsR w v rows) : ∃ a cap, v = .slice a rows.length cap := by
  rcases h with ⟨rfl, a, cap, rfl⟩ | ⟨b, off, cap, rfl, _⟩
  · exact ⟨a, cap, rfl⟩
  · exact ⟨_, cap, rfl⟩
theorem RowsR.bound {w : World} {v : Value} {rows : List (List Int)} (h : RowsR w v rows) : rows.length ≤ 9223372036854775807 := by
  rcases h with ⟨rfl, _⟩ | ⟨b, off, cap, rfl, h1, h2, _⟩
  · simp
  · unfold maxLen at h2; omega
theorem RowsR.fresh {w w' : World} {v : Value} {rows : List (List Int)} (h : RowsR w v rows) (hF : Fresh w w') : RowsR w' v rows := by
  rcases h with ⟨rfl, a, cap, rfl⟩ | ⟨b, off, cap, rfl, h1, h2, h3, h4⟩
  · exact .inl ⟨rfl, a, cap, rfl⟩
  · refine .inr ⟨b, off, cap, rfl, h1, h2, h3, fun i hi => ?_⟩
    obtain ⟨u, hu, hz⟩ := h4 i hi
    have hlt : b < w.heap.size := World.block_lt_of_cell? w _ hu
    exact ⟨u, by rw [World.cell?_of_block (w := w) (w' := w') (a := ⟨b, off + i, none⟩) (hF.block b hlt)]; exact hu, hz.fresh hF⟩
theorem RowsR.drewN {w : World} {v : Value} {rows : List (List Int)} (h : RowsR w v rows) (n : Nat) : RowsR (w.drewN n) v rows := h.fresh ((Fresh.refl w).drewN n)

theorem Fresh.cell {w w' : World} (h : Fresh w w') {b o : Nat} {v : Value} (hc : w.cell? ⟨b, o, none⟩ = some v) : w'.cell? ⟨b, o, none⟩ = some v := by
  have hlt : b < w.heap.size := World.block_lt_of_cell? w _ hc
  rw [World.cell?_of_block (w := w) (w' := w') (a := ⟨b, o, none⟩) (h.block b hlt)]; exact hc
theorem Keeps.cellOf {S : Nat → Prop} {w w' : World} (h : Keeps S w w') {b o : Nat} {v : Value} (hc : w.cell? ⟨b, o, none⟩ = some v) (hb : ¬ S b) : w'.cell? ⟨b, o, none⟩ = some v := by
  have hlt : b < w.heap.size := World.block_lt_of_cell? w _ hc
  rw [World.cell?_of_block (w := w) (w' := w') (a := ⟨b, o, none⟩) (h.block b hlt hb)]; exact hc
/-- a row of a slice of rows -/
theorem RowsR.row {w : World} {a : Option Addr} {cap : Nat} {rows : List (List Int)} (h : RowsR w (.slice a rows.length cap) rows) {i : Nat} (hi : i < rows.length) :
    ∃ b off u, a = some ⟨b, off, none⟩ ∧ w.cell? ⟨b, off + i, none⟩ = some u ∧ Ints w u rows[i] := by
  rcases h with ⟨rfl, _⟩ | ⟨b, off, cap', heq, h1, h2, h3, h4⟩
  · simp at hi
  · simp only [Value.slice.injEq, true_and] at heq
    obtain ⟨u, hu, hz⟩ := h4 i hi
    exact ⟨b, off, u, heq.1, hu, hz⟩
/-- .. with its length in sight -/
theorem RowsR.rowLen {w : World} {a : Option Addr} {cap : Nat} {rows : List (List Int)} (h : RowsR w (.slice a rows.length cap) rows) {i : Nat} (hi : i < rows.length) :
    ∃ b off a' c, a = some ⟨b, off, none⟩ ∧ w.cell? ⟨b, off + i, none⟩ = some (.slice a' rows[i].length c) ∧ Ints w (.slice a' rows[i].length c) rows[i] := by
  obtain ⟨b, off, u, h1, h2, h3⟩ := h.row hi
  obtain ⟨a', c, rfl⟩ := h3.len
  exact ⟨b, off, a', c, h1, h2, h3⟩
/-- .. and a number of it -/
theorem RowsR.at2 {w : World} {a : Option Addr} {cap : Nat} {rows : List (List Int)} (h : RowsR w (.slice a rows.length cap) rows) {i j : Nat} (hi : i < rows.length) (hj : j < rows[i].length) :
    ∃ b off g o c, a = some ⟨b, off, none⟩ ∧ w.cell? ⟨b, off + i, none⟩ = some (.slice (some ⟨g, o, none⟩) rows[i].length c) ∧ w.cell? ⟨g, o + j, none⟩ = some (.int .i64 rows[i][j]) := by
  obtain ⟨b, off, u, h1, h2, h3⟩ := h.row hi
  obtain ⟨g, o, c, rfl, h4⟩ := h3.at hj
  exact ⟨b, off, g, o, c, h1, h2, h4 j hj⟩

/-! ### rows of the call's own -/
/-- a slice of rows that the call owns, each row a block of its own -/
def OwnsR (lo hi : Nat) (w : World) (v : Value) (rows : List (List Int)) : Prop :=
  ∃ vs : List Value, ∃ hl : vs.length = rows.length, w.ownsRow lo 38 1 v rows.length vs ∧ (∀ g, v.ownBlock = some g → g < hi) ∧
    (∀ i (h : i < rows.length), Owns lo hi w (vs[i]'(by omega)) rows[i]) ∧
    (∀ i j (h : i < rows.length) (h' : j < rows.length), i ≠ j → ∀ g, (vs[i]'(by omega)).ownBlock = some g → (vs[j]'(by omega)).ownBlock ≠ some g)

theorem OwnsR.rows {lo hi : Nat} {w : World} {v : Value} {rows : List (List Int)} (h : OwnsR lo hi w v rows) : RowsR w v rows := by
  obtain ⟨vs, hl, h1, h2, h3, h4⟩ := h
  by_cases hz : rows = []
  · subst hz
    rcases h1.2 with ⟨rfl, _⟩ | ⟨g, cap, cur, rfl, _⟩
    · exact .inl ⟨rfl, _, _, rfl⟩
    · exact .inl ⟨rfl, _, _, rfl⟩
  · have hpos : 0 < rows.length := List.length_pos_iff.2 hz
    rcases h1.2 with ⟨_, h0⟩ | ⟨g, cap, cur, hv, _, _, hn, hm, _, _⟩
    · omega
    · subst hv
      refine .inr ⟨g, 0, cap, rfl, hn, hm, hpos, fun i hi => ⟨vs[i]'(by omega), ?_, (h3 i hi).ints⟩⟩
      have := h1.cellAt i (by omega)
      rw [Nat.zero_add, this]; simp [hl, hi]

theorem ownsRow_same {w w' : World} {base : Nat} {e : TypeId} {size : Nat} {v : Value} {n : Nat} {xs : List Value} (h : w.ownsRow base e size v n xs) (hs : SameAt w w' v) : w'.ownsRow base e size v n xs := by
  refine ⟨h.1, ?_⟩
  rcases h.2 with h2 | ⟨g, cap, cur, hv, hg, hh, r⟩
  · exact Or.inl h2
  · exact Or.inr ⟨g, cap, cur, hv, hg, by rw [hs g (by subst hv; rfl)]; exact hh, r⟩

theorem OwnsR.keeps {lo hi : Nat} {w w' : World} {v : Value} {rows : List (List Int)} {S : Nat → Prop} (h : OwnsR lo hi w v rows) (hb : Keeps S w w') (hv : ∀ g, lo ≤ g → g < hi → ¬ S g) : OwnsR lo hi w' v rows := by
  obtain ⟨vs, hl, h1, h2, h3, h4⟩ := h
  exact ⟨vs, hl, ownsRow_same h1 (fun g hg => hb.block g (h1.lt g hg).2 (hv g (h1.lt g hg).1 (h2 g hg))), h2, fun i hi => (h3 i hi).keeps hb hv, h4⟩
theorem OwnsR.fresh {lo hi : Nat} {w w' : World} {v : Value} {rows : List (List Int)} (h : OwnsR lo hi w v rows) (hF : Fresh w w') : OwnsR lo hi w' v rows :=
  h.keeps (hF.keeps (fun _ => False)) fun _ _ _ => id
theorem OwnsR.wider {lo hi lo' hi' : Nat} {w : World} {v : Value} {rows : List (List Int)} (h : OwnsR lo hi w v rows) (hl : lo' ≤ lo) (hh : hi ≤ hi') : OwnsR lo' hi' w v rows := by
  obtain ⟨vs, hv, h1, h2, h3, h4⟩ := h
  exact ⟨vs, hv, ownsRow_wider h1 hl, fun g hg => Nat.lt_of_lt_of_le (h2 g hg) hh, fun i hi => (h3 i hi).wider hl hh, h4⟩
theorem OwnsR.nil (lo hi : Nat) (w : World) : OwnsR lo hi w (.slice none 0 0) [] :=
  ⟨[], rfl, World.ownsRow_nil _ _ _ _, fun g hg => by simp [Value.ownBlock] at hg, fun i h => by simp at h, fun i j h => by simp at h⟩
theorem OwnsR.empty (w : World) : OwnsR w.heap.size (w.alloc (Obj.cells #[] 38)).heap.size (w.alloc (Obj.cells #[] 38)) (.slice (some ⟨w.heap.size, 0, none⟩) 0 0) [] := by
  refine ⟨[], rfl, ?_, fun g hg => ?_, fun i h => by simp at h, fun i j h => by simp at h⟩
  · exact World.ownsRow_lit (base := w.heap.size) (size := 1) w #[] 0 (Nat.le_refl _) (Nat.zero_le _) rfl
  · simp [Value.ownBlock] at hg; subst hg; simp
theorem OwnsR.blk {lo hi : Nat} {w : World} {v : Value} {rows : List (List Int)} (h : OwnsR lo hi w v rows) : ∀ g, v.ownBlock = some g → lo ≤ g ∧ g < hi ∧ g < w.heap.size := by
  obtain ⟨vs, hv, h1, h2, h3, h4⟩ := h
  exact fun g hg => ⟨(h1.lt g hg).1, h2 g hg, (h1.lt g hg).2⟩

/-- blocks of ints and blocks of rows are never one -/
theorem types_ne : (3 : Nat) ≠ 38 := by decide
theorem outer_ne {lo lo' hi : Nat} {w : World} {v u : Value} {n : Nat} {vs : List Value} {zs : List Int} (h : w.ownsRow lo 38 1 v n vs) (k : Owns lo' hi w u zs) : ∀ g, v.ownBlock = some g → u.ownBlock ≠ some g := by
  intro g hg hu
  rcases h.2 with ⟨rfl, _⟩ | ⟨g1, cap, cur, rfl, _, hh, _⟩
  · simp [Value.ownBlock] at hg
  · rcases k.1.2 with ⟨rfl, _⟩ | ⟨g2, cap2, cur2, rfl, _, hh2, _⟩
    · simp [Value.ownBlock] at hu
    · simp [Value.ownBlock] at hg hu
      subst hg; subst hu
      rw [hh] at hh2
      simp at hh2

/-- the walk's law: a row appended to rows of the call's own -/
theorem wpList_append_row {ops : Array Oper} {rest : List Oper} {o : Oper} {a : Act} {Q : Exit → Act → World → Prop} (w : World) (hw : Region.wanted o (yielded ops a.tmps) = true) (s x : Operand)
    (ho : o.op = .call { callee := .builtin .append, args := #[s, x], argTypes := #[22, 22] })
    (lo hi : Nat) (v : Value) (rows : List (List Int)) (hs : a.eval s = v) (hown : OwnsR lo hi w v rows) (hlo : lo ≤ w.heap.size) (ad : Addr) (c : Nat) (u : Value) (zs : List Int) (hx : a.eval x = .slice (some ad) 1 c) (hc : w.cell? ad = some u)
    (hu : Owns lo w.heap.size w u zs) (hnew : ∀ g, u.ownBlock = some g → hi ≤ g) (hlen : rows.length ≤ 1099511627776)
    (h : ∀ v' w', OwnsR lo w'.heap.size w' v' (rows ++ [zs]) → Keeps (fun k => v.ownBlock = some k) w w' → wpList Tryd.prog ops Q rest (a.put o.dst v') w') : wpList Tryd.prog ops Q (o :: rest) a w := by
  obtain ⟨i0, hi0, hz0, hz1, hz2⟩ := info_parts info_ints
  refine BigFrame.wpList_want hw fun K hK => ?_
  obtain ⟨vs, hl, h1, h2, h3, h4⟩ := hown
  obtain ⟨a0, c0, hform⟩ := hu.ints.len
  obtain ⟨v', w', hr, a1, a2⟩ := run_append_any (P := Tryd.prog) w lo 22 o.type 38 i0 (.slice none 0 0) 1 24 Tryd.underlying22 hi0 hz0 hz1 hz2 rfl (by decide) v rows.length vs h1 (.slice (some ad) 1 c) 1 [u]
    (.inr ⟨ad, c, rfl, fun j y hy => by match j, hy with | 0, hy => (simp at hy; subst hy; simpa [Addr.add] using hc)⟩) rfl (by intro y hy; simp at hy; subst hy; rw [hform]; rfl) (by unfold maxLen; omega) (by omega) hlo
  unfold Oper.wp execOp
  simp only [ho, resolve, invoke, builtin, Sem.run_bind, Sem.run_pure, Result.andThen_ok, List.map_toArray, List.map_cons, List.map_nil, hs, hx, hr]
  have hK2 : Keeps (fun k => v.ownBlock = some k) w w' := Keeps.grown (Keeps.refl _ w) a2 fun k hk _ => hk
  have hwu : ∀ {z : List Int} {y : Value} {hi2 : Nat}, hi2 ≤ w.heap.size → Owns lo hi2 w y z → Owns lo w'.heap.size w' y z := fun hle hy =>
    (hy.same fun g hg => hK2.block g (hy.blk g hg).2.2 (fun e => outer_ne h1 hy g e hg)).wider (Nat.le_refl _) (Nat.le_trans hle hK2.size)
  refine hK _ _ (h v' w' ⟨vs ++ [u], by simp [hl], by simpa using a1, fun g hg => (a1.lt g hg).2, ?_, ?_⟩ hK2)
  · intro i hi
    by_cases hir : i < rows.length
    · rw [List.getElem_append_left (by omega : i < vs.length), List.getElem_append_left hir]
      have hb := h3 i hir
      refine (hb.same fun g hg => hK2.block g (hb.blk g hg).2.2 (fun e => outer_ne h1 hb g e hg)).ofLt ?_
      intro g hg; have := (hb.blk g hg).2.2; have := hK2.size; omega
    · have : i = rows.length := by simp at hi; omega
      subst this
      have e1 : (rows ++ [zs])[rows.length]'hi = zs := by simp
      have e2 : (vs ++ [u])[rows.length]'(by simp; omega) = u := by simp [← hl]
      rw [e1, e2]
      exact hwu (Nat.le_refl _) hu
  · intro i j hi hj hij g hg
    simp only [List.length_append, List.length_singleton] at hi hj
    by_cases hir : i < rows.length
    · rw [List.getElem_append_left (by omega : i < vs.length)] at hg
      by_cases hjr : j < rows.length
      · rw [List.getElem_append_left (by omega : j < vs.length)]
        exact h4 i j hir hjr hij g hg
      · have : j = rows.length := by omega
        subst this
        simp only [List.getElem_append_right (Nat.le_refl _), ← hl, Nat.sub_self, List.getElem_cons_zero]
        intro e
        have := hnew g e
        have := ((h3 i hir).blk g hg).2.1
        omega
    · have : i = rows.length := by omega
      subst this
      have hjr : j < rows.length := by omega
      simp only [List.getElem_append_right (Nat.le_refl _), ← hl, Nat.sub_self, List.getElem_cons_zero] at hg
      rw [List.getElem_append_left (by omega : j < vs.length)]
      intro e
      have := hnew g hg
      have := ((h3 j hjr).blk g e).2.1
      omega

/-- its form, where there is a row -/
theorem OwnsR.form {lo hi : Nat} {w : World} {v : Value} {rows : List (List Int)} (h : OwnsR lo hi w v rows) (hz : 0 < rows.length) : ∃ g cap, v = .slice (some ⟨g, 0, none⟩) rows.length cap ∧ lo ≤ g ∧ g < hi ∧ g < w.heap.size := by
  obtain ⟨vs, hl, h1, h2, h3, h4⟩ := h
  rcases h1.2 with ⟨_, h0⟩ | ⟨g, cap, cur, hv, hg, hh, hn, hm, _⟩
  · omega
  · subst hv; exact ⟨g, cap, rfl, hg, h2 g rfl, (h1.lt g rfl).2⟩

/-- what make([][]int, n) leaves -/
theorem OwnsR.made {w w' : World} {n : Nat} {v : Value} (h : w'.ownsRow w.heap.size 38 1 v n (madeCells #[Value.slice none 0 0] n).toList) : OwnsR w.heap.size w'.heap.size w' v (List.replicate n []) := by
  rw [toList_madeCells_one] at h
  refine ⟨List.replicate n (.slice none 0 0), by simp, by simpa using h, fun g hg => (h.lt g hg).2, fun i hi => ?_, fun i j hi hj _ g hg => ?_⟩
  · rw [List.getElem_replicate, List.getElem_replicate]; exact Owns.nil _ _ _
  · rw [List.getElem_replicate] at hg; simp [Value.ownBlock] at hg

/-- a new row laid at an index -/
theorem OwnsR.setRow {lo hi : Nat} {w : World} {g n cap : Nat} {rows : List (List Int)} (h : OwnsR lo hi w (.slice (some ⟨g, 0, none⟩) n cap) rows) (hn : n = rows.length) {i : Nat} (hi' : i < rows.length) {u : Value} {zs : List Int} {hi2 : Nat}
    (hu : Owns lo hi2 w u zs) (hnew : ∀ k, u.ownBlock = some k → hi ≤ k) (hle : hi ≤ hi2) :
    w.frozen? ⟨g, i, none⟩ = false ∧ (∃ y, w.cell? ⟨g, i, none⟩ = some y) ∧ OwnsR lo hi2 (w.setCell ⟨g, i, none⟩ u) (.slice (some ⟨g, 0, none⟩) n cap) (rows.set i zs) ∧ Keeps (fun k => k = g) w (w.setCell ⟨g, i, none⟩ u) := by
  subst hn
  obtain ⟨vs, hl, h1, h2, h3, h4⟩ := h
  have hK : Keeps (fun k => k = g) w (w.setCell ⟨g, i, none⟩ u) := Keeps.setCell (S := fun k => k = g) w rfl _
  have hs := h1.stored i u
  refine ⟨h1.frozenAt i, ⟨_, by rw [h1.cellAt i (by omega)]; exact List.getElem?_eq_getElem (by omega)⟩, ⟨vs.set i u, by simp [hl], by simpa using hs.1, fun k hk => by have := h2 k hk; omega, ?_, ?_⟩, hK⟩
  · intro j hj
    have hkeep : ∀ {y : Value} {z : List Int} {hh : Nat}, Owns lo hh w y z → Owns lo hh (w.setCell ⟨g, i, none⟩ u) y z := fun hy =>
      hy.same fun k hk => hK.block k (hy.blk k hk).2.2 (fun e => outer_ne h1 hy g rfl (by rw [hk, e]))
    by_cases hij : i = j
    · subst hij; simp only [List.getElem_set_self]; exact hkeep hu
    · rw [List.getElem_set_ne hij, List.getElem_set_ne hij]
      exact (hkeep (h3 j (by simpa using hj))).wider (Nat.le_refl _) hle
  · intro a b ha hb hab k hk
    simp only [List.length_set] at ha hb
    by_cases hia : i = a
    · subst hia
      rw [List.getElem_set_self] at hk
      rw [List.getElem_set_ne hab]
      intro e
      have := hnew k hk
      have := ((h3 b hb).blk k e).2.1
      omega
    · rw [List.getElem_set_ne hia] at hk
      by_cases hib : i = b
      · subst hib
        rw [List.getElem_set_self]
        intro e
        have := hnew k e
        have := ((h3 a ha).blk k hk).2.1
        omega
      · rw [List.getElem_set_ne hib]
        exact h4 a b ha hb hab k hk

/-- a number laid into a row -/
theorem OwnsR.store2 {lo hi : Nat} {w : World} {g n cap : Nat} {rows : List (List Int)} (h : OwnsR lo hi w (.slice (some ⟨g, 0, none⟩) n cap) rows) (hn : n = rows.length) {i j : Nat} (hi' : i < rows.length) (hj : j < rows[i].length) :
    ∃ r c, w.cell? ⟨g, i, none⟩ = some (.slice (some ⟨r, 0, none⟩) rows[i].length c) ∧ w.cell? ⟨r, j, none⟩ = some (.int .i64 rows[i][j]) ∧ w.frozen? ⟨r, j, none⟩ = false ∧ lo ≤ r ∧ r < hi ∧ r ≠ g ∧
      ∀ x : Int, OwnsR lo hi (w.setCell ⟨r, j, none⟩ (.int .i64 x)) (.slice (some ⟨g, 0, none⟩) n cap) (rows.set i (rows[i].set j x)) ∧ Keeps (fun k => k = r) w (w.setCell ⟨r, j, none⟩ (.int .i64 x)) := by
  subst hn
  obtain ⟨vs, hl, h1, h2, h3, h4⟩ := h
  obtain ⟨r, c, hv, hr1, hr2, hr3, hr4, hr5⟩ := (h3 i hi').form (by omega)
  have hO := h3 i hi'
  rw [hv] at hO
  have hne : r ≠ g := fun e => outer_ne h1 hO g rfl (by subst e; rfl)
  refine ⟨r, c, ?_, hO.cell rfl j hj, (hO.store rfl j 0).1, hr1, hr2, hne, fun x => ?_⟩
  · rw [h1.cellAt i (by omega), ← hv]; exact List.getElem?_eq_getElem (by omega)
  · obtain ⟨_, hS, hK⟩ := hO.store rfl j x
    refine ⟨⟨vs, by simp [hl], ?_, h2, ?_, ?_⟩, hK⟩
    · have := ownsRow_same h1 (w' := w.setCell ⟨r, j, none⟩ (.int .i64 x)) (fun k hk => hK.block k (h1.lt k hk).2 (fun e => hne (by simp [Value.ownBlock] at hk; omega)))
      simpa using this
    · intro a ha
      simp only [List.length_set] at ha
      by_cases hia : i = a
      · subst hia
        rw [List.getElem_set_self, hv]
        have e : rows[i].length = (rows[i].set j x).length := by simp
        exact hS
      · rw [List.getElem_set_ne hia]
        exact (h3 a ha).same fun k hk => hK.block k ((h3 a ha).blk k hk).2.2 (fun e => h4 a i ha hi' (fun e2 => hia e2.symm) k hk (by rw [hv, e]; rfl))
    · intro a b ha hb hab k hk
      simp only [List.length_set] at ha hb
      exact h4 a b ha hb hab k hk

/-- a row of rows of the call's own: it may be written apart -/
theorem OwnsR.rowOwn {lo hi : Nat} {w : World} {g n cap : Nat} {rows : List (List Int)} (h : OwnsR lo hi w (.slice (some ⟨g, 0, none⟩) n cap) rows) (hn : n = rows.length) {i : Nat} (hi' : i < rows.length) :
    ∃ u, w.cell? ⟨g, i, none⟩ = some u ∧ Owns lo hi w u rows[i] ∧
      ∀ (w' : World) (zs : List Int), Owns lo hi w' u zs → Keeps (fun k => u.ownBlock = some k) w w' → OwnsR lo hi w' (.slice (some ⟨g, 0, none⟩) n cap) (rows.set i zs) := by
  subst hn
  obtain ⟨vs, hl, h1, h2, h3, h4⟩ := h
  refine ⟨vs[i]'(by omega), ?_, h3 i hi', fun w' zs hz hK => ⟨vs, by simp [hl], ?_, h2, ?_, ?_⟩⟩
  · rw [h1.cellAt i (by omega)]; exact List.getElem?_eq_getElem (by omega)
  · have := ownsRow_same h1 (w' := w') (fun k hk => hK.block k (h1.lt k hk).2 (fun e => outer_ne h1 (h3 i hi') k hk e))
    simpa using this
  · intro a ha
    simp only [List.length_set] at ha
    by_cases hia : i = a
    · subst hia; rw [List.getElem_set_self]; exact hz
    · rw [List.getElem_set_ne hia]
      exact (h3 a ha).same fun k hk => hK.block k ((h3 a ha).blk k hk).2.2 (fun e => h4 a i ha hi' (fun e2 => hia e2.symm) k hk e)
  · intro a b ha hb hab k hk
    simp only [List.length_set] at ha hb
    exact h4 a b ha hb hab k hk
/-- append of ints to a slice of the call's own: only its block is written, and the result lies there or in a new one -/
theorem wpList_append_keep {ops : Array Oper} {rest : List Oper} {o : Oper} {a : Act} {Q : Exit → Act → World → Prop} (w : World) (hw : Region.wanted o (yielded ops a.tmps) = true) (s x : Operand)
    (ho : o.op = .call { callee := .builtin .append, args := #[s, x], argTypes := #[38, 38] })
    (lo hi : Nat) (v : Value) (xs : List Int) (hs : a.eval s = v) (hown : Owns lo hi w v xs) (hlo : lo ≤ w.heap.size) (ad : Addr) (c : Nat) (y : Int) (hx : a.eval x = .slice (some ad) 1 c) (hc : w.cell? ad = some (.int .i64 y))
    (hnn : v ≠ .slice none 0 0) (hlen : xs.length ≤ 1099511627770)
    (h : ∀ v' w', Owns lo w'.heap.size w' v' (xs ++ [y]) → (∀ k, v'.ownBlock = some k → v.ownBlock = some k ∨ w.heap.size ≤ k) → Keeps (fun k => v.ownBlock = some k) w w' → wpList Tryd.prog ops Q rest (a.put o.dst v') w') : wpList Tryd.prog ops Q (o :: rest) a w := by
  obtain ⟨i0, hi0, hz0, hz1, hz2⟩ := info_parts info_int
  refine BigFrame.wpList_want hw fun K hK => ?_
  have hnews : ∀ j u, ([Value.int .i64 y] : List Value)[j]? = some u → w.cell? (ad.add j) = some u := by
    intro j u hj
    match j, hj with
    | 0, hj => simp at hj; subst hj; simpa [Addr.add] using hc
  obtain ⟨v', w', hr, a1, a2⟩ := run_append_any (P := Tryd.prog) w lo 38 o.type 3 i0 (.int .i64 0) 1 8 Tryd.underlying38 hi0 hz0 hz1 hz2 rfl (by decide) v xs.length _ hown.1 (.slice (some ad) 1 c) 1 [.int .i64 y] (.inr ⟨ad, c, rfl, hnews⟩) (by simp) (by simp [Value.oneCell']) (by unfold maxLen; omega) (by omega) hlo
  have hblk : ∀ k, v'.ownBlock = some k → v.ownBlock = some k ∨ w.heap.size ≤ k := by
    intro k hk
    rcases hown.1.2 with ⟨rfl, h0⟩ | ⟨g, cap, cur, rfl, hg, hh, hn, hm, hcs, htake⟩
    · exact absurd rfl hnn
    · by_cases hroom : xs.length + 1 ≤ cap
      · have h2 := run_append_room (P := Tryd.prog) w 38 o.type 3 i0 Tryd.underlying38 hi0 g xs.length cap cur hh ad 1 c [.int .i64 y] (by rw [hz1]; rfl) hnews (by simp [Value.oneCell']) hroom (by rw [hz1]; simp; omega)
        rw [hr] at h2
        injection h2 with e1 e2
        subst e1
        exact .inl hk
      · have h2 := run_append_grow (P := Tryd.prog) w 38 o.type 3 i0 (.int .i64 0) Tryd.underlying38 hi0 hz0 ⟨g, 0, none⟩ xs.length cap (xs.map (Value.int .i64)) (by rw [hz1]; simp) (hown.1.cells (g := g) rfl) ad 1 c [.int .i64 y] (by rw [hz1]; rfl) hnews (by omega) (by omega) (growslice_fits (by omega) (by rw [hz2]; omega))
        rw [hr] at h2
        injection h2 with e1 e2
        subst e1
        simp [Value.ownBlock] at hk
        exact .inr (by omega)
  unfold Oper.wp execOp
  simp only [ho, resolve, invoke, builtin, Sem.run_bind, Sem.run_pure, Result.andThen_ok, List.map_toArray, List.map_cons, List.map_nil, hs, hx, hr]
  refine hK _ _ (h v' w' ⟨by simpa using a1, fun g hg => (a1.lt g hg).2⟩ hblk ?_)
  exact Keeps.grown (Keeps.refl _ w) a2 fun k hk _ => hk

/-- outside of some blocks -/
def Outside (lo hi k : Nat) : Prop := ¬ (lo ≤ k ∧ k < hi)
theorem Outside.off {lo hi g : Nat} (h1 : lo ≤ g) (h2 : g < hi) : ¬ Outside lo hi g := not_not_intro ⟨h1, h2⟩
/-- a slice that lies outside of some blocks -/
def OffU (u : Value) (lo hi : Nat) : Prop := u ≠ .slice none 0 0 ∧ ∀ g, u.ownBlock = some g → g < lo ∨ hi ≤ g
/-- the walk's law: a number appended to ints of the call's own, others of the call's own kept -/
theorem wpList_append_off {ops : Array Oper} {rest : List Oper} {o : Oper} {a : Act} {Q : Exit → Act → World → Prop} (wr W : World) (xs : List Int) (x : Int) (t : TypeId) (lo hi : Nat) (hw : Region.wanted o (yielded ops a.tmps) = true) (s y : Operand)
    (ho : o.op = .call { callee := .builtin .append, args := #[s, y], argTypes := #[38, 38] })
    (u : Value) (hs : a.eval s = u) (h : Owns W.heap.size wr.heap.size wr u xs) (hF : Fresh W wr) (hoff : OffU u lo hi) (hhi : hi ≤ wr.heap.size) (hx : a.eval y = .slice (some ⟨wr.heap.size, 0, none⟩) 1 1) (hl : xs.length ≤ 1048576)
    (hK : ∀ u' w', Owns W.heap.size w'.heap.size w' u' (xs ++ [x]) → Fresh W w' → OffU u' lo hi → Keeps (Outside lo hi) wr w' → wpList Tryd.prog ops Q rest (a.put o.dst u') w') : wpList Tryd.prog ops Q (o :: rest) a (wr.alloc (Obj.cells #[.int .i64 x] t)) := by
  have hFa : Fresh wr (wr.alloc (Obj.cells #[.int .i64 x] t)) := (Fresh.refl wr).alloc _
  have hsz := hFa.size
  refine wpList_append_keep _ hw s y ho W.heap.size wr.heap.size u xs hs (h.fresh hFa) (hF.trans hFa).size ⟨wr.heap.size, 0, none⟩ 1 x hx (one_new wr _ _ 0 _ rfl) hoff.1 (by omega) ?_
  intro v' w' hO hb hKk
  refine hK v' w' hO ((hF.trans hFa).keepsTrans hKk (fun i hi => (h.blk i hi).1)) ⟨fun e => ?_, fun g hg => ?_⟩ ?_
  · obtain ⟨g, cap, e2, -⟩ := hO.form (by simp)
    rw [e] at e2; cases e2
  · rcases hb g hg with h1 | h1
    · exact hoff.2 g h1
    · right; omega
  · refine (hFa.keeps (Outside lo hi)).trans (hKk.mono fun k _ hk => ?_)
    have := hoff.2 k hk
    show ¬ (lo ≤ k ∧ k < hi)
    omega

end Go.Proofs.YtipadgpgcdjflaaDoor
