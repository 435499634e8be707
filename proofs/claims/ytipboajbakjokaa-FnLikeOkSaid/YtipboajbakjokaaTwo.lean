/- Two slices of rows that grow side by side. -/
import Derived.Test.YtipboajbakjokaaRowsM
namespace Go.Proofs.Ytipboajbakjokaa
open Go.RowKit

/-- rows are kept where another slice of rows is written at its head -/
theorem OwnsR.keepOuter {lo hi lo2 hi2 : Nat} {w w' : World} {u v : Value} {rows rows2 : List (List Int)} (h : OwnsR lo hi w u rows) (hv : OwnsR lo2 hi2 w v rows2) (hK : Keeps (fun k => v.ownBlock = some k) w w')
    (hne : ∀ g, v.ownBlock = some g → u.ownBlock ≠ some g) : OwnsR lo hi w' u rows := by
  obtain ⟨vs, hl, h1, h2, h3, h4⟩ := h
  obtain ⟨vs2, hl2, k1, -⟩ := hv
  exact ⟨vs, hl, ownsRow_same h1 (fun g hg => hK.block g (h1.lt g hg).2 (fun e => hne g e hg)), h2,
    fun i hi => (h3 i hi).same fun g hg => hK.block g ((h3 i hi).blk g hg).2.2 (fun e => outer_ne k1 (h3 i hi) g e hg), h4⟩

/-- the walk's law: a row appended to rows of the call's own, that are not nil: and where the result lies -/
theorem wpList_append_row2 {ops : Array Oper} {rest : List Oper} {o : Oper} {a : Act} {Q : Exit → Act → World → Prop} (w : World) (hw : Region.wanted o (yielded ops a.tmps) = true) (s x : Operand)
    (ho : o.op = .call { callee := .builtin .append, args := #[s, x], argTypes := #[22, 22] })
    (lo hi : Nat) (v : Value) (rows : List (List Int)) (hs : a.eval s = v) (hown : OwnsR lo hi w v rows) (hlo : lo ≤ w.heap.size) (ad : Addr) (c : Nat) (u : Value) (zs : List Int) (hx : a.eval x = .slice (some ad) 1 c) (hc : w.cell? ad = some u)
    (hu : Owns lo w.heap.size w u zs) (hnew : ∀ g, u.ownBlock = some g → hi ≤ g) (hnn : v ≠ .slice none 0 0) (hlen : rows.length ≤ 1099511627770)
    (h : ∀ v' w', OwnsR lo w'.heap.size w' v' (rows ++ [zs]) → (∀ k, v'.ownBlock = some k → v.ownBlock = some k ∨ w.heap.size ≤ k) → Keeps (fun k => v.ownBlock = some k) w w' → wpList Try.prog ops Q rest (a.put o.dst v') w') : wpList Try.prog ops Q (o :: rest) a w := by
  obtain ⟨i0, hi0, hz0, hz1, hz2⟩ := info_parts info_ints
  refine BigFrame.wpList_want hw fun K hK => ?_
  obtain ⟨vs, hl, h1, h2, h3, h4⟩ := hown
  obtain ⟨a0, c0, hform⟩ := hu.ints.len
  have hnews : ∀ j y, ([u] : List Value)[j]? = some y → w.cell? (ad.add j) = some y := fun j y hy => by match j, hy with | 0, hy => (simp at hy; subst hy; simpa [Addr.add] using hc)
  have hone : ∀ y ∈ ([u] : List Value), y.oneCell' = true := by intro y hy; simp at hy; subst hy; rw [hform]; rfl
  obtain ⟨v', w', hr, a1, a2⟩ := run_append_any (P := Try.prog) w lo 22 o.type 29 i0 (.slice none 0 0) 1 24 Try.underlying22 hi0 hz0 hz1 hz2 rfl (by decide) v rows.length vs h1 (.slice (some ad) 1 c) 1 [u]
    (.inr ⟨ad, c, rfl, hnews⟩) rfl hone (by unfold maxLen; omega) (by omega) hlo
  have hblk : ∀ k, v'.ownBlock = some k → v.ownBlock = some k ∨ w.heap.size ≤ k := by
    intro k hk
    rcases h1.2 with ⟨rfl, h0⟩ | ⟨g, cap, cur, rfl, hg, hh, hn, hm, hcs, htake⟩
    · exact absurd rfl hnn
    · by_cases hroom : rows.length + 1 ≤ cap
      · have h5 := run_append_room (P := Try.prog) w 22 o.type 29 i0 Try.underlying22 hi0 g rows.length cap cur hh ad 1 c [u] (by rw [hz1]; rfl) hnews hone hroom (by rw [hz1]; simp; omega)
        rw [hr] at h5
        injection h5 with e1 e2
        subst e1
        exact .inl hk
      · have h5 := run_append_grow (P := Try.prog) w 22 o.type 29 i0 (.slice none 0 0) Try.underlying22 hi0 hz0 ⟨g, 0, none⟩ rows.length cap vs (by rw [hz1]; simp [hl]) (h1.cells (g := g) rfl) ad 1 c [u] (by rw [hz1]; rfl) hnews (by omega) (by omega) (growslice_fits (by omega) (by rw [hz2]; omega))
        rw [hr] at h5
        injection h5 with e1 e2
        subst e1
        simp [Value.ownBlock] at hk
        exact .inr (by omega)
  unfold Oper.wp execOp
  simp only [ho, resolve, invoke, builtin, Sem.run_bind, Sem.run_pure, Result.andThen_ok, List.map_toArray, List.map_cons, List.map_nil, hs, hx, hr]
  have hK2 : Keeps (fun k => v.ownBlock = some k) w w' := Keeps.grown (Keeps.refl _ w) a2 fun k hk _ => hk
  have hwu : ∀ {z : List Int} {y : Value} {hi2 : Nat}, hi2 ≤ w.heap.size → Owns lo hi2 w y z → Owns lo w'.heap.size w' y z := fun hle hy =>
    (hy.same fun g hg => hK2.block g (hy.blk g hg).2.2 (fun e => outer_ne h1 hy g e hg)).wider (Nat.le_refl _) (Nat.le_trans hle hK2.size)
  refine hK _ _ (h v' w' ⟨vs ++ [u], by simp [hl], by simpa using a1, fun g hg => (a1.lt g hg).2, ?_, ?_⟩ hblk hK2)
  · intro i hi
    by_cases hir : i < rows.length
    · rw [List.getElem_append_left (by omega : i < vs.length), List.getElem_append_left hir]
      have hb := h3 i hir
      refine (hb.same fun g hg => hK2.block g (hb.blk g hg).2.2 (fun e => outer_ne h1 hb g e hg)).ofLt ?_
      intro g hg; have := (hb.blk g hg).2.2; have := hK2.size; omega
    · have : i = rows.length := by simp at hi; omega
      subst this
      have e1 : (rows ++ [zs])[rows.length]'hi = zs := by simp
      have e2 : (vs ++ [u])[rows.length]'(by simp; omega) = u := by simp [← hl]
      rw [e1, e2]
      exact hwu (Nat.le_refl _) hu
  · intro i j hi hj hij g hg
    simp only [List.length_append, List.length_singleton] at hi hj
    by_cases hir : i < rows.length
    · rw [List.getElem_append_left (by omega : i < vs.length)] at hg
      by_cases hjr : j < rows.length
      · rw [List.getElem_append_left (by omega : j < vs.length)]
        exact h4 i j hir hjr hij g hg
      · have : j = rows.length := by omega
        subst this
        simp only [List.getElem_append_right (Nat.le_refl _), ← hl, Nat.sub_self, List.getElem_cons_zero]
        intro e
        have := hnew g e
        have := ((h3 i hir).blk g hg).2.1
        omega
    · have : i = rows.length := by omega
      subst this
      have hjr : j < rows.length := by omega
      simp only [List.getElem_append_right (Nat.le_refl _), ← hl, Nat.sub_self, List.getElem_cons_zero] at hg
      rw [List.getElem_append_left (by omega : j < vs.length)]
      intro e
      have := hnew g hg
      have := ((h3 j hjr).blk g e).2.1
      omega


/-- two slices of rows of the call's own -/
def Two (W : World) (R1 R2 : List (List Int)) (v u : Value) (w : World) : Prop :=
  OwnsR W.heap.size w.heap.size w v R1 ∧ OwnsR W.heap.size w.heap.size w u R2 ∧ v ≠ .slice none 0 0 ∧ u ≠ .slice none 0 0 ∧ (∀ g, v.ownBlock = some g → u.ownBlock ≠ some g) ∧ Fresh W w
theorem Two.symm {W w : World} {R1 R2 : List (List Int)} {v u : Value} (h : Two W R1 R2 v u w) : Two W R2 R1 u v w :=
  ⟨h.2.1, h.1, h.2.2.2.1, h.2.2.1, fun g hg e => h.2.2.2.2.1 g e hg, h.2.2.2.2.2⟩
theorem Two.fresh {W w w' : World} {R1 R2 : List (List Int)} {v u : Value} (h : Two W R1 R2 v u w) (hF : Fresh w w') : Two W R1 R2 v u w' :=
  ⟨(h.1.fresh hF).wider (Nat.le_refl _) hF.size, (h.2.1.fresh hF).wider (Nat.le_refl _) hF.size, h.2.2.1, h.2.2.2.1, h.2.2.2.2.1, h.2.2.2.2.2.trans hF⟩
theorem Two.empty (w : World) : Two w [] [] (.slice (some ⟨w.heap.size, 0, none⟩) 0 0) (.slice (some ⟨w.heap.size + 1, 0, none⟩) 0 0) ((w.alloc (Obj.cells #[] 29)).alloc (Obj.cells #[] 29)) := by
  have hF : Fresh w (w.alloc (Obj.cells #[] 29)) := (Fresh.refl w).alloc _
  have hF2 : Fresh (w.alloc (Obj.cells #[] 29)) ((w.alloc (Obj.cells #[] 29)).alloc (Obj.cells #[] 29)) := (Fresh.refl _).alloc _
  have h2 := OwnsR.empty (w.alloc (Obj.cells #[] 29))
  have e : (w.alloc (Obj.cells #[] 29)).heap.size = w.heap.size + 1 := by simp
  rw [e] at h2
  refine ⟨((OwnsR.empty w).fresh hF2).wider (Nat.le_refl _) hF2.size, h2.wider (by omega) (Nat.le_refl _), by simp, by simp, ?_, hF.trans hF2⟩
  intro g hg; simp [Value.ownBlock] at hg ⊢; omega

/-- the walk's law: a row appended to the first of two -/
theorem wpList_append_two {ops : Array Oper} {rest : List Oper} {o : Oper} {a : Act} {Q : Exit → Act → World → Prop} (wr wo W : World) (R1 R2 : List (List Int)) (row : List Int) (x v u : Value) (t : TypeId) (hw : Region.wanted o (yielded ops a.tmps) = true) (s y : Operand)
    (ho : o.op = .call { callee := .builtin .append, args := #[s, y], argTypes := #[22, 22] })
    (hs : a.eval s = v) (h : Two W R1 R2 v u wo) (hx' : Owns wo.heap.size wr.heap.size wr x row) (hF : Fresh wo wr) (sz : Nat) (hx : a.eval y = .slice (some ⟨sz, 0, none⟩) 1 1) (hsz : sz = wr.heap.size) (hk : R1.length ≤ 1048576)
    (hK : ∀ v' w', Two W (R1 ++ [row]) R2 v' u w' → wpList Try.prog ops Q rest (a.put o.dst v') w') : wpList Try.prog ops Q (o :: rest) a (wr.alloc (Obj.cells #[x] t)) := by
  subst hsz
  have hFa : Fresh wr (wr.alloc (Obj.cells #[x] t)) := (Fresh.refl wr).alloc _
  have hs0 := h.2.2.2.2.2.size
  have hs1 := hF.size
  have hs2 := hFa.size
  have hv := h.1.fresh (hF.trans hFa)
  have hu := h.2.1.fresh (hF.trans hFa)
  refine wpList_append_row2 _ hw s y ho W.heap.size wo.heap.size v R1 hs hv (by omega) ⟨wr.heap.size, 0, none⟩ 1 x row hx (one_new wr _ _ 0 _ rfl) ((hx'.fresh hFa).wider hs0 hs2) (fun g hg => (hx'.blk g hg).1) h.2.2.1 (by omega) ?_
  intro v' w' hO hb hKk
  have hsz := hKk.size
  refine hK v' w' ⟨hO, (hu.keepOuter hv hKk h.2.2.2.2.1).wider (Nat.le_refl _) (by omega), ?_, h.2.2.2.1, ?_, ((h.2.2.2.2.2.trans hF).trans hFa).keepsTrans hKk (fun i hi => (h.1.blk i hi).1)⟩
  · obtain ⟨g, cap, e2, -⟩ := hO.form (by simp)
    rw [e2]; simp
  · intro g hg e
    have hlt := (hu.blk g e).2.1
    rcases hb g hg with h1 | h1
    · exact h.2.2.2.2.1 g h1 e
    · omega
end Go.Proofs.Ytipboajbakjokaa
