/- Drawn pictures: what the drawer of pictures may answer. -/
import Derived.Test.YtipadgpgcdjflaaDoorDraw
import Derived.Test.YtipadgpgcdjflaaDoorPics1
namespace Go.Proofs.YtipadgpgcdjflaaDoor
open Go.RowKit

theorem Keeps.setNew {S : Nat → Prop} {a w : World} (h : Keeps S a w) {p : Addr} (hp : a.heap.size ≤ p.block) (u : Value) : Keeps S a (w.setCell p u) :=
  ⟨h.os, h.tape, h.output, by simpa [World.setCell] using h.size, fun k hk hn => (Below.heap_setCell w p u k (by omega)).trans (h.block k hk hn)⟩
/-- writes to blocks made since, and to others that may be written -/
theorem Keeps.on {S T : Nat → Prop} {a b c : World} (h : Keeps S a b) (k : Keeps T b c) (hT : ∀ i, i < a.heap.size → T i → S i) : Keeps S a c :=
  ⟨k.os.trans h.os, k.tape.trans h.tape, k.output.trans h.output, Nat.le_trans h.size k.size,
    fun i hi hn => (k.block i (Nat.lt_of_lt_of_le hi h.size) (fun ht => hn (hT i hi ht))).trans (h.block i hi hn)⟩
theorem Rd.on {w w' : World} {b q : Nat} {S : Nat → Prop} (h : Rd w b q) (hK : Keeps S w w') (hb : ∀ k, k ≤ b → ¬ S k) : Rd w' b q := by
  have hl := h.lt
  obtain ⟨sv, bs, p, h1, h2, h3, h4, h5, h6, h7⟩ := h
  exact ⟨sv, bs, p, by rw [hK.block b hl (hb b (Nat.le_refl _))]; exact h1, h2.keeps hK (h7.imp_right fun h g hg => hb g (Nat.le_of_lt (h g hg))), h3, h4, h5, h6, h7⟩

/-- a row laid anew at its index: where it was, or in a new block -/
theorem OwnsR.resetRow {lo hi : Nat} {w w' : World} {g n cap : Nat} {rows : List (List Int)} (h : OwnsR lo hi w (.slice (some ⟨g, 0, none⟩) n cap) rows) (hn : n = rows.length) {i : Nat} (hi' : i < rows.length) {u : Value} (hc : w.cell? ⟨g, i, none⟩ = some u)
    {v' : Value} {zs : List Int} {hi2 : Nat} (hv : Owns lo hi2 w' v' zs) (hb : ∀ k, v'.ownBlock = some k → u.ownBlock = some k ∨ w.heap.size ≤ k) (hK : Keeps (fun k => u.ownBlock = some k) w w') (hle : hi ≤ hi2) :
    w'.frozen? ⟨g, i, none⟩ = false ∧ (∃ y, w'.cell? ⟨g, i, none⟩ = some y) ∧ OwnsR lo hi2 (w'.setCell ⟨g, i, none⟩ v') (.slice (some ⟨g, 0, none⟩) n cap) (rows.set i zs) ∧ Keeps (fun k => k = g) w' (w'.setCell ⟨g, i, none⟩ v') := by
  subst hn
  obtain ⟨vs, hl, h1, h2, h3, h4⟩ := h
  have hu : vs[i]'(by omega) = u := by
    have := h1.cellAt i (by omega)
    rw [hc, List.getElem?_eq_getElem (by omega)] at this
    exact (Option.some.inj this).symm
  have hO := h3 i hi'
  rw [hu] at hO
  have hg : ¬ u.ownBlock = some g := fun e => outer_ne h1 hO g rfl e
  have h1' : w'.ownsRow lo 38 1 (.slice (some ⟨g, 0, none⟩) rows.length cap) rows.length vs := ownsRow_same h1 (fun k hk => hK.block k (h1.lt k hk).2 (fun e => by simp [Value.ownBlock] at hk; subst hk; exact hg e))
  have hs := h1'.stored i v'
  have hK2 : Keeps (fun k => k = g) w' (w'.setCell ⟨g, i, none⟩ v') := Keeps.setCell (S := fun k => k = g) w' rfl _
  refine ⟨h1'.frozenAt i, ⟨_, by rw [h1'.cellAt i (by omega)]; exact List.getElem?_eq_getElem (by omega)⟩, ⟨vs.set i v', by simp [hl], by simpa using hs.1, fun k hk => by have := h2 k hk; omega, ?_, ?_⟩, hK2⟩
  · intro j hj
    simp only [List.length_set] at hj
    by_cases hij : i = j
    · subst hij
      simp only [List.getElem_set_self]
      exact hv.same fun k hk => hK2.block k (hv.blk k hk).2.2 (fun e => outer_ne h1' hv g rfl (by rw [hk, e]))
    · rw [List.getElem_set_ne hij, List.getElem_set_ne hij]
      have hj3 := h3 j hj
      have hj4 : Owns lo hi w' (vs[j]'(by omega)) rows[j] := hj3.same fun k hk => hK.block k (hj3.blk k hk).2.2 (fun e => h4 i j hi' hj hij k (by rw [hu]; exact e) hk)
      exact (hj4.same fun k hk => hK2.block k (hj4.blk k hk).2.2 (fun e => outer_ne h1' hj4 g rfl (by rw [hk, e]))).wider (Nat.le_refl _) hle
  · have key : ∀ b (hb' : b < rows.length), i ≠ b → ∀ k, v'.ownBlock = some k → (vs[b]'(by omega)).ownBlock ≠ some k := by
      intro b hb' hib k hk e
      have hbk := (h3 b hb').blk k e
      rcases hb k hk with hbu | hbu
      · exact h4 i b hi' hb' hib k (by rw [hu]; exact hbu) e
      · omega
    intro a b ha hb2 hab k hk
    simp only [List.length_set] at ha hb2
    by_cases hia : i = a
    · subst hia
      rw [List.getElem_set_self] at hk
      rw [List.getElem_set_ne hab]
      exact key b hb2 hab k hk
    · rw [List.getElem_set_ne hia] at hk
      by_cases hib : i = b
      · subst hib
        rw [List.getElem_set_self]
        intro e
        exact key a ha hia k e hk
      · rw [List.getElem_set_ne hib]
        exact h4 a b ha hb2 hab k hk

/-- a picture that is being drawn -/
def DRows (W : World) (b q nodes : Nat) (v : Value) (k : Nat) (wr : World) : Prop :=
  ∃ rows : List (List Int), OwnsR W.heap.size wr.heap.size wr v rows ∧ rows.length = k ∧ (∀ r ∈ rows, r.length = nodes) ∧ Rd wr b (q + 10 * k) ∧ Keeps (fun k => k = b) W wr
/-- a row of it -/
def DRow (W : World) (b Q nodes : Nat) (u : Value) (j : Nat) (wr : World) : Prop :=
  ∃ row : List Int, Owns W.heap.size wr.heap.size wr u row ∧ row.length = nodes ∧ Rd wr b (Q + j) ∧ Keeps (fun k => k = b) W wr
theorem DRow.made {w w1 : World} {b q nodes : Nat} {u : Value} (h : Owns w.heap.size w1.heap.size w1 u (List.replicate nodes 0)) (hR : Rd w b q) (hF : Fresh w w1) : DRow w b q nodes u 0 w1 :=
  ⟨_, h, by simp, hR.fresh hF, hF.keeps _⟩
/-- a row's cell is written -/
theorem DRow.store {W wr : World} {b Q nodes : Nat} {u : Value} {j i : Nat} (h : DRow W b Q nodes u j wr) (hb : b < W.heap.size) (hi : i < nodes) :
    ∃ g cap y, u = .slice (some ⟨g, 0, none⟩) nodes cap ∧ wr.cell? ⟨g, i, none⟩ = some (.int .i64 y) ∧ wr.frozen? ⟨g, i, none⟩ = false ∧ ∀ x : Int, DRow W b Q nodes u j (wr.setCell ⟨g, i, none⟩ (.int .i64 x)) := by
  obtain ⟨row, hO, hl, hR, hK⟩ := h
  obtain ⟨g, cap, rfl, h1, h2, h3, -⟩ := hO.form (by omega)
  refine ⟨g, cap, row[i]'(by omega), by rw [hl], hO.cell rfl i (by omega), (hO.store rfl i 0).1, fun x => ?_⟩
  obtain ⟨-, h4, h5⟩ := hO.store rfl i x
  exact ⟨row.set i x, by simpa [World.setCell] using h4, by simpa using hl, hR.on h5 (fun k hk e => by omega), hK.setNew (by show W.heap.size ≤ g; omega) _⟩
theorem DRow.pick {W wr w' : World} {b Q nodes : Nat} {u : Value} {j : Nat} (h : DRow W b Q nodes u j wr) (hb : b < W.heap.size) (hR : Rd w' b (Q + j + 1)) (hK : Keeps (fun k => k = b) wr w') : DRow W b Q nodes u (j + 1) w' := by
  obtain ⟨row, hO, hl, -, hK0⟩ := h
  exact ⟨row, (hO.keeps hK (fun g h1 h2 e => by omega)).wider (Nat.le_refl _) hK.size, hl, hR, hK0.trans hK⟩
theorem DRow.rd {W wr : World} {b Q nodes : Nat} {u : Value} {j : Nat} (h : DRow W b Q nodes u j wr) : Rd wr b (Q + j) := by
  obtain ⟨row, hO, hl, hR, hK0⟩ := h; exact hR
theorem DRow.mono {W wr : World} {b Q nodes : Nat} {u : Value} {j j' : Nat} (h : DRow W b Q nodes u j wr) (hj : j ≤ j') : DRow W b Q nodes u j' wr := by
  obtain ⟨row, hO, hl, hR, hK0⟩ := h; exact ⟨row, hO, hl, hR.mono (by omega), hK0⟩

/-- what the drawer of pictures answers -/
def PicPost (b q : Nat) (w : World) (e : Ending) (w' : World) : Prop :=
  ∃ v rows, e = .returned v ∧ OwnsR w.heap.size w'.heap.size w' v rows ∧ rows.length ≤ 5 ∧ (∀ r ∈ rows, r.length ≤ 6) ∧ Rd w' b (q + 60) ∧ Keeps (fun k => k = b) w w'
end Go.Proofs.YtipadgpgcdjflaaDoor
