/- Memory words for the walks: slices of ints and of rows that are read, and those of the call's own; lemmas on worlds. -/
import Derived.Test.YtipadgpgcdjflaaDoorRows
import Derived.WalkKit
import Derived.WalkSpells
import Derived.WalkLawsBesides
import Derived.WalkSmall
import Derived.Laws.AppendOwnNone
import Derived.Lib.Hide
import Derived.Deep.LoopGhost
import Derived.Deep.QuietTactic
import Derived.BigQuiet
namespace Go.Proofs.YtipadgpgcdjflaaDoor
open Go.RowKit

theorem info_int : (Tryd.prog.info? 3).map (fun i => (i.zero, i.size, i.bytes)) = some (some (.int .i64 0), 1, 8) := by kernel_rfl

/-! ### what is said of two worlds -/

/-- only blocks of S, and new ones, differ -/
structure Keeps (S : Nat → Prop) (w w' : World) : Prop where
  os : w'.os = w.os
  tape : w'.tape = w.tape
  output : w'.output = w.output
  size : w.heap.size ≤ w'.heap.size
  block : ∀ k, k < w.heap.size → ¬ S k → w'.heap[k]? = w.heap[k]?

/-- nothing that was there has turned -/
def Fresh (w w' : World) : Prop := Below w.heap.size w w'

theorem Fresh.refl (w : World) : Fresh w w := Below.refl _ _
theorem Fresh.trans {a b c : World} (h : Fresh a b) (k : Fresh b c) : Fresh a c :=
  Below.trans h (Below.mono k h.size)
theorem Fresh.size {a b : World} (h : Fresh a b) : a.heap.size ≤ b.heap.size := Below.size h
theorem Fresh.alloc {a w : World} (h : Fresh a w) (o : Obj) : Fresh a (w.alloc o) := Below.alloc h h.size o
theorem Fresh.drew {a w : World} (h : Fresh a w) : Fresh a w.drew := Below.drew h
theorem drewN_heap (w : World) (n : Nat) : (w.drewN n).heap = w.heap := rfl
theorem Fresh.drewN {a w : World} (h : Fresh a w) (n : Nat) : Fresh a (w.drewN n) :=
  ⟨h.os, h.tape, h.output, h.size, h.block⟩
theorem Fresh.below {a w : World} (h : Fresh a w) : Below a.heap.size a w := h
theorem Fresh.grown {a w w' : World} {row : Option Nat} (h : Fresh a w) (hg : w.grownBy w' row) (hr : ∀ k, row = some k → a.heap.size ≤ k) : Fresh a w' :=
  Below.grown h hg h.size hr
theorem Fresh.keeps {a b : World} (h : Fresh a b) (S : Nat → Prop) : Keeps S a b := ⟨h.os, h.tape, h.output, h.size, fun k hk _ => h.block k hk⟩
theorem Fresh.setCell {a w : World} (h : Fresh a w) {p : Addr} (hp : a.heap.size ≤ p.block) (u : Value) : Fresh a (w.setCell p u) := Below.setCell h hp u

theorem Keeps.refl (S : Nat → Prop) (w : World) : Keeps S w w := ⟨rfl, rfl, rfl, Nat.le_refl _, fun _ _ _ => rfl⟩
theorem Keeps.trans {S : Nat → Prop} {a b c : World} (h : Keeps S a b) (k : Keeps S b c) : Keeps S a c :=
  ⟨k.os.trans h.os, k.tape.trans h.tape, k.output.trans h.output, Nat.le_trans h.size k.size, fun i hi hs => (k.block i (Nat.lt_of_lt_of_le hi h.size) hs).trans (h.block i hi hs)⟩
theorem Keeps.mono {S T : Nat → Prop} {a b : World} (h : Keeps S a b) (hST : ∀ k, k < a.heap.size → S k → T k) : Keeps T a b :=
  ⟨h.os, h.tape, h.output, h.size, fun k hk hn => h.block k hk (fun hs => hn (hST k hk hs))⟩
theorem Keeps.drewN {S : Nat → Prop} {a w : World} (h : Keeps S a w) (n : Nat) : Keeps S a (w.drewN n) := ⟨h.os, h.tape, h.output, h.size, h.block⟩
/-- writes to blocks made since -/
theorem Fresh.keepsTrans {S : Nat → Prop} {a b c : World} (h : Fresh a b) (k : Keeps S b c) (hS : ∀ i, S i → a.heap.size ≤ i) : Fresh a c :=
  ⟨k.os.trans h.os, k.tape.trans h.tape, k.output.trans h.output, Nat.le_trans h.size k.size,
    fun i hi => (k.block i (Nat.lt_of_lt_of_le hi h.size) (fun hs => by have := hS i hs; omega)).trans (h.block i hi)⟩
theorem Keeps.fresh {S : Nat → Prop} {a b c : World} (h : Keeps S a b) (k : Fresh b c) : Keeps S a c := h.trans (k.keeps S)
theorem Keeps.alloc {S : Nat → Prop} {a b : World} (h : Keeps S a b) (o : Obj) : Keeps S a (b.alloc o) := h.fresh ((Fresh.refl b).alloc o)
theorem Keeps.setCell {S : Nat → Prop} (w : World) {p : Addr} (hp : S p.block) (u : Value) : Keeps S w (w.setCell p u) :=
  ⟨rfl, rfl, rfl, by simp [World.setCell], fun k _ hn => Below.heap_setCell w p u k (fun e => hn (e ▸ hp))⟩
theorem Keeps.grown {S : Nat → Prop} {a b w' : World} (h : Keeps S a b) {row : Option Nat} (hg : b.grownBy w' row) (hr : ∀ k, row = some k → k < a.heap.size → S k) : Keeps S a w' :=
  ⟨hg.os.trans h.os, hg.tape.trans h.tape, hg.output.trans h.output, Nat.le_trans h.size hg.size,
    fun k hk hn => (hg.block k (Nat.lt_of_lt_of_le hk h.size) (fun e => hn (hr k e.symm hk))).trans (h.block k hk hn)⟩

/-! ### a slice of ints that is read -/

/-- a slice value that reads as a list of integers of a kind -/
def IntsK (kd : IntKind) (w : World) (v : Value) (zs : List Int) : Prop :=
  (zs = [] ∧ ∃ a cap, v = .slice a 0 cap) ∨
  ∃ b off cap, v = .slice (some ⟨b, off, none⟩) zs.length cap ∧ zs.length ≤ cap ∧ cap ≤ maxLen ∧ 0 < zs.length ∧
    ∀ i (h : i < zs.length), w.cell? ⟨b, off + i, none⟩ = some (.int kd zs[i])

abbrev Ints := IntsK .i64
abbrev Bytes := IntsK .u8

/-- the two worlds agree on the block of v -/
def SameAt (w w' : World) (v : Value) : Prop := ∀ g, v.ownBlock = some g → w'.heap[g]? = w.heap[g]?

theorem IntsK.same {kd : IntKind} {w w' : World} {v : Value} {zs : List Int} (h : IntsK kd w v zs) (hs : SameAt w w' v) : IntsK kd w' v zs := by
  rcases h with ⟨rfl, a, cap, rfl⟩ | ⟨b, off, cap, rfl, h1, h2, h3, h4⟩
  · exact .inl ⟨rfl, a, cap, rfl⟩
  · refine .inr ⟨b, off, cap, rfl, h1, h2, h3, fun i hi => ?_⟩
    have hc := h4 i hi
    have := World.cell?_of_block (w := w) (w' := w') (a := ⟨b, off + i, none⟩) (hs b rfl)
    rw [this]; exact hc

theorem IntsK.lt {kd : IntKind} {w : World} {v : Value} {zs : List Int} (h : IntsK kd w v zs) : zs = [] ∨ ∃ g, v.ownBlock = some g ∧ g < w.heap.size := by
  rcases h with ⟨rfl, _⟩ | ⟨b, off, cap, rfl, h1, h2, h3, h4⟩
  · exact .inl rfl
  · exact .inr ⟨b, rfl, World.block_lt_of_cell? w _ (h4 0 h3)⟩

theorem IntsK.keeps {kd : IntKind} {w w' : World} {v : Value} {zs : List Int} {S : Nat → Prop} (h : IntsK kd w v zs) (hb : Keeps S w w') (hv : zs = [] ∨ ∀ g, v.ownBlock = some g → ¬ S g) : IntsK kd w' v zs := by
  rcases hv with rfl | hv
  · rcases h with ⟨_, a, cap, rfl⟩ | ⟨b, off, cap, rfl, h1, h2, h3, h4⟩
    · exact .inl ⟨rfl, a, cap, rfl⟩
    · exact absurd h3 (by simp)
  · rcases h.lt with rfl | ⟨g, hg, hlt⟩
    · rcases h with ⟨_, a, cap, rfl⟩ | ⟨b, off, cap, rfl, h1, h2, h3, h4⟩
      · exact .inl ⟨rfl, a, cap, rfl⟩
      · exact absurd h3 (by simp)
    · refine h.same fun g' hg' => hb.block g' ?_ (hv g' hg')
      rw [hg] at hg'; cases hg'; exact hlt

theorem IntsK.fresh {kd : IntKind} {w w' : World} {v : Value} {zs : List Int} (h : IntsK kd w v zs) (hb : Fresh w w') : IntsK kd w' v zs :=
  h.keeps (hb.keeps (fun _ => False)) (.inr fun _ _ => id)

theorem IntsK.drewN {kd : IntKind} {w : World} {v : Value} {zs : List Int} (h : IntsK kd w v zs) (n : Nat) : IntsK kd (w.drewN n) v zs := h.fresh ((Fresh.refl w).drewN n)
theorem IntsK.len {kd : IntKind} {w : World} {v : Value} {zs : List Int} (h : IntsK kd w v zs) : ∃ a cap, v = .slice a zs.length cap := by
  rcases h with ⟨rfl, a, cap, rfl⟩ | ⟨b, off, cap, rfl, _⟩
  · exact ⟨a, cap, rfl⟩
  · exact ⟨_, cap, rfl⟩

theorem IntsK.bound {kd : IntKind} {w : World} {v : Value} {zs : List Int} (h : IntsK kd w v zs) : zs.length ≤ 9223372036854775807 := by
  rcases h with ⟨rfl, _⟩ | ⟨b, off, cap, rfl, h1, h2, _⟩
  · simp
  · unfold maxLen at h2; omega

/-- what a read at an index wants -/
theorem IntsK.at {kd : IntKind} {w : World} {v : Value} {zs : List Int} (h : IntsK kd w v zs) {k : Nat} (hk : k < zs.length) :
    ∃ b off cap, v = .slice (some ⟨b, off, none⟩) zs.length cap ∧ ∀ i (h : i < zs.length), w.cell? ⟨b, off + i, none⟩ = some (.int kd zs[i]) := by
  rcases h with ⟨rfl, _⟩ | ⟨b, off, cap, rfl, _, _, _, h4⟩
  · simp at hk
  · exact ⟨b, off, cap, rfl, h4⟩

/-! ### a slice of ints of the call's own -/

/-- a slice of ints that the call owns: it lies in a block of lo .. hi-1, whole, writable (or it is nil) -/
def Owns (lo hi : Nat) (w : World) (v : Value) (zs : List Int) : Prop :=
  w.ownsRow lo 3 1 v zs.length (zs.map (Value.int .i64)) ∧ ∀ g, v.ownBlock = some g → g < hi

theorem Owns.ints {lo hi : Nat} {w : World} {v : Value} {zs : List Int} (h : Owns lo hi w v zs) : Ints w v zs := by
  have h := h.1
  by_cases hz : zs = []
  · subst hz
    rcases h.2 with ⟨rfl, _⟩ | ⟨g, cap, cur, rfl, _⟩
    · exact .inl ⟨rfl, _, _, rfl⟩
    · exact .inl ⟨rfl, _, _, rfl⟩
  · have hpos : 0 < zs.length := List.length_pos_iff.2 hz
    rcases h.2 with ⟨_, h0⟩ | ⟨g, cap, cur, hv, _, _, hn, hm, _, _⟩
    · omega
    · subst hv
      refine .inr ⟨g, 0, cap, rfl, hn, hm, hpos, fun i hi => ?_⟩
      have := h.cellAt i (by omega)
      rw [Nat.zero_add, this]; simp [hi]

theorem Owns.blk {lo hi : Nat} {w : World} {v : Value} {zs : List Int} (h : Owns lo hi w v zs) : ∀ g, v.ownBlock = some g → lo ≤ g ∧ g < hi ∧ g < w.heap.size :=
  fun g hg => ⟨(h.1.lt g hg).1, h.2 g hg, (h.1.lt g hg).2⟩

theorem Owns.same {lo hi : Nat} {w w' : World} {v : Value} {zs : List Int} (h : Owns lo hi w v zs) (hs : SameAt w w' v) : Owns lo hi w' v zs := by
  refine ⟨⟨h.1.1, ?_⟩, h.2⟩
  rcases h.1.2 with h2 | ⟨g, cap, cur, hv, hg, hh, r⟩
  · exact Or.inl h2
  · exact Or.inr ⟨g, cap, cur, hv, hg, by rw [hs g (by subst hv; rfl)]; exact hh, r⟩

theorem Owns.keeps {lo hi : Nat} {w w' : World} {v : Value} {zs : List Int} {S : Nat → Prop} (h : Owns lo hi w v zs) (hb : Keeps S w w') (hv : ∀ g, lo ≤ g → g < hi → ¬ S g) : Owns lo hi w' v zs :=
  h.same fun g hg => hb.block g (h.blk g hg).2.2 (hv g (h.blk g hg).1 (h.blk g hg).2.1)

theorem Owns.fresh {lo hi : Nat} {w w' : World} {v : Value} {zs : List Int} (h : Owns lo hi w v zs) (hb : Fresh w w') : Owns lo hi w' v zs :=
  h.keeps (hb.keeps (fun _ => False)) fun _ _ _ => id

theorem ownsRow_wider {w : World} {lo lo' : Nat} {e : TypeId} {size : Nat} {v : Value} {n : Nat} {xs : List Value} (h : w.ownsRow lo e size v n xs) (hl : lo' ≤ lo) : w.ownsRow lo' e size v n xs := by
  refine ⟨h.1, ?_⟩
  rcases h.2 with h2 | ⟨g, cap, cur, hv, hg, hh, r⟩
  · exact Or.inl h2
  · exact Or.inr ⟨g, cap, cur, hv, Nat.le_trans hl hg, hh, r⟩

theorem Owns.wider {lo hi lo' hi' : Nat} {w : World} {v : Value} {zs : List Int} (h : Owns lo hi w v zs) (hl : lo' ≤ lo) (hh : hi ≤ hi') : Owns lo' hi' w v zs :=
  ⟨ownsRow_wider h.1 hl, fun g hg => Nat.lt_of_lt_of_le (h.2 g hg) hh⟩

theorem Owns.ofLt {lo hi hi' : Nat} {w : World} {v : Value} {zs : List Int} (h : Owns lo hi w v zs) (hh : ∀ g, v.ownBlock = some g → g < hi') : Owns lo hi' w v zs := ⟨h.1, hh⟩
theorem Owns.ofLt' {lo hi lo' hi' : Nat} {w : World} {v : Value} {zs : List Int} (h : Owns lo hi w v zs) (hl : ∀ g, v.ownBlock = some g → lo' ≤ g) (hh : ∀ g, v.ownBlock = some g → g < hi') : Owns lo' hi' w v zs := by
  refine ⟨⟨h.1.1, ?_⟩, hh⟩
  rcases h.1.2 with h2 | ⟨g, cap, cur, hv, hg, r⟩
  · exact Or.inl h2
  · exact Or.inr ⟨g, cap, cur, hv, hl g (by subst hv; rfl), r⟩
theorem Owns.nil (lo hi : Nat) (w : World) : Owns lo hi w (.slice none 0 0) [] := ⟨World.ownsRow_nil _ _ _ _, fun g hg => by simp [Value.ownBlock] at hg⟩

/-- its form, where there is an element -/
theorem Owns.form {lo hi : Nat} {w : World} {v : Value} {zs : List Int} (h : Owns lo hi w v zs) (hz : 0 < zs.length) : ∃ g cap, v = .slice (some ⟨g, 0, none⟩) zs.length cap ∧ lo ≤ g ∧ g < hi ∧ g < w.heap.size ∧ zs.length ≤ cap ∧ cap ≤ maxLen := by
  rcases h.1.2 with ⟨_, h0⟩ | ⟨g, cap, cur, hv, hg, hh, hn, hm, _⟩
  · omega
  · subst hv; exact ⟨g, cap, rfl, hg, h.2 g rfl, (h.1.lt g rfl).2, hn, hm⟩

/-- one store into it -/
theorem Owns.store {lo hi : Nat} {w : World} {g n cap : Nat} {zs : List Int} (h : Owns lo hi w (.slice (some ⟨g, 0, none⟩) n cap) zs) (hn : n = zs.length) (j : Nat) (x : Int) :
    w.frozen? ⟨g, j, none⟩ = false ∧ Owns lo hi (w.setCell ⟨g, j, none⟩ (.int .i64 x)) (.slice (some ⟨g, 0, none⟩) n cap) (zs.set j x) ∧ Keeps (fun k => k = g) w (w.setCell ⟨g, j, none⟩ (.int .i64 x)) := by
  subst hn
  refine ⟨h.1.frozenAt j, ⟨?_, h.2⟩, Keeps.setCell (S := fun k => k = g) w rfl _⟩
  have := (h.1.stored j (.int .i64 x)).1
  simpa [List.map_set] using this

theorem Owns.cell {lo hi : Nat} {w : World} {g n cap : Nat} {zs : List Int} (h : Owns lo hi w (.slice (some ⟨g, 0, none⟩) n cap) zs) (hn : n = zs.length) (j : Nat) (hj : j < zs.length) :
    w.cell? ⟨g, j, none⟩ = some (.int .i64 zs[j]) := by
  subst hn
  rw [h.1.cellAt j (by omega)]; simp [hj]

/-- what make([]int, n) leaves -/
theorem Owns.made {w w' : World} {n : Nat} {v : Value} (h : w'.ownsRow w.heap.size 3 1 v n (madeCells #[Value.int .i64 0] (n * 1)).toList) : Owns w.heap.size w'.heap.size w' v (List.replicate n 0) := by
  refine ⟨?_, fun g hg => (h.lt g hg).2⟩
  rw [toList_madeCells_one] at h
  simpa using h

/-- what append leaves -/
theorem Owns.append {lo hi : Nat} {w w' : World} {v v' : Value} {zs ys : List Int} (_h : Owns lo hi w v zs)
    (h' : w'.ownsRow lo 3 1 v' (zs.length + ys.length) (zs.map (Value.int .i64) ++ ys.map (Value.int .i64))) : Owns lo w'.heap.size w' v' (zs ++ ys) := by
  refine ⟨?_, fun g hg => (h'.lt g hg).2⟩
  simpa using h'


/-- the one cell of a new block -/
theorem one_new (w : World) (x : Value) (t : TypeId) : ∀ (j : Nat) (u : Value), [x][j]? = some u → (w.alloc (Obj.cells #[x] t)).cell? ((⟨w.heap.size, 0, none⟩ : Addr).add j) = some u := by
  intro j u hj
  match j, hj with
  | 0, hj => simp at hj; subst hj; simp [Addr.add]

/-- what []int{} leaves -/
theorem Owns.empty (w : World) : Owns w.heap.size (w.alloc (Obj.cells #[] 3)).heap.size (w.alloc (Obj.cells #[] 3)) (.slice (some ⟨w.heap.size, 0, none⟩) 0 0) [] := by
  refine ⟨?_, fun g hg => ?_⟩
  · exact World.ownsRow_lit (base := w.heap.size) (size := 1) w #[] 0 (Nat.le_refl _) (Nat.zero_le _) rfl
  · simp [Value.ownBlock] at hg; subst hg; simp
/-! ### append -/
/-- what may be appended -/
def Src (w : World) (src : Value) (ys : List Int) : Prop :=
  (src = .slice none 0 0 ∧ ys = []) ∨ ∃ ad c, src = .slice (some ad) ys.length c ∧ ∀ j (_ : j < ys.length), w.cell? (ad.add j) = some (.int .i64 ys[j])

theorem Owns.src {lo hi : Nat} {w : World} {v : Value} {zs : List Int} (h : Owns lo hi w v zs) : Src w v zs := by
  rcases h.1.2 with ⟨h1, h2⟩ | ⟨g, cap, cur, hv, hg, hh, hn, hm, _⟩
  · exact .inl ⟨h1, List.length_eq_zero_iff.1 h2⟩
  · subst hv
    refine .inr ⟨_, cap, rfl, fun j hj => ?_⟩
    have := h.1.cells (g := g) rfl j (.int .i64 zs[j]) (by simp [hj])
    exact this
theorem Src.one (w : World) (x : Int) (t : TypeId) : Src (w.alloc (Obj.cells #[.int .i64 x] t)) (.slice (some ⟨w.heap.size, 0, none⟩) 1 1) [x] := by
  refine .inr ⟨_, 1, rfl, fun j hj => ?_⟩
  exact one_new w (.int .i64 x) t j _ (by match j, hj with | 0, _ => rfl)

theorem run_append_any {P : Program} (w : World) (base : Nat) (t ty e : TypeId) (i : TypeInfo) (z : Value) (size bytes : Nat) (ht : P.underlying t = some (.slice e)) (hi : P.info? e = some i) (hz : i.zero = some z)
    (hsize : i.size = size) (hby : i.bytes = bytes) (hzs : z.cells.size = size) (hsz : 0 < size)
    (v : Value) (n : Nat) (xs : List Value) (hown : w.ownsRow base e size v n xs) (src : Value) (m : Nat) (news : List Value)
    (hsrc : (src = .slice none 0 0 ∧ m = 0 ∧ news = []) ∨ ∃ ad c, src = .slice (some ad) m c ∧ ∀ j u, news[j]? = some u → w.cell? (ad.add j) = some u) (hl : news.length = m * size) (h1 : ∀ u ∈ news, u.oneCell' = true)
    (h63 : n + m ≤ maxLen) (hbytes : (n + m) * bytes ≤ 140737488355328) (hbase : base ≤ w.heap.size) :
    ∃ v' w', (Builtin.append_ #[t, t] ty #[v, src]).run P w = .ok v' w' ∧ w'.ownsRow base e size v' (n + m) (xs ++ news) ∧ w.grownBy w' v.ownBlock := by
  rcases hsrc with ⟨rfl, rfl, rfl⟩ | ⟨ad, c, rfl, hc⟩
  · refine ⟨v, w, run_append_owned_none (P := P) w base t ty e i size ht hi v n xs hown, by simpa using hown, World.grownBy.refl _ _⟩
  · obtain ⟨v', w', hr, a1, a2, _⟩ := run_append_own (P := P) w base t ty e i z size bytes ht hi hz hsize hby hzs hsz v n xs hown ad m c news hl hc h1 h63 hbytes hbase
    exact ⟨v', w', hr, a1, a2⟩

/-- append of ints to a slice of the call's own: the walk's law -/
theorem wpList_append_ints {ops : Array Oper} {rest : List Oper} {o : Oper} {a : Act} {Q : Exit → Act → World → Prop} (w : World) (hw : Region.wanted o (yielded ops a.tmps) = true) (s x : Operand)
    (ho : o.op = .call { callee := .builtin .append, args := #[s, x], argTypes := #[38, 38] })
    (lo hi : Nat) (v : Value) (xs : List Int) (hs : a.eval s = v) (hown : Owns lo hi w v xs) (hlo : lo ≤ w.heap.size) (src : Value) (ys : List Int) (hx : a.eval x = src) (hsrc : Src w src ys)
    (hlen : xs.length + ys.length ≤ 1099511627776)
    (h : ∀ v' w', Owns lo w'.heap.size w' v' (xs ++ ys) → Keeps (fun k => lo ≤ k) w w' → wpList Tryd.prog ops Q rest (a.put o.dst v') w') : wpList Tryd.prog ops Q (o :: rest) a w := by
  obtain ⟨i0, hi0, hz0, hz1, hz2⟩ := info_parts info_int
  refine BigFrame.wpList_want hw fun K hK => ?_
  have hsrc' : (src = .slice none 0 0 ∧ ys.length = 0 ∧ ys.map (Value.int .i64) = []) ∨ ∃ ad c, src = .slice (some ad) ys.length c ∧ ∀ j u, (ys.map (Value.int .i64))[j]? = some u → w.cell? (ad.add j) = some u := by
    rcases hsrc with ⟨h1, rfl⟩ | ⟨ad, c, h1, h2⟩
    · exact .inl ⟨h1, rfl, rfl⟩
    · refine .inr ⟨ad, c, h1, fun j u hu => ?_⟩
      rw [List.getElem?_map, Option.map_eq_some_iff] at hu
      obtain ⟨y, hy, rfl⟩ := hu
      obtain ⟨hj, rfl⟩ := List.getElem?_eq_some_iff.1 hy
      exact h2 j hj
  obtain ⟨v', w', hr, a1, a2⟩ := run_append_any (P := Tryd.prog) w lo 38 o.type 3 i0 (.int .i64 0) 1 8 Tryd.underlying38 hi0 hz0 hz1 hz2 rfl (by decide) v xs.length _ hown.1 src ys.length _ hsrc' (by simp) (ints_oneCell .i64 ys) (by unfold maxLen; omega) (by omega) hlo
  unfold Oper.wp execOp
  simp only [ho, resolve, invoke, builtin, Sem.run_bind, Sem.run_pure, Result.andThen_ok, List.map_toArray, List.map_cons, List.map_nil, hs, hx, hr]
  refine hK _ _ (h v' w' ⟨by simpa using a1, fun g hg => (a1.lt g hg).2⟩ ?_)
  exact Keeps.grown (Keeps.refl _ w) a2 fun k hk _ => (hown.blk k hk).1
end Go.Proofs.YtipadgpgcdjflaaDoor
