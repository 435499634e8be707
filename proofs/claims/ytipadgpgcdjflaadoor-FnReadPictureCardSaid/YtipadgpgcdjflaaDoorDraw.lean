/- The reader of drawn inputs: what it may answer. -/
import Derived.Test.YtipadgpgcdjflaaDoorCodes2

namespace Go.Proofs.YtipadgpgcdjflaaDoor
open Go.RowKit

/-- the reader at block b: it has been asked at most q times -/
def Rd (w : World) (b : Nat) (q : Nat) : Prop :=
  ∃ (sv : Value) (bs : List Int) (p : Int), w.heap[b]? = some (.cells #[sv, .int .i64 p] 53 (0, 0)) ∧ Bytes w sv bs ∧ (∀ x ∈ bs, 0 ≤ x ∧ x ≤ 255) ∧ bs.length ≤ 2000 ∧ 0 ≤ p ∧ p ≤ q ∧
    (bs = [] ∨ ∀ g, sv.ownBlock = some g → g < b)

theorem Rd.mono {w : World} {b q q' : Nat} (h : Rd w b q) (hq : q ≤ q') : Rd w b q' := by
  obtain ⟨sv, bs, p, h1, h2, h3, h4, h5, h6, h7⟩ := h
  exact ⟨sv, bs, p, h1, h2, h3, h4, h5, by omega, h7⟩
theorem Rd.lt {w : World} {b q : Nat} (h : Rd w b q) : b < w.heap.size := by
  obtain ⟨sv, bs, p, h1, _⟩ := h
  exact (Array.getElem?_eq_some_iff.1 h1).1
theorem Rd.fresh {w w' : World} {b q : Nat} (h : Rd w b q) (hF : Fresh w w') : Rd w' b q := by
  have hl := h.lt
  obtain ⟨sv, bs, p, h1, h2, h3⟩ := h
  exact ⟨sv, bs, p, by rw [hF.block b hl]; exact h1, h2.fresh hF, h3⟩

theorem Rd.keepsOff {w w' : World} {b q lo : Nat} (h : Rd w b q) (hK : Keeps (fun k => lo ≤ k) w w') (hb : b < lo) : Rd w' b q := by
  have hl := h.lt
  obtain ⟨sv, bs, p, h1, h2, h3, h4, h5, h6, h7⟩ := h
  exact ⟨sv, bs, p, by rw [hK.block b hl (by omega)]; exact h1, h2.keeps hK (h7.imp_right fun h g hg => by have := h g hg; omega), h3, h4, h5, h6, h7⟩

/-- what a pick answers -/
def Picked (n x : Int) : Prop := 0 ≤ x ∧ (1 ≤ n → x < n) ∧ (n < 1 → x = 0)

theorem Picked.zero (n : Int) : Picked n 0 := ⟨by omega, fun h => by omega, fun _ => rfl⟩
theorem Picked.mod {x n : Int} (hn : 1 ≤ n) : Picked n (x % n) :=
  ⟨Int.emod_nonneg _ (by omega), fun _ => Int.emod_lt_of_pos _ (by omega), fun h => by omega⟩
theorem Picked.xor {t : Nat} {n : Int} (ht : t < 2 ^ 60) (hn : 1 ≤ n) : Picked n ((bits .xor .i64 (t : Int) ((t : Int) / 64)).tmod n) := by
  have e : ((t : Int) / 64) = ((t / 64 : Nat) : Int) := by simp
  rw [e, xor_i64 t (t / 64) (by omega) (by omega), Int.tmod_eq_emod_of_nonneg (Int.natCast_nonneg _)]
  exact Picked.mod hn
theorem Rd.drewN {w : World} {b q : Nat} (h : Rd w b q) (n : Nat) : Rd (w.drewN n) b q := by
  obtain ⟨sv, bs, p, h1, h2, h3⟩ := h
  exact ⟨sv, bs, p, h1, h2.same fun g _ => rfl, h3⟩
theorem Rd.stored {w : World} {b q : Nat} {sv : Value} {bs : List Int} {p : Int} (h1 : w.heap[b]? = some (.cells #[sv, .int .i64 p] 53 (0, 0))) (h2 : Bytes w sv bs) (h3 : ∀ x ∈ bs, 0 ≤ x ∧ x ≤ 255) (h4 : bs.length ≤ 2000) (h5 : 0 ≤ p) (h6 : p ≤ q)
    (h7 : bs = [] ∨ ∀ g, sv.ownBlock = some g → g < b) : Rd (w.setCell ⟨b, 1, none⟩ (.int .i64 (p + 1))) b (q + 1) := by
  refine ⟨sv, bs, p + 1, ?_, ?_, h3, h4, by omega, by omega, h7⟩
  · simp only [World.setCell, Array.getElem?_modify, if_true, h1, Option.map_some]
    simp
  · exact h2.keeps (Keeps.setCell (S := fun k => k = b) w rfl _) (h7.imp_right fun h g hg e => by have := h g hg; omega)

set_option maxRecDepth 100000 in
set_option maxHeartbeats 1000000 in
theorem pick_any (b q : Nat) (n : Int) (w : World) (h : Rd w b q) (hq : q ≤ 100000) (hn : n ≤ 1000000) :
    Calls Tryd.prog 35 #[.pointer (some ⟨b, 0, none⟩), .int .i64 n] w fun e w' => ∃ x, e = .returned (.int .i64 x) ∧ Picked n x ∧ Rd w' b (q + 1) ∧ Keeps (fun k => k = b) w w' := by
  obtain ⟨sv, bs, p, h1, h2, h3, h4, h5, h6, h7⟩ := h
  have hR := Rd.stored h1 h2 h3 h4 h5 h6 h7
  have hK : Keeps (fun k => k = b) w (w.setCell ⟨b, 1, none⟩ (.int .i64 (p + 1))) := Keeps.setCell (S := fun k => k = b) w rfl _
  have hp : p ≤ 100000 := by omega
  have c0 : w.cell? ⟨b, 0, none⟩ = some sv := by simp [World.cell?, h1]
  have c1 : w.cell? ⟨b, 1, none⟩ = some (.int .i64 p) := by simp [World.cell?, h1]
  have f1 : w.frozen? ⟨b, 1, none⟩ = false := by simp [World.frozen?, h1]
  clear h1
  obtain ⟨a, cap, rfl⟩ := h2.len
  by_cases hn1 : n < 1
  · go_enter Tryd.func35, Tryd.ntmps35
    go_wp2
    go_ret
    exact ⟨0, rfl, Picked.zero n, hR, hK⟩
  · by_cases hz : bs.length = 0
    · have hz' : ((bs.length : Int) == 0) = true := by rw [beq_iff_eq]; omega
      have HZ := Lib.hid hz
      clear hz
      go_enter Tryd.func35, Tryd.ntmps35
      go_wp2
      go_ret
      exact ⟨0, rfl, Picked.zero n, hR, hK⟩
    · have hz' : ((bs.length : Int) == 0) = false := by rw [beq_eq_false_iff_ne]; omega
      obtain ⟨k, rfl⟩ := Int.eq_ofNat_of_zero_le h5
      obtain ⟨b', off, cap', heq, hcell⟩ := h2.at (k := 0) (by omega)
      simp only [Value.slice.injEq, true_and] at heq; obtain ⟨rfl, rfl⟩ := heq
      have hne' := (h7.resolve_left (fun e => hz (by rw [e]; rfl))) b' rfl
      have hne : b' ≠ b := by omega
      clear hne'
      by_cases hlt : k < bs.length
      · have hc := hcell k hlt
        have hb := h3 _ (List.getElem_mem hlt)
        obtain ⟨x, hx⟩ : ∃ x, x = bs[k] := ⟨_, rfl⟩
        rw [← hx] at hc hb
        clear hx hcell h3 h7
        go_enter Tryd.func35, Tryd.ntmps35
        go_wp2
        go_ret
        exact ⟨_, rfl, Picked.mod (by omega), hR, hK⟩
      · obtain ⟨L, hL⟩ : ∃ L, L = bs.length := ⟨_, rfl⟩
        obtain ⟨m1, hm1⟩ : ∃ m, m = k % L := ⟨_, rfl⟩
        obtain ⟨m2, hm2⟩ : ∃ m, m = (k * 7 + 3) % L := ⟨_, rfl⟩
        obtain ⟨dv, hdv⟩ : ∃ m, m = k / L := ⟨_, rfl⟩
        have i1 : m1 < L := by rw [hm1]; exact Nat.mod_lt _ (by omega)
        have i2 : m2 < L := by rw [hm2]; exact Nat.mod_lt _ (by omega)
        have i3 : dv ≤ k := by rw [hdv]; exact Nat.div_le_self _ _
        have e1 : (k : Int).tmod (L : Int) = (m1 : Int) := by rw [hm1, Int.tmod_eq_emod_of_nonneg (by omega)]; simp
        have e2 : ((k : Int) * 7 + 3).tmod (L : Int) = (m2 : Int) := by rw [hm2, Int.tmod_eq_emod_of_nonneg (by omega)]; simp
        have e3' : (k : Int) / (L : Int) = (dv : Int) := by rw [hdv]; simp
        have e3 : IntKind.i64.wrap ((k : Int) / (L : Int)) = (dv : Int) := by
          rw [e3', IntWalk.i64_in _ (by omega)]
        have hc1 := hcell m1 (by omega)
        have hc2 := hcell m2 (by omega)
        have hb1 := h3 _ (List.getElem_mem (by omega : m1 < bs.length))
        have hb2 := h3 _ (List.getElem_mem (by omega : m2 < bs.length))
        obtain ⟨x, hx⟩ : ∃ x, x = bs[m1] := ⟨_, rfl⟩
        obtain ⟨y, hy⟩ : ∃ y, y = bs[m2] := ⟨_, rfl⟩
        rw [← hx] at hc1 hb1
        rw [← hy] at hc2 hb2
        have hL1 : 1 ≤ L := by omega
        have hL2 : L ≤ 2000 := by omega
        have hL3 : ¬ k < L := by omega
        have hL4 : ¬ L = 0 := by omega
        have s1 : IntKind.i64.wrap ((k : Int) * 7) = (k : Int) * 7 := IntWalk.i64_in _ (by omega)
        have s2 : IntKind.i64.wrap ((k : Int) * 7 + 3) = (k : Int) * 7 + 3 := IntWalk.i64_in _ (by omega)
        have s3 : IntKind.i64.wrap (x * 131) = x * 131 := IntWalk.i64_in _ (by omega)
        have s4 : IntKind.i64.wrap (y * 1117) = y * 1117 := IntWalk.i64_in _ (by omega)
        have s5 : IntKind.i64.wrap (x * 131 + y * 1117) = x * 131 + y * 1117 := IntWalk.i64_in _ (by omega)
        have s6 : IntKind.i64.wrap ((k : Int) * 29) = (k : Int) * 29 := IntWalk.i64_in _ (by omega)
        have s7 : IntKind.i64.wrap (x * 131 + y * 1117 + (k : Int) * 29) = x * 131 + y * 1117 + (k : Int) * 29 := IntWalk.i64_in _ (by omega)
        have s8 : IntKind.i64.wrap ((dv : Int) * 53) = (dv : Int) * 53 := IntWalk.i64_in _ (by omega)
        have s9 : IntKind.i64.wrap (x * 131 + y * 1117 + (k : Int) * 29 + (dv : Int) * 53) = x * 131 + y * 1117 + (k : Int) * 29 + (dv : Int) * 53 := IntWalk.i64_in _ (by omega)
        have s10 : IntKind.i64.wrap x = x := IntWalk.i64_in _ (by omega)
        have s11 : IntKind.i64.wrap y = y := IntWalk.i64_in _ (by omega)
        have hL5 : (((L : Nat) : Int) == 0) = false := by rw [beq_eq_false_iff_ne]; omega
        have T := Lib.hid (And.intro hb1 (And.intro hb2 (And.intro i3 hp)))
        rw [← hL] at h2 c0
        clear hx hy hcell h3 h7 h4 hz hz' hlt hL h2 hm1 hm2 hdv
        have d0 : (w.setCell ⟨b, 1, none⟩ (.int .i64 ((k : Int) + 1))).cell? ⟨b, 0, none⟩ = some (Value.slice (some { block := b', off := off }) L cap) := by simp [go_sem, c0]
        have d1 : (w.setCell ⟨b, 1, none⟩ (.int .i64 ((k : Int) + 1))).cell? ⟨b, 1, none⟩ = some (.int .i64 ((k : Int) + 1)) := by simp [go_sem, c1]
        have d2 : (w.setCell ⟨b, 1, none⟩ (.int .i64 ((k : Int) + 1))).cell? ⟨b', off + m1, none⟩ = some (.int .u8 x) := by simp [go_sem, hc1]
        have d3 : (w.setCell ⟨b, 1, none⟩ (.int .i64 ((k : Int) + 1))).cell? ⟨b', off + m2, none⟩ = some (.int .u8 y) := by simp [go_sem, hc2]
        have D := Lib.hid (And.intro d0 (And.intro d1 (And.intro d2 d3)))
        have S := Lib.hid (And.intro e1 (And.intro e2 (And.intro e3 (And.intro s1 (And.intro s2 (And.intro s3 (And.intro s4 (And.intro s5 (And.intro s6 (And.intro s7 (And.intro s8 (And.intro s9 (And.intro s10 s11)))))))))))))
        clear d0 d1 d2 d3 e1 e2 e3 s1 s2 s3 s4 s5 s6 s7 s8 s9 s10 s11
        go_enter Tryd.func35, Tryd.ntmps35
        go_wp2
        obtain ⟨d0, d1, d2, d3⟩ := D.out
        obtain ⟨e1, e2, e3, s1, s2, s3, s4, s5, s6, s7, s8, s9, s10, s11⟩ := S.out
        clear D hc1 hc2 c0 c1 f1 hne S
        generalize w.setCell ⟨b, 1, none⟩ (.int .i64 ((k : Int) + 1)) = w2 at *
        go_quiet (fail)
        clear e1 e2 e3 s1 s2 s3 s4 s5 s6 s7 s8 s9 s10 s11
        obtain ⟨t, ht⟩ : ∃ t : Nat, x * 131 + y * 1117 + (k : Int) * 29 + (dv : Int) * 53 = (t : Int) := ⟨(x * 131 + y * 1117 + (k : Int) * 29 + (dv : Int) * 53).toNat, by have := T.out; omega⟩
        have hts : t < 2 ^ 60 := by have := T.out; omega
        rw [ht]
        clear ht
        go_wp2
        go_ret
        exact ⟨_, rfl, Picked.xor hts hn1, hR.drewN nq, hK.drewN nq⟩


theorem Rd.new {w : World} {v : Value} {bs : List Int} (h : Bytes w v bs) (hb : ∀ x ∈ bs, 0 ≤ x ∧ x ≤ 255) (hl : bs.length ≤ 2000) :
    Rd (w.alloc (Obj.cells #[v, .int .i64 0] 53)) w.heap.size 0 := by
  refine ⟨v, bs, 0, heap_alloc_new w _, h.fresh ((Fresh.refl w).alloc _), hb, hl, by omega, by omega, ?_⟩
  rcases h.lt with h2 | ⟨g', hg', hlt⟩
  · exact .inl h2
  · refine .inr fun g hg => ?_
    rw [hg] at hg'; cases hg'; omega
theorem IntsK.take2000 {kd : IntKind} {w : World} {b off n cap : Nat} {zs : List Int} (h : IntsK kd w (.slice (some ⟨b, off, none⟩) n cap) zs) (hl : 2000 < zs.length) : IntsK kd w (.slice (some ⟨b, off, none⟩) 2000 cap) (zs.take 2000) := by
  rcases h with ⟨rfl, _⟩ | ⟨b', off', cap', he, h1, h2, h3, h4⟩
  · simp at hl
  · simp only [Value.slice.injEq, Option.some.injEq, Addr.mk.injEq, and_true] at he
    obtain ⟨⟨rfl, rfl⟩, rfl, rfl⟩ := he
    have e : (zs.take 2000).length = 2000 := by rw [List.length_take]; omega
    refine .inr ⟨b, off, cap, by rw [e], by omega, h2, by omega, fun i hi => ?_⟩
    rw [h4 i (by omega)]; simp
set_option maxHeartbeats 400000 in
theorem l20Open_any (v : Value) (bs : List Int) (w : World) (h : Bytes w v bs) (hb : ∀ x ∈ bs, 0 ≤ x ∧ x ≤ 255) :
    Calls Tryd.prog 29 #[v] w fun e w' => ∃ b, e = .returned (.pointer (some ⟨b, 0, none⟩)) ∧ Rd w' b 0 ∧ Fresh w w' ∧ w.heap.size ≤ b := by
  obtain ⟨a, cap, rfl⟩ := h.len
  have hbd := h.bound
  by_cases hl : 2000 < bs.length
  · obtain ⟨b', off, cap', heq, hcell⟩ := h.at (k := 0) (by omega)
    simp only [Value.slice.injEq, true_and] at heq; obtain ⟨rfl, rfl⟩ := heq
    have hcap : bs.length ≤ cap ∧ cap ≤ maxLen := by
      rcases h with ⟨rfl, _⟩ | ⟨_, _, _, he, h1, h2, _⟩
      · simp at hl
      · simp at he; obtain ⟨_, rfl⟩ := he; exact ⟨h1, h2⟩
    obtain ⟨hc1, hc2⟩ := hcap
    unfold maxLen at hc2
    have HB := Lib.hid (h.take2000 (by omega))
    have HB2 := Lib.hid (fun x (hx : x ∈ bs.take 2000) => hb x (List.mem_of_mem_take hx))
    clear h hcell hb
    go_enter Tryd.func29, Tryd.ntmps29
    go_wp2
    go_ret
    exact ⟨_, rfl, Rd.new HB.out HB2.out (by rw [List.length_take]; omega), (Fresh.refl w).alloc _, Nat.le_refl _⟩
  · have HB := Lib.hid h
    have HB2 := Lib.hid hb
    clear h hb
    go_enter Tryd.func29, Tryd.ntmps29
    go_wp2
    go_ret
    exact ⟨_, rfl, Rd.new HB.out HB2.out (by omega), (Fresh.refl w).alloc _, Nat.le_refl _⟩

def OddPost (b q : Nat) (w : World) (e : Ending) (w' : World) : Prop := ∃ r, e = .returned (.bool r) ∧ Rd w' b (q + 1) ∧ Keeps (fun k => k = b) w w'
set_option maxHeartbeats 400000 in
theorem odd_any (b q : Nat) (n : Int) (w : World) (h : Rd w b q) (hq : q ≤ 100000) (hn : n ≤ 1000000) :
    Calls Tryd.prog 40 #[.pointer (some ⟨b, 0, none⟩), .int .i64 n] w fun e w' => OddPost b q w e w' := by
  by_cases h0 : 0 < n
  · go_enter Tryd.func40, Tryd.ntmps40
    go_wp2_with fail
    refine (pick_any b q n _ h hq hn).mono ?_
    rintro e w1 ⟨x, rfl, -, hR, hK⟩
    go_wp2
    go_ret
    exact ⟨_, rfl, hR, hK⟩
  · have h1 : n ≤ 0 := by omega
    clear h0
    go_enter Tryd.func40, Tryd.ntmps40
    go_wp2
    go_ret
    exact ⟨_, rfl, h.mono (by omega), Keeps.refl _ _⟩

/-- ints written out in a new block -/
theorem lit_cell (w : World) (l : List Int) (t : TypeId) (i : Nat) (h : i < l.length) : (w.alloc (Obj.cells (l.map (Value.int .i64)).toArray t)).cell? ⟨w.heap.size, i, none⟩ = some (.int .i64 l[i]) := by
  have e : (w.alloc (Obj.cells (l.map (Value.int .i64)).toArray t)).heap[w.heap.size]? = some (Obj.cells (l.map (Value.int .i64)).toArray t) := heap_alloc_new w _
  unfold World.cell?
  rw [e]
  simp [h]
theorem lit_ints (w : World) (l : List Int) (h : 0 < l.length) (hm : l.length ≤ 1000) :
    Ints (w.alloc (Obj.cells (l.map (Value.int .i64)).toArray 3)) (.slice (some ⟨w.heap.size, 0, none⟩) l.length l.length) l := by
  refine .inr ⟨w.heap.size, 0, l.length, rfl, Nat.le_refl _, by unfold maxLen; omega, h, fun i hi => ?_⟩
  rw [Nat.zero_add]; exact lit_cell w l _ i hi
/-- one cell is kept -/
theorem Keeps.cellAt {S : Nat → Prop} {w w' : World} (h : Keeps S w w') {b o : Nat} {v : Value} (hc : w.cell? ⟨b, o, none⟩ = some v) (hb : ¬ S b) : w'.cell? ⟨b, o, none⟩ = some v := by
  have hlt : b < w.heap.size := World.block_lt_of_cell? w _ hc
  rw [World.cell?_of_block (w := w) (w' := w') (a := ⟨b, o, none⟩) (h.block b hlt hb)]; exact hc

end Go.Proofs.YtipadgpgcdjflaaDoor
