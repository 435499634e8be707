/- The reference's rounds: walks. -/
import Derived.Test.YtkicgodmgafkoaaLeft
namespace Go.Proofs.Ytkicgodmgafkoaa
open Go.RowKit

/-- a row written up to a place -/
def rowTo (f : Nat → Nat → Int) (i j : Nat) : List Int := (List.range j).map (f i)
theorem rowTo_step (f : Nat → Nat → Int) (i j : Nat) : rowTo f i (j + 1) = rowTo f i j ++ [f i j] := by simp [rowTo, List.range_succ]
theorem rowTo_len (f : Nat → Nat → Int) (i j : Nat) : (rowTo f i j).length = j := by simp [rowTo]
/-- rows written up to a row -/
def partR (n : Nat) (f : Nat → Nat → Int) (k : Nat) : List (List Int) := (List.range k).map fun i => rowTo f i n
theorem partR_step (n : Nat) (f : Nat → Nat → Int) (k : Nat) : partR n f (k + 1) = partR n f k ++ [rowTo f k n] := by simp [partR, List.range_succ]
theorem partR_full (n : Nat) (f : Nat → Nat → Int) : partR n f n = mkR n f := rfl
theorem partR_len (n : Nat) (f : Nat → Nat → Int) (k : Nat) : (partR n f k).length = k := by simp [partR]

/-- a loop that writes rows: its state ahead of a row -/
def RowsAt (W : World) (n : Nat) (f : Nat → Nat → Int) (k : Nat) (v : Value) (wr : World) : Prop := OwnsR W.heap.size wr.heap.size wr v (partR n f k) ∧ Fresh W wr
/-- .. and within it -/
def RowAt (wo : World) (f : Nat → Nat → Int) (k j : Nat) (u : Value) (wr : World) : Prop := Owns wo.heap.size wr.heap.size wr u (rowTo f k j) ∧ Fresh wo wr
theorem RowsAt.empty (w : World) (n : Nat) (f : Nat → Nat → Int) : RowsAt w n f 0 (.slice (some ⟨w.heap.size, 0, none⟩) 0 0) (w.alloc (Obj.cells #[] 24)) := ⟨OwnsR.empty w, (Fresh.refl w).alloc _⟩
theorem RowAt.empty (w : World) (f : Nat → Nat → Int) (k : Nat) : RowAt w f k 0 (.slice (some ⟨w.heap.size, 0, none⟩) 0 0) (w.alloc (Obj.cells #[] 3)) := ⟨Owns.empty w, (Fresh.refl w).alloc _⟩
theorem RowAt.fresh {wo w w' : World} {f : Nat → Nat → Int} {k j : Nat} {u : Value} (h : RowAt wo f k j u w) (hF : Fresh w w') : RowAt wo f k j u w' := ⟨(h.1.fresh hF).wider (Nat.le_refl _) hF.size, h.2.trans hF⟩
theorem RowAt.form {wo w : World} {f : Nat → Nat → Int} {k j : Nat} {u : Value} (h : RowAt wo f k j u w) : ∃ a c, u = .slice a j c := by
  obtain ⟨a, c, e⟩ := h.1.ints.len
  rw [rowTo_len] at e
  exact ⟨a, c, e⟩
theorem RowsAt.fresh {W w w' : World} {n : Nat} {f : Nat → Nat → Int} {k : Nat} {u : Value} (h : RowsAt W n f k u w) (hF : Fresh w w') : RowsAt W n f k u w' := ⟨(h.1.fresh hF).wider (Nat.le_refl _) hF.size, h.2.trans hF⟩

theorem RowsAt.rowsR {W w : World} {n : Nat} {f : Nat → Nat → Int} {v : Value} {rows : List (List Int)} (h : RowsAt W n f n v w) (e : mkR n f = rows) : RowsR w v rows := by
  rw [← e, ← partR_full]; exact h.1.rows
/-- the walk's law: the next number of a row -/
theorem wpList_append_at {ops : Array Oper} {rest : List Oper} {o : Oper} {a : Act} {Q : Exit → Act → World → Prop} (wr wo : World) (f : Nat → Nat → Int) (k j : Nat) (x : Int) (t : TypeId) (hw : Region.wanted o (yielded ops a.tmps) = true) (s y : Operand)
    (ho : o.op = .call { callee := .builtin .append, args := #[s, y], argTypes := #[24, 24] })
    (u : Value) (hs : a.eval s = u) (h : RowAt wo f k j u wr) (hx : a.eval y = .slice (some ⟨wr.heap.size, 0, none⟩) 1 1) (hf : f k j = x) (hj : j ≤ 1048576)
    (hK : ∀ u' w', RowAt wo f k (j + 1) u' w' → wpList Try.prog ops Q rest (a.put o.dst u') w') : wpList Try.prog ops Q (o :: rest) a (wr.alloc (Obj.cells #[.int .i64 x] t)) := by
  have hF : Fresh wr (wr.alloc (Obj.cells #[.int .i64 x] t)) := (Fresh.refl wr).alloc _
  have h2 := h.fresh hF
  refine wpList_append_ints _ hw s y ho wo.heap.size _ u (rowTo f k j) hs h2.1 ?_ _ [x] hx (Src.one wr x t) ?_ ?_
  · exact h2.2.size
  · rw [rowTo_len]; simp; omega
  · intro v' w' hO hKk
    refine hK v' w' ⟨by rw [rowTo_step, hf]; exact hO, h2.2.keepsTrans hKk (fun i hi => hi)⟩

/-- the walk's law: a row that is whole -/
theorem wpList_append_rowAt {ops : Array Oper} {rest : List Oper} {o : Oper} {a : Act} {Q : Exit → Act → World → Prop} (wr wo W : World) (n : Nat) (f : Nat → Nat → Int) (k : Nat) (u v : Value) (t : TypeId) (hw : Region.wanted o (yielded ops a.tmps) = true) (s y : Operand)
    (ho : o.op = .call { callee := .builtin .append, args := #[s, y], argTypes := #[22, 22] })
    (hs : a.eval s = v) (h : RowsAt W n f k v wo) (h' : RowAt wo f k n u wr) (sz : Nat) (hx : a.eval y = .slice (some ⟨sz, 0, none⟩) 1 1) (hsz : sz = wr.heap.size) (hk : k ≤ 1048576)
    (hK : ∀ v' w', RowsAt W n f (k + 1) v' w' → wpList Try.prog ops Q rest (a.put o.dst v') w') : wpList Try.prog ops Q (o :: rest) a (wr.alloc (Obj.cells #[u] t)) := by
  subst hsz
  have hF : Fresh wr (wr.alloc (Obj.cells #[u] t)) := (Fresh.refl wr).alloc _
  have hs0 := h.2.size
  have hs1 := h'.2.size
  have hs2 := hF.size
  refine wpList_append_row _ hw s y ho W.heap.size wo.heap.size v (partR n f k) hs (h.1.fresh (h'.2.trans hF)) (by omega) ⟨wr.heap.size, 0, none⟩ 1 u (rowTo f k n) hx (one_new wr _ _ 0 _ rfl) ((h'.1.fresh hF).wider hs0 hs2) (fun g hg => (h'.1.blk g hg).1) (by rw [partR_len]; omega) ?_
  intro v' w' hO hKk
  exact hK v' w' ⟨by rw [partR_step]; exact hO, ((h.2.trans h'.2).trans hF).keepsTrans hKk (fun i hi => (h.1.blk i hi).1)⟩

set_option maxHeartbeats 400000 in
theorem l3Start_any (n : Nat) (hn : n ≤ 5) (w : World) :
    Calls Try.prog 87 #[.int .i64 (n : Int)] w fun e w' => ∃ r, e = .returned r ∧ OwnsR w.heap.size w'.heap.size w' r (mkR n fun _ _ => 1) ∧ Fresh w w' := by
  obtain ⟨f, hf⟩ : ∃ f : Nat → Nat → Int, f = fun _ _ => 1 := ⟨_, rfl⟩
  rw [← hf]
  have HF := Lib.hid (fun i j => congrFun (congrFun hf i) j)
  clear hf
  have HE := Lib.hid (RowsAt.empty w n f)
  go_enter Try.func87, Try.ntmps87
  go_wp2
  go_loopw [3, 4] (fun v i wr => ∃ k : Nat, k ≤ n ∧ i = .int .i64 k ∧ RowsAt w n f k v wr) (fun _ i _ => n - (intOf i).toNat)
  case atStart => exact ⟨0, by omega, rfl, HE.out⟩
  case round =>
    obtain ⟨k, hk, rfl, hO⟩ := hrel
    obtain ⟨wo, rfl⟩ : ∃ wo : World, wo = wr := ⟨_, rfl⟩
    by_cases hlt : k < n
    · have hdk : decide ((k : Int) < n) = true := decide_eq_true (by omega)
      have HR := Lib.hid (RowAt.empty wo f k)
      go_wp2
      go_loopw [5, 6] (fun u i wr => ∃ j : Nat, j ≤ n ∧ i = .int .i64 j ∧ RowAt wo f k j u wr) (fun _ i _ => n - (intOf i).toNat)
      case atStart => exact ⟨0, by omega, rfl, HR.out⟩
      case round =>
        clear HR
        obtain ⟨j, hj, rfl, hR⟩ := hrel
        by_cases hjl : j < n
        · have hfx := HF.out k j
          have HFX := Lib.hid hfx
          clear hfx
          go_wp2_with (at_builtin; refine wpList_append_at _ wo f k j 1 _ rfl _ _ rfl _ rfl hR rfl HFX.out (by omega) ?_)
          intro u' w2 hR2
          clear hR
          go_wp2
          go_roundw
          case rel => exact ⟨j + 1, hjl, by go_num, hR2⟩
          case measure => simp [intOf]; omega
        · rw [show j = n by omega] at hR
          obtain ⟨ua, uc, rfl⟩ := hR.form
          go_wp2_with (at_builtin; refine wpList_append_rowAt _ wo w _ f k _ _ _ rfl _ _ rfl rfl hO hR _ rfl (by first | rfl | simp [World.setCell]) (by omega) ?_)
          intro v' w2 hO2
          clear hO hR
          go_wp2
          go_roundw
          case rel => exact ⟨k + 1, hlt, by go_num, hO2⟩
          case measure => simp [intOf]; omega
    · rw [show k = n by omega] at hO
      go_wp2
      go_ret
      exact ⟨_, rfl, by rw [← partR_full]; exact hO.1, hO.2⟩

/-- some place below j -/
def anyTo (h : Nat → Bool) (j : Nat) : Bool := (List.range j).any h
theorem anyTo_zero (h : Nat → Bool) : anyTo h 0 = false := rfl
theorem anyTo_step (h : Nat → Bool) (j : Nat) : anyTo h (j + 1) = (anyTo h j || h j) := by simp [anyTo, List.range_succ]
/-- all places below k -/
def allTo (g : Nat → Bool) (k : Nat) : Prop := ∀ i, i < k → g i = true
theorem allTo.step {g : Nat → Bool} {k : Nat} (h : allTo g k) (e : g k = true) : allTo g (k + 1) := by
  intro i hi
  by_cases hik : i = k
  · subst hik; exact e
  · exact h i (by omega)
theorem allTo.all {g : Nat → Bool} {k n : Nat} (h : allTo g k) (hk : ¬ k < n) : (List.range n).all g = true := by
  rw [List.all_eq_true]; intro i hi; exact h i (by have := List.mem_range.1 hi; omega)
theorem range_bad {g : Nat → Bool} {k n : Nat} (hk : k < n) (e : g k = false) : (List.range n).all g = false := by
  rw [Bool.eq_false_iff]; intro h
  rw [List.all_eq_true] at h
  rw [h k (List.mem_range.2 hk)] at e; cases e

set_option maxHeartbeats 1000000 in
theorem l3Matched_any (v u : Value) (p l : List (List Int)) (a b : Nat) (w : World) (h : RowsR w v p) (h' : RowsR w u l) (hp : picB p = true) (hs : Sq p.length l) (ha : a < p.length) (hb : b < p.length) :
    Calls Try.prog 102 #[v, u, .int .i64 (a : Int), .int .i64 (b : Int)] w fun e w' => e = .returned (.bool (matchB p l a b)) ∧ w = w' := by
  have hn5 := ((picB_iff p).1 hp).2.1
  have hsp := pic_sq hp
  obtain ⟨pa, pc, rfl⟩ := h.len
  obtain ⟨ua, uc, rfl⟩ := h'.len
  have HL := Lib.hid hs.1
  obtain ⟨m, hm⟩ : ∃ m : Nat → Nat → Bool, m = fun k j => ent p b j == 1 && ent l k j == 1 := ⟨_, rfl⟩
  obtain ⟨g, hg⟩ : ∃ g : Nat → Bool, g = fun k => ent p a k == 0 || (List.range p.length).any (m k) := ⟨_, rfl⟩
  have HM := Lib.hid (fun k j => congrFun (congrFun hm k) j)
  have HG := Lib.hid (fun k => congrFun hg k)
  have HR := Lib.hid (show matchB p l a b = (List.range p.length).all g by rw [hg, hm]; rfl)
  clear hm hg
  go_enter Try.func102, Try.ntmps102
  go_wp2
  go_loop [9, 10, 11] (fun i _ _ => ∃ k : Nat, k ≤ p.length ∧ i = .int .i64 k ∧ allTo g k) (fun i _ _ => p.length - (intOf i).toNat)
  case atStart => exact ⟨0, by omega, rfl, fun i hi => by omega⟩
  case round =>
    obtain ⟨k, hk, rfl, hA⟩ := hrel
    by_cases hlt : k < p.length
    · have hdk : decide ((k : Int) < p.length) = true := decide_eq_true (by omega)
      obtain ⟨b1, o1, g1, q1, c1, rfl, hc1, hc2⟩ := h.sq2 hsp ha hlt
      have HS := Lib.hid (fun e => hA.step e)
      have HN := Lib.hid (fun e => range_bad (g := g) hlt e)
      have hgk := HG.out k
      have hbit := pic_bit hp ha hlt
      obtain ⟨z, hz⟩ : ∃ z, z = ent p a k := ⟨_, rfl⟩
      rw [← hz] at hc2 hgk hbit
      clear hz hA
      rcases hbit with rfl | rfl
      · have HX := Lib.hid (HS.out (by rw [hgk]; rfl))
        clear hgk
        go_wp2
        go_round
        case rel => exact ⟨k + 1, hlt, by go_num, HX.out⟩
        case measure => simp [intOf]; omega
      · have HGK := Lib.hid (show g k = anyTo (m k) p.length by rw [hgk]; rfl)
        clear hgk
        go_wp2
        go_loop [10, 11] (fun f i => ∃ j : Nat, j ≤ p.length ∧ i = .int .i64 j ∧ f = .bool (anyTo (m k) j)) (fun _ i => p.length - (intOf i).toNat)
        case atStart => exact ⟨0, by omega, rfl, by rw [anyTo_zero]⟩
        case round =>
          clear hc2
          obtain ⟨j, hj, rfl, rfl⟩ := hrel
          by_cases hjl : j < p.length
          · have hmk := HM.out k j
            have HST := Lib.hid (anyTo_step (m k) j)
            obtain ⟨f, hf⟩ : ∃ f, f = anyTo (m k) j := ⟨_, rfl⟩
            rw [← hf] at HST ⊢
            clear hf
            cases f
            · obtain ⟨b2, o2, g2, q2, c2, heq, hc3, hc4⟩ := h.sq2 hsp hb hjl
              simp only [Option.some.injEq, Addr.mk.injEq, and_true] at heq
              obtain ⟨rfl, rfl⟩ := heq
              have hbit := pic_bit hp hb hjl
              obtain ⟨z, hz⟩ : ∃ z, z = ent p b j := ⟨_, rfl⟩
              rw [← hz] at hc4 hmk hbit
              clear hz
              rcases hbit with rfl | rfl
              · have HX := Lib.hid (show anyTo (m k) (j + 1) = false by rw [HST.out, hmk]; rfl)
                clear hmk
                go_wp2
                go_round
                case rel => exact ⟨j + 1, hjl, by go_num, by rw [HX.out]⟩
                case measure => simp [intOf]; omega
              · obtain ⟨b3, o3, g3, q3, c3, heq, hc5, hc6⟩ := h'.sq2 hs hlt hjl
                subst heq
                have hkl : k < l.length := by rw [HL.out]; exact hlt
                obtain ⟨y, hy⟩ : ∃ y, y = ent l k j := ⟨_, rfl⟩
                rw [← hy] at hc6 hmk
                clear hy
                have HX := Lib.hid (show anyTo (m k) (j + 1) = (y == 1) by rw [HST.out, hmk]; rfl)
                clear hmk
                go_wp2
                go_round
                case rel => exact ⟨j + 1, hjl, by go_num, by rw [HX.out]⟩
                case measure => simp [intOf]; omega
            · have HX := Lib.hid (show anyTo (m k) (j + 1) = true by rw [HST.out]; rfl)
              clear hmk
              go_wp2
              go_round
              case rel => exact ⟨j + 1, hjl, by go_num, by rw [HX.out]⟩
              case measure => simp [intOf]; omega
          · have hjn : j = p.length := by omega
            rw [hjn, ← HGK.out]
            clear hjn
            cases hgv : g k
            · have HX := Lib.hid (HN.out hgv)
              clear hgv
              go_wp2
              go_ret
              exact ⟨ret_bool (by rw [HR.out, HX.out]), rfl⟩
            · have HX := Lib.hid (HS.out hgv)
              clear hgv
              go_wp2
              go_round
              case rel => exact ⟨k + 1, hlt, by go_num, HX.out⟩
              case measure => simp [intOf]; omega
    · have HX := Lib.hid (hA.all hlt)
      go_wp2
      go_ret
      exact ⟨ret_bool (by rw [HR.out, HX.out]), rfl⟩
end Go.Proofs.Ytkicgodmgafkoaa
