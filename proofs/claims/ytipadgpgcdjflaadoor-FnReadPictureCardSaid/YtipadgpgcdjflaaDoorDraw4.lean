/- Drawn pictures: the drawer, walked. -/
import Derived.Test.YtipadgpgcdjflaaDoorDraw3
namespace Go.Proofs.YtipadgpgcdjflaaDoor
open Go.RowKit

theorem DRows.empty {w : World} {b q nodes : Nat} (hR : Rd w b q) : DRows w b q nodes (.slice (some ⟨w.heap.size, 0, none⟩) 0 0) 0 (w.alloc (Obj.cells #[] 38)) :=
  ⟨[], OwnsR.empty w, rfl, by simp, (hR.fresh ((Fresh.refl w).alloc _)), ((Fresh.refl w).alloc _).keeps _⟩
theorem DRow.form {W wr : World} {b Q nodes : Nat} {u : Value} {j : Nat} (h : DRow W b Q nodes u j wr) : ∃ a c, u = .slice a nodes c := by
  obtain ⟨row, hO, hl, -, -⟩ := h
  obtain ⟨a, c, e⟩ := hO.ints.len
  rw [hl] at e
  exact ⟨a, c, e⟩

/-- the walk's law: a drawn row that is whole -/
theorem wpList_append_drow {ops : Array Oper} {rest : List Oper} {o : Oper} {a : Act} {Q : Exit → Act → World → Prop} (wr wo W : World) (b q nodes k j : Nat) (u v : Value) (t : TypeId) (hw : Region.wanted o (yielded ops a.tmps) = true) (s y : Operand)
    (ho : o.op = .call { callee := .builtin .append, args := #[s, y], argTypes := #[22, 22] })
    (hs : a.eval s = v) (h : DRows W b q nodes v k wo) (h' : DRow wo b (q + 10 * k) nodes u j wr) (hb : b < W.heap.size) (hj : j ≤ 10) (sz : Nat) (hx : a.eval y = .slice (some ⟨sz, 0, none⟩) 1 1) (hsz : sz = wr.heap.size) (hk : k ≤ 1048576)
    (hK : ∀ v' w', DRows W b q nodes v' (k + 1) w' → wpList Tryd.prog ops Q rest (a.put o.dst v') w') : wpList Tryd.prog ops Q (o :: rest) a (wr.alloc (Obj.cells #[u] t)) := by
  subst hsz
  have hF : Fresh wr (wr.alloc (Obj.cells #[u] t)) := (Fresh.refl wr).alloc _
  obtain ⟨rows, hO, hl, hrl, hR, hKp⟩ := h
  obtain ⟨row, hO', hl', hR', hK'⟩ := h'
  have hs0 := hKp.size
  have hs1 := hK'.size
  have hs2 := hF.size
  have hOx := (hO.keeps hK' (fun g h1 h2 e => by omega)).fresh hF
  refine wpList_append_row _ hw s y ho W.heap.size wo.heap.size v rows hs hOx (by omega) ⟨wr.heap.size, 0, none⟩ 1 u row hx (one_new wr _ _ 0 _ rfl) ((hO'.fresh hF).wider hs0 hs2) (fun g hg => (hO'.blk g hg).1) (by omega) ?_
  intro v' w' hO2 hKk
  have hR2 := ((hR'.fresh hF).on hKk (fun i hi e => by have := (hO.blk i e).1; omega)).mono (q' := q + 10 * (k + 1)) (by omega)
  refine hK v' w' ⟨rows ++ [row], hO2, by simp [hl], ?_, hR2, (((hKp.trans hK').fresh hF).on hKk (fun i hi e => by have := (hO.blk i e).1; omega))⟩
  intro r hr
  rcases List.mem_append.1 hr with h1 | h1
  · exact hrl r h1
  · simp at h1; rw [h1]; exact hl'

set_option maxRecDepth 100000 in
set_option maxHeartbeats 2000000 in
theorem l20Picture_any (b q : Nat) (n : Int) (w : World) (h : Rd w b q) (hq : q ≤ 90000) (hn : n ≤ 1000000) :
    Calls Tryd.prog 28 #[.pointer (some ⟨b, 0, none⟩), .int .i64 n] w fun e w' => PicPost b q w e w' := by
  obtain ⟨i0, hi, hz0, hz1, hz2⟩ := info_parts info_int
  have hblt := h.lt
  go_enter Tryd.func28, Tryd.ntmps28
  go_wp2_with fail
  refine (pick_any b q _ _ h (by omega) (by omega)).mono ?_
  rintro e w1 ⟨x1, rfl, P1, R1, K1⟩
  obtain ⟨x, rfl⟩ := Int.eq_ofNat_of_zero_le P1.1
  have hx : x < 5 := by have := P1.2.1 (by omega); omega
  obtain ⟨nodes, hnodes⟩ : ∃ m : Nat, m = 1 + x := ⟨_, rfl⟩
  have hno : (1 : Int) + (x : Int) = (nodes : Int) := by omega
  have hn1 : 1 ≤ nodes := by omega
  have hn5 : nodes ≤ 5 := by omega
  have hby : i0.bytes * nodes ≤ 281474976710656 := by rw [hz2]; omega
  have HNO := Lib.hid hno
  clear hz2 P1 h hno hnodes
  go_wp2_with fail
  rw [HNO.out]
  clear HNO hx
  have hs1 := K1.size
  refine (pick_any b _ _ _ (R1.fresh ((Fresh.refl w1).alloc (Obj.cells #[] 38))) (by omega) (by omega)).mono ?_
  rintro e w2 ⟨kind, rfl, P2, R2, K2⟩
  have hkd0 : 0 ≤ kind := P2.1
  have HD : DRows w b (q + 2) nodes (.slice (some ⟨w1.heap.size, 0, none⟩) 0 0) 0 w2 :=
    ⟨[], ((OwnsR.empty w1).keeps K2 (fun g h1 h2 e => by omega)).wider K1.size K2.size, rfl, by simp, R2, (K1.alloc _).trans K2⟩
  clear K1 K2 R1 R2 P2
  go_wp2
  go_loopw [6, 8] (fun v i wr => ∃ k : Nat, k ≤ nodes ∧ i = .int .i64 k ∧ DRows w b (q + 2) nodes v k wr) (fun _ i _ => nodes - (intOf i).toNat)
  case atStart => exact ⟨0, by omega, rfl, HD⟩
  case round =>
    clear HD
    obtain ⟨k, hk, rfl, hD⟩ := hrel
    obtain ⟨wo, rfl⟩ : ∃ wo : World, wo = wr := ⟨_, rfl⟩
    by_cases hlt : k < nodes
    · have hdk : decide ((k : Int) < nodes) = true := decide_eq_true (by omega)
      have hRk : Rd wo b (q + 2 + 10 * k) := by obtain ⟨rows, _, _, _, hR, _⟩ := hD; exact hR
      have hblt2 := hRk.lt
      go_wp2_with (at_make; refine wpList_make_full _ rfl _ _ 38 rfl wo.heap.size 3 i0 (.int .i64 0) 1 Tryd.underlying38 hi hz0 hz1 .i64 .i64 _ _ nodes rfl rfl rfl rfl hby ?c2 ?c3 ?_)
      case c2 => unfold maxLen; omega
      case c3 => exact Nat.le_refl _
      intro w3 hown hgr
      have hF3 : Fresh wo w3 := (Fresh.refl wo).grown hgr (fun k hk => by cases hk)
      have hDr := DRow.made (b := b) (Owns.madeAt hown) hRk hF3
      have HD := Lib.hid hD
      clear hown hgr hF3 hRk hD
      go_wp2
      go_loopw [10] (fun j wr2 => ∃ m : Nat, m ≤ nodes ∧ j = .int .i64 m ∧ DRow wo b (q + 2 + 10 * k) nodes (.slice (some ⟨wo.heap.size, 0, none⟩) nodes nodes) m wr2) (fun j _ => nodes - (intOf j).toNat)
      case atStart => exact ⟨0, by omega, rfl, hDr⟩
      case round =>
        clear hDr
        obtain ⟨m, hm, rfl, hR⟩ := hrel
        by_cases hml : m < nodes
        · by_cases h0 : kind = 0
          · subst h0
            by_cases hkm : k < m
            · have tok := trivial
              go_wp2_with fail
              refine (pick_any b _ _ _ hR.rd (by omega) (by omega)).mono ?_
              rintro e w4 ⟨y, rfl, P4, R4, K4⟩
              have hR4 := hR.pick hblt2 R4 K4
              obtain ⟨g, cap, z, heq, hc1, hfz, hst⟩ := hR4.store hblt2 hml
              simp only [Value.slice.injEq, Option.some.injEq, Addr.mk.injEq, true_and, and_true] at heq
              obtain ⟨rfl, rfl⟩ := heq
              have hy0 := P4.1
              have HST := Lib.hid hst
              clear hst P4 R4 K4 hR hR4
              go_wp2
              go_roundw
              case rel => exact ⟨m + 1, hml, by go_num, HST.out _⟩
              case measure => simp [intOf]; omega
            · have tok := trivial
              have hR4 := hR.mono (Nat.le_succ m)
              clear hR
              go_wp2
              go_roundw
              case rel => exact ⟨m + 1, hml, by go_num, hR4⟩
              case measure => simp [intOf]; omega
          · have h1 : 0 < kind := by omega
            have hb0 : (kind == 0) = false := beq_eq_false_iff_ne.2 h0
            clear h0
            go_wp2_with fail
            refine (pick_any b _ _ _ hR.rd (by omega) (by omega)).mono ?_
            rintro e w4 ⟨y, rfl, P4, R4, K4⟩
            have hR4 := hR.pick hblt2 R4 K4
            obtain ⟨g, cap, z, heq, hc1, hfz, hst⟩ := hR4.store hblt2 hml
            simp only [Value.slice.injEq, Option.some.injEq, Addr.mk.injEq, true_and, and_true] at heq
            obtain ⟨rfl, rfl⟩ := heq
            have hy0 := P4.1
            have HST := Lib.hid hst
            clear hst P4 R4 K4 hR hR4
            go_wp2
            go_roundw
            case rel => exact ⟨m + 1, hml, by go_num, HST.out _⟩
            case measure => simp [intOf]; omega
        · rw [show m = nodes by omega] at hR
          by_cases hk1 : k + 1 < nodes
          · go_wp2_with fail
            refine (pick_any b _ _ _ hR.rd (by omega) (by omega)).mono ?_
            rintro e w4 ⟨y, rfl, P4, R4, K4⟩
            have hR4 := hR.pick hblt2 R4 K4
            clear P4 R4 K4 hR
            by_cases hy : 0 < y
            · obtain ⟨g, cap, z, heq, hc1, hfz, hst⟩ := hR4.store hblt2 hk1
              simp only [Value.slice.injEq, Option.some.injEq, Addr.mk.injEq, true_and, and_true] at heq
              obtain ⟨rfl, rfl⟩ := heq
              have hR5 := hst 1
              clear hst hR4
              go_wp2_with (at_builtin; refine wpList_append_drow _ wo w b (q + 2) nodes k (nodes + 1) _ _ _ rfl _ _ rfl rfl HD.out hR5 hblt (by omega) _ rfl (by first | rfl | simp [World.setCell]) (by omega) ?_)
              intro v' w6 hD6
              clear hR5
              go_wp2
              go_roundw
              case rel => exact ⟨k + 1, hlt, by go_num, hD6⟩
              case measure => simp [intOf]; omega
            · go_wp2_with (at_builtin; refine wpList_append_drow _ wo w b (q + 2) nodes k (nodes + 1) _ _ _ rfl _ _ rfl rfl HD.out hR4 hblt (by omega) _ rfl (by first | rfl | simp [World.setCell]) (by omega) ?_)
              intro v' w6 hD6
              clear hR4
              go_wp2
              go_roundw
              case rel => exact ⟨k + 1, hlt, by go_num, hD6⟩
              case measure => simp [intOf]; omega
          · go_wp2_with (at_builtin; refine wpList_append_drow _ wo w b (q + 2) nodes k nodes _ _ _ rfl _ _ rfl rfl HD.out hR hblt (by omega) _ rfl (by first | rfl | simp [World.setCell]) (by omega) ?_)
            intro v' w6 hD6
            clear hR
            go_wp2
            go_roundw
            case rel => exact ⟨k + 1, hlt, by go_num, hD6⟩
            case measure => simp [intOf]; omega
    · rw [show k = nodes by omega] at hD
      obtain ⟨rows, hO, hl, hrl, hR, hKp⟩ := hD
      have hr5 : rows.length ≤ 5 := by omega
      have hr1 : 0 < rows.length := by omega
      have HL := Lib.hid hl
      have HRL := Lib.hid hrl
      clear hl hrl
      go_wp2_with fail
      refine (odd_any b _ n _ hR (by omega) (by omega)).mono ?_
      rintro e w4 ⟨r, rfl, R4, K4⟩
      have hO4 := (hO.keeps K4 (fun g h1 h2 e => by omega)).wider (Nat.le_refl _) K4.size
      have hK4 := hKp.trans K4
      clear hO hR hKp K4
      cases r
      · go_wp2
        go_ret
        exact ⟨_, rows, rfl, hO4, hr5, fun r hr => by have := HRL.out r hr; omega, R4.mono (by omega), hK4⟩
      · go_wp2_with fail
        refine (pick_any b _ _ _ R4 (by omega) (by omega)).mono ?_
        rintro e w5 ⟨y, rfl, P5, R5, K5⟩
        have hO5 := (hO4.keeps K5 (fun g h1 h2 e => by omega)).wider (Nat.le_refl _) K5.size
        have hK5 := hK4.trans K5
        have hy0 := P5.1
        have hy3 := P5.2.1 (by omega)
        clear hO4 R4 K5 hK4 P5
        have hy : y = 0 ∨ y = 1 ∨ y = 2 := by omega
        rcases hy with rfl | rfl | rfl
        · have hs5 := hK5.size
          go_wp2
          go_ret
          exact ⟨_, [], rfl, (OwnsR.empty w5).wider hs5 (Nat.le_refl _), by simp, by simp, (R5.fresh ((Fresh.refl w5).alloc _)).mono (by omega), hK5.alloc _⟩
        · obtain ⟨g, cap, rfl, hg1, hg2, hg3⟩ := hO5.form (by omega)
          have hr0 := hr1
          have hrl0 : 0 < rows[0].length := by rw [HRL.out rows[0] (List.getElem_mem hr0)]; omega
          have hrl5 : rows[0].length ≤ 5 := by rw [HRL.out rows[0] (List.getElem_mem hr0)]; omega
          obtain ⟨r, c, hc1, hc2, hfz, hr1, hr2, hr3, hst⟩ := hO5.store2 rfl (i := 0) (j := 0) hr0 hrl0
          obtain ⟨hO6, hK6⟩ := hst 2
          have HF := Lib.hid (show PicPost b q w (.returned (.slice (some ⟨g, 0, none⟩) rows.length cap)) (w5.setCell ⟨r, 0, none⟩ (.int .i64 2)) from
            ⟨_, _, rfl, by simpa [World.setCell] using hO6, by simpa using hr5, fun x hx => by
              rcases List.mem_or_eq_of_mem_set hx with h1 | h1
              · have := HRL.out x h1; omega
              · rw [h1, List.length_set, HRL.out rows[0] (List.getElem_mem hr0)]; omega, (R5.on hK6 (fun k hk e => by omega)).mono (by omega), hK5.setNew (by show w.heap.size ≤ r; omega) _⟩)
          clear hst hO6 hK6 hO5 R5 hK5
          go_wp2
          go_ret
          exact HF.out
        · obtain ⟨g, cap, rfl, hg1, hg2, hg3⟩ := hO5.form (by omega)
          have hr0 := hr1
          have hrl0 : 0 < rows[0].length := by rw [HRL.out rows[0] (List.getElem_mem hr0)]; omega
          have hrl5 : rows[0].length ≤ 5 := by rw [HRL.out rows[0] (List.getElem_mem hr0)]; omega
          obtain ⟨u, hc, hu, -⟩ := hO5.rowOwn rfl (i := 0) hr0
          have hO6 := hO5.fresh ((Fresh.refl w5).alloc (Obj.cells #[.int .i64 0] 3))
          have hu6 := hu.fresh ((Fresh.refl w5).alloc (Obj.cells #[.int .i64 0] 3))
          obtain ⟨ug, ucap, rfl, -⟩ := hu.form (by omega)
          have hc6 := ((Fresh.refl w5).alloc (Obj.cells #[.int .i64 0] 3)).cell hc
          have hs5 := hK5.size
          have hnn : (Value.slice (some ⟨ug, 0, none⟩) rows[0].length ucap) ≠ .slice none 0 0 := by simp
          go_wp2_with (at_builtin; refine wpList_append_keep _ rfl _ _ rfl w.heap.size _ _ rows[0] rfl hu6 (by simp; omega) ⟨w5.heap.size, 0, none⟩ 1 0 rfl (one_new w5 _ _ 0 _ rfl) hnn (by omega) ?_)
          intro v' w7 hO7 hb7 hK7
          have hle : w5.heap.size ≤ w7.heap.size := by have := hK7.size; simp at this; omega
          obtain ⟨f1, ⟨y, f2⟩, f3, f4⟩ := hO6.resetRow rfl hr0 hc6 hO7 (fun k hk => by have := hb7 k hk; simpa using this) hK7 hle
          obtain ⟨va, vc, rfl⟩ := hO7.ints.len
          have hge : ∀ k, (Value.slice (some ⟨ug, 0, none⟩) rows[0].length ucap).ownBlock = some k → w.heap.size ≤ k := fun k hk => (hu.blk k hk).1
          have hR7 := ((R5.fresh ((Fresh.refl w5).alloc (Obj.cells #[.int .i64 0] 3))).on hK7 (fun k hk e => by have := hge k e; omega)).on f4 (fun k hk e => by omega)
          have hK9 := ((hK5.alloc (Obj.cells #[.int .i64 0] 3)).on hK7 (fun k hk e => by have := hge k e; omega)).on f4 (fun k hk e => by omega)
          have hzl : (rows[0] ++ [(0 : Int)]).length ≤ 6 := by rw [List.length_append, HRL.out rows[0] (List.getElem_mem hr0)]; simp; omega
          obtain ⟨zs, hzs⟩ : ∃ zs, zs = rows[0] ++ [(0 : Int)] := ⟨_, rfl⟩
          rw [← hzs] at f3 f4 hR7 hK9 hzl hO7
          have HP := Lib.hid (show PicPost b q w (.returned (.slice (some ⟨g, 0, none⟩) rows.length cap)) (w7.setCell ⟨g, 0, none⟩ (.slice va zs.length vc)) from
            ⟨_, _, rfl, by simpa [World.setCell] using f3, by simpa using hr5, fun x hx => by
              rcases List.mem_or_eq_of_mem_set hx with h1 | h1
              · have := HRL.out x h1; omega
              · rw [h1]; exact hzl, hR7.mono (by omega), hK9⟩)
          rw [show zs.length = rows[0].length + 1 by rw [hzs]; simp] at HP
          clear f3 f4 hR7 hK9 hO7 hb7 hK7 hge hO6 hO5 hu hu6 R5 hK5 hzs hzl
          go_wp2
          go_ret
          exact HP.out
end Go.Proofs.YtipadgpgcdjflaaDoor
