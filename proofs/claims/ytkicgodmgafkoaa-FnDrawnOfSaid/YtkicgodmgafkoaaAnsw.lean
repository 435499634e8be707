/- Whether two nodes are answered by each other in some pairs: the program's walk. -/
import Derived.Test.YtkicgodmgafkoaaSame
namespace Go.Proofs.Ytkicgodmgafkoaa
open Go.RowKit

def AllTo (xs : List Nat) (g : Nat → Bool) (k : Nat) : Prop := ∀ j (h : j < xs.length), j < k → g xs[j] = true
theorem AllTo.step {xs : List Nat} {g : Nat → Bool} {k : Nat} (h : AllTo xs g k) (hk : k < xs.length) (e : g xs[k] = true) : AllTo xs g (k + 1) := by
  intro j hj hjk
  by_cases hjk2 : j = k
  · subst hjk2; exact e
  · exact h j hj (by omega)
theorem AllTo.all {xs : List Nat} {g : Nat → Bool} {k : Nat} (h : AllTo xs g k) (hk : ¬ k < xs.length) : xs.all g = true := by
  rw [List.all_eq_true]
  intro x hx
  obtain ⟨j, hj, rfl⟩ := List.getElem_of_mem hx
  exact h j hj (by omega)
theorem all_bad {xs : List Nat} {g : Nat → Bool} {k : Nat} (hk : k < xs.length) (e : g xs[k] = false) : xs.all g = false := by
  rw [Bool.eq_false_iff]; intro h
  rw [List.all_eq_true] at h
  rw [h _ (List.getElem_mem hk)] at e; cases e
/-- rows of one length -/
def Sq (n : Nat) (l : List (List Int)) : Prop := l.length = n ∧ ∀ r ∈ l, r.length = n
theorem Sq.row {n : Nat} {l : List (List Int)} (h : Sq n l) {i : Nat} (hi : i < l.length) : l[i].length = n := h.2 _ (List.getElem_mem hi)
theorem pic_sq {p : List (List Int)} (h : picB p = true) : Sq p.length p := ⟨rfl, fun _ hr => (((picB_iff p).1 h).2.2 _ hr).1⟩
theorem mkR_sq (n : Nat) (f : Nat → Nat → Int) : Sq n (mkR n f) := ⟨mkR_len n f, fun r hr => by obtain ⟨i, hi, rfl⟩ := List.getElem_of_mem hr; exact mkR_rowLen n f i hi⟩
/-- what a read at two indexes wants -/
theorem RowsR.sq2 {w : World} {a : Option Addr} {cap n : Nat} {l : List (List Int)} (h : RowsR w (.slice a l.length cap) l) (hs : Sq n l) {i j : Nat} (hi : i < n) (hj : j < n) :
    ∃ b off g o c, a = some ⟨b, off, none⟩ ∧ w.cell? ⟨b, off + i, none⟩ = some (.slice (some ⟨g, o, none⟩) n c) ∧ w.cell? ⟨g, o + j, none⟩ = some (.int .i64 (ent l i j)) := by
  have hi' : i < l.length := by rw [hs.1]; exact hi
  have hr := hs.row hi'
  obtain ⟨b, off, g, o, c, h1, h2, h3⟩ := h.at2 hi' (by rw [hr]; exact hj)
  exact ⟨b, off, g, o, c, h1, by rw [hr] at h2; exact h2, by rw [ent_in hi' (by rw [hr]; exact hj)]; exact h3⟩

set_option maxHeartbeats 400000 in
theorem answered1_any (bl bx n : Nat) (u : Value) (l : List (List Int)) (x y : Nat) (w : World) (hc : w.cell? ⟨bl, 0, none⟩ = some u) (h : RowsR w u l) (hx : w.cell? ⟨bx, 0, none⟩ = some (.int .i64 (x : Int))) (hs : Sq n l) (hi : x < n) (hj : y < n) :
    Calls Try.prog 85 #[.int .i64 (y : Int), .pointer (some ⟨bl, 0, none⟩), .pointer (some ⟨bx, 0, none⟩)] w fun e w' => e = .returned (.bool (ent l x y == 1)) ∧ Fresh w w' := by
  obtain ⟨a, cap, rfl⟩ := h.len
  obtain ⟨b, off, g, o, c, rfl, h1, h2⟩ := h.sq2 hs hi hj
  have hb := h.bound
  have hl : x < l.length := by rw [hs.1]; exact hi
  obtain ⟨z, hz⟩ : ∃ z, z = ent l x y := ⟨_, rfl⟩
  rw [← hz] at h2 ⊢
  clear hz h hs
  go_enter Try.func85, Try.ntmps85
  go_wp2
  go_ret
  exact ⟨rfl, Fresh.refl _⟩
set_option maxHeartbeats 400000 in
theorem answered2_any (bl bx n : Nat) (u : Value) (l : List (List Int)) (x y : Nat) (w : World) (hc : w.cell? ⟨bl, 0, none⟩ = some u) (h : RowsR w u l) (hx : w.cell? ⟨bx, 0, none⟩ = some (.int .i64 (y : Int))) (hs : Sq n l) (hi : x < n) (hj : y < n) :
    Calls Try.prog 86 #[.int .i64 (x : Int), .pointer (some ⟨bl, 0, none⟩), .pointer (some ⟨bx, 0, none⟩)] w fun e w' => e = .returned (.bool (ent l x y == 1)) ∧ Fresh w w' := by
  obtain ⟨a, cap, rfl⟩ := h.len
  obtain ⟨b, off, g, o, c, rfl, h1, h2⟩ := h.sq2 hs hi hj
  have hb := h.bound
  have hl : x < l.length := by rw [hs.1]; exact hi
  obtain ⟨z, hz⟩ : ∃ z, z = ent l x y := ⟨_, rfl⟩
  rw [← hz] at h2 ⊢
  clear hz h hs
  go_enter Try.func86, Try.ntmps86
  go_wp2
  go_quiet (fail)
  go_wp2
  go_ret
  exact ⟨rfl, (Fresh.refl _).drewN _⟩

theorem any_arrows (p l : List (List Int)) (b x : Nat) : (((arrowsL p b).map Int.ofNat).any fun y => ent l x y.toNat == 1) = (arrowsL p b).any fun y => ent l x y == 1 := by
  rw [List.any_map]; rfl
theorem any_arrowsT (p l : List (List Int)) (a y : Nat) : (((arrowsL p a).map Int.ofNat).any fun x => ent l x.toNat y == 1) = (arrowsL p a).any fun x => ent l x y == 1 := by
  rw [List.any_map]; rfl
theorem answ_no1 {p l : List (List Int)} {a b : Nat} (h : halfB p l a b = false) : answB p l a b = false := by simp [answB, h]
theorem answ_no2 {p l : List (List Int)} {a b : Nat} (h : halfT p l a b = false) : answB p l a b = false := by simp [answB, h]
theorem answ_yes {p l : List (List Int)} {a b : Nat} (h : halfB p l a b = true) (k : halfT p l a b = true) : answB p l a b = true := by simp [answB, h, k]

set_option maxRecDepth 100000 in
set_option maxHeartbeats 1000000 in
theorem answered_any (v u : Value) (p l : List (List Int)) (a b : Nat) (w : World) (h : RowsR w v p) (h' : RowsR w u l) (hp : picB p = true) (hs : Sq p.length l) (ha : a < p.length) (hb : b < p.length) :
    Calls Try.prog 72 #[v, u, .int .i64 (a : Int), .int .i64 (b : Int)] w fun e w' => e = .returned (.bool (answB p l a b)) ∧ Fresh w w' := by
  have hn5 := ((picB_iff p).1 hp).2.1
  have hla : p[a].length ≤ 1048576 := by rw [pic_row hp ha]; omega
  have hlb : p[b].length ≤ 1048576 := by rw [pic_row hp hb]; omega
  obtain ⟨pa, pc, rfl⟩ := h.len
  obtain ⟨ua, uc, rfl⟩ := h'.len
  have hbd := h.bound
  have hbd' := h'.bound
  go_enter Try.func72, Try.ntmps72
  go_wp2_with fail
  have hF0 : Fresh w (w.alloc (Obj.cells #[.slice ua l.length uc] 22)) := (Fresh.refl w).alloc _
  have hbox : (w.alloc (Obj.cells #[.slice ua l.length uc] 22)).cell? ⟨w.heap.size, 0, none⟩ = some (.slice ua l.length uc) := one_new w _ _ 0 _ rfl
  refine (arrowsOf_any _ p a _ (h.fresh hF0) ha hla).mono ?_
  rintro e w1 ⟨r1, rfl, hO1, hF1⟩
  have hbox1 := hF1.cell hbox
  have hF01 := hF0.trans hF1
  obtain ⟨xs, hxs⟩ : ∃ xs, xs = arrowsL p a := ⟨_, rfl⟩
  have hxm : ∀ j (hj : j < xs.length), xs[j] < p.length := by
    intro j hj; subst hxs
    exact ((arrowsL_mem hp ha).1 (List.getElem_mem hj)).1
  have HXM := Lib.hid hxm
  rw [← hxs] at hO1
  have HX := Lib.hid hxs
  obtain ⟨va, vc, rfl⟩ := hO1.ints.len
  have hml : (xs.map Int.ofNat).length = xs.length := List.length_map ..
  have hbx := hO1.ints.bound
  rw [hml] at hbx
  rw [hml] at hO1 ⊢
  have hI1 := hO1.ints
  obtain ⟨g, hg⟩ : ∃ g : Nat → Bool, g = fun x => (arrowsL p b).any fun y => ent l x y == 1 := ⟨_, rfl⟩
  have HG := Lib.hid hg
  clear hxs hml hbox hF0 hF1 hg hxm
  go_wp2
  go_loopw [10, 17] (fun _ i wr => ∃ k : Nat, k ≤ xs.length ∧ i = .int .i64 k ∧ AllTo xs g k ∧ Fresh w1 wr) (fun _ i _ => xs.length - (intOf i).toNat)
  case atStart => exact ⟨0, by omega, rfl, fun j _ h => by omega, Fresh.refl _⟩
  case round =>
    obtain ⟨k, hk, rfl, hA, hF⟩ := hrel
    by_cases hlt : k < xs.length
    · obtain ⟨b2, off2, cap2, heq, hcell⟩ := (hI1.fresh hF).at (k := k) (by rw [List.length_map]; exact hlt)
      rw [List.length_map] at heq
      simp only [Value.slice.injEq, true_and] at heq; obtain ⟨rfl, rfl⟩ := heq
      have hc := hcell k (by rw [List.length_map]; exact hlt)
      rw [List.getElem_map] at hc
      have hxl := HXM.out k hlt
      have HS := Lib.hid (fun e => hA.step hlt e)
      have HN := Lib.hid (fun e => all_bad (g := g) hlt e)
      obtain ⟨x, hx⟩ : ∃ x, x = xs[k] := ⟨_, rfl⟩
      rw [← hx] at hc hxl HS HN
      have hc : wr.cell? ⟨b2, off2 + k, none⟩ = some (.int .i64 (x : Int)) := hc
      have hFa := (Fresh.refl wr).alloc (Obj.cells #[.int .i64 (x : Int)] 3)
      have hboxr := hFa.cell (hF.cell hbox1)
      have hxr : (wr.alloc (Obj.cells #[.int .i64 (x : Int)] 3)).cell? ⟨wr.heap.size, 0, none⟩ = some (.int .i64 (x : Int)) := one_new wr _ _ 0 _ rfl
      have hpr := ((h.fresh hF01).fresh hF).fresh hFa
      have hlr := ((h'.fresh hF01).fresh hF).fresh hFa
      clear hcell hx hA
      go_wp2_with fail
      refine (arrowsOf_any _ p b _ hpr hb hlb).mono ?_
      rintro e w2 ⟨r2, rfl, hO2, hF2⟩
      obtain ⟨zs, hzs⟩ : ∃ zs, zs = (arrowsL p b).map Int.ofNat := ⟨_, rfl⟩
      rw [← hzs] at hO2
      have HZ := Lib.hid hzs
      clear hzs
      obtain ⟨ra, rc, rfl⟩ := hO2.ints.len
      have hFin : Fresh w1 w2 := (hF.trans hFa).trans hF2
      go_wp2_with fail
      refine (containsFunc_any 85 #[.pointer (some ⟨w.heap.size, 0, none⟩), .pointer (some ⟨wr.heap.size, 0, none⟩)] _ _ (fun y => ent l x y.toNat == 1) _ hO2.ints (fun _ _ => rfl) ?_).mono ?_
      · intro z hz w3 hF3
        rw [HZ.out] at hz
        obtain ⟨y, hy, rfl⟩ := List.mem_map.1 hz
        have hyl := ((arrowsL_mem hp hb).1 hy).1
        exact answered1_any w.heap.size wr.heap.size p.length _ l x y w3 (hF3.cell (hF2.cell hboxr)) ((hlr.fresh hF2).fresh hF3) (hF3.cell (hF2.cell hxr)) hs hxl hyl
      rintro e w3 ⟨rfl, hF3⟩
      rw [HZ.out, any_arrows]
      have hgx : ((arrowsL p b).any fun y => ent l x y == 1) = g x := by rw [HG.out]
      rw [hgx]
      have hFin3 := hFin.trans hF3
      clear hgx
      cases hgv : g x
      · have HX2 := Lib.hid (HN.out hgv)
        clear hgv
        go_wp2
        go_ret
        refine ⟨ret_bool (answ_no1 ?_).symm, hF01.trans hFin3⟩
        rw [halfB, ← HX.out, ← HG.out]; exact HX2.out
      · have HX2 := Lib.hid (HS.out hgv)
        clear hgv
        go_wp2
        go_roundw
        case rel => exact ⟨k + 1, hlt, by go_num, HX2.out, hFin3⟩
        case measure => simp [intOf]; omega
    · have HA := Lib.hid (show halfB p l a b = true by rw [halfB, ← HX.out, ← HG.out]; exact hA.all hlt)
      clear hA hI1 hO1 HX HG HXM
      go_wp2_with fail
      refine (arrowsOf_any _ p b _ ((h.fresh hF01).fresh hF) hb hlb).mono ?_
      rintro e w4 ⟨r4, rfl, hO4, hF4⟩
      have hF04 := (hF01.trans hF).trans hF4
      have hbox4 := hF4.cell (hF.cell hbox1)
      obtain ⟨ys, hys⟩ : ∃ ys, ys = arrowsL p b := ⟨_, rfl⟩
      have hym : ∀ j (hj : j < ys.length), ys[j] < p.length := by
        intro j hj; subst hys
        exact ((arrowsL_mem hp hb).1 (List.getElem_mem hj)).1
      have HYM := Lib.hid hym
      rw [← hys] at hO4
      have HY := Lib.hid hys
      obtain ⟨va, vc, rfl⟩ := hO4.ints.len
      have hml : (ys.map Int.ofNat).length = ys.length := List.length_map ..
      have hbx := hO4.ints.bound
      rw [hml] at hbx
      rw [hml] at hO4 ⊢
      have hI4 := hO4.ints
      obtain ⟨g, hg⟩ : ∃ g : Nat → Bool, g = fun y => (arrowsL p a).any fun x => ent l x y == 1 := ⟨_, rfl⟩
      have HG := Lib.hid hg
      clear hys hml hg hym hbox1 hF01 hF hF4 hO4
      go_wp2
      go_loopw [12, 32] (fun _ i wr => ∃ k : Nat, k ≤ ys.length ∧ i = .int .i64 k ∧ AllTo ys g k ∧ Fresh w4 wr) (fun _ i _ => ys.length - (intOf i).toNat)
      case atStart => exact ⟨0, by omega, rfl, fun j _ h => by omega, Fresh.refl _⟩
      case round =>
        clear hk hlt
        obtain ⟨k, hk, rfl, hA2, hF⟩ := hrel
        by_cases hlt : k < ys.length
        · obtain ⟨b2, off2, cap2, heq, hcell⟩ := (hI4.fresh hF).at (k := k) (by rw [List.length_map]; exact hlt)
          rw [List.length_map] at heq
          simp only [Value.slice.injEq, true_and] at heq; obtain ⟨rfl, rfl⟩ := heq
          have hc := hcell k (by rw [List.length_map]; exact hlt)
          rw [List.getElem_map] at hc
          have hyl := HYM.out k hlt
          have HS := Lib.hid (fun e => hA2.step hlt e)
          have HN := Lib.hid (fun e => all_bad (g := g) hlt e)
          obtain ⟨y, hy⟩ : ∃ y, y = ys[k] := ⟨_, rfl⟩
          rw [← hy] at hc hyl HS HN
          have hc : wr.cell? ⟨b2, off2 + k, none⟩ = some (.int .i64 (y : Int)) := hc
          have hFa := (Fresh.refl wr).alloc (Obj.cells #[.int .i64 (y : Int)] 3)
          have hboxr := hFa.cell (hF.cell hbox4)
          have hyr : (wr.alloc (Obj.cells #[.int .i64 (y : Int)] 3)).cell? ⟨wr.heap.size, 0, none⟩ = some (.int .i64 (y : Int)) := one_new wr _ _ 0 _ rfl
          have hpr := ((h.fresh hF04).fresh hF).fresh hFa
          have hlr := ((h'.fresh hF04).fresh hF).fresh hFa
          clear hcell hy hA2
          go_wp2_with fail
          refine (arrowsOf_any _ p a _ hpr ha hla).mono ?_
          rintro e w2 ⟨r2, rfl, hO2, hF2⟩
          obtain ⟨zs, hzs⟩ : ∃ zs, zs = (arrowsL p a).map Int.ofNat := ⟨_, rfl⟩
          rw [← hzs] at hO2
          have HZ := Lib.hid hzs
          clear hzs
          obtain ⟨ra, rc, rfl⟩ := hO2.ints.len
          have hFin : Fresh w4 w2 := (hF.trans hFa).trans hF2
          go_wp2_with fail
          refine (containsFunc_any 86 #[.pointer (some ⟨w.heap.size, 0, none⟩), .pointer (some ⟨wr.heap.size, 0, none⟩)] _ _ (fun x => ent l x.toNat y == 1) _ hO2.ints (fun _ _ => rfl) ?_).mono ?_
          · intro z hz w3 hF3
            rw [HZ.out] at hz
            obtain ⟨x, hx, rfl⟩ := List.mem_map.1 hz
            have hxl := ((arrowsL_mem hp ha).1 hx).1
            exact answered2_any w.heap.size wr.heap.size p.length _ l x y w3 (hF3.cell (hF2.cell hboxr)) ((hlr.fresh hF2).fresh hF3) (hF3.cell (hF2.cell hyr)) hs hxl hyl
          rintro e w3 ⟨rfl, hF3⟩
          rw [HZ.out, any_arrowsT]
          have hgx : ((arrowsL p a).any fun x => ent l x y == 1) = g y := by rw [HG.out]
          rw [hgx]
          have hFin3 := hFin.trans hF3
          clear hgx
          cases hgv : g y
          · have HX2 := Lib.hid (HN.out hgv)
            clear hgv
            go_wp2
            go_ret
            refine ⟨ret_bool (answ_no2 ?_).symm, hF04.trans hFin3⟩
            rw [halfT, ← HY.out, ← HG.out]; exact HX2.out
          · have HX2 := Lib.hid (HS.out hgv)
            clear hgv
            go_wp2
            go_roundw
            case rel => exact ⟨k + 1, hlt, by go_num, HX2.out, hFin3⟩
            case measure => simp [intOf]; omega
        · have HA2 := Lib.hid (show halfT p l a b = true by rw [halfT, ← HY.out, ← HG.out]; exact hA2.all hlt)
          clear hA2 hI4 HY HG HYM
          go_wp2
          go_ret
          exact ⟨ret_bool (answ_yes HA.out HA2.out).symm, hF04.trans hF⟩
end Go.Proofs.Ytkicgodmgafkoaa
