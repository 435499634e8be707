/- The laws FnExactCodeAt, FnCodeAt and FnSameAt, walked: they answer true. -/
import Derived.Test.YtkicgodmgafkoaaLawsQ2
import Derived.Test.YtkicgodmgafkoaaCodeW
import Derived.Test.YtkicgodmgafkoaaFrameR
import Derived.Test.YtkicgodmgafkoaaSameI
import Derived.Test.YtkicgodmgafkoaaCodes4
namespace Go.Proofs.Ytkicgodmgafkoaa
open Go.RowKit

/-- the two fields that CodeAt answers -/
theorem CodeAtPost.out {o : Option Nat} {w w' : World} {e : Ending} (h : CodeAtPost o w e w') : Fresh w w' ∧ e = .returned (.tuple #[.int .i64 (codeV o), .bool o.isSome]) := by
  obtain ⟨hF, he⟩ := h
  refine ⟨hF, ?_⟩
  cases o with
  | none => exact he
  | some s => exact he

theorem codeI_someI {p : List (List Int)} {a : Int} {s : Nat} (h : codeI p a = some s) : nodeB p a = true ∧ backB p a.toNat = false ∧ codeL p a.toNat = some s := by
  unfold codeI at h
  by_cases hc : (nodeB p a && !backB p a.toNat) = true
  · rw [if_pos hc] at h
    simp only [Bool.and_eq_true, Bool.not_eq_true'] at hc
    exact ⟨hc.1, hc.2, h⟩
  · rw [if_neg hc] at h; cases h
set_option maxHeartbeats 1000000 in
theorem fnExactCodeAt_walk (w : World) (v : Value) (p : List (List Int)) (h : RowsR w v p) (_ : WfRows p) (m : Int) (_ : -9223372036854775808 ≤ m ∧ m ≤ 9223372036854775807) :
    Calls Try.prog 7 #[v, .int .i64 m] w fun e w' => e = .returned (.bool true) ∧ Fresh w w' := by
  go_enter Try.func7, Try.ntmps7
  go_wp2_with fail
  refine (szIntSS_any v p 1048576 _ h (by omega) (by omega)).mono ?_
  rintro e w1 ⟨n, rfl, hn, rfl⟩
  rcases hn with rfl | ⟨h0, h1, hl, hr⟩
  · go_wp2
    go_ret
    exact ⟨rfl, Fresh.refl _⟩
  have hl1 : p.length ≤ 1048576 := by omega
  have hr1 : ∀ r ∈ p, r.length ≤ 1048576 := fun r hr' => by have := hr r hr'; omega
  have HR := Lib.hid hr1
  clear hr hr1
  go_wp2_with fail
  refine (toIntSS_any v p _ h hl1 HR.out).mono ?_
  rintro e w1 ⟨r1, rfl, hO1, hF1⟩
  go_wp2_with fail
  refine (specCodeAt_any _ p m _ hO1.rows).mono ?_
  rintro e w2 hP
  obtain ⟨hF2, rfl⟩ := hP.out
  obtain ⟨c, hc⟩ : ∃ c, c = codeV (codeI p m) := ⟨_, rfl⟩
  obtain ⟨b, hb⟩ : ∃ b, b = (codeI p m).isSome := ⟨_, rfl⟩
  rw [← hc, ← hb]
  have HC := Lib.hid hc
  have HB := Lib.hid hb
  clear hc hb hP
  have hF2 := hF1.trans hF2
  go_wp2_with fail
  refine (toIntSS_any v p _ (h.fresh hF2) hl1 HR.out).mono ?_
  rintro e w3 ⟨r3, rfl, hO3, hF3⟩
  have hF3 := hF2.trans hF3
  go_wp2_with fail
  refine (implCodeAt_any _ p m _ hO3.rows).mono ?_
  rintro e w4 hP
  obtain ⟨hF4, rfl⟩ := hP.out
  rw [← HC.out, ← HB.out]
  clear hP
  have hO4 := hO3.fresh hF4
  have hF4 := hF3.trans hF4
  go_wp2_with fail
  refine (toIntSS_any v p _ (h.fresh hF4) hl1 HR.out).mono ?_
  rintro e w5 ⟨r5, rfl, hO5, hF5⟩
  have hF5' := hF4.trans hF5
  go_wp2_with fail
  refine (eqIntSS_any _ _ p p _ (hO4.fresh hF5).rows hO5.rows).mono ?_
  rintro e w6 ⟨rfl, hF6⟩
  have hF6 := hF5'.trans hF6
  go_wp2
  go_ret
  exact ⟨rfl, hF6⟩

/-- the codes at the arrows to nodes below j -/
def ListJ (p : List (List Int)) (a j : Nat) (xs : List Int) : Prop := (∀ z ∈ xs, 0 ≤ z ∧ z ≤ 15) ∧ (∀ i : Nat, (i : Int) ∈ xs ↔ ∃ v, v < j ∧ ent p a v = 1 ∧ codeL p v = some i) ∧ xs.length ≤ j
theorem ListJ.start (p : List (List Int)) (a : Nat) : ListJ p a 0 [] := ⟨by simp, fun i => by simp, by simp⟩
theorem ListJ.skip {p : List (List Int)} {a j : Nat} {xs : List Int} (h : ListJ p a j xs) (e : ent p a j = 0) : ListJ p a (j + 1) xs := by
  refine ⟨h.1, fun i => ?_, by have := h.2.2; omega⟩
  rw [h.2.1]
  constructor
  · rintro ⟨v, h1, h2⟩; exact ⟨v, by omega, h2⟩
  · rintro ⟨v, h1, h2, h3⟩
    by_cases hvj : v = j
    · subst hvj; rw [e] at h2; cases h2
    · exact ⟨v, by omega, h2, h3⟩
theorem ListJ.step {p : List (List Int)} {a j m : Nat} {xs : List Int} (h : ListJ p a j xs) (e : ent p a j = 1) (e2 : codeL p j = some m) (hm : m ≤ 15) : ListJ p a (j + 1) (xs ++ [(m : Int)]) := by
  refine ⟨fun z hz => ?_, fun i => ?_, by have := h.2.2; rw [List.length_append, List.length_singleton]; omega⟩
  · rcases List.mem_append.1 hz with hz | hz
    · exact h.1 z hz
    · rw [List.mem_singleton.1 hz]; omega
  · rw [List.mem_append, List.mem_singleton, h.2.1]
    constructor
    · rintro (⟨v, h1, h2⟩ | e3)
      · exact ⟨v, by omega, h2⟩
      · exact ⟨j, by omega, e, by rw [e2]; congr 1; omega⟩
    · rintro ⟨v, h1, h2, h3⟩
      by_cases hvj : v = j
      · subst hvj
        rw [e2] at h3
        exact .inr (by rw [Option.some.inj h3])
      · exact .inl ⟨v, by omega, h2, h3⟩
theorem ListJ.all {p : List (List Int)} (hp : picB p = true) {a j s : Nat} {xs : List Int} (ha : a < p.length) (hb : backB p a = false) (hc : codeL p a = some s) (h : ListJ p a j xs) (hj : ¬ j < p.length) : setOfI xs = (s : Int) := by
  unfold setOfI
  rw [if_pos (List.all_eq_true.2 fun z hz => (inB_iff z 0 15).2 (h.1 z hz))]
  congr 1
  apply Nat.eq_of_testBit_eq
  intro i
  rw [testBit_setL, Bool.eq_iff_iff, decide_eq_true_eq, (codeL_mem hp ha hb hc).2, List.mem_map]
  constructor
  · rintro ⟨z, hz, e⟩
    have h0 := h.1 z hz
    have e2 : z = (i : Int) := by omega
    rw [e2] at hz
    obtain ⟨v, h1, h2, h3⟩ := (h.2.1 i).1 hz
    exact ⟨v, ent_lt hp ha h2, h2, h3⟩
  · rintro ⟨v, h1, h2, h3⟩
    exact ⟨(i : Int), (h.2.1 i).2 ⟨v, by omega, h2, h3⟩, by simp⟩
theorem code_deep {p : List (List Int)} (hp : picB p = true) {a s : Nat} (ha : a < p.length) (hb : backB p a = false) (hc : codeL p a = some s) : 0 ≤ deepI (s : Int) ∧ deepI (s : Int) < p.length := by
  have h1 := codeL_deep hp _ a s (Nat.le_refl _) ha hb hc
  have h2 := reachC_le p a
  have h3 := codeL_lt hp ha hb hc
  rw [deepI_in ((isCodeB_iff _).2 (by omega))]
  simp; omega

set_option maxHeartbeats 2000000 in
theorem fnCodeAt_walk (w : World) (v : Value) (bs : List Int) (h : Bytes w v bs) (hb : ∀ x ∈ bs, 0 ≤ x ∧ x ≤ 255) :
    Calls Try.prog 8 #[v] w fun e w' => e = .returned (.bool true) ∧ Fresh w w' := by
  obtain ⟨a, cap, rfl⟩ := h.len
  have hbd := h.bound
  by_cases hl : bs.length ≤ 1048576
  case neg =>
    go_enter Try.func8, Try.ntmps8
    go_wp2
    go_ret
    exact ⟨rfl, Fresh.refl _⟩
  go_enter Try.func8, Try.ntmps8
  go_wp2_with fail
  refine (drawCodeAt_any _ bs _ h hb).mono ?_
  rintro e w1 ⟨r, p, m, rfl, hp, hsp, hF⟩
  clear hsp h hb
  go_wp2_with fail
  refine (implCodeAt_any _ p m _ hp).mono ?_
  rintro e w2 hP
  obtain ⟨hF2, rfl⟩ := hP.out
  have hp2 := hp.fresh hF2
  have hF2' := hF.trans hF2
  clear hP hF hF2 hp
  cases hcx : codeI p m with
  | none =>
    go_wp2_with fail
    refine (specCodeAt_any _ p m _ hp2).mono ?_
    rintro e w3 hP
    obtain ⟨hF3, rfl⟩ := hP.out
    rw [hcx]
    clear hcx hP
    rw [show codeV none = -1 from rfl, show (none : Option Nat).isSome = false from rfl]
    go_wp2_with fail
    refine (alive_any _).mono ?_
    rintro e w2 ⟨rfl, rfl⟩
    go_wp2
    go_ret
    exact ⟨rfl, hF2'.trans hF3⟩
  | some s =>
    obtain ⟨hnode, hback, hcl⟩ := codeI_someI hcx
    obtain ⟨hpic, h0, h1⟩ := (nodeB_iff p m).1 hnode
    obtain ⟨n, rfl⟩ := Int.eq_ofNat_of_zero_le h0
    have hnl : n < p.length := by omega
    rw [Int.toNat_natCast] at hback hcl
    have hn5 := ((picB_iff p).1 hpic).2.1
    have hs := codeL_lt hpic hnl hback hcl
    have HALL := Lib.hid (fun j xs (hL : ListJ p n j xs) => hL.all hpic hnl hback hcl)
    obtain ⟨hd0, hd1⟩ := code_deep hpic hnl hback hcl
    have HSQ := Lib.hid (pic_sq hpic)
    have HIT := Lib.hid (fun j => pic_bit hpic (i := n) (j := j) hnl)
    have HARR := Lib.hid (fun j (hj : j < p.length) (e : ent p n j = 1) => (show ∃ t, codeI p j = some t ∧ codeL p j = some t ∧ t ≤ 15 from by
      obtain ⟨t, h1, h2⟩ := (codeL_mem hpic hnl hback hcl).1 j hj e
      exact ⟨t, by rw [codeI_in ((nodeB_iff p j).2 ⟨hpic, by omega, by omega⟩) (back_arrow hpic hnl e hback), h1], h1, h2⟩))
    have HBK := Lib.hid (show backI p n = false from (backI_in hnode).trans hback)
    have HCX := Lib.hid hcx
    obtain ⟨pa, pc, rfl⟩ := hp2.len
    rw [show codeV (some s) = (s : Int) from rfl, show (some s).isSome = true from rfl]
    clear hcx hnode hpic h0 h1 hback hcl
    go_wp2_with fail
    refine (specCodeAt_any _ p n _ hp2).mono ?_
    rintro e w3 hP
    obtain ⟨hF3, rfl⟩ := hP.out
    rw [HCX.out]
    clear hP
    rw [show codeV (some s) = (s : Int) from rfl, show (some s).isSome = true from rfl]
    have hF3' := hF2'.trans hF3
    have hp3 := hp2.fresh hF3
    clear hp2 hF2' hF3 HCX
    have HE := Lib.hid (Owns.empty w3)
    have hF4 : Fresh w3 (w3.alloc (Obj.cells #[] 3)) := (Fresh.refl w3).alloc _
    go_wp2
    go_loopw [9, 10] (fun l i wr => ∃ (j : Nat) (xs : List Int), j ≤ p.length ∧ i = .int .i64 j ∧ ListJ p n j xs ∧ Owns w3.heap.size wr.heap.size wr l xs ∧ Fresh w3 wr) (fun _ i _ => p.length - (intOf i).toNat)
    case atStart => exact ⟨0, [], by omega, rfl, ListJ.start _ _, HE.out, hF4⟩
    case round =>
      clear hF4 HE
      obtain ⟨j, xs, hj, rfl, hL, hO, hF4⟩ := hrel
      have hxl := hL.2.2
      by_cases hjl : j < p.length
      · obtain ⟨b1, o1, g1, q1, c1, rfl, hc1, hc2⟩ := (hp3.fresh hF4).sq2n HSQ.out hnl hjl
        have hbit := HIT.out j hjl
        have HGK := Lib.hid (fun e => hL.skip e)
        have HGS := Lib.hid (fun (e : ent p n j = 1) m (e2 : codeL p j = some m) hm => hL.step (m := m) e e2 hm)
        have HAJ := Lib.hid (HARR.out j hjl)
        obtain ⟨z, hz⟩ : ∃ z, z = ent p n j := ⟨_, rfl⟩
        rw [← hz] at hc2 hbit HGK HGS HAJ
        clear hL hz
        rcases hbit with rfl | rfl
        · have HG2 := Lib.hid (HGK.out rfl)
          go_wp2
          go_roundw
          case rel => exact ⟨j + 1, xs, hjl, by go_num, HG2.out, hO, hF4⟩
          case measure => simp [intOf]; omega
        · obtain ⟨t, ht1, ht2, ht3⟩ := HAJ.out rfl
          have HG2 := Lib.hid (HGS.out rfl t ht2 ht3)
          have HT := Lib.hid ht1
          clear ht1 ht2 HGS HAJ HGK
          obtain ⟨la, lc, rfl⟩ := hO.ints.len
          go_wp2_with fail
          refine (implCodeAt_any _ p j _ (hp3.fresh hF4)).mono ?_
          rintro e w5 hP
          obtain ⟨hF5, rfl⟩ := hP.out
          rw [HT.out]
          clear hP
          rw [show codeV (some t) = (t : Int) from rfl, show (some t).isSome = true from rfl]
          have hO5 := hO.fresh hF5
          have hF5' := hF4.trans hF5
          clear hO hF4 hF5 hc1 hc2
          have hs5 := hF5'.size
          go_wp2_with (at_builtin; refine wpList_append_ints _ rfl _ _ rfl w3.heap.size _ _ xs rfl (hO5.fresh ((Fresh.refl w5).alloc _)) ?_ _ [(t : Int)] rfl (Src.one w5 (t : Int) _) ?_ ?_)
          · simp; omega
          · simp; omega
          intro v8 w8 hO8 hK8
          have hF8 : Fresh w3 w8 := (hF5'.alloc _).keepsTrans hK8 (fun i hi => hi)
          clear hO5 hK8
          go_wp2
          go_roundw
          case rel => exact ⟨j + 1, _, hjl, by go_num, HG2.out, hO8, hF8⟩
          case measure => simp [intOf]; omega
      · have HX := Lib.hid (HALL.out j xs hL hjl)
        clear hL
        go_wp2_with fail
        refine (implSetOf_any _ xs _ hO.ints).mono ?_
        rintro e w5 ⟨rfl, hF5⟩
        rw [HX.out]
        have hF5' := hF4.trans hF5
        clear hO hF4 hF5
        go_wp2_with fail
        refine (implDeepOf_any _ _).mono ?_
        rintro e w6 ⟨rfl, hF6⟩
        have hF6' := hF5'.trans hF6
        clear hF5' hF6
        obtain ⟨d, hd⟩ : ∃ d, d = deepI (s : Int) := ⟨_, rfl⟩
        rw [← hd] at hd0 hd1 ⊢
        clear hd
        go_wp2_with fail
        refine (implComesBack_any _ p n _ (hp3.fresh hF6')).mono ?_
        rintro e w7 ⟨rfl, hF7⟩
        rw [HBK.out]
        go_wp2
        go_ret
        exact ⟨rfl, (hF3'.trans hF6').trans hF7⟩
/-- sets with codes are the same exactly if their codes are -/
theorem sameB_code {p : List (List Int)} {a b : Int} {s t : Nat} (h1 : codeI p a = some s) (h2 : codeI p b = some t) : sameB p a b = ((s : Int) == (t : Int)) := by
  obtain ⟨a1, a2, a3⟩ := codeI_someI h1
  obtain ⟨b1, b2, b3⟩ := codeI_someI h2
  obtain ⟨hp, ha0, ha⟩ := (nodeB_iff p a).1 a1
  obtain ⟨-, hb0, hb⟩ := (nodeB_iff p b).1 b1
  obtain ⟨i, rfl⟩ := Int.eq_ofNat_of_zero_le ha0
  obtain ⟨j, rfl⟩ := Int.eq_ofNat_of_zero_le hb0
  rw [Int.toNat_natCast] at a2 a3 b2 b3
  rw [sameB_in a1 b1, Bool.eq_iff_iff, beq_iff_eq, beq_iff_eq, same_iff_code hp (by omega) (by omega) a2 b2 a3 b3]
  omega
theorem sameB_back {p : List (List Int)} {a b : Int} (h : sameB p a b = true) : backI p a = backI p b := by
  unfold sameB at h
  simp only [Bool.and_eq_true, beq_iff_eq] at h
  obtain ⟨⟨a1, b1⟩, h⟩ := h
  obtain ⟨hp, ha0, ha⟩ := (nodeB_iff p a).1 a1
  obtain ⟨-, hb0, hb⟩ := (nodeB_iff p b).1 b1
  obtain ⟨i, rfl⟩ := Int.eq_ofNat_of_zero_le ha0
  obtain ⟨j, rfl⟩ := Int.eq_ofNat_of_zero_le hb0
  rw [backI_in a1, backI_in b1]
  exact same_back hp (by omega) (by omega) h

/-- what is asked about codes of the same: answered -/
theorem same_asked {p : List (List Int)} {a b : Int} : ((codeI p a).isSome && (codeI p b).isSome && (sameB p a b != (codeV (codeI p a) == codeV (codeI p b)))) = false := by
  cases h1 : codeI p a with
  | none => rfl
  | some s =>
    cases h2 : codeI p b with
    | none => rfl
    | some t =>
      rw [sameB_code h1 h2]
      simp [codeV]
set_option maxHeartbeats 2000000 in
theorem fnSameAt_walk (w : World) (v : Value) (bs : List Int) (h : Bytes w v bs) (hb : ∀ x ∈ bs, 0 ≤ x ∧ x ≤ 255) :
    Calls Try.prog 9 #[v] w fun e w' => e = .returned (.bool true) ∧ Fresh w w' := by
  obtain ⟨a, cap, rfl⟩ := h.len
  have hbd := h.bound
  by_cases hl : bs.length ≤ 1048576
  case neg =>
    go_enter Try.func9, Try.ntmps9
    go_wp2
    go_ret
    exact ⟨rfl, Fresh.refl _⟩
  go_enter Try.func9, Try.ntmps9
  go_wp2_with fail
  refine (drawSameAt_any _ bs _ h hb).mono ?_
  rintro e w1 ⟨r, p, m, n, rfl, hp, hsp, hF⟩
  clear hsp h hb
  have HASK := Lib.hid (same_asked (p := p) (a := m) (b := n))
  have HBACK := Lib.hid (sameB_back (p := p) (a := m) (b := n))
  go_wp2_with fail
  refine (implSameAt_any _ p m n _ hp).mono ?_
  rintro e w2 ⟨rfl, hF2⟩
  have hp2 := hp.fresh hF2
  have hF2' := hF.trans hF2
  clear hF hF2 hp
  go_wp2_with fail
  refine (specSameAt_any _ p m n _ hp2).mono ?_
  rintro e w3 ⟨rfl, hF3⟩
  have hp3 := hp2.fresh hF3
  have hF3' := hF2'.trans hF3
  clear hF2' hF3 hp2
  obtain ⟨ok, hok⟩ : ∃ ok, ok = sameB p m n := ⟨_, rfl⟩
  rw [← hok] at HASK HBACK ⊢
  clear hok
  go_wp2_with fail
  refine (implCodeAt_any _ p m _ hp3).mono ?_
  rintro e w4 hP
  obtain ⟨hF4, rfl⟩ := hP.out
  have hp4 := hp3.fresh hF4
  have hF4' := hF3'.trans hF4
  clear hF3' hF4 hp3 hP
  obtain ⟨c1, hc1⟩ : ∃ c1, c1 = codeV (codeI p m) := ⟨_, rfl⟩
  obtain ⟨o1, ho1⟩ : ∃ o1, o1 = (codeI p m).isSome := ⟨_, rfl⟩
  rw [← hc1, ← ho1] at HASK ⊢
  clear hc1 ho1
  go_wp2_with fail
  refine (implCodeAt_any _ p n _ hp4).mono ?_
  rintro e w5 hP
  obtain ⟨hF5, rfl⟩ := hP.out
  have hp5 := hp4.fresh hF5
  have hF5' := hF4'.trans hF5
  clear hF4' hF5 hp4 hP
  obtain ⟨c2, hc2⟩ : ∃ c2, c2 = codeV (codeI p n) := ⟨_, rfl⟩
  obtain ⟨o2, ho2⟩ : ∃ o2, o2 = (codeI p n).isSome := ⟨_, rfl⟩
  rw [← hc2, ← ho2] at HASK ⊢
  clear hc2 ho2
  cases ok
  · clear HBACK
    cases o1
    · go_wp2_with fail
      refine (alive_any _).mono ?_
      rintro e w2 ⟨rfl, rfl⟩
      go_wp2
      go_ret
      exact ⟨rfl, hF5'⟩
    · cases o2
      · go_wp2_with fail
        refine (alive_any _).mono ?_
        rintro e w2 ⟨rfl, rfl⟩
        go_wp2
        go_ret
        exact ⟨rfl, hF5'⟩
      · have hE : (c1 == c2) = false := by have := HASK.out; simpa using this
        clear HASK
        go_wp2_with fail
        refine (alive_any _).mono ?_
        rintro e w2 ⟨rfl, rfl⟩
        go_wp2
        go_ret
        exact ⟨rfl, hF5'⟩
  · have HBK := Lib.hid (HBACK.out rfl)
    clear HBACK
    cases o1
    · go_wp2_with fail
      refine (implComesBack_any _ p m _ hp5).mono ?_
      rintro e w6 ⟨rfl, hF6⟩
      go_wp2_with fail
      refine (implComesBack_any _ p n _ (hp5.fresh hF6)).mono ?_
      rintro e w7 ⟨rfl, hF7⟩
      rw [HBK.out]
      obtain ⟨bk, hbk⟩ : ∃ bk, bk = backI p n := ⟨_, rfl⟩
      rw [← hbk]
      clear hbk
      go_wp2_with fail
      refine (alive_any _).mono ?_
      rintro e w2 ⟨rfl, rfl⟩
      go_wp2
      go_ret
      exact ⟨rfl, (hF5'.trans hF6).trans hF7⟩
    · cases o2
      · go_wp2_with fail
        refine (implComesBack_any _ p m _ hp5).mono ?_
        rintro e w6 ⟨rfl, hF6⟩
        go_wp2_with fail
        refine (implComesBack_any _ p n _ (hp5.fresh hF6)).mono ?_
        rintro e w7 ⟨rfl, hF7⟩
        rw [HBK.out]
        obtain ⟨bk, hbk⟩ : ∃ bk, bk = backI p n := ⟨_, rfl⟩
        rw [← hbk]
        clear hbk
        go_wp2_with fail
        refine (alive_any _).mono ?_
        rintro e w2 ⟨rfl, rfl⟩
        go_wp2
        go_ret
        exact ⟨rfl, (hF5'.trans hF6).trans hF7⟩
      · have hE : (c1 == c2) = true := by have := HASK.out; simpa using this
        clear HASK
        go_wp2_with fail
        refine (implComesBack_any _ p m _ hp5).mono ?_
        rintro e w6 ⟨rfl, hF6⟩
        go_wp2_with fail
        refine (implComesBack_any _ p n _ (hp5.fresh hF6)).mono ?_
        rintro e w7 ⟨rfl, hF7⟩
        rw [HBK.out]
        obtain ⟨bk, hbk⟩ : ∃ bk, bk = backI p n := ⟨_, rfl⟩
        rw [← hbk]
        clear hbk
        go_wp2_with fail
        refine (alive_any _).mono ?_
        rintro e w2 ⟨rfl, rfl⟩
        go_wp2
        go_ret
        exact ⟨rfl, (hF5'.trans hF6).trans hF7⟩
end Go.Proofs.Ytkicgodmgafkoaa
