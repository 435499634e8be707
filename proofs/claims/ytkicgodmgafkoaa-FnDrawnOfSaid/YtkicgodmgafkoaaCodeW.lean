/- The codes at nodes: walks. -/
import Derived.Test.YtkicgodmgafkoaaCodeP
import Derived.Test.YtkicgodmgafkoaaBackS
namespace Go.Proofs.Ytkicgodmgafkoaa
open Go.RowKit

/-- what codeAt answers: 0 and false, or the code and true -/
def CodePost (o : Option Nat) (w : World) (e : Ending) (w' : World) : Prop :=
  Fresh w w' ∧ match o with
    | none => e = .returned (.tuple #[.int .i64 0, .bool false])
    | some s => e = .returned (.tuple #[.int .i64 (s : Int), .bool true])
/-- what CodeAt answers: -1 and false, or the code and true -/
def CodeAtPost (o : Option Nat) (w : World) (e : Ending) (w' : World) : Prop :=
  Fresh w w' ∧ match o with
    | none => e = .returned (.tuple #[.int .i64 (-1), .bool false])
    | some s => e = .returned (.tuple #[.int .i64 (s : Int), .bool true])

set_option maxHeartbeats 2000000 in
theorem codeAt_any (K : Nat) : ∀ (v : Value) (p : List (List Int)) (a : Nat) (w : World) (_ : RowsR w v p) (_ : picB p = true) (_ : a < p.length) (_ : backB p a = false) (_ : reachC p a ≤ K),
    Calls Try.prog 50 #[v, .int .i64 (a : Int)] w (CodePost (codeL p a) w) := by
  induction K with
  | zero => intro v p a w _ hp ha _ hk; have := reachC_pos hp ha; omega
  | succ K ih =>
    intro v p a w h hp ha hb hk
    have hn5 := ((picB_iff p).1 hp).2.1
    have hla : p[a].length ≤ 1048576 := by rw [pic_row hp ha]; omega
    have HST := Lib.hid (codeL_step hp ha hb)
    have HARR := Lib.hid (fun x (hx : x ∈ arrowsL p a) => (show x < p.length ∧ backB p x = false ∧ reachC p x ≤ K from by
      obtain ⟨h1, h2⟩ := (arrowsL_mem hp ha).1 hx
      have := reachC_lt hp ha h2 hb
      exact ⟨h1, back_arrow hp ha h2 hb, by omega⟩))
    have IH := Lib.hid (fun x w1 (hr : RowsR w1 v p) h1 h2 h3 => ih v p x w1 hr hp h1 h2 h3)
    clear ih hb hk
    go_enter Try.func50, Try.ntmps50
    go_wp2_with fail
    refine (arrowsOf_any _ p a _ h ha hla).mono ?_
    rintro e w1 ⟨r1, rfl, hO, hF⟩
    have hI := hO.ints
    generalize arrowsL p a = xs at HST HARR hI
    obtain ⟨xa, xc, hv⟩ := hI.lenMap
    subst hv
    have hxb := hI.bound
    rw [List.length_map] at hxb
    clear hO
    go_wp2
    go_loopw [6, 15] (fun s i wr => ∃ (t s' : Nat), t ≤ xs.length ∧ i = .int .i64 t ∧ s = .int .i64 (s' : Int) ∧ GatherTo (xs.map (codeL p)) t s' ∧ Fresh w1 wr) (fun _ i _ => xs.length - (intOf i).toNat)
    case atStart => exact ⟨0, 0, by omega, rfl, rfl, GatherTo.start _, Fresh.refl _⟩
    case round =>
      obtain ⟨t, s, ht, rfl, rfl, hG, hF2⟩ := hrel
      have hsl := hG.lt
      by_cases htl : t < xs.length
      · obtain ⟨b0, o0, rfl, hc0⟩ := (hI.fresh hF2).nodeCell htl
        obtain ⟨h1, h2, h3⟩ := HARR.out xs[t] (List.getElem_mem htl)
        have HGS := Lib.hid (fun m (e : codeL p xs[t] = some m) hm => hG.step (m := m) (by simpa using htl) (by rw [List.getElem_map]; exact e) hm)
        have HBAD := Lib.hid (fun (hn : ¬ ∃ m, codeL p xs[t] = some m ∧ m ≤ 15) => gather_bad (l := xs.map (codeL p)) (t := t) (by simpa using htl) (by rw [List.getElem_map]; exact hn))
        obtain ⟨x, hx⟩ : ∃ x, x = xs[t] := ⟨_, rfl⟩
        rw [← hx] at hc0 h1 h2 h3 HGS HBAD
        have HH := Lib.hid (IH.out x wr ((h.fresh hF).fresh hF2) h1 h2 h3)
        clear hx hG h1 h2 h3
        go_wp2_with fail
        refine HH.out.mono ?_
        rintro e w3 ⟨hF3, he⟩
        have hF4 := hF2.trans hF3
        clear hF2 hF3 hc0
        cases hcx : codeL p x with
        | none =>
          rw [hcx] at he
          have hX := HBAD.out (by rw [hcx]; rintro ⟨m, e, _⟩; cases e)
          have HX := Lib.hid hX
          clear hcx hX
          simp only at he
          subst he
          go_wp2
          go_ret2
          exact ⟨hF.trans hF4, by rw [HST.out, HX.out]; rfl⟩
        | some m =>
          rw [hcx] at he
          simp only at he
          subst he
          have hm0 : (0 : Int) ≤ (m : Int) := Int.natCast_nonneg _
          by_cases hm : m ≤ 15
          · have HG2 := Lib.hid (HGS.out m hcx hm)
            have HOR := Lib.hid (or_pow (s := s) (j := m) hsl hm)
            clear hcx
            go_wp2
            go_roundw
            case rel => exact ⟨t + 1, s ||| 2 ^ m, htl, by go_num, by rw [HOR.out], HG2.out, hF4⟩
            case measure => simp [intOf]; omega
          · have HX := Lib.hid (HBAD.out (by rw [hcx]; rintro ⟨m', e, hm'⟩; have := Option.some.inj e; omega))
            clear hcx
            go_wp2
            go_ret2
            exact ⟨hF.trans hF4, by rw [HST.out, HX.out]; rfl⟩
      · have HX := Lib.hid (hG.all (by simpa using htl))
        clear hG
        go_wp2
        go_ret2
        exact ⟨hF.trans hF2, by rw [HST.out, HX.out]; rfl⟩

set_option maxHeartbeats 400000 in
theorem implCodeAt_any (v : Value) (p : List (List Int)) (a : Int) (w : World) (h : RowsR w v p) :
    Calls Try.prog 29 #[v, .int .i64 a] w (CodeAtPost (codeI p a) w) := by
  cases ha : nodeB p a
  · have HX := Lib.hid (codeI_no ha)
    go_enter Try.func29, Try.ntmps29
    go_wp2_with fail
    refine (hasNode_any _ p a _ h).mono ?_
    rintro e w1 ⟨rfl, rfl⟩
    rw [ha]
    clear ha
    go_wp2
    go_ret2
    exact ⟨Fresh.refl _, by rw [HX.out]; rfl⟩
  · obtain ⟨hp, h0, h1⟩ := (nodeB_iff p a).1 ha
    obtain ⟨i, rfl⟩ := Int.eq_ofNat_of_zero_le h0
    have hil : i < p.length := by omega
    cases hb : backB p i
    · have HX := Lib.hid (codeI_in ha hb)
      have HC := Lib.hid (codeAt_any (reachC p i) v p i)
      go_enter Try.func29, Try.ntmps29
      go_wp2_with fail
      refine (hasNode_any _ p i _ h).mono ?_
      rintro e w1 ⟨rfl, rfl⟩
      rw [ha]
      clear ha
      go_wp2_with fail
      refine (comesBack_any _ p i _ h hp hil).mono ?_
      rintro e w1 ⟨rfl, hF⟩
      rw [hb]
      go_wp2_with fail
      refine (HC.out _ (h.fresh hF) hp hil hb (Nat.le_refl _)).mono ?_
      rintro e w2 ⟨hF2, he⟩
      have hF3 := hF.trans hF2
      clear hF hF2 hb
      cases hcx : codeL p i with
      | none =>
        rw [hcx] at he HX
        clear hcx
        simp only at he
        subst he
        go_wp2
        go_ret2
        exact ⟨hF3, by rw [HX.out]; rfl⟩
      | some m =>
        rw [hcx] at he HX
        clear hcx
        simp only at he
        subst he
        go_wp2
        go_ret2
        exact ⟨hF3, by rw [HX.out]; rfl⟩
    · have HX := Lib.hid (codeI_back hb)
      go_enter Try.func29, Try.ntmps29
      go_wp2_with fail
      refine (hasNode_any _ p i _ h).mono ?_
      rintro e w1 ⟨rfl, rfl⟩
      rw [ha]
      clear ha
      go_wp2_with fail
      refine (comesBack_any _ p i _ h hp hil).mono ?_
      rintro e w1 ⟨rfl, hF⟩
      rw [hb]
      clear hb
      go_wp2
      go_ret2
      exact ⟨hF, by rw [HX.out]; rfl⟩
/-- what the loop over the nodes has gathered below j -/
def GatherJ (p : List (List Int)) (a j s : Nat) : Prop := (∀ v, v < j → ent p a v = 1 → ∃ m, codeL p v = some m ∧ m ≤ 15) ∧ ∀ i, s.testBit i = true ↔ ∃ v, v < j ∧ ent p a v = 1 ∧ codeL p v = some i
theorem GatherJ.start (p : List (List Int)) (a : Nat) : GatherJ p a 0 0 := ⟨fun j h => by omega, fun i => by simp⟩
theorem GatherJ.skip {p : List (List Int)} {a j s : Nat} (h : GatherJ p a j s) (e : ent p a j = 0) : GatherJ p a (j + 1) s := by
  refine ⟨fun v hv h1 => ?_, fun i => ?_⟩
  · by_cases hvj : v = j
    · subst hvj; rw [e] at h1; cases h1
    · exact h.1 v (by omega) h1
  · rw [h.2]
    constructor
    · rintro ⟨v, h1, h2⟩; exact ⟨v, by omega, h2⟩
    · rintro ⟨v, h1, h2, h3⟩
      by_cases hvj : v = j
      · subst hvj; rw [e] at h2; cases h2
      · exact ⟨v, by omega, h2, h3⟩
theorem GatherJ.step {p : List (List Int)} {a j s m : Nat} (h : GatherJ p a j s) (e : ent p a j = 1) (e2 : codeL p j = some m) (hm : m ≤ 15) : GatherJ p a (j + 1) (s ||| 2 ^ m) := by
  refine ⟨fun v hv h1 => ?_, fun i => ?_⟩
  · by_cases hvj : v = j
    · subst hvj; exact ⟨m, e2, hm⟩
    · exact h.1 v (by omega) h1
  · rw [Nat.testBit_or, Bool.or_eq_true, h.2, Nat.testBit_two_pow, decide_eq_true_eq]
    constructor
    · rintro (⟨v, h1, h2⟩ | e3)
      · exact ⟨v, by omega, h2⟩
      · exact ⟨j, by omega, e, by rw [e2, e3]⟩
    · rintro ⟨v, h1, h2, h3⟩
      by_cases hvj : v = j
      · subst hvj
        rw [e2] at h3
        exact .inr (Option.some.inj h3)
      · exact .inl ⟨v, by omega, h2, h3⟩
theorem GatherJ.lt {p : List (List Int)} {a j s : Nat} (h : GatherJ p a j s) : s < 65536 := by
  apply Nat.lt_pow_two_of_testBit (n := 16)
  intro i hi
  cases hb : s.testBit i
  · rfl
  · obtain ⟨v, h1, h2, h3⟩ := (h.2 i).1 hb
    obtain ⟨m, e, hm⟩ := h.1 v h1 h2
    rw [e] at h3
    have : m = i := Option.some.inj h3
    omega
theorem GatherJ.all {p : List (List Int)} (hp : picB p = true) {a j s : Nat} (ha : a < p.length) (hb : backB p a = false) (h : GatherJ p a j s) (hj : ¬ j < p.length) : codeL p a = some s := by
  obtain ⟨s', hs⟩ := gather_of (l := (arrowsL p a).map (codeL p)) fun o ho => by
    obtain ⟨v, hv, rfl⟩ := List.mem_map.1 ho
    obtain ⟨h1, h2⟩ := (arrowsL_mem hp ha).1 hv
    exact h.1 v (by omega) h2
  have hc : codeL p a = some s' := by rw [codeL_step hp ha hb, hs]
  have hm := (codeL_mem hp ha hb hc).2
  rw [hc]
  congr 1
  apply Nat.eq_of_testBit_eq
  intro i
  have h3 := h.2 i
  rw [Bool.eq_iff_iff, hm, h3]
  constructor
  · rintro ⟨v, h1, h2⟩; exact ⟨v, by omega, h2⟩
  · rintro ⟨v, h1, h2, h4⟩; exact ⟨v, ent_lt hp ha h2, h2, h4⟩
theorem GatherJ.bad {p : List (List Int)} (hp : picB p = true) {a j : Nat} (ha : a < p.length) (hb : backB p a = false) (hj : j < p.length) (e : ent p a j = 1) (hn : ¬ ∃ m, codeL p j = some m ∧ m ≤ 15) : codeL p a = none := by
  cases hc : codeL p a with
  | none => rfl
  | some s => exact absurd ((codeL_mem hp ha hb hc).1 j hj e) hn

set_option maxHeartbeats 2000000 in
theorem specCodeIn_any (K : Nat) : ∀ (v : Value) (p : List (List Int)) (a : Nat) (w : World) (_ : RowsR w v p) (_ : picB p = true) (_ : a < p.length) (_ : backB p a = false) (_ : reachC p a ≤ K),
    Calls Try.prog 28 #[v, .int .i64 (a : Int)] w (CodeAtPost (codeL p a) w) := by
  induction K with
  | zero => intro v p a w _ hp ha _ hk; have := reachC_pos hp ha; omega
  | succ K ih =>
    intro v p a w h hp ha hb hk
    have hn5 := ((picB_iff p).1 hp).2.1
    have HSQ := Lib.hid (pic_sq hp)
    have HP := Lib.hid hp
    have HIT := Lib.hid (fun j => pic_bit hp (i := a) (j := j) ha)
    have HARR := Lib.hid (fun x (hx : x < p.length) (h2 : ent p a x = 1) => (show backB p x = false ∧ reachC p x ≤ K from by
      have := reachC_lt hp ha h2 hb
      exact ⟨back_arrow hp ha h2 hb, by omega⟩))
    have IH := Lib.hid (fun x w1 (hr : RowsR w1 v p) h1 h2 h3 => ih v p x w1 hr hp h1 h2 h3)
    have HALL := Lib.hid (fun j s (hG : GatherJ p a j s) => hG.all hp ha hb)
    have HBADJ := Lib.hid (fun j => GatherJ.bad hp (j := j) ha hb)
    have hnb : nodeB p a = true := (nodeB_iff p a).2 ⟨hp, by omega, by omega⟩
    have HBK := Lib.hid (show backI p a = false from (backI_in hnb).trans hb)
    have HNA := Lib.hid ((nodeB_in hp a).symm.trans hnb)
    obtain ⟨pa, pc, rfl⟩ := h.len
    clear ih hb hk hp hnb
    go_enter Try.func28, Try.ntmps28
    go_wp2_with fail
    refine (specPictureOk_any _ p _ h).mono ?_
    rintro e w1 ⟨rfl, rfl⟩
    rw [HP.out]
    go_wp2_with fail
    refine (l1In_any _ _ _ _).mono ?_
    rintro e w' ⟨rfl, rfl⟩
    rw [HNA.out]
    go_wp2_with fail
    refine (specComesBack_any _ p a _ h).mono ?_
    rintro e w1 ⟨rfl, hF⟩
    rw [HBK.out]
    go_wp2
    go_loopw [6, 7] (fun s i wr => ∃ (j s' : Nat), j ≤ p.length ∧ i = .int .i64 j ∧ s = .int .i64 (s' : Int) ∧ GatherJ p a j s' ∧ Fresh w1 wr) (fun _ i _ => p.length - (intOf i).toNat)
    case atStart => exact ⟨0, 0, by omega, rfl, rfl, GatherJ.start _ _, Fresh.refl _⟩
    case round =>
      obtain ⟨j, s, hj, rfl, rfl, hG, hF2⟩ := hrel
      have hsl := hG.lt
      by_cases hjl : j < p.length
      · obtain ⟨b1, o1, g1, q1, c1, rfl, hc1, hc2⟩ := ((h.fresh hF).fresh hF2).sq2n HSQ.out ha hjl
        have hbit := HIT.out j hjl
        have HGK := Lib.hid (fun e => hG.skip e)
        have HGS := Lib.hid (fun (e : ent p a j = 1) m (e2 : codeL p j = some m) hm => hG.step (m := m) e e2 hm)
        have HBAD := Lib.hid (fun (e : ent p a j = 1) => HBADJ.out j hjl e)
        have HAJ := Lib.hid (HARR.out j hjl)
        obtain ⟨z, hz⟩ : ∃ z, z = ent p a j := ⟨_, rfl⟩
        rw [← hz] at hc2 hbit HGK HGS HBAD HAJ
        clear hG hz
        rcases hbit with rfl | rfl
        · have HG2 := Lib.hid (HGK.out rfl)
          go_wp2
          go_roundw
          case rel => exact ⟨j + 1, s, hjl, by go_num, rfl, HG2.out, hF2⟩
          case measure => simp [intOf]; omega
        · have HH := Lib.hid (fun (wr : World) (hr : RowsR wr _ p) => IH.out j wr hr hjl (HAJ.out rfl).1 (HAJ.out rfl).2)
          have HBAE := Lib.hid (HBAD.out rfl)
          have HGT := Lib.hid (HGS.out rfl)
          clear HBAD HGS HAJ HGK
          go_wp2_with fail
          refine (HH.out _ ((h.fresh hF).fresh hF2)).mono ?_
          rintro e w3 ⟨hF3, he⟩
          have hF4 := hF2.trans hF3
          clear hF2 hF3 hc1 hc2
          cases hcx : codeL p j with
          | none =>
            rw [hcx] at he
            have HX := Lib.hid (HBAE.out (by rw [hcx]; rintro ⟨m, e, _⟩; cases e))
            clear hcx
            simp only at he
            subst he
            go_wp2
            go_ret2
            exact ⟨hF.trans hF4, by rw [HX.out]; rfl⟩
          | some m =>
            rw [hcx] at he
            simp only at he
            subst he
            have hm0 : (0 : Int) ≤ (m : Int) := Int.natCast_nonneg _
            by_cases hm : m ≤ 15
            · have HG2 := Lib.hid (HGT.out m hcx hm)
              have HOR := Lib.hid (or_pow (s := s) (j := m) hsl hm)
              clear hcx
              go_wp2
              go_roundw
              case rel => exact ⟨j + 1, s ||| 2 ^ m, hjl, by go_num, by rw [HOR.out], HG2.out, hF4⟩
              case measure => simp [intOf]; omega
            · have HX := Lib.hid (HBAE.out (by rw [hcx]; rintro ⟨m', e, hm'⟩; have := Option.some.inj e; omega))
              clear hcx
              go_wp2
              go_ret2
              exact ⟨hF.trans hF4, by rw [HX.out]; rfl⟩
      · have HX := Lib.hid (HALL.out j s hG hjl)
        clear hG
        go_wp2
        go_ret2
        exact ⟨hF.trans hF2, by rw [HX.out]; rfl⟩

set_option maxHeartbeats 400000 in
theorem specCodeAt_any (v : Value) (p : List (List Int)) (a : Int) (w : World) (h : RowsR w v p) :
    Calls Try.prog 28 #[v, .int .i64 a] w (CodeAtPost (codeI p a) w) := by
  obtain ⟨pa, pc, rfl⟩ := h.len
  have hbd := h.bound
  cases hp : picB p
  · have HX := Lib.hid (codeI_no (p := p) (a := a) (by simp [nodeB, hp]))
    go_enter Try.func28, Try.ntmps28
    go_wp2_with fail
    refine (specPictureOk_any _ p _ h).mono ?_
    rintro e w1 ⟨rfl, rfl⟩
    rw [hp]
    clear hp
    go_wp2
    go_ret2
    exact ⟨Fresh.refl _, by rw [HX.out]; rfl⟩
  · have HNA := Lib.hid (nodeB_in hp a)
    obtain ⟨hn1, hn5, -⟩ := (picB_iff p).1 hp
    have HP := Lib.hid hp
    cases ha : nodeB p a
    · have HX := Lib.hid (codeI_no ha)
      have HA := Lib.hid (HNA.out.symm.trans ha)
      clear ha hp
      go_enter Try.func28, Try.ntmps28
      go_wp2_with fail
      refine (specPictureOk_any _ p _ h).mono ?_
      rintro e w1 ⟨rfl, rfl⟩
      rw [HP.out]
      go_wp2_with fail
      refine (l1In_any _ _ _ _).mono ?_
      rintro e w' ⟨rfl, rfl⟩
      rw [HA.out]
      go_wp2
      go_ret2
      exact ⟨Fresh.refl _, by rw [HX.out]; rfl⟩
    · obtain ⟨-, hai0, hai1⟩ := (nodeB_iff p a).1 ha
      obtain ⟨i, rfl⟩ := Int.eq_ofNat_of_zero_le hai0
      have hil : i < p.length := by omega
      cases hb : backB p i
      · rw [codeI_in ha hb]
        exact specCodeIn_any _ _ p i w h hp hil hb (Nat.le_refl _)
      · have HX := Lib.hid (codeI_back hb)
        have HA := Lib.hid (HNA.out.symm.trans ha)
        have HBK := Lib.hid (show backI p i = true from (backI_in ha).trans hb)
        clear ha hb hp hai0 hai1
        go_enter Try.func28, Try.ntmps28
        go_wp2_with fail
        refine (specPictureOk_any _ p _ h).mono ?_
        rintro e w1 ⟨rfl, rfl⟩
        rw [HP.out]
        go_wp2_with fail
        refine (l1In_any _ _ _ _).mono ?_
        rintro e w' ⟨rfl, rfl⟩
        rw [HA.out]
        go_wp2_with fail
        refine (specComesBack_any _ p i _ h).mono ?_
        rintro e w1 ⟨rfl, hF⟩
        rw [HBK.out]
        go_wp2
        go_ret2
        exact ⟨hF, by rw [HX.out]; rfl⟩
end Go.Proofs.Ytkicgodmgafkoaa
