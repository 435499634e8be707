/- Reading texts of sets: the reference's walks. -/
import Derived.Test.YtipadgpgcdjflaaReadW
import Derived.Test.YtipadgpgcdjflaaReadP
namespace Go.Proofs.Ytipadgpgcdjflaa
open Go.RowKit

theorem strV_at {l : List UInt8} {a : Nat} (h : a < l.length) : (strV l)[a]'h = l[a] := rfl
theorem byte_is {l : List UInt8} {a : Nat} (h : a < l.length) {c : UInt8} {k : Int} (hk : (c.toNat : Int) = k) (e : l[a] = c) : ((((strV l)[a]'h).toNat : Int) != k) = false := by
  rw [strV_at, e, hk]; simp
theorem byte_not {l : List UInt8} {a : Nat} (h : a < l.length) {c : UInt8} {k : Int} (hk : (c.toNat : Int) = k) (e : l[a] ≠ c) : ((((strV l)[a]'h).toNat : Int) != k) = true := by
  rw [strV_at, bne_iff_ne]
  intro e2
  apply e
  apply UInt8.toNat_inj.1
  rw [← hk] at e2
  exact Int.ofNat.inj e2
/-- what l1Read answers -/
def L1Post (l : List UInt8) (at_ : Nat) (w : World) (e : Ending) (w' : World) : Prop :=
  Fresh w w' ∧ ((e = .returned (.tuple #[.int .i64 (-1), .int .i64 (-1)]) ∧ NoText l at_) ∨ ∃ x next : Nat, e = .returned (.tuple #[.int .i64 (x : Int), .int .i64 (next : Int)]) ∧ TextAt l at_ x next)
set_option maxHeartbeats 2000000 in
theorem l1Read_any (l : List UInt8) (hl : l.length ≤ 9223372036854775806) (K : Nat) : ∀ (at_ : Nat) (_ : at_ ≤ l.length) (_ : l.length - at_ < K) (w : World), Calls Try.prog 19 #[.string (strV l), .int .i64 (at_ : Int)] w (L1Post l at_ w) := by
  induction K with
  | zero => intro at_ _ h; omega
  | succ K ih =>
    intro a ha hK w
    have IH := Lib.hid ih
    have hsz : (strV l).size = l.length := rfl
    clear ih
    by_cases h1 : a < l.length
    case neg =>
      have HX := Lib.hid (noText_end h1)
      go_enter Try.func19, Try.ntmps19
      go_wp2
      go_ret2
      exact ⟨Fresh.refl _, .inl ⟨rfl, HX.out⟩⟩
    have hd1 : ¬ l.length ≤ a := by omega
    by_cases hc : l[a] = 123
    case neg =>
      have HX := Lib.hid (noText_head h1 hc)
      have hb := byte_not h1 (c := 123) (k := 123) rfl hc
      clear hc
      go_enter Try.func19, Try.ntmps19
      go_wp2
      go_ret2
      exact ⟨Fresh.refl _, .inl ⟨rfl, HX.out⟩⟩
    have HB := Lib.hid (behind_start h1)
    have hb := byte_is h1 (c := 123) (k := 123) rfl hc
    clear hc
    go_enter Try.func19, Try.ntmps19
    go_wp2
    generalize (strV l)[a]'h1 = y at *
    clear hb
    rename_i hy
    clear hy hd1
    go_loopw [6, 7] (fun s n wr => ∃ (S now : Nat), s = .int .i64 (S : Int) ∧ n = .int .i64 (now : Int) ∧ Behind l a S now ∧ Fresh w wr) (fun _ n _ => l.length - (intOf n).toNat)
    case atStart => exact ⟨0, a + 1, rfl, by go_num, HB.out, Fresh.refl _⟩
    case round =>
      clear HB
      obtain ⟨S, now, rfl, rfl, hB, hF⟩ := hrel
      have hS := hB.1
      have hna := hB.2.1
      have hnl := hB.2.2.1
      have HB := Lib.hid hB
      clear hB
      by_cases hlt : now < l.length
      case neg =>
        have HX := Lib.hid (behind_over HB.out hlt)
        go_wp2
        go_ret2
        exact ⟨hF, .inl ⟨rfl, HX.out⟩⟩
      have hd2 : ¬ l.length ≤ now := by omega
      by_cases h125 : l[now] = 125
      · have HX := Lib.hid (behind_brace HB.out hlt h125)
        have hb := byte_is hlt (c := 125) (k := 125) rfl h125
        clear h125
        go_wp2
        go_ret2
        exact ⟨hF, .inr ⟨S, now + 1, by go_num, HX.out⟩⟩
      have hb125 := byte_not hlt (c := 125) (k := 125) rfl h125
      by_cases hS0 : S = 0
      · have HA := Lib.hid (show Ahead l a S now by subst hS0; exact ahead_first HB.out hlt h125)
        have hx0 : ¬ (0 : Int) < (S : Int) := by omega
        clear h125 hS0
        go_wp2_with fail
        refine (IH.out now (by omega) (by omega) _).mono ?_
        rintro e w1 ⟨hF1, hP⟩
        have hF := hF.trans hF1
        clear hF1
        rcases hP with ⟨rfl, hN⟩ | ⟨x, next, rfl, hT⟩
        · have HX := Lib.hid (ahead_none HA.out hN)
          have HI := Lib.hid (show inB (-1) 0 15 = false from rfl)
          clear hN
          go_wp2_with fail
          refine (l1In_any _ _ _ _).mono ?_
          rintro e w1 ⟨rfl, rfl⟩
          rw [HI.out]
          go_wp2
          go_ret2
          exact ⟨hF, .inl ⟨rfl, HX.out⟩⟩
        · have hT2 := hT.2.1
          have hT3 := hT.2.2.1
          have hTx := hT.1
          by_cases hx : x ≤ 15
          · obtain ⟨ho1, ho2⟩ := or_pow2 hS hx
            have HI := Lib.hid (show inB (x : Int) 0 15 = true from (inB_iff _ _ _).2 (by omega))
            have HO := Lib.hid ho1
            have HN := Lib.hid (ahead_step HA.out hT ho2)
            clear ho1 ho2 hT HA HB hx0 hb125 hd2
            go_wp2_with fail
            refine (l1In_any _ _ _ _).mono ?_
            rintro e w1 ⟨rfl, rfl⟩
            rw [HI.out]
            go_wp2
            go_roundw
            case rel => exact ⟨_, next, by rw [HO.out], rfl, HN.out, hF⟩
            case measure => simp [intOf]; omega
          · have HX := Lib.hid (ahead_many HA.out hT hx)
            have HI := Lib.hid (show inB (x : Int) 0 15 = false from (inB_false _ _ _).2 (by omega))
            clear hT
            go_wp2_with fail
            refine (l1In_any _ _ _ _).mono ?_
            rintro e w1 ⟨rfl, rfl⟩
            rw [HI.out]
            go_wp2
            go_ret2
            exact ⟨hF, .inl ⟨rfl, HX.out⟩⟩
      have hx0 : (0 : Int) < (S : Int) := by omega
      by_cases h44 : l[now] = 44
      · have HA := Lib.hid (ahead_comma HB.out (by omega) hlt h44)
        have hb44 := byte_is hlt (c := 44) (k := 44) rfl h44
        clear h44 h125 hS0
        go_wp2_with fail
        refine (IH.out (now + 1) (by omega) (by omega) _).mono ?_
        rintro e w1 ⟨hF1, hP⟩
        have hF := hF.trans hF1
        clear hF1
        rcases hP with ⟨rfl, hN⟩ | ⟨x, next, rfl, hT⟩
        · have HX := Lib.hid (ahead_none HA.out hN)
          have HI := Lib.hid (show inB (-1) 0 15 = false from rfl)
          clear hN
          go_wp2_with fail
          refine (l1In_any _ _ _ _).mono ?_
          rintro e w1 ⟨rfl, rfl⟩
          rw [HI.out]
          go_wp2
          go_ret2
          exact ⟨hF, .inl ⟨rfl, HX.out⟩⟩
        · have hT2 := hT.2.1
          have hT3 := hT.2.2.1
          have hTx := hT.1
          by_cases hx : x ≤ 15
          · obtain ⟨ho1, ho2⟩ := or_pow2 hS hx
            have HI := Lib.hid (show inB (x : Int) 0 15 = true from (inB_iff _ _ _).2 (by omega))
            have HO := Lib.hid ho1
            have HN := Lib.hid (ahead_step HA.out hT ho2)
            clear ho1 ho2 hT HA HB hx0 hb125 hd2 hb44
            go_wp2_with fail
            refine (l1In_any _ _ _ _).mono ?_
            rintro e w1 ⟨rfl, rfl⟩
            rw [HI.out]
            go_wp2
            go_roundw
            case rel => exact ⟨_, next, by rw [HO.out], rfl, HN.out, hF⟩
            case measure => simp [intOf]; omega
          · have HX := Lib.hid (ahead_many HA.out hT hx)
            have HI := Lib.hid (show inB (x : Int) 0 15 = false from (inB_false _ _ _).2 (by omega))
            clear hT
            go_wp2_with fail
            refine (l1In_any _ _ _ _).mono ?_
            rintro e w1 ⟨rfl, rfl⟩
            rw [HI.out]
            go_wp2
            go_ret2
            exact ⟨hF, .inl ⟨rfl, HX.out⟩⟩
      · have HX := Lib.hid (noText_comma HB.out (by omega) hlt h44 h125)
        have hb44 := byte_not hlt (c := 44) (k := 44) rfl h44
        clear h44 h125 hS0
        go_wp2
        go_ret2
        exact ⟨hF, .inl ⟨rfl, HX.out⟩⟩
set_option maxHeartbeats 1000000 in
theorem specReadSet_any (l : List UInt8) (hl : l.length ≤ 9223372036854775806) (w : World) : Calls Try.prog 9 #[.string (strV l)] w (RSPost l w) := by
  have HC := Lib.hid (l1Read_any l hl (l.length + 1) 0 (by omega) (by omega))
  have hsz : (strV l).size = l.length := rfl
  cases hv : readV l with
  | some n =>
    obtain ⟨hn, hle⟩ := readV_some.1 hv
    have HX := Lib.hid (fun w' => RSPost.yes (w := w) (w' := w') hv)
    have HNT := Lib.hid (fun (h : NoText l 0) => h n [] hn (by simpa using hle))
    have HTA := Lib.hid (fun x next (h : TextAt l 0 x next) => h.2.2.2 n [] hn (by simpa using hle))
    have HT := Lib.hid (specSetTextN_any 65536 (n : Int) (by omega) (by omega) (by omega))
    have HL := Lib.hid hle
    have HLN := Lib.hid (show (textL n).length = l.length by rw [hle])
    clear hv hle
    go_enter Try.func9, Try.ntmps9
    go_wp2_with fail
    refine (HC.out _).mono ?_
    rintro e w1 ⟨hF, hP⟩
    rcases hP with ⟨rfl, hN⟩ | ⟨x, next, rfl, hT⟩
    · exact (HNT.out hN).elim
    obtain ⟨hx, hnx⟩ := HTA.out _ _ hT
    rw [Nat.zero_add, HLN.out] at hnx
    subst hx
    subst hnx
    clear hT
    have h1 := strV_eq l
    go_wp2_with fail
    refine (HT.out _).mono ?_
    rintro e w2 ⟨rfl, hF2⟩
    rw [Int.toNat_natCast, ← HL.out]
    go_wp2
    go_ret2
    exact HX.out _ (hF.trans hF2)
  | none =>
    have HX := Lib.hid (fun w' => RSPost.no (w := w) (w' := w') hv)
    have HNE := Lib.hid (fun m hm => readV_none.1 hv m hm)
    clear hv
    go_enter Try.func9, Try.ntmps9
    go_wp2_with fail
    refine (HC.out _).mono ?_
    rintro e w1 ⟨hF, hP⟩
    rcases hP with ⟨rfl, hN⟩ | ⟨x, next, rfl, hT⟩
    · clear hN
      have hd : ((-1 : Int) != (l.length : Int)) = true := by rw [bne_iff_ne]; omega
      go_wp2
      go_ret2
      exact HX.out _ hF
    by_cases hnl : next = l.length
    · subst hnl
      have hm := hT.1
      clear hT
      have HT := Lib.hid (specSetTextN_any 65536 (x : Int) (by omega) (by omega) (by omega))
      have h1 := strV_ne (fun e => HNE.out x hm (Eq.symm e))
      go_wp2_with fail
      refine (HT.out _).mono ?_
      rintro e w2 ⟨rfl, hF2⟩
      rw [Int.toNat_natCast]
      go_wp2
      go_ret2
      exact HX.out _ (hF.trans hF2)
    · have hd : ((next : Int) != (l.length : Int)) = true := by rw [bne_iff_ne]; omega
      clear hnl hT
      go_wp2
      go_ret2
      exact HX.out _ hF
end Go.Proofs.Ytipadgpgcdjflaa
