/- Reading texts of sets: the program's walks. -/
import Derived.Test.YtipadgpgcdjflaaTextW
namespace Go.Proofs.Ytipadgpgcdjflaa
open Go.RowKit

theorem or_pow2 {s j : Nat} (hs : s < 65536) (hj : j ≤ 15) : bits .or .i64 (s : Int) (wrap64 (2 ^ j)) = ((s ||| 2 ^ j : Nat) : Int) ∧ s ||| 2 ^ j < 65536 := by
  have h := shl_one (j : Int) (by omega) (by omega)
  rw [Int.toNat_natCast] at h
  rw [h]
  have h3 : (2 : Nat) ^ j ≤ 2 ^ 15 := Nat.pow_le_pow_right (by decide) hj
  exact ⟨or_i64 _ _ (by omega) (by omega), or_lt16 hs (by omega)⟩

theorem cut_hit (c : UInt8) (r : List UInt8) (p : ByteArray) (hp : p.data.toList = [c]) (w : World) :
    Calls Try.prog 29 #[.string (strV (c :: r)), .string p] w fun e w' => e = .returned (.tuple #[.string (strV r), .bool true]) ∧ w' = w := by
  have h := Try.strings_CutPrefix (strV (c :: r)) p w
  rw [hp, strV_list] at h
  have e1 : Lib.hasPrefix (c :: r) [c] = true := by simp [Lib.hasPrefix]
  have e2 : Lib.trimPrefix (c :: r) [c] = r := by rw [Lib.trimPrefix, e1]; rfl
  rw [e1, e2] at h
  exact h
theorem cut_miss (c : UInt8) (l : List UInt8) (hl : ∀ r, l ≠ c :: r) (p : ByteArray) (hp : p.data.toList = [c]) (w : World) :
    Calls Try.prog 29 #[.string (strV l), .string p] w fun e w' => e = .returned (.tuple #[.string (strV l), .bool false]) ∧ w' = w := by
  have h := Try.strings_CutPrefix (strV l) p w
  rw [hp, strV_list] at h
  have e1 : Lib.hasPrefix l [c] = false := by
    rw [Bool.eq_false_iff]
    intro hh
    obtain ⟨t, ht⟩ := List.isPrefixOf_iff_prefix.1 hh
    exact hl t ht.symm
  have e2 : Lib.trimPrefix l [c] = l := by rw [Lib.trimPrefix, e1]; rfl
  rw [e1, e2] at h
  exact h
def strLenV : Value → Nat
  | .string x => x.size
  | _ => 0
/-- what readSet answers -/
def ReadPost (l : List UInt8) (w : World) (e : Ending) (w' : World) : Prop := ∃ (m : Nat) (r : List UInt8) (ok : Bool), e = .returned (.tuple #[.int .i64 (m : Int), .string (strV r), .bool ok]) ∧ Reads l m r ok ∧ w' = w

set_option maxHeartbeats 2000000 in
theorem readSet_any (K : Nat) : ∀ (l : List UInt8) (_ : l.length < K) (w : World), Calls Try.prog 20 #[.string (strV l)] w (ReadPost l w) := by
  induction K with
  | zero => intro l h; omega
  | succ K ih =>
    intro l hK w
    have IH := Lib.hid ih
    clear ih
    by_cases h1 : ∃ b, l = 123 :: b
    case neg =>
      have h1' : ∀ b, l ≠ 123 :: b := fun b e => h1 ⟨b, e⟩
      have HX := Lib.hid (reads_brace h1')
      have HC := Lib.hid (cut_miss 123 l h1' ⟨#[123]⟩ rfl)
      clear h1 h1'
      go_enter Try.func20, Try.ntmps20
      go_wp2_with fail
      refine (HC.out _).mono ?_
      rintro e w1 ⟨rfl, rfl⟩
      go_wp2
      go_ret3
      exact ⟨0, l, false, rfl, HX.out, rfl⟩
    obtain ⟨b, rfl⟩ := h1
    have hbK : b.length < K := by simpa using hK
    by_cases h2 : ∃ c, b = 125 :: c
    · obtain ⟨c, rfl⟩ := h2
      have HX := Lib.hid (reads_empty (b := c))
      have HC := Lib.hid (cut_hit 123 (125 :: c) ⟨#[123]⟩ rfl)
      have HC2 := Lib.hid (cut_hit 125 c ⟨#[125]⟩ rfl)
      go_enter Try.func20, Try.ntmps20
      go_wp2_with fail
      refine (HC.out _).mono ?_
      rintro e w1 ⟨rfl, rfl⟩
      go_wp2_with fail
      refine (HC2.out _).mono ?_
      rintro e w1 ⟨rfl, rfl⟩
      go_wp2
      go_ret3
      exact ⟨0, c, true, rfl, HX.out, rfl⟩
    have h2' : ∀ c, b ≠ 125 :: c := fun c e => h2 ⟨c, e⟩
    have HI := Lib.hid (inside_start h2')
    have HC := Lib.hid (cut_hit 123 b ⟨#[123]⟩ rfl)
    have HC2 := Lib.hid (cut_miss 125 b h2' ⟨#[125]⟩ rfl)
    clear h2 h2' hK
    go_enter Try.func20, Try.ntmps20
    go_wp2_with fail
    refine (HC.out _).mono ?_
    rintro e w1 ⟨rfl, rfl⟩
    go_wp2_with fail
    refine (HC2.out _).mono ?_
    rintro e w1 ⟨rfl, rfl⟩
    clear HC HC2
    go_wp2
    go_loop [0, 6] (fun s n => ∃ (c : List UInt8) (S : Nat), s = .string (strV c) ∧ n = .int .i64 (S : Int) ∧ Inside b c S) (fun s _ => strLenV s)
    case atStart => exact ⟨b, 0, rfl, rfl, HI.out⟩
    case round =>
      obtain ⟨c, S, rfl, rfl, hI⟩ := hrel
      have hcb := hI.2.1
      have hS := hI.1
      have HIN := Lib.hid hI
      clear hI
      go_wp2_with fail
      refine (IH.out c (by omega) _).mono ?_
      rintro e w1 ⟨m, r, ok, rfl, hR, rfl⟩
      have HR := Lib.hid hR
      clear hR
      have HLT := Lib.hid (fun h => HR.out.2.2.1 h)
      have hrc := HR.out.2.1
      have hm0 : (0 : Int) ≤ (m : Int) := Int.natCast_nonneg _
      cases ok
      · have HX := Lib.hid (inside_none HIN.out HR.out (.inl rfl) c (by omega))
        go_wp2
        go_ret3
        exact ⟨0, c, false, rfl, HX.out, rfl⟩
      by_cases hm : m ≤ 15
      case neg =>
        have HX := Lib.hid (inside_none HIN.out HR.out (.inr hm) c (by omega))
        go_wp2
        go_ret3
        exact ⟨0, c, false, rfl, HX.out, rfl⟩
      have hrl := HLT.out rfl
      obtain ⟨ho1, ho2⟩ := or_pow2 hS hm
      have HOR := Lib.hid ho1
      by_cases h44 : ∃ r', r = 44 :: r'
      · obtain ⟨r', rfl⟩ := h44
        have HN := Lib.hid (inside_next HIN.out HR.out hm ho2)
        have HC := Lib.hid (cut_hit 44 r' ⟨#[44]⟩ rfl)
        clear ho1 ho2
        go_wp2_with fail
        refine (HC.out _).mono ?_
        rintro e w1 ⟨rfl, rfl⟩
        go_wp2
        go_round
        case rel => exact ⟨r', _, rfl, by rw [HOR.out], HN.out⟩
        case measure => simp only [strLenV, strV_size]; simp at hrl; omega
      · have h44' : ∀ x, r ≠ 44 :: x := fun x e => h44 ⟨x, e⟩
        have HC := Lib.hid (cut_miss 44 r h44' ⟨#[44]⟩ rfl)
        by_cases h125 : ∃ u, r = 125 :: u
        · obtain ⟨u, rfl⟩ := h125
          have HX := Lib.hid (inside_end HIN.out HR.out hm ho2 h44' (u := u) (ok := true) (.inl ⟨rfl, rfl⟩))
          have HC2 := Lib.hid (cut_hit 125 u ⟨#[125]⟩ rfl)
          clear ho1 ho2 h44 h44'
          go_wp2_with fail
          refine (HC.out _).mono ?_
          rintro e w1 ⟨rfl, rfl⟩
          go_wp2_with fail
          refine (HC2.out _).mono ?_
          rintro e w1 ⟨rfl, rfl⟩
          go_wp2
          go_ret3
          exact ⟨_, u, true, by rw [HOR.out]; rfl, HX.out, rfl⟩
        · have h125' : ∀ x, r ≠ 125 :: x := fun x e => h125 ⟨x, e⟩
          have HX := Lib.hid (inside_end HIN.out HR.out hm ho2 h44' (u := r) (ok := false) (.inr ⟨h125', rfl, rfl⟩))
          have HC2 := Lib.hid (cut_miss 125 r h125' ⟨#[125]⟩ rfl)
          clear ho1 ho2 h44 h44' h125 h125'
          go_wp2_with fail
          refine (HC.out _).mono ?_
          rintro e w1 ⟨rfl, rfl⟩
          go_wp2_with fail
          refine (HC2.out _).mono ?_
          rintro e w1 ⟨rfl, rfl⟩
          go_wp2
          go_ret3
          exact ⟨_, r, false, by rw [HOR.out]; rfl, HX.out, rfl⟩
theorem strV_tl (l : List UInt8) : (strV l).toList = l := by rw [ByteArray.toList_eq]; rfl
theorem strV_nil : (strV []).toList = [] := strV_tl []
theorem strV_cons (x : UInt8) (l : List UInt8) : ¬ (strV (x :: l)).toList = [] := by rw [strV_tl]; simp
theorem strV_eq (l : List UInt8) : (!(strV l).toList == (strV l).toList) = false := by simp
theorem strV_ne {a b : List UInt8} (h : ¬ a = b) : (!(strV a).toList == (strV b).toList) = true := by rw [strV_tl, strV_tl]; simpa using h
/-- the number that ReadSet answers -/
def readI : Option Nat → Int
  | none => -1
  | some n => n
def RSPost (l : List UInt8) (w : World) (e : Ending) (w' : World) : Prop := e = .returned (.tuple #[.int .i64 (readI (readV l)), .bool (readV l).isSome]) ∧ Fresh w w'
theorem RSPost.no {l : List UInt8} {w w' : World} (h : readV l = none) (hF : Fresh w w') : RSPost l w (.returned (.tuple #[.int .i64 (-1), .bool false])) w' := ⟨by rw [h]; rfl, hF⟩
theorem RSPost.yes {l : List UInt8} {w w' : World} {n : Nat} (h : readV l = some n) (hF : Fresh w w') : RSPost l w (.returned (.tuple #[.int .i64 (n : Int), .bool true])) w' := ⟨by rw [h]; rfl, hF⟩
set_option maxHeartbeats 1000000 in
theorem implReadSet_any (l : List UInt8) (w : World) : Calls Try.prog 10 #[.string (strV l)] w (RSPost l w) := by
  have HC := Lib.hid (readSet_any (l.length + 1) l (by omega))
  cases hv : readV l with
  | some n =>
    obtain ⟨hn, hl⟩ := readV_some.1 hv
    have HX := Lib.hid (fun w' => RSPost.yes (w := w) (w' := w') hv)
    have HRL := Lib.hid (fun m r ok (h : Reads l m r ok) => h.2.2.2 n [] hn (by simpa using hl))
    have HT := Lib.hid (setText_any 65536 (n : Int) (by omega) (by omega) (by omega))
    have HL := Lib.hid hl
    clear hv hl
    go_enter Try.func10, Try.ntmps10
    go_wp2_with fail
    refine (HC.out _).mono ?_
    rintro e w1 ⟨m, r, ok, rfl, hR, rfl⟩
    obtain ⟨rfl, rfl, rfl⟩ := HRL.out _ _ _ hR
    clear hR
    have h0 := strV_nil
    go_wp2_with fail
    refine (HT.out _).mono ?_
    rintro e w2 ⟨rfl, hF⟩
    rw [Int.toNat_natCast, ← HL.out]
    have h1 := strV_eq l
    go_wp2
    go_ret2
    exact HX.out _ hF
  | none =>
    have HX := Lib.hid (fun w' => RSPost.no (w := w) (w' := w') hv)
    have HNE := Lib.hid (fun m hm => readV_none.1 hv m hm)
    clear hv
    go_enter Try.func10, Try.ntmps10
    go_wp2_with fail
    refine (HC.out _).mono ?_
    rintro e w1 ⟨m, r, ok, rfl, hR, rfl⟩
    have hm := hR.1
    have HRR := Lib.hid hR
    clear hR
    cases ok
    · go_wp2
      go_ret2
      exact HX.out _ (Fresh.refl _)
    cases hr : r with
    | cons x r' =>
      have h0 := strV_cons x r'
      go_wp2
      go_ret2
      exact HX.out _ (Fresh.refl _)
    | nil =>
      have HT := Lib.hid (setText_any 65536 (m : Int) (by omega) (by omega) (by omega))
      have hne := HNE.out m hm
      have h0 := strV_nil
      go_wp2_with fail
      refine (HT.out _).mono ?_
      rintro e w2 ⟨rfl, hF⟩
      rw [Int.toNat_natCast]
      have h1 := strV_ne (fun e => hne (Eq.symm e))
      clear hne
      go_wp2
      go_ret2
      exact HX.out _ hF
end Go.Proofs.Ytipadgpgcdjflaa
