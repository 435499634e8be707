/- Cutting a text at its slashes: walks; and words for the parts. -/
import Derived.Test.YtipadgpgcdjflaaDoorPicTS
import Derived.Test.YtipadgpgcdjflaaDoorCutP
namespace Go.Proofs.YtipadgpgcdjflaaDoor
open Go.RowKit

theorem OwnsT.keepsOff {lo hi : Nat} {w w' : World} {v : Value} {zs : List (List UInt8)} {S : Nat → Prop} (h : OwnsT lo hi w v zs) (hK : Keeps S w w') (hS : ∀ g, v.ownBlock = some g → ¬ S g) : OwnsT lo hi w' v zs := by
  refine ⟨⟨h.1.1, ?_⟩, h.2⟩
  rcases h.1.2 with h2 | ⟨g, cap, cur, hv, hg, hh, r⟩
  · exact Or.inl h2
  · have hlt := (h.blk g (by subst hv; rfl)).2.2
    exact Or.inr ⟨g, cap, cur, hv, hg, by rw [hK.block g hlt (hS g (by subst hv; rfl))]; exact hh, r⟩
/-- blocks of strings and blocks of rows are never one -/
theorem outT_ne {lo lo' hi : Nat} {w : World} {v u : Value} {n : Nat} {vs : List Value} {zs : List (List UInt8)} (h : w.ownsRow lo 38 1 v n vs) (k : OwnsT lo' hi w u zs) : ∀ g, v.ownBlock = some g → u.ownBlock ≠ some g := by
  intro g hg hu
  rcases h.2 with ⟨rfl, _⟩ | ⟨g1, cap, cur, rfl, _, hh, _⟩
  · simp [Value.ownBlock] at hg
  · rcases k.1.2 with ⟨rfl, _⟩ | ⟨g2, cap2, cur2, rfl, _, hh2, _⟩
    · simp [Value.ownBlock] at hu
    · simp [Value.ownBlock] at hg hu
      subst hg; subst hu
      rw [hh] at hh2
      simp at hh2
/-- one string of a slice of strings -/
theorem OwnsT.strAt {lo hi : Nat} {w : World} {v : Value} {zs : List (List UInt8)} (h : OwnsT lo hi w v zs) {j : Nat} (hj : j < zs.length) :
    ∃ g cap, v = .slice (some ⟨g, 0, none⟩) zs.length cap ∧ w.cell? ⟨g, j, none⟩ = some (.string (strV zs[j])) := by
  obtain ⟨g, cap, hv, -, -, hc⟩ := h.cells (by omega)
  have := hc j (strV zs[j]) (by simp [hj])
  rw [Nat.zero_add] at this
  exact ⟨g, cap, hv, this⟩
/-- what strings.Split leaves -/
theorem OwnsT.split (l : List UInt8) (w : World) (hl : l.length ≤ 1048576) : Lib.countB (strV l) ⟨#[47]⟩ + 1 = (cutL l).length ∧
    OwnsT w.heap.size (w.alloc (.cells ((Lib.splitB ⟨#[47]⟩ 0 (Lib.countB (strV l) ⟨#[47]⟩) (strV l)).map Value.string).toArray 9)).heap.size (w.alloc (.cells ((Lib.splitB ⟨#[47]⟩ 0 (Lib.countB (strV l) ⟨#[47]⟩) (strV l)).map Value.string).toArray 9)) (.slice (some ⟨w.heap.size, 0, none⟩) (cutL l).length (cutL l).length) (cutL l) := by
  have e := splitB_cut (strV l)
  rw [strV_list] at e
  have hlen := Lib.splitB_all ⟨#[47]⟩ (Nat.le_refl 1) 0 _ (strV l) rfl
  have hcl := (cutL_len l).2
  obtain ⟨ps, hps⟩ : ∃ ps, ps = Lib.splitB ⟨#[47]⟩ 0 (Lib.countB (strV l) ⟨#[47]⟩) (strV l) := ⟨_, rfl⟩
  rw [← hps] at e hlen ⊢
  have hl2 : ps.length = (cutL l).length := by rw [← e, List.length_map]
  refine ⟨by omega, ?_, fun g hg => ?_⟩
  · have := World.ownsRow_lit (base := w.heap.size) (size := 1) (e := 9) w (ps.map Value.string).toArray (cutL l).length (Nat.le_refl _) (by unfold maxLen; omega) (by simp [hl2])
    have e2 : (cutL l).map (fun x => Value.string (strV x)) = ps.map Value.string := by
      rw [← e, List.map_map]
      apply List.map_congr_left
      intro x _
      rfl
    rw [e2]
    simpa using this
  · simp [Value.ownBlock] at hg; subst hg; simp

theorem byte_eq {l : List UInt8} {a : Nat} (h : a < l.length) {c : UInt8} {k : Int} (hk : (c.toNat : Int) = k) (e : l[a] = c) : ((((strV l)[a]'h).toNat : Int) == k) = true := by
  rw [strV_at, e, hk]; simp
theorem byte_ne {l : List UInt8} {a : Nat} (h : a < l.length) {c : UInt8} {k : Int} (hk : (c.toNat : Int) = k) (e : l[a] ≠ c) : ((((strV l)[a]'h).toNat : Int) == k) = false := by
  rw [strV_at, beq_eq_false_iff_ne]
  intro e2
  apply e
  apply UInt8.toNat_inj.1
  rw [← hk] at e2
  exact Int.ofNat.inj e2
theorem cut_piece (l : List UInt8) (f k : Nat) : ((strV l).extract f k).data.toList = (l.drop f).take (k - f) := Lib.extract_data _ _ _
theorem cut_last (l : List UInt8) (f : Nat) : ((strV l).extract f l.length).data.toList = l.drop f := by
  rw [cut_piece, List.take_of_length_le (by simp)]
set_option maxHeartbeats 1000000 in
theorem l1Cut_any (l : List UInt8) (hl : l.length ≤ 1048576) (w : World) :
    Calls Tryd.prog 22 #[.string (strV l), .int .u8 47] w fun e w' => ∃ r, e = .returned r ∧ OwnsT w.heap.size w'.heap.size w' r (cutL l) ∧ Fresh w w' := by
  have HE := Lib.hid (OwnsT.empty w)
  have hsz : (strV l).size = l.length := rfl
  go_enter Tryd.func22, Tryd.ntmps22
  go_wp2
  go_loopw [5, 6, 7] (fun v fr i wr => ∃ (k f : Nat) (done : List (List UInt8)), i = .int .i64 (k : Int) ∧ fr = .int .i64 (f : Int) ∧ OwnsT w.heap.size wr.heap.size wr v done ∧ OffT v 0 0 ∧ Fresh w wr ∧ CutAt l k f done) (fun _ _ i _ => l.length - (intOf i).toNat)
  case atStart => exact ⟨0, 0, [], rfl, rfl, HE.out, ⟨by simp, fun g hg => by omega⟩, (Fresh.refl w).alloc _, CutAt.start l⟩
  case round =>
    obtain ⟨k, f, done, rfl, rfl, hT, hOff, hF, hC⟩ := hrel
    have h1 := hC.1
    have h2 := hC.2.1
    have h3 := hC.2.2.1
    have HC := Lib.hid hC
    clear hC
    by_cases hlt : k < l.length
    · by_cases hc : l[k] = 47
      · have HX := Lib.hid (HC.out.cut hlt hc)
        have hb := byte_eq hlt (c := 47) (k := 47) rfl hc
        clear hc
        go_wp2_with (at_builtin; refine wpList_append_str wr w done ((strV l).extract f k) _ 0 0 rfl _ _ rfl _ rfl hT hF hOff (Nat.zero_le _) rfl (by omega) ?_)
        intro v8 w8 hT8 hF8 hOff8 hK8
        have hT9 : OwnsT w.heap.size w8.heap.size w8 v8 (done ++ [(l.drop f).take (k - f)]) := hT8
        clear hT hF hOff hK8 hT8
        go_wp2
        go_roundw
        case rel => exact ⟨k + 1, k + 1, _, by go_num, by go_num, hT9, hOff8, hF8, HX.out⟩
        case measure => simp [intOf]; omega
      · have HX := Lib.hid (HC.out.step hlt hc)
        have hb := byte_ne hlt (c := 47) (k := 47) rfl hc
        clear hc
        go_wp2
        go_roundw
        case rel => exact ⟨k + 1, f, _, by go_num, rfl, hT, hOff, hF, HX.out⟩
        case measure => simp [intOf]; omega
    · have HX := Lib.hid (HC.out.all hlt)
      have hfl : f ≤ l.length := by omega
      go_wp2_with (at_builtin; refine wpList_append_str wr w done ((strV l).extract f l.length) _ 0 0 rfl _ _ rfl _ rfl hT hF hOff (Nat.zero_le _) rfl (by omega) ?_)
      intro v8 w8 hT8 hF8 hOff8 hK8
      have hT9 : OwnsT w.heap.size w8.heap.size w8 v8 (cutL l) := by
        rw [HX.out]
        rw [show l.drop f = (l.drop f).take (l.length - f) by rw [List.take_of_length_le (by simp)]]
        exact hT8
      clear hT hF hOff hK8 hT8
      go_wp2
      go_ret
      exact ⟨_, rfl, hT9, hF8⟩
end Go.Proofs.YtipadgpgcdjflaaDoor
