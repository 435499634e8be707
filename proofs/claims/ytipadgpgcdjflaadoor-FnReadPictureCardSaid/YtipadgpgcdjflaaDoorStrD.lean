/- Memory words for slices of strings of the call's own (at the door seat). -/
import Derived.Test.YtipadgpgcdjflaaDoorBase
import Derived.Test.YtipadgpgcdjflaaDoorShelfD
import Derived.Lib.Join
namespace Go.Proofs.YtipadgpgcdjflaaDoor
open Go.RowKit

theorem info_string : (Tryd.prog.info? 9).map (fun i => (i.zero, i.size, i.bytes)) = some (some (.string ⟨#[]⟩), 1, 16) := by kernel_rfl

/-- a string as the model holds it -/
def strV (l : List UInt8) : ByteArray := ⟨l.toArray⟩
theorem strV_list (l : List UInt8) : (strV l).data.toList = l := rfl
theorem strV_toList (b : ByteArray) : strV b.data.toList = b := rfl
/-- a slice of strings that the call owns -/
def OwnsT (lo hi : Nat) (w : World) (v : Value) (xs : List (List UInt8)) : Prop :=
  w.ownsRow lo 9 1 v xs.length (xs.map fun l => Value.string (strV l)) ∧ ∀ g, v.ownBlock = some g → g < hi
theorem OwnsT.blk {lo hi : Nat} {w : World} {v : Value} {zs : List (List UInt8)} (h : OwnsT lo hi w v zs) : ∀ g, v.ownBlock = some g → lo ≤ g ∧ g < hi ∧ g < w.heap.size :=
  fun g hg => ⟨(h.1.lt g hg).1, h.2 g hg, (h.1.lt g hg).2⟩
theorem OwnsT.fresh {lo hi : Nat} {w w' : World} {v : Value} {zs : List (List UInt8)} (h : OwnsT lo hi w v zs) (hF : Fresh w w') : OwnsT lo hi w' v zs := by
  refine ⟨⟨h.1.1, ?_⟩, h.2⟩
  rcases h.1.2 with h2 | ⟨g, cap, cur, hv, hg, hh, r⟩
  · exact Or.inl h2
  · have hlt := (h.blk g (by subst hv; rfl)).2.2
    exact Or.inr ⟨g, cap, cur, hv, hg, by rw [hF.block g hlt]; exact hh, r⟩
theorem OwnsT.empty (w : World) : OwnsT w.heap.size (w.alloc (Obj.cells #[] 9)).heap.size (w.alloc (Obj.cells #[] 9)) (.slice (some ⟨w.heap.size, 0, none⟩) 0 0) [] := by
  refine ⟨?_, fun g hg => ?_⟩
  · exact World.ownsRow_lit (base := w.heap.size) (size := 1) w #[] 0 (Nat.le_refl _) (Nat.zero_le _) rfl
  · simp [Value.ownBlock] at hg; subst hg; simp
theorem OwnsT.wider {lo hi hi' : Nat} {w : World} {v : Value} {zs : List (List UInt8)} (h : OwnsT lo hi w v zs) (hh : hi ≤ hi') : OwnsT lo hi' w v zs := ⟨h.1, fun g hg => Nat.lt_of_lt_of_le (h.2 g hg) hh⟩
/-- what strings.Join asks -/
theorem OwnsT.cells {lo hi : Nat} {w : World} {v : Value} {zs : List (List UInt8)} (h : OwnsT lo hi w v zs) (hz : 0 < zs.length) : ∃ g cap, v = .slice (some ⟨g, 0, none⟩) zs.length cap ∧ g < w.heap.size ∧ zs.length ≤ cap ∧ ∀ (j : Nat) x, (zs.map strV)[j]? = some x → w.cell? ⟨g, 0 + j, none⟩ = some (.string x) := by
  rcases h.1.2 with ⟨_, h0⟩ | ⟨g, cap, cur, hv, hg, hh, hn, hm, r⟩
  · omega
  · subst hv
    refine ⟨g, cap, rfl, (h.1.lt g rfl).2, hn, fun j x hj => ?_⟩
    have := h.1.cells (g := g) rfl j (.string x) (by
      rw [List.getElem?_map] at hj ⊢
      cases hz : zs[j]? with
      | none => rw [hz] at hj; simp at hj
      | some y => rw [hz] at hj; simp at hj; simp [hj])
    rw [Nat.zero_add]
    have e : (⟨g, 0, none⟩ : Addr).add j = ⟨g, j, none⟩ := by by_cases hj0 : j = 0 <;> simp [Addr.add, hj0]
    rw [← e]; exact this
theorem OwnsT.len {lo hi : Nat} {w : World} {v : Value} {zs : List (List UInt8)} (h : OwnsT lo hi w v zs) : ∃ a cap, v = .slice a zs.length cap := by
  rcases h.1.2 with ⟨h1, h2⟩ | ⟨g, cap, cur, hv, _⟩
  · subst h1; exact ⟨none, 0, by rw [h2]⟩
  · exact ⟨_, cap, hv⟩
/-- outside of some blocks -/
def OutsideT (lo hi k : Nat) : Prop := ¬ (lo ≤ k ∧ k < hi)
/-- a slice that lies outside of some blocks -/
def OffT (u : Value) (lo hi : Nat) : Prop := u ≠ .slice none 0 0 ∧ ∀ g, u.ownBlock = some g → g < lo ∨ hi ≤ g
/-- append of one string to a slice of the call's own, other blocks of the call's own kept: the walk's law -/
theorem wpList_append_str {ops : Array Oper} {rest : List Oper} {o : Oper} {a : Act} {Q : Exit → Act → World → Prop} (wr W : World) (xs : List (List UInt8)) (x : ByteArray) (t : TypeId) (lo hi : Nat) (hw : Region.wanted o (yielded ops a.tmps) = true) (s y : Operand)
    (ho : o.op = .call { callee := .builtin .append, args := #[s, y], argTypes := #[36, 36] })
    (u : Value) (hs : a.eval s = u) (h : OwnsT W.heap.size wr.heap.size wr u xs) (hF : Fresh W wr) (hoff : OffT u lo hi) (hhi : hi ≤ wr.heap.size) (hx : a.eval y = .slice (some ⟨wr.heap.size, 0, none⟩) 1 1) (hl : xs.length ≤ 1048576)
    (hK : ∀ u' w', OwnsT W.heap.size w'.heap.size w' u' (xs ++ [x.data.toList]) → Fresh W w' → OffT u' lo hi → Keeps (OutsideT lo hi) wr w' → wpList Tryd.prog ops Q rest (a.put o.dst u') w') : wpList Tryd.prog ops Q (o :: rest) a (wr.alloc (Obj.cells #[.string x] t)) := by
  obtain ⟨i0, hi0, hz0, hz1, hz2⟩ := info_parts info_string
  have hFa : Fresh wr (wr.alloc (Obj.cells #[.string x] t)) := (Fresh.refl wr).alloc _
  have h2 := h.fresh hFa
  have hsz := hFa.size
  have hlo : W.heap.size ≤ (wr.alloc (Obj.cells #[.string x] t)).heap.size := (hF.trans hFa).size
  refine BigFrame.wpList_want hw fun K hKK => ?_
  have hnews : ∀ j u, ([Value.string x] : List Value)[j]? = some u → (wr.alloc (Obj.cells #[.string x] t)).cell? ((⟨wr.heap.size, 0, none⟩ : Addr).add j) = some u := one_new wr _ _
  obtain ⟨v', w', hr, a1, a2⟩ := run_append_any (P := Tryd.prog) (wr.alloc (Obj.cells #[.string x] t)) W.heap.size 36 o.type 9 i0 (.string ⟨#[]⟩) 1 16 Tryd.underlying36 hi0 hz0 hz1 hz2 rfl (by decide) u xs.length _ h2.1 (.slice (some ⟨wr.heap.size, 0, none⟩) 1 1) 1 [.string x]
    (.inr ⟨_, 1, rfl, hnews⟩) rfl (by intro u hu; simp at hu; subst hu; rfl) (by unfold maxLen; omega) (by omega) hlo
  have hblk : ∀ k, v'.ownBlock = some k → u.ownBlock = some k ∨ wr.heap.size ≤ k := by
    intro k hk
    rcases h2.1.2 with ⟨rfl, h0⟩ | ⟨g, cap, cur, rfl, hg, hh, hn, hm, hcs, htake⟩
    · exact absurd rfl hoff.1
    · by_cases hroom : xs.length + 1 ≤ cap
      · have h3 := run_append_room (P := Tryd.prog) (wr.alloc (Obj.cells #[.string x] t)) 36 o.type 9 i0 Tryd.underlying36 hi0 g xs.length cap cur hh ⟨wr.heap.size, 0, none⟩ 1 1 [.string x] (by rw [hz1]; rfl) hnews (by intro u hu; simp at hu; subst hu; rfl) hroom (by rw [hz1]; simp; omega)
        rw [hr] at h3
        injection h3 with e1 e2
        subst e1
        exact .inl hk
      · have h3 := run_append_grow (P := Tryd.prog) (wr.alloc (Obj.cells #[.string x] t)) 36 o.type 9 i0 (.string ⟨#[]⟩) Tryd.underlying36 hi0 hz0 ⟨g, 0, none⟩ xs.length cap (xs.map fun l => Value.string (strV l)) (by rw [hz1]; simp) (h2.1.cells (g := g) rfl) ⟨wr.heap.size, 0, none⟩ 1 1 [.string x] (by rw [hz1]; rfl) hnews (by omega) (by omega) (growslice_fits (by omega) (by rw [hz2]; omega))
        rw [hr] at h3
        injection h3 with e1 e2
        subst e1
        simp [Value.ownBlock] at hk
        exact .inr (by omega)
  have hnn : v' ≠ .slice none 0 0 := by
    intro e
    subst e
    rcases a1.2 with ⟨_, h0⟩ | ⟨g, cap, cur, hv, _⟩
    · omega
    · cases hv
  unfold Oper.wp execOp
  simp only [ho, resolve, invoke, builtin, Sem.run_bind, Sem.run_pure, Result.andThen_ok, List.map_toArray, List.map_cons, List.map_nil, hs, hx, hr]
  refine hKK _ _ (hK v' w' ⟨by simpa [strV_toList] using a1, fun g hg => (a1.lt g hg).2⟩ ((hF.trans hFa).grown a2 fun k hk => (h.blk k hk).1) ⟨hnn, fun g hg => ?_⟩ ?_)
  · rcases hblk g hg with h1 | h1
    · exact hoff.2 g h1
    · right; omega
  · refine Keeps.grown (hFa.keeps (OutsideT lo hi)) a2 fun k hk _ => ?_
    have := hoff.2 k hk
    show ¬ (lo ≤ k ∧ k < hi)
    omega

theorem strV_app (a b : List UInt8) : strV a ++ strV b = strV (a ++ b) := by
  apply ByteArray.ext
  simp [strV]
theorem strV_size (a : List UInt8) : (strV a).size = a.length := rfl
theorem strV_at {l : List UInt8} {a : Nat} (h : a < l.length) : (strV l)[a]'h = l[a] := rfl
theorem strV_tl (l : List UInt8) : (strV l).toList = l := by rw [ByteArray.toList_eq]; rfl
theorem strV_nil : (strV []).toList = [] := strV_tl []
theorem strV_cons (x : UInt8) (l : List UInt8) : ¬ (strV (x :: l)).toList = [] := by rw [strV_tl]; simp
theorem strV_eq (l : List UInt8) : (!(strV l).toList == (strV l).toList) = false := by simp
theorem strV_ne {a b : List UInt8} (h : ¬ a = b) : (!(strV a).toList == (strV b).toList) = true := by rw [strV_tl, strV_tl]; simpa using h
theorem join_texts (g tc : Nat) (ls : List (List UInt8)) (w : World) (hc : ∀ (j : Nat) x, (ls.map strV)[j]? = some x → w.cell? ⟨g, 0 + j, none⟩ = some (.string x)) (hg : g < w.heap.size) (hcap : ls.length ≤ tc) (hn : ls.length ≤ 1048576) (hlen : (Lib.join ls [47]).length ≤ 1048576) :
    Calls Tryd.prog 44 #[.slice (some ⟨g, 0, none⟩) ls.length tc, .string ⟨#[47]⟩] w fun e w' => e = .returned (.string (strV (Lib.join ls [47]))) ∧ Fresh w w' := by
  have e1 : (ls.map strV).map (fun x => x.data.toList) = ls := by rw [List.map_map]; exact (List.map_congr_left fun x _ => rfl).trans (List.map_id _)
  have h := Tryd.strings_Join g 0 tc (ls.map strV) ⟨#[47]⟩ w hc hg (by simp; omega) (by simpa using hcap) (by rw [e1]; exact Nat.le_trans hlen (by omega))
  rw [e1, List.length_map] at h
  exact h
end Go.Proofs.YtipadgpgcdjflaaDoor
