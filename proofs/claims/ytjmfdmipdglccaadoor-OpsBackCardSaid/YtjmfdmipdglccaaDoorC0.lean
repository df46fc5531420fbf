/- What the ways through Decode's switch leave. -/
import Derived.Test.YtjmfdmipdglccaaDoorA5
import Derived.Test.YtjmfdmipdglccaaDoorB6
namespace Go.Proofs.YtjmfdmipdglccaaDoor
open Go.RowKit

abbrev zero26 : Array Value := #[.int .i64 0, .int .i64 0, .int .i64 0, .int .i64 0, .slice none 0 0, .slice none 0 0]
/-- The reader, the instruction, the place of the answer. -/
def DecSt (W : World) (at_ : Int) (x : Ins) (l : List Int) (s : Bool) (w : World) : Prop :=
  RdAt w (W.heap.size + 1) (W.heap.size + 1 + 1) at_ l s ∧ InsAt w (W.heap.size + 1) (W.heap.size + 1) x ∧ Below W.heap.size W w ∧ Blk w W.heap.size 26 zero26
theorem DecSt.row {W w : World} {at_ : Int} {x : Ins} {l : List Int} {s : Bool} (h : DecSt W at_ x l s w) : RowOf w W.heap.size (some (W.heap.size + 1 + 1)) 77 := rowOf_blk h.1.blk.choose_spec (by omega)
/-- A number taken off the reader. -/
theorem DecSt.took {W w w' : World} {at_ : Int} {x : Ins} {l l' : List Int} {s s' : Bool} (h : DecSt W at_ x l s w) (hr : RdAt w' (W.heap.size + 1) (W.heap.size + 1 + 1) at_ l' s') (hg : w.grownBy w' (some (W.heap.size + 1 + 1))) : DecSt W at_ x l' s' w' := by
  have hrow := h.row
  obtain ⟨h1, h2, h3, h4⟩ := h
  refine ⟨hr, h2.grown hrow (by decide) (by decide) hg, h3.trans (below_row hrow hg h3.size), h4.grown hg (fun e => ?_)⟩
  have := Option.some.inj e
  omega
theorem InsAt.blk {w : World} {base h : Nat} {x : Ins} (hi : InsAt w base h x) : ∃ tA tc kA kc, Blk w h 26 #[.int .i64 x.At, .int .i64 x.Op, .int .i64 x.N, .int .i64 x.M, .slice tA x.To.length tc, .slice kA x.Keys.length kc] := by
  obtain ⟨tA, tc, kA, kc, hb, _⟩ := hi
  exact ⟨tA, tc, kA, kc, hb⟩
theorem InsAt.row {w : World} {base h : Nat} {x : Ins} (hi : InsAt w base h x) (b0 : Nat) (hb0 : b0 ≤ h) : RowOf w b0 (some h) 26 := by
  obtain ⟨tA, tc, kA, kc, hb⟩ := hi.blk
  exact rowOf_blk hb hb0
theorem InsAt.setN {w : World} {base h : Nat} {x : Ins} (hi : InsAt w base h x) (y : Int) : InsAt (w.setCell ⟨h, 2, none⟩ (.int .i64 y)) base h { x with N := y } := by
  have hrow := hi.row 0 (Nat.zero_le _)
  obtain ⟨tA, tc, kA, kc, hb, h1, h2, h3⟩ := hi
  exact ⟨tA, tc, kA, kc, hb.set_ 2 _, h1.kept (grownBy_one _ _ _ _) (own_ne h1 hrow (by decide)), h2.kept (grownBy_one _ _ _ _) (own_ne h2 hrow (by decide)), h3⟩
theorem InsAt.setM {w : World} {base h : Nat} {x : Ins} (hi : InsAt w base h x) (y : Int) : InsAt (w.setCell ⟨h, 3, none⟩ (.int .i64 y)) base h { x with M := y } := by
  have hrow := hi.row 0 (Nat.zero_le _)
  obtain ⟨tA, tc, kA, kc, hb, h1, h2, h3⟩ := hi
  exact ⟨tA, tc, kA, kc, hb.set_ 3 _, h1.kept (grownBy_one _ _ _ _) (own_ne h1 hrow (by decide)), h2.kept (grownBy_one _ _ _ _) (own_ne h2 hrow (by decide)), h3⟩
theorem InsAt.setTo {w : World} {base h : Nat} {x : Ins} (hi : InsAt w base h x) (hbase : base ≤ w.heap.size) (y : Int) : InsAt ((w.alloc (.cells #[.int .i64 y] 3)).setCell ⟨h, 4, none⟩ (.slice (some ⟨w.heap.size, 0, none⟩) 1 1)) base h { x with To := [y] } := by
  have ho : (w.alloc (.cells #[.int .i64 y] 3)).ownsRow base 3 1 (.slice (some ⟨w.heap.size, 0, none⟩) 1 1) 1 [.int .i64 y] := World.ownsRow_lit w #[.int .i64 y] 1 hbase (by unfold maxLen; omega) rfl
  obtain ⟨tA, tc, kA, kc, hb, _, h2, _⟩ := hi
  have hb' := hb.alloc (.cells #[.int .i64 y] 3)
  have h2' := h2.alloc (.cells #[.int .i64 y] 3)
  have hrow := rowOf_blk (base := 0) hb' (Nat.zero_le _)
  refine ⟨some ⟨w.heap.size, 0, none⟩, 1, kA, kc, hb'.set_ 4 _, ho.kept (grownBy_one _ _ _ _) (own_ne ho hrow (by decide)), h2'.kept (grownBy_one _ _ _ _) (own_ne h2' hrow (by decide)), .inr fun e => ?_⟩
  have := (h2.lt w.heap.size (e.symm.trans rfl)).2
  omega
theorem DecSt.setN {W w : World} {at_ : Int} {x : Ins} {l : List Int} {s : Bool} (h : DecSt W at_ x l s w) (y : Int) : DecSt W at_ { x with N := y } l s (w.setCell ⟨W.heap.size + 1, 2, none⟩ (.int .i64 y)) := by
  obtain ⟨h1, h2, h3, h4⟩ := h
  exact ⟨h1.grown (h2.row (W.heap.size + 1) (Nat.le_refl _)) (by decide) (by decide) (grownBy_one _ _ _ _), h2.setN y, h3.setCell (by simp) _, h4.far (by simp) _⟩
theorem DecSt.setM {W w : World} {at_ : Int} {x : Ins} {l : List Int} {s : Bool} (h : DecSt W at_ x l s w) (y : Int) : DecSt W at_ { x with M := y } l s (w.setCell ⟨W.heap.size + 1, 3, none⟩ (.int .i64 y)) := by
  obtain ⟨h1, h2, h3, h4⟩ := h
  exact ⟨h1.grown (h2.row (W.heap.size + 1) (Nat.le_refl _)) (by decide) (by decide) (grownBy_one _ _ _ _), h2.setM y, h3.setCell (by simp) _, h4.far (by simp) _⟩
theorem DecSt.setTo {W w : World} {at_ : Int} {x : Ins} {l : List Int} {s : Bool} (h : DecSt W at_ x l s w) (y : Int) : DecSt W at_ { x with To := [y] } l s ((w.setCell ⟨W.heap.size + 1, 4, none⟩ (.slice (some ⟨w.heap.size, 0, none⟩) 1 1)).alloc (.cells #[.int .i64 y] 3)) := by
  rw [← World.setCell_alloc_past _ _ _ _ h.2.1.blk.choose_spec.choose_spec.choose_spec.choose_spec.lt]
  obtain ⟨h1, h2, h3, h4⟩ := h
  have hb := (Below.refl w.heap.size w).alloc (Nat.le_refl _) (.cells #[.int .i64 y] 3)
  exact ⟨(h1.below hb).grown ((h2.below hb).row (W.heap.size + 1) (Nat.le_refl _)) (by decide) (by decide) (grownBy_one _ _ _ _), h2.setTo (by have := h2.blk.choose_spec.choose_spec.choose_spec.choose_spec.lt; omega) y, (h3.alloc h3.size _).setCell (by simp) _, (h4.alloc _).far (by simp) _⟩

theorem RdTaken.tk_ {size base g : Nat} {at_ : Int} {left : List Int} {short : Bool} {w w' : World} {e : Ending} (h : RdTaken id size base g at_ left short w e w') :
    ∃ (y : Int) (l : List Int) (s : Bool), e = .returned (.int .i64 y) ∧ RdAt w' base g at_ l s ∧ w.grownBy w' (some g) ∧
      ((short = false ∧ tk size left = some (y, l) ∧ s = false) ∨ (s = true ∧ (short = true ∨ tk size left = none))) := by
  obtain ⟨y, l, s, h1, h2, h3, ho⟩ := h.open_
  refine ⟨y, l, s, h1, h2, h3, ?_⟩
  rcases ho with ⟨a1, a2, a3, a4, a5⟩ | ⟨a1, a2, a3, a4⟩
  · exact .inl ⟨a1, by simp [tk, a2, a3, a4], a5⟩
  · refine .inr ⟨a4, ?_⟩
    cases short
    · refine .inr ?_
      have a1' : ¬ size ≤ left.length := fun h => a1 ⟨rfl, h⟩
      simp only [tk, if_neg a1']
    · exact .inl rfl
theorem RdTaken.tks_ {size base g : Nat} {at_ : Int} {left : List Int} {short : Bool} {w w' : World} {e : Ending} (h : RdTaken (sgn size) size base g at_ left short w e w') :
    ∃ (y : Int) (l : List Int) (s : Bool), e = .returned (.int .i64 y) ∧ RdAt w' base g at_ l s ∧ w.grownBy w' (some g) ∧
      ((short = false ∧ tks size left = some (y, l) ∧ s = false) ∨ (s = true ∧ (short = true ∨ tks size left = none))) := by
  obtain ⟨y, l, s, h1, h2, h3, ho⟩ := h.open_
  refine ⟨y, l, s, h1, h2, h3, ?_⟩
  rcases ho with ⟨a1, a2, a3, a4, a5⟩ | ⟨a1, a2, a3, a4⟩
  · exact .inl ⟨a1, by simp [tks, a2, a3, a4], a5⟩
  · refine .inr ⟨a4, ?_⟩
    cases short
    · refine .inr ?_
      have a1' : ¬ size ≤ left.length := fun h => a1 ⟨rfl, h⟩
      simp only [tks, if_neg a1']
    · exact .inl rfl
end Go.Proofs.YtjmfdmipdglccaaDoor
