/- The walks of the reader's to and ways. -/
import Derived.Test.YtjmfdmipdglccaaDoorA2
import Derived.Deep.RegionHeld3
import Derived.Deep.DeepCutAuto
import Derived.Deep.QuietTactic
import Derived.BigQuiet
namespace Go.Proofs.YtjmfdmipdglccaaDoor
open Go.RowKit

/-- What a place taken off leaves. -/
def RdTo (base g : Nat) (at_ : Int) (left : List Int) (short : Bool) (w : World) (e : Ending) (w' : World) : Prop :=
  (if short = false ∧ 2 ≤ left.length then e = .returned (.int .i64 (at_ + sgn 2 (be (left.take 2)))) ∧ RdAt w' base g at_ (left.drop 2) false
    else e = .returned (.int .i64 at_) ∧ RdAt w' base g at_ left true) ∧ w.grownBy w' (some g)

theorem RdAt.cell0 {w : World} {base g : Nat} {at_ : Int} {left : List Int} {short : Bool} (h : RdAt w base g at_ left short) : w.cell? ⟨g, 0, none⟩ = some (.int .i64 at_) := by
  obtain ⟨A, c, hb, _⟩ := h
  exact hb.cell 0
theorem RdAt.byt {w : World} {base g : Nat} {at_ : Int} {left : List Int} {short : Bool} (h : RdAt w base g at_ left short) : Byt left := by
  obtain ⟨A, c, _, _, _, hb, _⟩ := h
  exact hb
theorem sgn2_bd (xs : List Int) (h : Byt xs) : -32768 ≤ sgn 2 (be (xs.take 2)) ∧ sgn 2 (be (xs.take 2)) ≤ 32767 := by
  have h0 := be_take_ge xs h 2
  have h1 := be_take_lt xs h 2
  unfold sgn
  have e1 : (2 : Int) ^ (8 * 2 - 1) = 32768 := by decide
  have e2 : (2 : Int) ^ (8 * 2) = 65536 := by decide
  have e3 : (256 : Int) ^ 2 = 65536 := by decide
  rw [e1, e2]
  rw [e3] at h1
  split <;> omega

theorem RdAt.drew {w : World} {base g : Nat} {at_ : Int} {left : List Int} {short : Bool} (h : RdAt w base g at_ left short) : RdAt w.drew base g at_ left short := h
theorem RdAt.drewN {w : World} {base g : Nat} {at_ : Int} {left : List Int} {short : Bool} (h : RdAt w base g at_ left short) (n : Nat) : RdAt (w.drewN n) base g at_ left short := h
theorem signed2 (base g : Nat) (at_ : Int) (left : List Int) (short : Bool) (w : World) (h : RdAt w base g at_ left short) :
    Calls Tryd.prog 54 #[.pointer (some ⟨g, 0, none⟩), .int .i64 2] w (RdTaken (sgn 2) 2 base g at_ left short w) := signed_any base g 2 at_ left short w h (.inr (.inl rfl))
theorem signed4 (base g : Nat) (at_ : Int) (left : List Int) (short : Bool) (w : World) (h : RdAt w base g at_ left short) :
    Calls Tryd.prog 54 #[.pointer (some ⟨g, 0, none⟩), .int .i64 4] w (RdTaken (sgn 4) 4 base g at_ left short w) := signed_any base g 4 at_ left short w h (.inr (.inr rfl))
theorem signed1 (base g : Nat) (at_ : Int) (left : List Int) (short : Bool) (w : World) (h : RdAt w base g at_ left short) :
    Calls Tryd.prog 54 #[.pointer (some ⟨g, 0, none⟩), .int .i64 1] w (RdTaken (sgn 1) 1 base g at_ left short w) := signed_any base g 1 at_ left short w h (.inl rfl)
theorem plain1 (base g : Nat) (at_ : Int) (left : List Int) (short : Bool) (w : World) (h : RdAt w base g at_ left short) :
    Calls Tryd.prog 53 #[.pointer (some ⟨g, 0, none⟩), .int .i64 1] w (RdTaken id 1 base g at_ left short w) := plain_any base g 1 at_ left short w h (by omega) (by omega)
theorem plain2 (base g : Nat) (at_ : Int) (left : List Int) (short : Bool) (w : World) (h : RdAt w base g at_ left short) :
    Calls Tryd.prog 53 #[.pointer (some ⟨g, 0, none⟩), .int .i64 2] w (RdTaken id 2 base g at_ left short w) := plain_any base g 2 at_ left short w h (by omega) (by omega)

/-- What a number taken off leaves, its value under a name. -/
theorem RdTaken.open_ {f : Int → Int} {size base g : Nat} {at_ : Int} {left : List Int} {short : Bool} {w w' : World} {e : Ending} (h : RdTaken f size base g at_ left short w e w') :
    ∃ (y : Int) (l : List Int) (s : Bool), e = .returned (.int .i64 y) ∧ RdAt w' base g at_ l s ∧ w.grownBy w' (some g) ∧
      ((short = false ∧ size ≤ left.length ∧ y = f (be (left.take size)) ∧ l = left.drop size ∧ s = false) ∨ (¬ (short = false ∧ size ≤ left.length) ∧ y = 0 ∧ l = left ∧ s = true)) := by
  obtain ⟨h1, h2⟩ := h
  by_cases hc : short = false ∧ size ≤ left.length
  · rw [if_pos hc] at h1
    exact ⟨_, _, _, h1.1, h1.2, h2, .inl ⟨hc.1, hc.2, rfl, rfl, rfl⟩⟩
  · rw [if_neg hc] at h1
    exact ⟨_, _, _, h1.1, h1.2, h2, .inr ⟨hc, rfl, rfl, rfl⟩⟩

theorem grownBy_of_drew {a b : World} {row : Option Nat} (h : a.drew.grownBy b row) : a.grownBy b row := ⟨h.os, h.tape, h.output, h.size, h.block⟩
theorem to_any (base g : Nat) (at_ : Int) (left : List Int) (short : Bool) (w : World) (h : RdAt w base g at_ left short) (h0 : 0 ≤ at_) (h1 : at_ < 8192) :
    Calls Tryd.prog 55 #[.pointer (some ⟨g, 0, none⟩)] w (RdTo base g at_ left short w) := by
  have H := Lib.hid h
  have c0 := h.cell0
  clear h
  go_enter Tryd.func55, Tryd.ntmps55
  go_wp2
  go_region_held3 (fun w' => w'.cell? ⟨g, 0, none⟩ = some (.int .i64 at_)) (first | (exact RdAt.cell0 (by assumption)) | go_keep) (first | (go_at_call 54; refine (signed2 base g at_ left short _ H.out.drew).mono ?_; rintro e w1 hp; obtain ⟨y, l, s, rfl, hr, hg, ho⟩ := hp.open_))
  have HO := Lib.hid ho
  have HR := Lib.hid hr
  have HG := Lib.hid hg
  clear ho hr hg hp
  have hy : -32768 ≤ y ∧ y ≤ 32767 := by
    rcases HO.out with ⟨_, _, hy, _⟩ | ⟨_, hy, _⟩
    · rw [hy]; exact sgn2_bd _ H.out.byt
    · omega
  go_wp2
  go_ret
  have e : IntKind.i64.wrap (at_ + y) = at_ + y := IntWalk.i64_in _ (by omega)
  unfold RdTo
  rcases HO.out with ⟨a1, a2, a3, a4, a5⟩ | ⟨a1, a2, a3, a4⟩
  · rw [if_pos ⟨a1, a2⟩, ← a3, ← a4]
    rw [a5] at HR
    refine ⟨⟨?_, HR.out⟩, grownBy_of_drew HG.out⟩
    first | rfl | (rw [e]; rfl)
  · rw [if_neg a1]
    rw [a3, a4] at HR
    refine ⟨⟨?_, HR.out⟩, grownBy_of_drew HG.out⟩
    subst a2
    first | rfl | (rw [e, Int.add_zero]; rfl)
end Go.Proofs.YtjmfdmipdglccaaDoor
