/- The walks of the reader's methods. -/
import Derived.Test.YtjmfdmipdglccaaDoorA1
import Derived.Deep.RegionHeld3
import Derived.Deep.DeepCutAuto
import Derived.Deep.QuietTactic
import Derived.BigQuiet
namespace Go.Proofs.YtjmfdmipdglccaaDoor
open Go.RowKit

theorem takeBigS_any (A : Option Addr) (n c size : Nat) (xs : List Int) (w : World) (h : Nums .u8 w A n c xs) (hn : n ≤ 140737488355328) (hx : Byt xs) (hs : size = 1 ∨ size = 2 ∨ size = 4) :
    Calls Tryd.prog 87 #[.slice A n c, .int .i64 size] w (BigPost (sgn size) n size xs w) := by
  rcases hs with rfl | rfl | rfl
  · exact takeBigS_1 A n c xs w h hn hx
  · exact takeBigS_2 A n c xs w h hn hx
  · exact takeBigS_4 A n c xs w h hn hx

/-- A reader in block g: at a place, what is left, whether it was too short. -/
def RdAt (w : World) (base g : Nat) (at_ : Int) (left : List Int) (short : Bool) : Prop :=
  ∃ A c, Blk w g 77 #[.int .i64 at_, .slice A left.length c, .bool short] ∧ Nums .u8 w A left.length c left ∧ Far w base 5 A left.length ∧ Byt left ∧ left.length ≤ 140737488355328
theorem rd_cells (at_ : Int) (A : Option Addr) (n c : Nat) (s : Bool) : ∀ (j : Nat) (x : Int), (#[Value.int .i64 at_, .slice A n c, .bool s] : Array Value)[j]? ≠ some (.int .u8 x) := by
  intro j x
  match j with
  | 0 => simp
  | 1 => simp
  | 2 => simp
  | j + 3 => simp
/-- What a take leaves. -/
def RdTaken (f : Int → Int) (size base g : Nat) (at_ : Int) (left : List Int) (short : Bool) (w : World) (e : Ending) (w' : World) : Prop :=
  (if short = false ∧ size ≤ left.length then e = .returned (.int .i64 (f (be (left.take size)))) ∧ RdAt w' base g at_ (left.drop size) false
    else e = .returned (.int .i64 0) ∧ RdAt w' base g at_ left true) ∧ w.grownBy w' (some g)

theorem rtake_plain (base g size : Nat) (at_ : Int) (left : List Int) (short : Bool) (w : World) (h : RdAt w base g at_ left short) (hs : 1 ≤ size) (hs4 : size ≤ 4) :
    Calls Tryd.prog 85 #[.pointer (some ⟨g, 0, none⟩), .func (.func 86) #[] #[], .int .i64 size] w (RdTaken id size base g at_ left short w) := by
  obtain ⟨A, c, hb, hN, hF, hB, hl⟩ := h
  have d0 : w.cell? ⟨g, 0, none⟩ = some (.int .i64 at_) := hb.cell 0
  have d1 : w.cell? ⟨g, 1, none⟩ = some (.slice A left.length c) := hb.cell 1
  obtain ⟨n, hn⟩ : ∃ n, n = left.length := ⟨_, rfl⟩
  rw [← hn] at hb hN hF hl d1
  have T := Lib.hid (takeBig_any A n c size left w hN hl hB hs hs4)
  have HB := Lib.hid hb
  have HN := Lib.hid hN
  have HY := Lib.hid hB
  have HF := Lib.hid hF
  have Hn := Lib.hid hn
  clear hb hN hB hn hF
  go_enter Tryd.func85, Tryd.ntmps85
  go_wp2_with (go_at_call 86; refine T.out.mono ?_)
  intro e w1 hp
  clear d0 d1
  unfold BigPost at hp
  by_cases hle : size ≤ n
  · rw [if_pos hle] at hp
    obtain ⟨A1, k1, rfl, hN1, hT1, hb1⟩ := hp
    have hB1 := HB.out.below' hb1
    have c0 : w1.cell? ⟨g, 0, none⟩ = some (.int .i64 at_) := hB1.cell 0
    have c1 : w1.cell? ⟨g, 1, none⟩ = some (.slice A n c) := hB1.cell 1
    have c2 : w1.cell? ⟨g, 2, none⟩ = some (.bool short) := hB1.cell 2
    have f1 := hB1.frozen 1
    have f2 := hB1.frozen 2
    have HB1 := Lib.hid hB1
    have HN1 := Lib.hid hN1
    have HT1 := Lib.hid hT1
    have Hb1 := Lib.hid hb1
    clear hB1 hN1 hb1 hT1
    obtain ⟨y, hy⟩ : ∃ y, y = id (be (left.take size)) := ⟨_, rfl⟩
    try rw [← hy]
    have HYY := Lib.hid hy
    clear hy
    cases short
    · go_wp2
      go_ret
      unfold RdTaken
      rw [if_pos ⟨rfl, by rw [← Hn.out]; exact hle⟩]
      have hne := HN1.out.ne_ HB1.out (rd_cells _ _ _ _ _)
      refine ⟨⟨by rw [← HYY.out]; rfl, A1, k1, ?_, ?_, ?_, HY.out.drop _, ?_⟩, ?_⟩
      · have hlen : (left.drop size).length = n - size := by rw [List.length_drop, ← Hn.out]
        rw [hlen]
        exact (HB1.out.set_ 2 _).set_ 1 _
      · have hlen : (left.drop size).length = n - size := by rw [List.length_drop, ← Hn.out]
        rw [hlen]
        exact (HN1.out.set_far _ hne _).set_far _ hne _
      · have hlen : (left.drop size).length = n - size := by rw [List.length_drop, ← Hn.out]
        rw [hlen]
        exact ((HT1.out.far _).set_ _ rfl _).set_ _ rfl _
      · rw [List.length_drop, ← Hn.out]; omega
      · exact grownBy_set (grownBy_set (grownBy_of_below Hb1.out _) _ _) _ _
    · go_wp2
      go_ret
      unfold RdTaken
      rw [if_neg (by simp)]
      have hne := (HN.out.below Hb1.out).ne_ HB1.out (rd_cells _ _ _ _ _)
      refine ⟨⟨rfl, A, c, ?_, ?_, ?_, HY.out, by rw [← Hn.out]; exact hl⟩, ?_⟩
      · rw [← Hn.out]; exact (HB1.out.set_ 2 _)
      · rw [← Hn.out]; exact ((HN.out.below Hb1.out).set_far _ hne _)
      · rw [← Hn.out]; exact ((HF.out.below Hb1.out).set_ _ rfl _)
      · exact grownBy_set (grownBy_of_below Hb1.out _) _ _
  · rw [if_neg hle] at hp
    obtain ⟨rfl, hb1⟩ := hp
    have hB1 := HB.out.below' hb1
    have c0 : w1.cell? ⟨g, 0, none⟩ = some (.int .i64 at_) := hB1.cell 0
    have c1 : w1.cell? ⟨g, 1, none⟩ = some (.slice A n c) := hB1.cell 1
    have c2 : w1.cell? ⟨g, 2, none⟩ = some (.bool short) := hB1.cell 2
    have f1 := hB1.frozen 1
    have f2 := hB1.frozen 2
    have HB1 := Lib.hid hB1
    have Hb1 := Lib.hid hb1
    clear hB1 hb1
    cases short
    all_goals
      go_wp2
      go_ret
      unfold RdTaken
      rw [if_neg (by rw [← Hn.out]; simp; try omega)]
      have hne := (HN.out.below Hb1.out).ne_ HB1.out (rd_cells _ _ _ _ _)
      refine ⟨⟨rfl, A, c, ?_, ?_, ?_, HY.out, by rw [← Hn.out]; exact hl⟩, ?_⟩
      · rw [← Hn.out]; exact (HB1.out.set_ 2 _)
      · rw [← Hn.out]; exact ((HN.out.below Hb1.out).set_far _ hne _)
      · rw [← Hn.out]; exact ((HF.out.below Hb1.out).set_ _ rfl _)
      · exact grownBy_set (grownBy_of_below Hb1.out _) _ _
theorem rtake_signed (base g size : Nat) (at_ : Int) (left : List Int) (short : Bool) (w : World) (h : RdAt w base g at_ left short) (hs : size = 1 ∨ size = 2 ∨ size = 4) :
    Calls Tryd.prog 85 #[.pointer (some ⟨g, 0, none⟩), .func (.func 87) #[] #[], .int .i64 size] w (RdTaken (sgn size) size base g at_ left short w) := by
  obtain ⟨A, c, hb, hN, hF, hB, hl⟩ := h
  have d0 : w.cell? ⟨g, 0, none⟩ = some (.int .i64 at_) := hb.cell 0
  have d1 : w.cell? ⟨g, 1, none⟩ = some (.slice A left.length c) := hb.cell 1
  obtain ⟨n, hn⟩ : ∃ n, n = left.length := ⟨_, rfl⟩
  rw [← hn] at hb hN hF hl d1
  have T := Lib.hid (takeBigS_any A n c size left w hN hl hB hs)
  have HB := Lib.hid hb
  have HN := Lib.hid hN
  have HY := Lib.hid hB
  have HF := Lib.hid hF
  have Hn := Lib.hid hn
  clear hb hN hB hn hF
  go_enter Tryd.func85, Tryd.ntmps85
  go_wp2_with (go_at_call 87; refine T.out.mono ?_)
  intro e w1 hp
  clear d0 d1
  unfold BigPost at hp
  by_cases hle : size ≤ n
  · rw [if_pos hle] at hp
    obtain ⟨A1, k1, rfl, hN1, hT1, hb1⟩ := hp
    have hB1 := HB.out.below' hb1
    have c0 : w1.cell? ⟨g, 0, none⟩ = some (.int .i64 at_) := hB1.cell 0
    have c1 : w1.cell? ⟨g, 1, none⟩ = some (.slice A n c) := hB1.cell 1
    have c2 : w1.cell? ⟨g, 2, none⟩ = some (.bool short) := hB1.cell 2
    have f1 := hB1.frozen 1
    have f2 := hB1.frozen 2
    have HB1 := Lib.hid hB1
    have HN1 := Lib.hid hN1
    have HT1 := Lib.hid hT1
    have Hb1 := Lib.hid hb1
    clear hB1 hN1 hb1 hT1
    obtain ⟨y, hy⟩ : ∃ y, y = (sgn size) (be (left.take size)) := ⟨_, rfl⟩
    try rw [← hy]
    have HYY := Lib.hid hy
    clear hy
    cases short
    · go_wp2
      go_ret
      unfold RdTaken
      rw [if_pos ⟨rfl, by rw [← Hn.out]; exact hle⟩]
      have hne := HN1.out.ne_ HB1.out (rd_cells _ _ _ _ _)
      refine ⟨⟨by rw [← HYY.out]; rfl, A1, k1, ?_, ?_, ?_, HY.out.drop _, ?_⟩, ?_⟩
      · have hlen : (left.drop size).length = n - size := by rw [List.length_drop, ← Hn.out]
        rw [hlen]
        exact (HB1.out.set_ 2 _).set_ 1 _
      · have hlen : (left.drop size).length = n - size := by rw [List.length_drop, ← Hn.out]
        rw [hlen]
        exact (HN1.out.set_far _ hne _).set_far _ hne _
      · have hlen : (left.drop size).length = n - size := by rw [List.length_drop, ← Hn.out]
        rw [hlen]
        exact ((HT1.out.far _).set_ _ rfl _).set_ _ rfl _
      · rw [List.length_drop, ← Hn.out]; omega
      · exact grownBy_set (grownBy_set (grownBy_of_below Hb1.out _) _ _) _ _
    · go_wp2
      go_ret
      unfold RdTaken
      rw [if_neg (by simp)]
      have hne := (HN.out.below Hb1.out).ne_ HB1.out (rd_cells _ _ _ _ _)
      refine ⟨⟨rfl, A, c, ?_, ?_, ?_, HY.out, by rw [← Hn.out]; exact hl⟩, ?_⟩
      · rw [← Hn.out]; exact (HB1.out.set_ 2 _)
      · rw [← Hn.out]; exact ((HN.out.below Hb1.out).set_far _ hne _)
      · rw [← Hn.out]; exact ((HF.out.below Hb1.out).set_ _ rfl _)
      · exact grownBy_set (grownBy_of_below Hb1.out _) _ _
  · rw [if_neg hle] at hp
    obtain ⟨rfl, hb1⟩ := hp
    have hB1 := HB.out.below' hb1
    have c0 : w1.cell? ⟨g, 0, none⟩ = some (.int .i64 at_) := hB1.cell 0
    have c1 : w1.cell? ⟨g, 1, none⟩ = some (.slice A n c) := hB1.cell 1
    have c2 : w1.cell? ⟨g, 2, none⟩ = some (.bool short) := hB1.cell 2
    have f1 := hB1.frozen 1
    have f2 := hB1.frozen 2
    have HB1 := Lib.hid hB1
    have Hb1 := Lib.hid hb1
    clear hB1 hb1
    cases short
    all_goals
      go_wp2
      go_ret
      unfold RdTaken
      rw [if_neg (by rw [← Hn.out]; simp; try omega)]
      have hne := (HN.out.below Hb1.out).ne_ HB1.out (rd_cells _ _ _ _ _)
      refine ⟨⟨rfl, A, c, ?_, ?_, ?_, HY.out, by rw [← Hn.out]; exact hl⟩, ?_⟩
      · rw [← Hn.out]; exact (HB1.out.set_ 2 _)
      · rw [← Hn.out]; exact ((HN.out.below Hb1.out).set_far _ hne _)
      · rw [← Hn.out]; exact ((HF.out.below Hb1.out).set_ _ rfl _)
      · exact grownBy_set (grownBy_of_below Hb1.out _) _ _

theorem plain_any (base g size : Nat) (at_ : Int) (left : List Int) (short : Bool) (w : World) (h : RdAt w base g at_ left short) (hs : 1 ≤ size) (hs4 : size ≤ 4) :
    Calls Tryd.prog 53 #[.pointer (some ⟨g, 0, none⟩), .int .i64 size] w (RdTaken id size base g at_ left short w) := by
  have T := Lib.hid (rtake_plain base g size at_ left short w h hs hs4)
  clear h
  go_enter Tryd.func53, Tryd.ntmps53
  go_wp2_with (go_at_call 85; refine T.out.mono ?_)
  intro e w1 hp
  have HP := Lib.hid hp
  clear hp
  have he : ∃ y, e = .returned (.int .i64 y) := by
    have := HP.out.1
    split at this
    · exact ⟨_, this.1⟩
    · exact ⟨_, this.1⟩
  obtain ⟨y, rfl⟩ := he
  go_wp2
  go_ret
  exact HP.out
theorem signed_any (base g size : Nat) (at_ : Int) (left : List Int) (short : Bool) (w : World) (h : RdAt w base g at_ left short) (hs : size = 1 ∨ size = 2 ∨ size = 4) :
    Calls Tryd.prog 54 #[.pointer (some ⟨g, 0, none⟩), .int .i64 size] w (RdTaken (sgn size) size base g at_ left short w) := by
  have T := Lib.hid (rtake_signed base g size at_ left short w h hs)
  clear h hs
  go_enter Tryd.func54, Tryd.ntmps54
  go_wp2_with (go_at_call 85; refine T.out.mono ?_)
  intro e w1 hp
  have HP := Lib.hid hp
  clear hp
  have he : ∃ y, e = .returned (.int .i64 y) := by
    have := HP.out.1
    split at this
    · exact ⟨_, this.1⟩
    · exact ⟨_, this.1⟩
  obtain ⟨y, rfl⟩ := he
  go_wp2
  go_ret
  exact HP.out
end Go.Proofs.YtjmfdmipdglccaaDoor
