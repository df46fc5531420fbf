/- The walks of mayNumbers. -/
import Derived.Test.YtjmfdmipdglccaaDoorB3
namespace Go.Proofs.YtjmfdmipdglccaaDoor
open Go.RowKit

set_option maxRecDepth 100000 in
set_option maxHeartbeats 1000000 in
theorem mayNumbers_1 (x : Ins) (tA : Option Addr) (tc : Nat) (kA : Option Addr) (kc : Nat) (w : World) (hT : Tabs w) (hl1 : x.To.length ≤ 17592186044416) (hs : shp x.Op = 1) (b : Bool) (hbb : b = decide (x.M = 0 ∧ 0 ≤ x.N ∧ x.N ≤ 255)) :
    Calls Tryd.prog 90 #[insV x tA tc kA kc] w (BoolPost b w) := by
  have T2 := fun (W : World) (hb : Below w.heap.size w W) => Lib.hid (shape_any x.Op W (hT.below' hb))
  rw [hs] at T2
  clear hT hs
  obtain ⟨At, Op, N, M, To, Keys⟩ := x
  simp only [insV] at *
  have HBB := Lib.hid hbb
  clear hbb
  generalize To.length = n at *
  generalize Keys.length = m at *
  go_enter Tryd.func90, Tryd.ntmps90
  go_wp2_with (first | (go_at_call 31; refine (T2 _ ((Below.refl _ _).alloc (Nat.le_refl _) _)).out.mono ?_))
  rintro e w1 ⟨rfl, hb⟩
  have hBk := (Blk.new w 26 _).below' hb
  have d2 : w1.cell? ⟨w.heap.size, 2, none⟩ = some (.int .i64 N) := hBk.cell 2
  have d3 : w1.cell? ⟨w.heap.size, 3, none⟩ = some (.int .i64 M) := hBk.cell 3
  have d4 : w1.cell? ⟨w.heap.size, 4, none⟩ = some (.slice tA n tc) := hBk.cell 4
  have HB := Lib.hid (below_then ((Below.refl w.heap.size w).alloc (Nat.le_refl _) _) (by simp) hb)
  clear T2 hb hBk
  go_wp2_with (first | (go_at_call 88; refine (within_any _ _ _ _).mono ?_; rintro e w2 ⟨rfl, rfl⟩))
  all_goals go_ret
  all_goals
    refine ⟨congrArg (fun q => Ending.returned (Value.bool q)) (?_ : _ = b), HB.out⟩
    rw [HBB.out, Bool.eq_iff_iff]
    clear HB HBB
    simp [inB] at *
    try omega
set_option maxRecDepth 100000 in
set_option maxHeartbeats 1000000 in
theorem mayNumbers_2 (x : Ins) (tA : Option Addr) (tc : Nat) (kA : Option Addr) (kc : Nat) (w : World) (hT : Tabs w) (hl1 : x.To.length ≤ 17592186044416) (hs : shp x.Op = 2) (b : Bool) (hbb : b = decide (x.M = 0 ∧ -32768 ≤ x.N ∧ x.N ≤ 32767)) :
    Calls Tryd.prog 90 #[insV x tA tc kA kc] w (BoolPost b w) := by
  have T2 := fun (W : World) (hb : Below w.heap.size w W) => Lib.hid (shape_any x.Op W (hT.below' hb))
  rw [hs] at T2
  clear hT hs
  obtain ⟨At, Op, N, M, To, Keys⟩ := x
  simp only [insV] at *
  have HBB := Lib.hid hbb
  clear hbb
  generalize To.length = n at *
  generalize Keys.length = m at *
  go_enter Tryd.func90, Tryd.ntmps90
  go_wp2_with (first | (go_at_call 31; refine (T2 _ ((Below.refl _ _).alloc (Nat.le_refl _) _)).out.mono ?_))
  rintro e w1 ⟨rfl, hb⟩
  have hBk := (Blk.new w 26 _).below' hb
  have d2 : w1.cell? ⟨w.heap.size, 2, none⟩ = some (.int .i64 N) := hBk.cell 2
  have d3 : w1.cell? ⟨w.heap.size, 3, none⟩ = some (.int .i64 M) := hBk.cell 3
  have d4 : w1.cell? ⟨w.heap.size, 4, none⟩ = some (.slice tA n tc) := hBk.cell 4
  have HB := Lib.hid (below_then ((Below.refl w.heap.size w).alloc (Nat.le_refl _) _) (by simp) hb)
  clear T2 hb hBk
  go_wp2_with (first | (go_at_call 88; refine (within_any _ _ _ _).mono ?_; rintro e w2 ⟨rfl, rfl⟩))
  all_goals go_ret
  all_goals
    refine ⟨congrArg (fun q => Ending.returned (Value.bool q)) (?_ : _ = b), HB.out⟩
    rw [HBB.out, Bool.eq_iff_iff]
    clear HB HBB
    simp [inB] at *
    try omega
set_option maxRecDepth 100000 in
set_option maxHeartbeats 1000000 in
theorem mayNumbers_3 (x : Ins) (tA : Option Addr) (tc : Nat) (kA : Option Addr) (kc : Nat) (w : World) (hT : Tabs w) (hl1 : x.To.length ≤ 17592186044416) (hs : shp x.Op = 3) (b : Bool) (hbb : b = decide (x.M = 0 ∧ 0 ≤ x.N ∧ x.N ≤ 65535)) :
    Calls Tryd.prog 90 #[insV x tA tc kA kc] w (BoolPost b w) := by
  have T2 := fun (W : World) (hb : Below w.heap.size w W) => Lib.hid (shape_any x.Op W (hT.below' hb))
  rw [hs] at T2
  clear hT hs
  obtain ⟨At, Op, N, M, To, Keys⟩ := x
  simp only [insV] at *
  have HBB := Lib.hid hbb
  clear hbb
  generalize To.length = n at *
  generalize Keys.length = m at *
  go_enter Tryd.func90, Tryd.ntmps90
  go_wp2_with (first | (go_at_call 31; refine (T2 _ ((Below.refl _ _).alloc (Nat.le_refl _) _)).out.mono ?_))
  rintro e w1 ⟨rfl, hb⟩
  have hBk := (Blk.new w 26 _).below' hb
  have d2 : w1.cell? ⟨w.heap.size, 2, none⟩ = some (.int .i64 N) := hBk.cell 2
  have d3 : w1.cell? ⟨w.heap.size, 3, none⟩ = some (.int .i64 M) := hBk.cell 3
  have d4 : w1.cell? ⟨w.heap.size, 4, none⟩ = some (.slice tA n tc) := hBk.cell 4
  have HB := Lib.hid (below_then ((Below.refl w.heap.size w).alloc (Nat.le_refl _) _) (by simp) hb)
  clear T2 hb hBk
  go_wp2_with (first | (go_at_call 88; refine (within_any _ _ _ _).mono ?_; rintro e w2 ⟨rfl, rfl⟩))
  all_goals go_ret
  all_goals
    refine ⟨congrArg (fun q => Ending.returned (Value.bool q)) (?_ : _ = b), HB.out⟩
    rw [HBB.out, Bool.eq_iff_iff]
    clear HB HBB
    simp [inB] at *
    try omega
set_option maxRecDepth 100000 in
set_option maxHeartbeats 1000000 in
theorem mayNumbers_5 (x : Ins) (tA : Option Addr) (tc : Nat) (kA : Option Addr) (kc : Nat) (w : World) (hT : Tabs w) (hl1 : x.To.length ≤ 17592186044416) (hs : shp x.Op = 5) (b : Bool) (hbb : b = decide (0 ≤ x.N ∧ x.N ≤ 255 ∧ -128 ≤ x.M ∧ x.M ≤ 127)) :
    Calls Tryd.prog 90 #[insV x tA tc kA kc] w (BoolPost b w) := by
  have T2 := fun (W : World) (hb : Below w.heap.size w W) => Lib.hid (shape_any x.Op W (hT.below' hb))
  rw [hs] at T2
  clear hT hs
  obtain ⟨At, Op, N, M, To, Keys⟩ := x
  simp only [insV] at *
  have HBB := Lib.hid hbb
  clear hbb
  generalize To.length = n at *
  generalize Keys.length = m at *
  go_enter Tryd.func90, Tryd.ntmps90
  go_wp2_with (first | (go_at_call 31; refine (T2 _ ((Below.refl _ _).alloc (Nat.le_refl _) _)).out.mono ?_))
  rintro e w1 ⟨rfl, hb⟩
  have hBk := (Blk.new w 26 _).below' hb
  have d2 : w1.cell? ⟨w.heap.size, 2, none⟩ = some (.int .i64 N) := hBk.cell 2
  have d3 : w1.cell? ⟨w.heap.size, 3, none⟩ = some (.int .i64 M) := hBk.cell 3
  have d4 : w1.cell? ⟨w.heap.size, 4, none⟩ = some (.slice tA n tc) := hBk.cell 4
  have HB := Lib.hid (below_then ((Below.refl w.heap.size w).alloc (Nat.le_refl _) _) (by simp) hb)
  clear T2 hb hBk
  go_wp2_with (first | (go_at_call 88; refine (within_any _ _ _ _).mono ?_; rintro e w2 ⟨rfl, rfl⟩))
  all_goals go_ret
  all_goals
    refine ⟨congrArg (fun q => Ending.returned (Value.bool q)) (?_ : _ = b), HB.out⟩
    rw [HBB.out, Bool.eq_iff_iff]
    clear HB HBB
    simp [inB] at *
    try omega
set_option maxRecDepth 100000 in
set_option maxHeartbeats 1000000 in
theorem mayNumbers_6 (x : Ins) (tA : Option Addr) (tc : Nat) (kA : Option Addr) (kc : Nat) (w : World) (hT : Tabs w) (hl1 : x.To.length ≤ 17592186044416) (hs : shp x.Op = 6) (b : Bool) (hbb : b = decide (x.M = 0 ∧ -2147483648 ≤ x.N ∧ x.N ≤ 2147483649 - (x.To.length : Int))) :
    Calls Tryd.prog 90 #[insV x tA tc kA kc] w (BoolPost b w) := by
  have T2 := fun (W : World) (hb : Below w.heap.size w W) => Lib.hid (shape_any x.Op W (hT.below' hb))
  rw [hs] at T2
  clear hT hs
  obtain ⟨At, Op, N, M, To, Keys⟩ := x
  simp only [insV] at *
  have HBB := Lib.hid hbb
  clear hbb
  generalize To.length = n at *
  generalize Keys.length = m at *
  go_enter Tryd.func90, Tryd.ntmps90
  go_wp2_with (first | (go_at_call 31; refine (T2 _ ((Below.refl _ _).alloc (Nat.le_refl _) _)).out.mono ?_))
  rintro e w1 ⟨rfl, hb⟩
  have hBk := (Blk.new w 26 _).below' hb
  have d2 : w1.cell? ⟨w.heap.size, 2, none⟩ = some (.int .i64 N) := hBk.cell 2
  have d3 : w1.cell? ⟨w.heap.size, 3, none⟩ = some (.int .i64 M) := hBk.cell 3
  have d4 : w1.cell? ⟨w.heap.size, 4, none⟩ = some (.slice tA n tc) := hBk.cell 4
  have HB := Lib.hid (below_then ((Below.refl w.heap.size w).alloc (Nat.le_refl _) _) (by simp) hb)
  clear T2 hb hBk
  go_wp2_with (first | (go_at_call 88; refine (within_any _ _ _ _).mono ?_; rintro e w2 ⟨rfl, rfl⟩))
  all_goals go_ret
  all_goals
    refine ⟨congrArg (fun q => Ending.returned (Value.bool q)) (?_ : _ = b), HB.out⟩
    rw [HBB.out, Bool.eq_iff_iff]
    clear HB HBB
    simp [inB] at *
    try omega
set_option maxRecDepth 100000 in
set_option maxHeartbeats 1000000 in
theorem mayNumbers_o (x : Ins) (tA : Option Addr) (tc : Nat) (kA : Option Addr) (kc : Nat) (w : World) (hT : Tabs w) (hl1 : x.To.length ≤ 17592186044416) (hs : shp x.Op ≠ 1 ∧ shp x.Op ≠ 2 ∧ shp x.Op ≠ 3 ∧ shp x.Op ≠ 5 ∧ shp x.Op ≠ 6) (b : Bool) (hbb : b = decide (x.N = 0 ∧ x.M = 0)) :
    Calls Tryd.prog 90 #[insV x tA tc kA kc] w (BoolPost b w) := by
  have T2 := fun (W : World) (hb : Below w.heap.size w W) => Lib.hid (shape_any x.Op W (hT.below' hb))
  generalize shp x.Op = s at *
  obtain ⟨e1, e2, e3, e5, e6⟩ : (s == 1) = false ∧ (s == 2) = false ∧ (s == 3) = false ∧ (s == 5) = false ∧ (s == 6) = false := by simpa using hs
  clear hT hs
  obtain ⟨At, Op, N, M, To, Keys⟩ := x
  simp only [insV] at *
  have HBB := Lib.hid hbb
  clear hbb
  generalize To.length = n at *
  generalize Keys.length = m at *
  go_enter Tryd.func90, Tryd.ntmps90
  go_wp2_with (first | (go_at_call 31; refine (T2 _ ((Below.refl _ _).alloc (Nat.le_refl _) _)).out.mono ?_))
  rintro e w1 ⟨rfl, hb⟩
  have hBk := (Blk.new w 26 _).below' hb
  have d2 : w1.cell? ⟨w.heap.size, 2, none⟩ = some (.int .i64 N) := hBk.cell 2
  have d3 : w1.cell? ⟨w.heap.size, 3, none⟩ = some (.int .i64 M) := hBk.cell 3
  have d4 : w1.cell? ⟨w.heap.size, 4, none⟩ = some (.slice tA n tc) := hBk.cell 4
  have HB := Lib.hid (below_then ((Below.refl w.heap.size w).alloc (Nat.le_refl _) _) (by simp) hb)
  clear T2 hb hBk
  go_wp2_with (first | (go_at_call 88; refine (within_any _ _ _ _).mono ?_; rintro e w2 ⟨rfl, rfl⟩))
  all_goals go_ret
  all_goals
    refine ⟨congrArg (fun q => Ending.returned (Value.bool q)) (?_ : _ = b), HB.out⟩
    rw [HBB.out, Bool.eq_iff_iff]
    clear HB HBB
    simp at *
    try omega
theorem mayNumbers_any (x : Ins) (tA : Option Addr) (tc : Nat) (kA : Option Addr) (kc : Nat) (w : World) (hT : Tabs w) (hl1 : x.To.length ≤ 17592186044416) :
    Calls Tryd.prog 90 #[insV x tA tc kA kc] w (BoolPost (numsB x) w) := by
  by_cases h1 : shp x.Op = 1
  · exact mayNumbers_1 x tA tc kA kc w hT hl1 h1 _ (by unfold numsB; rw [if_pos h1])
  · by_cases h2 : shp x.Op = 2
    · exact mayNumbers_2 x tA tc kA kc w hT hl1 h2 _ (by unfold numsB; rw [if_neg h1, if_pos h2])
    · by_cases h3 : shp x.Op = 3
      · exact mayNumbers_3 x tA tc kA kc w hT hl1 h3 _ (by unfold numsB; rw [if_neg h1, if_neg h2, if_pos h3])
      · by_cases h5 : shp x.Op = 5
        · exact mayNumbers_5 x tA tc kA kc w hT hl1 h5 _ (by unfold numsB; rw [if_neg h1, if_neg h2, if_neg h3, if_pos h5])
        · by_cases h6 : shp x.Op = 6
          · exact mayNumbers_6 x tA tc kA kc w hT hl1 h6 _ (by unfold numsB; rw [if_neg h1, if_neg h2, if_neg h3, if_neg h5, if_pos h6])
          · exact mayNumbers_o x tA tc kA kc w hT hl1 ⟨h1, h2, h3, h5, h6⟩ _ (by unfold numsB; rw [if_neg h1, if_neg h2, if_neg h3, if_neg h5, if_neg h6])
end Go.Proofs.YtjmfdmipdglccaaDoor
