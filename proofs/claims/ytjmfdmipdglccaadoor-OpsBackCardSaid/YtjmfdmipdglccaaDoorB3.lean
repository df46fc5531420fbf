/- The walks of mayWays, mayNumbers, may. -/
import Derived.Test.YtjmfdmipdglccaaDoorB2
namespace Go.Proofs.YtjmfdmipdglccaaDoor
open Go.RowKit

/-- How an instruction stands as a value. -/
abbrev insV (x : Ins) (tA : Option Addr) (tc : Nat) (kA : Option Addr) (kc : Nat) : Value :=
  .agg #[.int .i64 x.At, .int .i64 x.Op, .int .i64 x.N, .int .i64 x.M, .slice tA x.To.length tc, .slice kA x.Keys.length kc]
/-- Its lists lie there, and are not too long for any machine. -/
structure Lists (w : World) (x : Ins) (tA : Option Addr) (tc : Nat) (kA : Option Addr) (kc : Nat) : Prop where
  to_ : Nums .i64 w tA x.To.length tc x.To
  keys : Nums .i64 w kA x.Keys.length kc x.Keys
  tlen : x.To.length ≤ 17592186044416
  klen : x.Keys.length ≤ 17592186044416
theorem Lists.below {w w' : World} {x : Ins} {tA kA : Option Addr} {tc kc : Nat} (h : Lists w x tA tc kA kc) (hb : Below w.heap.size w w') : Lists w' x tA tc kA kc :=
  ⟨h.to_.below hb, h.keys.below hb, h.tlen, h.klen⟩

/-- A Bool answer, in new memory only. -/
def BoolPost (b : Bool) (w : World) (e : Ending) (w' : World) : Prop := e = .returned (.bool b) ∧ Below w.heap.size w w'

set_option maxRecDepth 100000 in
set_option maxHeartbeats 1000000 in
theorem mayWays_4 (x : Ins) (tA : Option Addr) (tc : Nat) (kA : Option Addr) (kc : Nat) (w : World) (hT : Tabs w) (h : Lists w x tA tc kA kc) (h0 : 0 ≤ x.At) (h1 : x.At ≤ 8191) (hp : placesB x = true) (hs : shp x.Op = 4) (b : Bool) (hbb : b = decide (x.To.length = 1 ∧ x.Keys.length = 0)) :
    Calls Tryd.prog 89 #[insV x tA tc kA kc] w (BoolPost b w) := by
  have T1 := fun (W : World) (hb : Below w.heap.size w W) (hc : W.cell? ⟨w.heap.size, 0, none⟩ = some (.int .i64 x.At)) => Lib.hid (containsOdd_any tA x.To.length tc w.heap.size x.At x.To W (h.to_.below hb) (by have := h.tlen; omega) hc h0 h1)
  have ho : x.To.any oddB = false := by simpa [placesB] using hp
  rw [ho] at T1
  have T2 := fun (W : World) (hb : Below w.heap.size w W) => Lib.hid (shape_any x.Op W (hT.below' hb))
  rw [hs] at T2
  have hl1 := h.tlen
  have hl2 := h.klen
  clear h hT hp ho hs
  obtain ⟨At, Op, N, M, To, Keys⟩ := x
  simp only [insV] at *
  have HBB := Lib.hid hbb
  clear hbb
  generalize To.length = n at *
  generalize Keys.length = m at *
  go_enter Tryd.func89, Tryd.ntmps89
  go_wp2_with (first | (go_at_call 71; refine (T1 _ ((Below.refl _ _).alloc (Nat.le_refl _) _) (by simp)).out.mono ?_; rintro e w1 ⟨rfl, rfl⟩) | (go_at_call 31; refine (T2 _ ((Below.refl _ _).alloc (Nat.le_refl _) _)).out.mono ?_))
  rintro e w1 ⟨rfl, hb⟩
  have hBk := (Blk.new w 26 _).below' hb
  have d4 : w1.cell? ⟨w.heap.size, 4, none⟩ = some (.slice tA n tc) := hBk.cell 4
  have d5 : w1.cell? ⟨w.heap.size, 5, none⟩ = some (.slice kA m kc) := hBk.cell 5
  have HB := Lib.hid (below_then ((Below.refl w.heap.size w).alloc (Nat.le_refl _) _) (by simp) hb)
  clear T1 T2 hb hBk
  go_wp2_with (first | fail)
  all_goals go_ret
  all_goals
    refine ⟨congrArg (fun q => Ending.returned (Value.bool q)) (?_ : _ = b), HB.out⟩
    rw [HBB.out, Bool.eq_iff_iff]
    clear HB HBB
    simp at *
    try omega
set_option maxRecDepth 100000 in
set_option maxHeartbeats 1000000 in
theorem mayWays_6 (x : Ins) (tA : Option Addr) (tc : Nat) (kA : Option Addr) (kc : Nat) (w : World) (hT : Tabs w) (h : Lists w x tA tc kA kc) (h0 : 0 ≤ x.At) (h1 : x.At ≤ 8191) (hp : placesB x = true) (hs : shp x.Op = 6) (b : Bool) (hbb : b = decide (2 ≤ x.To.length ∧ x.To.length ≤ 1001 ∧ x.Keys.length = 0)) :
    Calls Tryd.prog 89 #[insV x tA tc kA kc] w (BoolPost b w) := by
  have T1 := fun (W : World) (hb : Below w.heap.size w W) (hc : W.cell? ⟨w.heap.size, 0, none⟩ = some (.int .i64 x.At)) => Lib.hid (containsOdd_any tA x.To.length tc w.heap.size x.At x.To W (h.to_.below hb) (by have := h.tlen; omega) hc h0 h1)
  have ho : x.To.any oddB = false := by simpa [placesB] using hp
  rw [ho] at T1
  have T2 := fun (W : World) (hb : Below w.heap.size w W) => Lib.hid (shape_any x.Op W (hT.below' hb))
  rw [hs] at T2
  have hl1 := h.tlen
  have hl2 := h.klen
  clear h hT hp ho hs
  obtain ⟨At, Op, N, M, To, Keys⟩ := x
  simp only [insV] at *
  have HBB := Lib.hid hbb
  clear hbb
  generalize To.length = n at *
  generalize Keys.length = m at *
  go_enter Tryd.func89, Tryd.ntmps89
  go_wp2_with (first | (go_at_call 71; refine (T1 _ ((Below.refl _ _).alloc (Nat.le_refl _) _) (by simp)).out.mono ?_; rintro e w1 ⟨rfl, rfl⟩) | (go_at_call 31; refine (T2 _ ((Below.refl _ _).alloc (Nat.le_refl _) _)).out.mono ?_))
  rintro e w1 ⟨rfl, hb⟩
  have hBk := (Blk.new w 26 _).below' hb
  have d4 : w1.cell? ⟨w.heap.size, 4, none⟩ = some (.slice tA n tc) := hBk.cell 4
  have d5 : w1.cell? ⟨w.heap.size, 5, none⟩ = some (.slice kA m kc) := hBk.cell 5
  have HB := Lib.hid (below_then ((Below.refl w.heap.size w).alloc (Nat.le_refl _) _) (by simp) hb)
  clear T1 T2 hb hBk
  go_wp2_with (first | fail | (go_at_call 88; refine (within_any _ _ _ _).mono ?_; rintro e w2 ⟨rfl, rfl⟩))
  all_goals go_ret
  all_goals
    refine ⟨congrArg (fun q => Ending.returned (Value.bool q)) (?_ : _ = b), HB.out⟩
    rw [HBB.out, Bool.eq_iff_iff]
    clear HB HBB
    simp [inB] at *
    try omega
set_option maxRecDepth 100000 in
set_option maxHeartbeats 1000000 in
theorem mayWays_7 (x : Ins) (tA : Option Addr) (tc : Nat) (kA : Option Addr) (kc : Nat) (w : World) (hT : Tabs w) (h : Lists w x tA tc kA kc) (h0 : 0 ≤ x.At) (h1 : x.At ≤ 8191) (hp : placesB x = true) (hs : shp x.Op = 7) (b : Bool) (hbb : b = decide (1 ≤ x.To.length ∧ x.To.length ≤ 1001 ∧ x.Keys.length + 1 = x.To.length)) :
    Calls Tryd.prog 89 #[insV x tA tc kA kc] w (BoolPost b w) := by
  have T1 := fun (W : World) (hb : Below w.heap.size w W) (hc : W.cell? ⟨w.heap.size, 0, none⟩ = some (.int .i64 x.At)) => Lib.hid (containsOdd_any tA x.To.length tc w.heap.size x.At x.To W (h.to_.below hb) (by have := h.tlen; omega) hc h0 h1)
  have ho : x.To.any oddB = false := by simpa [placesB] using hp
  rw [ho] at T1
  have T2 := fun (W : World) (hb : Below w.heap.size w W) => Lib.hid (shape_any x.Op W (hT.below' hb))
  rw [hs] at T2
  have hl1 := h.tlen
  have hl2 := h.klen
  clear h hT hp ho hs
  obtain ⟨At, Op, N, M, To, Keys⟩ := x
  simp only [insV] at *
  have HBB := Lib.hid hbb
  clear hbb
  generalize To.length = n at *
  generalize Keys.length = m at *
  go_enter Tryd.func89, Tryd.ntmps89
  go_wp2_with (first | (go_at_call 71; refine (T1 _ ((Below.refl _ _).alloc (Nat.le_refl _) _) (by simp)).out.mono ?_; rintro e w1 ⟨rfl, rfl⟩) | (go_at_call 31; refine (T2 _ ((Below.refl _ _).alloc (Nat.le_refl _) _)).out.mono ?_))
  rintro e w1 ⟨rfl, hb⟩
  have hBk := (Blk.new w 26 _).below' hb
  have d4 : w1.cell? ⟨w.heap.size, 4, none⟩ = some (.slice tA n tc) := hBk.cell 4
  have d5 : w1.cell? ⟨w.heap.size, 5, none⟩ = some (.slice kA m kc) := hBk.cell 5
  have HB := Lib.hid (below_then ((Below.refl w.heap.size w).alloc (Nat.le_refl _) _) (by simp) hb)
  clear T1 T2 hb hBk
  go_wp2_with (first | fail | (go_at_call 88; refine (within_any _ _ _ _).mono ?_; rintro e w2 ⟨rfl, rfl⟩))
  all_goals go_ret
  all_goals
    refine ⟨congrArg (fun q => Ending.returned (Value.bool q)) (?_ : _ = b), HB.out⟩
    rw [HBB.out, Bool.eq_iff_iff]
    clear HB HBB
    simp [inB] at *
    try omega
set_option maxRecDepth 100000 in
set_option maxHeartbeats 1000000 in
theorem mayWays_o (x : Ins) (tA : Option Addr) (tc : Nat) (kA : Option Addr) (kc : Nat) (w : World) (hT : Tabs w) (h : Lists w x tA tc kA kc) (h0 : 0 ≤ x.At) (h1 : x.At ≤ 8191) (hp : placesB x = true) (hs : shp x.Op ≠ 4 ∧ shp x.Op ≠ 6 ∧ shp x.Op ≠ 7) (b : Bool) (hbb : b = decide (x.To.length = 0 ∧ x.Keys.length = 0)) :
    Calls Tryd.prog 89 #[insV x tA tc kA kc] w (BoolPost b w) := by
  have T1 := fun (W : World) (hb : Below w.heap.size w W) (hc : W.cell? ⟨w.heap.size, 0, none⟩ = some (.int .i64 x.At)) => Lib.hid (containsOdd_any tA x.To.length tc w.heap.size x.At x.To W (h.to_.below hb) (by have := h.tlen; omega) hc h0 h1)
  have ho : x.To.any oddB = false := by simpa [placesB] using hp
  rw [ho] at T1
  have T2 := fun (W : World) (hb : Below w.heap.size w W) => Lib.hid (shape_any x.Op W (hT.below' hb))
  generalize shp x.Op = s at *
  obtain ⟨e4, e6, e7⟩ : (s == 4) = false ∧ (s == 6) = false ∧ (s == 7) = false := by simpa using hs
  have hl1 := h.tlen
  have hl2 := h.klen
  clear h hT hp ho hs
  obtain ⟨At, Op, N, M, To, Keys⟩ := x
  simp only [insV] at *
  have HBB := Lib.hid hbb
  clear hbb
  generalize To.length = n at *
  generalize Keys.length = m at *
  go_enter Tryd.func89, Tryd.ntmps89
  go_wp2_with (first | (go_at_call 71; refine (T1 _ ((Below.refl _ _).alloc (Nat.le_refl _) _) (by simp)).out.mono ?_; rintro e w1 ⟨rfl, rfl⟩) | (go_at_call 31; refine (T2 _ ((Below.refl _ _).alloc (Nat.le_refl _) _)).out.mono ?_))
  rintro e w1 ⟨rfl, hb⟩
  have hBk := (Blk.new w 26 _).below' hb
  have d4 : w1.cell? ⟨w.heap.size, 4, none⟩ = some (.slice tA n tc) := hBk.cell 4
  have d5 : w1.cell? ⟨w.heap.size, 5, none⟩ = some (.slice kA m kc) := hBk.cell 5
  have HB := Lib.hid (below_then ((Below.refl w.heap.size w).alloc (Nat.le_refl _) _) (by simp) hb)
  clear T1 T2 hb hBk
  go_wp2_with (first | fail)
  all_goals go_ret
  all_goals
    refine ⟨congrArg (fun q => Ending.returned (Value.bool q)) (?_ : _ = b), HB.out⟩
    rw [HBB.out, Bool.eq_iff_iff]
    clear HB HBB
    simp at *
    try omega
end Go.Proofs.YtjmfdmipdglccaaDoor
