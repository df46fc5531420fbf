/- The tables in memory; the walks of of, Shape, Ends, Name. -/
import Derived.Test.YtjmfdmipdglccaaDoorA1
import Derived.Test.YtjmfdmipdglccaaDoorN
import Derived.OpenShut
import Derived.LaidLaws
namespace Go.Proofs.YtjmfdmipdglccaaDoor
open Go.RowKit

mutual
def flat {H : Type} : DataW H → List Value
  | .agg ds => flatAll ds
  | .lit (.string b) => [.string ⟨b.toArray⟩]
  | .lit (.int k n) => [.int k n]
  | .lit (.bool b) => [.bool b]
  | _ => []
def flatAll {H : Type} : List (DataW H) → List Value
  | [] => []
  | d :: ds => flat d ++ flatAll ds
end
def moreC : Array Value := (flat (H := Unit) Rows.laid_warpbeam_ops_more).toArray
def tabC : Array Value := (flat (H := Unit) Rows.laid_warpbeam_ops_table).toArray
def row3 (i : Nat) : Option Value × Option Value × Option Value := (some (.string (nameB i)), some (.int .i64 (shp i)), some (.bool (endsB i)))
theorem tab_rows : ((List.range 61).map fun i => (tabC[i * 3]?, tabC[i * 3 + 1]?, tabC[i * 3 + 2]?)) = (List.range 61).map row3 := by kernel_rfl
theorem more_rows : ((List.range 29).map fun i => (moreC[(i + 61) * 3]?, moreC[(i + 61) * 3 + 1]?, moreC[(i + 61) * 3 + 2]?)) = (List.range 29).map fun i => row3 (i + 61) := by kernel_rfl
theorem tab_row (i : Nat) (h : i < 61) : tabC[i * 3]? = some (.string (nameB i)) ∧ tabC[i * 3 + 1]? = some (.int .i64 (shp i)) ∧ tabC[i * 3 + 2]? = some (.bool (endsB i)) := by
  have := congrArg (·[i]?) tab_rows
  simpa [row3, h] using this
theorem more_row (i : Nat) (h : i < 29) : moreC[(i + 61) * 3]? = some (.string (nameB ((i + 61 : Nat) : Int))) ∧ moreC[(i + 61) * 3 + 1]? = some (.int .i64 (shp ((i + 61 : Nat) : Int))) ∧ moreC[(i + 61) * 3 + 2]? = some (.bool (endsB ((i + 61 : Nat) : Int))) := by
  have := congrArg (·[i]?) more_rows
  simp only [List.getElem?_map, List.getElem?_range h, Option.map_some, row3, Option.some.injEq, Prod.mk.injEq] at this
  exact this
/-- The tables lie as laid. -/
def Tabs (w : World) : Prop := (∃ t fz, w.heap[0]? = some (.cells moreC t fz)) ∧ (∃ t fz, w.heap[1]? = some (.cells tabC t fz))
theorem Tabs.below {w w' : World} {B : Nat} (h : Tabs w) (hb : Below B w w') (hB : 2 ≤ B) : Tabs w' := by
  obtain ⟨⟨t0, f0, h0⟩, ⟨t1, f1, h1⟩⟩ := h
  exact ⟨⟨t0, f0, (hb.block 0 (by omega)).trans h0⟩, ⟨t1, f1, (hb.block 1 (by omega)).trans h1⟩⟩
theorem Tabs.size {w : World} (h : Tabs w) : 2 ≤ w.heap.size := by
  obtain ⟨_, ⟨t1, f1, h1⟩⟩ := h
  have := (Array.getElem?_eq_some_iff.1 h1).1
  omega
theorem Tabs.below' {w w' : World} (h : Tabs w) (hb : Below w.heap.size w w') : Tabs w' := h.below hb h.size
theorem Tabs.tab {w : World} (h : Tabs w) (j : Nat) : w.cell? ⟨1, j, none⟩ = tabC[j]? := by
  obtain ⟨_, ⟨t1, f1, h1⟩⟩ := h
  simp [World.cell?, h1]
theorem Tabs.more {w : World} (h : Tabs w) (j : Nat) : w.cell? ⟨0, j, none⟩ = moreC[j]? := by
  obtain ⟨⟨t0, f0, h0⟩, _⟩ := h
  simp [World.cell?, h0]

theorem of_tab (i : Nat) (hi : i < 61) (w : World) (h : Tabs w) :
    Calls Tryd.prog 65 #[.int .i64 i] w fun e w' => e = .returned (.agg #[.string (nameB i), .int .i64 (shp i), .bool (endsB i)]) ∧ Below w.heap.size w w' := by
  have hr := tab_row i hi
  have hsz : 1 < w.heap.size := h.size
  have hsz0 : 0 < w.heap.size := by omega
  have c0 : w.cell? ⟨1, i * 3, none⟩ = some (.string (nameB i)) := (h.tab _).trans hr.1
  have c1 : w.cell? ⟨1, i * 3 + 1, none⟩ = some (.int .i64 (shp i)) := (h.tab _).trans hr.2.1
  have c2 : w.cell? ⟨1, i * 3 + 2, none⟩ = some (.bool (endsB i)) := (h.tab _).trans hr.2.2
  clear hr h
  go_enter Tryd.func65, Tryd.ntmps65
  go_wp2
  refine bodyPost_ret (v := .agg #[.string (nameB i), .int .i64 (shp i), .bool (endsB i)]) (by simp [results, Tryd.results65, go_sem]) rfl ⟨rfl, ?_⟩
  exact (Below.refl _ _).alloc (Nat.le_refl _) _
theorem of_more (i : Nat) (hi : i < 29) (w : World) (h : Tabs w) :
    Calls Tryd.prog 65 #[.int .i64 ((i + 61 : Nat) : Int)] w fun e w' => e = .returned (.agg #[.string (nameB ((i + 61 : Nat) : Int)), .int .i64 (shp ((i + 61 : Nat) : Int)), .bool (endsB ((i + 61 : Nat) : Int))]) ∧ Below w.heap.size w w' := by
  have hr := more_row i hi
  have hsz : 1 < w.heap.size := h.size
  have hsz0 : 0 < w.heap.size := by omega
  obtain ⟨j, hj⟩ : ∃ j, j = i + 61 := ⟨_, rfl⟩
  rw [← hj] at hr ⊢
  have hj1 : 61 ≤ j := by omega
  have hj2 : j < 90 := by omega
  have c0 : w.cell? ⟨0, j * 3, none⟩ = some (.string (nameB j)) := (h.more _).trans hr.1
  have c1 : w.cell? ⟨0, j * 3 + 1, none⟩ = some (.int .i64 (shp j)) := (h.more _).trans hr.2.1
  have c2 : w.cell? ⟨0, j * 3 + 2, none⟩ = some (.bool (endsB j)) := (h.more _).trans hr.2.2
  clear hr h hj
  go_enter Tryd.func65, Tryd.ntmps65
  go_wp2
  refine bodyPost_ret (v := .agg #[.string (nameB j), .int .i64 (shp j), .bool (endsB j)]) (by simp [results, Tryd.results65, go_sem]) rfl ⟨rfl, ?_⟩
  exact (Below.refl _ _).alloc (Nat.le_refl _) _
theorem of_out (op : Int) (hi : op < 0 ∨ 89 < op) (w : World) :
    Calls Tryd.prog 65 #[.int .i64 op] w fun e w' => e = .returned (.agg #[.string ⟨#[]⟩, .int .i64 0, .bool false]) ∧ Below w.heap.size w w' := by
  rcases hi with hi | hi
  all_goals
    go_enter Tryd.func65, Tryd.ntmps65
    go_wp2
    refine bodyPost_ret (v := .agg #[.string ⟨#[]⟩, .int .i64 0, .bool false]) (by simp [results, Tryd.results65, go_sem]) rfl ⟨rfl, ?_⟩
    exact (Below.refl _ _).alloc (Nat.le_refl _) _
theorem shp_out (op : Int) (hi : op < 0 ∨ 89 < op) : shp op = 0 := by
  unfold shp
  repeat rw [if_neg (by omega)]
theorem endsB_out (op : Int) (hi : op < 0 ∨ 89 < op) : endsB op = false := by
  unfold endsB
  rw [Bool.eq_false_iff]
  simp
  omega
theorem nameB_out (op : Int) (hi : op < 0 ∨ 89 < op) : nameB op = ⟨#[]⟩ := by
  unfold nameB
  rw [if_neg (by omega)]
theorem of_any (op : Int) (w : World) (h : Tabs w) :
    Calls Tryd.prog 65 #[.int .i64 op] w fun e w' => e = .returned (.agg #[.string (nameB op), .int .i64 (shp op), .bool (endsB op)]) ∧ Below w.heap.size w w' := by
  by_cases ho : op < 0 ∨ 89 < op
  · rw [shp_out op ho, endsB_out op ho, nameB_out op ho]
    exact of_out op ho w
  · by_cases h61 : op < 61
    · obtain ⟨i, rfl⟩ := Int.eq_ofNat_of_zero_le (show 0 ≤ op by omega)
      exact of_tab i (by omega) w h
    · obtain ⟨i, hi⟩ := Int.eq_ofNat_of_zero_le (show 0 ≤ op - 61 by omega)
      obtain rfl : op = ((i + 61 : Nat) : Int) := by omega
      exact of_more i (by omega) w h
theorem field88_0 (s : ByteArray) (n : Int) (b : Bool) (W : World) : (Instr.field 88 (.agg #[.string s, .int .i64 n, .bool b]) 0).run Tryd.prog W = .ok (.string s) W := by kernel_rfl
theorem field88_1 (s : ByteArray) (n : Int) (b : Bool) (W : World) : (Instr.field 88 (.agg #[.string s, .int .i64 n, .bool b]) 1).run Tryd.prog W = .ok (.int .i64 n) W := by kernel_rfl
theorem field88_2 (s : ByteArray) (n : Int) (b : Bool) (W : World) : (Instr.field 88 (.agg #[.string s, .int .i64 n, .bool b]) 2).run Tryd.prog W = .ok (.bool b) W := by kernel_rfl
set_option maxRecDepth 100000 in
theorem shape_any (op : Int) (w : World) (h : Tabs w) :
    Calls Tryd.prog 31 #[.int .i64 op] w fun e w' => e = .returned (.int .i64 (shp op)) ∧ Below w.heap.size w w' := by
  have T := Lib.hid (of_any op w h)
  have hf := field88_1 (nameB op) (shp op) (endsB op)
  clear h
  go_enter Tryd.func31, Tryd.ntmps31
  go_wp2_with (go_at_call 65; refine T.out.mono ?_)
  rintro e w1 ⟨rfl, hb⟩
  have HB := Lib.hid hb
  clear hb
  go_wp2
  go_ret
  exact ⟨rfl, HB.out⟩
set_option maxRecDepth 100000 in
theorem ends_any (op : Int) (w : World) (h : Tabs w) :
    Calls Tryd.prog 33 #[.int .i64 op] w fun e w' => e = .returned (.bool (endsB op)) ∧ Below w.heap.size w w' := by
  have T := Lib.hid (of_any op w h)
  have hf := field88_2 (nameB op) (shp op) (endsB op)
  clear h
  go_enter Tryd.func33, Tryd.ntmps33
  go_wp2_with (go_at_call 65; refine T.out.mono ?_)
  rintro e w1 ⟨rfl, hb⟩
  have HB := Lib.hid hb
  clear hb
  go_wp2
  go_ret
  exact ⟨rfl, HB.out⟩
set_option maxRecDepth 100000 in
theorem name_any (op : Int) (w : World) (h : Tabs w) :
    Calls Tryd.prog 28 #[.int .i64 op] w fun e w' => e = .returned (.string (nameB op)) ∧ Below w.heap.size w w' := by
  have T := Lib.hid (of_any op w h)
  have hf := field88_0 (nameB op) (shp op) (endsB op)
  clear h
  go_enter Tryd.func28, Tryd.ntmps28
  go_wp2_with (go_at_call 65; refine T.out.mono ?_)
  rintro e w1 ⟨rfl, hb⟩
  have HB := Lib.hid hb
  clear hb
  go_wp2
  go_ret
  exact ⟨rfl, HB.out⟩
end Go.Proofs.YtjmfdmipdglccaaDoor
