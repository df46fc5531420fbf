/- The walks of the reference's isInt, mayTo, Shape, Ends. -/
import Derived.Test.YtjmfdmipdglccaaDoorB3
namespace Go.Proofs.YtjmfdmipdglccaaDoor
open Go.RowKit

theorem isInt_any (n : Int) (w : World) : Calls Tryd.prog 92 #[.int .i64 n] w fun e w' => e = .returned (.bool (inB n (-2147483648) 2147483647)) ∧ w = w' := by
  by_cases h : -2147483648 ≤ n
  · by_cases h2 : n ≤ 2147483647
    · rw [inB_true h h2]
      have h3 : n < 2147483648 := by omega
      go_enter Tryd.func92, Tryd.ntmps92
      go_wp2
      go_ret
      exact ⟨rfl, rfl⟩
    · rw [inB_false (by omega)]
      have h3 : 2147483648 ≤ n := by omega
      clear h2
      go_enter Tryd.func92, Tryd.ntmps92
      go_wp2
      go_ret
      exact ⟨congrArg (fun q => Ending.returned (Value.bool q)) (decide_eq_false (by omega)), rfl⟩
  · rw [inB_false (by omega)]
    have h3 : n < -2147483648 := by omega
    clear h
    go_enter Tryd.func92, Tryd.ntmps92
    go_wp2
    go_ret
    exact ⟨rfl, rfl⟩

set_option maxRecDepth 100000 in
theorem mayTo_any (x : Ins) (tA : Option Addr) (tc : Nat) (kA : Option Addr) (kc : Nat) (t : Int) (w : World) (h0 : 0 ≤ x.At) (h1 : x.At ≤ 8191) :
    Calls Tryd.prog 91 #[insV x tA tc kA kc, .int .i64 t] w (BoolPost (!(oddB t)) w) := by
  obtain ⟨At, Op, N, M, To, Keys⟩ := x
  simp only [insV] at *
  generalize To.length = n at *
  generalize Keys.length = m at *
  have fin : ∀ o1, Hid (Below w.heap.size w (w.alloc o1)) := fun o1 => (Below.refl _ _).alloc (Nat.le_refl _) _
  unfold oddB
  by_cases h : 0 ≤ t
  · by_cases h2 : t ≤ 8191
    · rw [inB_true h h2]
      have h3 : t < 8192 := by omega
      go_enter Tryd.func91, Tryd.ntmps91
      go_wp2
      go_ret
      exact ⟨congrArg (fun q => Ending.returned (Value.bool q)) (decide_eq_true (by omega)), (fin _).out⟩
    · rw [inB_false (by omega)]
      have h3 : 8192 ≤ t := by omega
      clear h2
      go_enter Tryd.func91, Tryd.ntmps91
      go_wp2
      go_ret
      exact ⟨rfl, (fin _).out⟩
  · rw [inB_false (by omega)]
    have h3 : t < 0 := by omega
    clear h
    go_enter Tryd.func91, Tryd.ntmps91
    go_wp2
    go_ret
    exact ⟨rfl, (fin _).out⟩

set_option maxHeartbeats 2000000 in
theorem refShape_any (op : Int) (w : World) : Calls Tryd.prog 32 #[.int .i64 op] w fun e w' => e = .returned (.int .i64 (shp op)) ∧ w = w' := by
  go_enter Tryd.func32, Tryd.ntmps32
  go_wp2
  all_goals go_ret
  all_goals refine ⟨congrArg (fun q => Ending.returned (Value.int .i64 q)) (?_ : _ = _), rfl⟩
  all_goals unfold shp
  all_goals simp at *
  all_goals first | done | ((repeat' split) <;> omega)

theorem refEnds_any (op : Int) (w : World) : Calls Tryd.prog 34 #[.int .i64 op] w fun e w' => e = .returned (.bool (endsB op)) ∧ w = w' := by
  go_enter Tryd.func34, Tryd.ntmps34
  go_wp2
  all_goals go_ret
  all_goals refine ⟨congrArg (fun q => Ending.returned (Value.bool q)) (?_ : _ = _), rfl⟩
  all_goals unfold endsB
  all_goals rw [Bool.eq_iff_iff]
  all_goals simp at *
  all_goals omega
end Go.Proofs.YtjmfdmipdglccaaDoor
