/- The walk of Bring, at every two numbers. -/
import Derived.Test.YtjmfdmipdglccaaDoorE1
namespace Go.Proofs.YtjmfdmipdglccaaDoor
open Go.RowKit

/-- What Bring answers. -/
def bringB (n r : Int) : Int := if r ≤ 0 then 0 else n % r
theorem bring_all (n r : Int) (w : World) (hr2 : r ≤ 1152921504606846976) (_h0 : -9223372036854775808 ≤ n) (_h1 : n ≤ 9223372036854775807) :
    Calls Tryd.prog 26 #[.int .i64 n, .int .i64 r] w fun e w' => e = .returned (.int .i64 (bringB n r)) ∧ w = w' := by
  unfold bringB
  by_cases hr : r ≤ 0
  · rw [if_pos hr]
    go_enter Tryd.func26, Tryd.ntmps26
    go_wp2
    go_ret
    exact ⟨rfl, rfl⟩
  rw [if_neg hr]
  have hr : 0 < r := by omega
  have hne : (r == 0) = false := beq_eq_false_iff_ne.2 (by omega)
  have hr0 : (r = 0) = False := eq_false (by omega)
  have hr1 : (r = -1) = False := eq_false (by omega)
  have l1 : n.tmod r < r := Int.tmod_lt_of_pos n hr
  have l2 : -r < n.tmod r := by
    have := Int.tmod_lt_of_pos (-n) hr
    rw [Int.neg_tmod] at this
    omega
  have hm : n % r = if 0 ≤ n.tmod r then n.tmod r else n.tmod r + r := by
    have e1 : r * n.tdiv r + n.tmod r = n := Int.mul_tdiv_add_tmod n r
    have e2 : n % r = n.tmod r % r := by
      conv => lhs; rw [← e1, Int.add_comm]
      exact Int.add_mul_emod_self_left _ _ _
    split
    · rename_i h
      rw [e2, Int.emod_eq_of_lt h l1]
    · rename_i h
      have e3 : (n.tmod r + r * 1) % r = n.tmod r % r := Int.add_mul_emod_self_left _ _ _
      rw [Int.mul_one] at e3
      rw [e2, ← e3, Int.emod_eq_of_lt (by omega) (by omega)]
  generalize hq : n.tmod r = q at *
  have HQ := Lib.hid hq
  have hq1 : Int.tmod n r = q := hq
  rw [hm]
  clear hm hq
  by_cases h : 0 ≤ q
  · rw [if_pos h]
    go_enter Tryd.func26, Tryd.ntmps26
    go_wp2
    go_ret
    exact ⟨by simp, rfl⟩
  · rw [if_neg h]
    go_enter Tryd.func26, Tryd.ntmps26
    go_wp2
    go_ret
    exact ⟨by simp, rfl⟩
end Go.Proofs.YtjmfdmipdglccaaDoor
