/- The walks of mayWays, mayNumbers, may: joined. -/
import Derived.Test.YtjmfdmipdglccaaDoorB3
namespace Go.Proofs.YtjmfdmipdglccaaDoor
open Go.RowKit

set_option maxRecDepth 100000 in
theorem mayWays_bad (x : Ins) (tA : Option Addr) (tc : Nat) (kA : Option Addr) (kc : Nat) (w : World) (h : Lists w x tA tc kA kc) (h0 : 0 ≤ x.At) (h1 : x.At ≤ 8191) (hp : placesB x = false) :
    Calls Tryd.prog 89 #[insV x tA tc kA kc] w (BoolPost false w) := by
  have T1 := fun (W : World) (hb : Below w.heap.size w W) (hc : W.cell? ⟨w.heap.size, 0, none⟩ = some (.int .i64 x.At)) => Lib.hid (containsOdd_any tA x.To.length tc w.heap.size x.At x.To W (h.to_.below hb) (by have := h.tlen; omega) hc h0 h1)
  have ho : x.To.any oddB = true := by simpa [placesB] using hp
  rw [ho] at T1
  clear h hp ho
  obtain ⟨At, Op, N, M, To, Keys⟩ := x
  simp only [insV] at *
  generalize To.length = n at *
  generalize Keys.length = m at *
  go_enter Tryd.func89, Tryd.ntmps89
  go_wp2_with (first | (go_at_call 71; refine (T1 _ ((Below.refl _ _).alloc (Nat.le_refl _) _) (by simp)).out.mono ?_; rintro e w1 ⟨rfl, rfl⟩))
  go_ret
  exact ⟨rfl, (Below.refl _ _).alloc (Nat.le_refl _) _⟩
theorem mayWays_any (x : Ins) (tA : Option Addr) (tc : Nat) (kA : Option Addr) (kc : Nat) (w : World) (hT : Tabs w) (h : Lists w x tA tc kA kc) (h0 : 0 ≤ x.At) (h1 : x.At ≤ 8191) :
    Calls Tryd.prog 89 #[insV x tA tc kA kc] w (BoolPost (placesB x && waysB x) w) := by
  by_cases hp : placesB x = true
  · rw [hp, Bool.true_and]
    by_cases h4 : shp x.Op = 4
    · exact mayWays_4 x tA tc kA kc w hT h h0 h1 hp h4 _ (by unfold waysB; rw [if_pos h4])
    · by_cases h6 : shp x.Op = 6
      · exact mayWays_6 x tA tc kA kc w hT h h0 h1 hp h6 _ (by unfold waysB; rw [if_neg h4, if_pos h6])
      · by_cases h7 : shp x.Op = 7
        · exact mayWays_7 x tA tc kA kc w hT h h0 h1 hp h7 _ (by unfold waysB; rw [if_neg h4, if_neg h6, if_pos h7])
        · exact mayWays_o x tA tc kA kc w hT h h0 h1 hp ⟨h4, h6, h7⟩ _ (by unfold waysB; rw [if_neg h4, if_neg h6, if_neg h7])
  · have hp' : placesB x = false := by simpa using hp
    rw [hp', Bool.false_and]
    exact mayWays_bad x tA tc kA kc w h h0 h1 hp'
end Go.Proofs.YtjmfdmipdglccaaDoor
