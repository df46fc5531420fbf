/- The walks of within, mayWays, mayNumbers, may. -/
import Derived.Test.YtjmfdmipdglccaaDoorB1
namespace Go.Proofs.YtjmfdmipdglccaaDoor
open Go.RowKit

theorem within_any (n l m : Int) (w : World) : Calls Tryd.prog 88 #[.int .i64 n, .int .i64 l, .int .i64 m] w fun e w' => e = .returned (.bool (inB n l m)) ∧ w = w' := by
  by_cases h : l ≤ n
  · by_cases h2 : n ≤ m
    · rw [inB_true h h2]
      go_enter Tryd.func88, Tryd.ntmps88
      go_wp2
      go_ret
      exact ⟨rfl, rfl⟩
    · rw [inB_false (by omega)]
      go_enter Tryd.func88, Tryd.ntmps88
      go_wp2
      go_ret
      exact ⟨rfl, rfl⟩
  · rw [inB_false (by omega)]
    go_enter Tryd.func88, Tryd.ntmps88
    go_wp2
    go_ret
    exact ⟨rfl, rfl⟩

theorem odd_any (B : Nat) (at_ t : Int) (w : World) (hc : w.cell? ⟨B, 0, none⟩ = some (.int .i64 at_)) (h0 : 0 ≤ at_) (h1 : at_ ≤ 8191) :
    Calls Tryd.prog 101 #[.int .i64 t, .pointer (some ⟨B, 0, none⟩)] w fun e w' => e = .returned (.bool (oddB t)) ∧ w = w' := by
  unfold oddB
  by_cases h : 0 ≤ t ∧ t ≤ 8191
  · have e1 := inB_true h.1 h.2
    have e2 : inB (t - at_) (-32768) 32767 = true := inB_true (by omega) (by omega)
    obtain ⟨h2, h3⟩ := h
    rw [e1]
    go_enter Tryd.func101, Tryd.ntmps101
    go_wp2_with (go_at_call 88; refine (within_any _ _ _ _).mono ?_; rintro e w1 ⟨rfl, rfl⟩; (first | rw [e1] | rw [e2]))
    go_ret
    exact ⟨rfl, rfl⟩
  · have e1 := inB_false h
    rw [e1]
    go_enter Tryd.func101, Tryd.ntmps101
    go_wp2_with (go_at_call 88; refine (within_any _ _ _ _).mono ?_; rintro e w1 ⟨rfl, rfl⟩; rw [e1])
    go_ret
    exact ⟨rfl, rfl⟩

/-- Where the first one stands of which p holds; -1. -/
def idxB {α : Type} (p : α → Bool) : List α → Int
  | [] => -1
  | x :: xs => if p x then 0 else if idxB p xs < 0 then -1 else idxB p xs + 1
theorem idxB_ge {α : Type} (p : α → Bool) (xs : List α) : -1 ≤ idxB p xs ∧ idxB p xs < xs.length := by
  induction xs with
  | nil => simp [idxB]
  | cons x xs ih =>
    unfold idxB
    split
    · simp
    · split <;> simp <;> omega
theorem idxB_none {α : Type} (p : α → Bool) (xs : List α) (h : ∀ (j : Nat) (u : α), xs[j]? = some u → p u = false) : idxB p xs = -1 := by
  induction xs with
  | nil => rfl
  | cons x xs ih =>
    have h0 := h 0 x rfl
    unfold idxB
    rw [h0, ih (fun j u hu => h (j + 1) u hu)]
    simp
theorem idxB_at {α : Type} (p : α → Bool) (xs : List α) (k : Nat) (u : α) (hk : xs[k]? = some u) (hp : p u = true) (h : ∀ (j : Nat) (v : α), j < k → xs[j]? = some v → p v = false) : idxB p xs = k := by
  induction xs generalizing k with
  | nil => simp at hk
  | cons x xs ih =>
    cases k with
    | zero =>
      simp at hk
      subst hk
      simp [idxB, hp]
    | succ k =>
      have h0 := h 0 x (by omega) rfl
      have h1 := ih k (by simpa using hk) (fun j v hj hv => h (j + 1) v (by omega) (by simpa using hv))
      unfold idxB
      rw [h0, h1]
      simp
      omega
theorem idxB_any {α : Type} (p : α → Bool) (xs : List α) : decide (0 ≤ idxB p xs) = xs.any p := by
  induction xs with
  | nil => rfl
  | cons x xs ih =>
    unfold idxB
    by_cases hx : p x = true
    · simp [hx]
    · have hx' : p x = false := by simpa using hx
      simp only [hx', List.any_cons, Bool.false_or, ← ih]
      have := idxB_ge p xs
      by_cases h0 : idxB p xs < 0
      · have h1 : ¬ 0 ≤ idxB p xs := by omega
        simp [h0, h1]
      · have h1 : 0 ≤ idxB p xs := by omega
        simp [h0, h1]; omega

theorem idxOdd_any (A : Option Addr) (n c B : Nat) (at_ : Int) (xs : List Int) (w : World) (hN : Nums .i64 w A n c xs) (hn : n ≤ 140737488355328) (hc : w.cell? ⟨B, 0, none⟩ = some (.int .i64 at_)) (h0 : 0 ≤ at_) (h1 : at_ ≤ 8191) :
    Calls Tryd.prog 93 #[.slice A n c, .func (.func 101) #[] #[.pointer (some ⟨B, 0, none⟩)]] w fun e w' => e = .returned (.int .i64 (idxB oddB xs)) ∧ w = w' := by
  have T := fun t => Lib.hid (odd_any B at_ t w hc h0 h1)
  have HN := Lib.hid hN
  clear hN hc
  go_enter Tryd.func93, Tryd.ntmps93
  go_wp2
  go_loop [8] (fun i => ∃ k : Nat, k ≤ n ∧ i = .int .i64 k ∧ Hid (∀ (j : Nat) (v : Int), j < k → xs[j]? = some v → oddB v = false)) (fun i => n - (intOf i).toNat)
  case atStart => exact ⟨0, Nat.zero_le _, rfl, fun j v hj => by omega⟩
  case round =>
    obtain ⟨k, hk, rfl, hall⟩ := hrel
    by_cases hlt : k < n
    · obtain ⟨ad, hA, hcell⟩ := HN.out.at_ k hlt
      have hxk : xs[k]? = some (xs.getD k 0) := by
        have hl := HN.out.len
        simp [List.getD, show k < xs.length by omega]
      obtain ⟨x, hx⟩ : ∃ x, x = xs.getD k 0 := ⟨_, rfl⟩
      rw [← hx] at hcell hxk
      have HX := Lib.hid hxk
      clear hx hxk
      subst hA
      by_cases hodd : oddB x = true
      · go_wp2_with (go_at_call 101; refine (T x).out.mono ?_; rintro e w1 ⟨rfl, rfl⟩)
        go_ret
        refine ⟨?_, rfl⟩
        rw [idxB_at oddB xs k x HX.out hodd hall.out]
        rfl
      · have hodd' : oddB x = false := by simpa using hodd
        clear hodd
        go_wp2_with (go_at_call 101; refine (T x).out.mono ?_; rintro e w1 ⟨rfl, rfl⟩)
        go_round
        case rel =>
          refine ⟨k + 1, by omega, by go_num, fun j v hj hv => ?_⟩
          by_cases hjk : j = k
          · subst hjk
            rw [HX.out] at hv
            obtain rfl := Option.some.inj hv
            exact hodd'
          · exact hall.out j v (by omega) hv
        case measure => simp [intOf]; omega
    · go_wp2
      go_ret
      refine ⟨?_, rfl⟩
      rw [idxB_none oddB xs (fun j v hv => hall.out j v (by
        have hl := HN.out.len
        have := (List.getElem?_eq_some_iff.1 hv).1
        omega) hv)]
      rfl
theorem containsOdd_any (A : Option Addr) (n c B : Nat) (at_ : Int) (xs : List Int) (w : World) (hN : Nums .i64 w A n c xs) (hn : n ≤ 140737488355328) (hc : w.cell? ⟨B, 0, none⟩ = some (.int .i64 at_)) (h0 : 0 ≤ at_) (h1 : at_ ≤ 8191) :
    Calls Tryd.prog 71 #[.slice A n c, .func (.func 101) #[] #[.pointer (some ⟨B, 0, none⟩)]] w fun e w' => e = .returned (.bool (xs.any oddB)) ∧ w = w' := by
  have T := Lib.hid (idxOdd_any A n c B at_ xs w hN hn hc h0 h1)
  have hE := Lib.hid (idxB_any oddB xs)
  clear hN hc
  go_enter Tryd.func71, Tryd.ntmps71
  go_wp2_with (go_at_call 93; refine T.out.mono ?_; rintro e w1 ⟨rfl, rfl⟩)
  go_ret
  refine ⟨?_, rfl⟩
  rw [← hE.out]
  rfl
end Go.Proofs.YtjmfdmipdglccaaDoor
