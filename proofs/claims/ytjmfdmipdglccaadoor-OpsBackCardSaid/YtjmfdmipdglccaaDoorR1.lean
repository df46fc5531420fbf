/- The walks of the comparisons of lists, and of the copies. -/
import Derived.Test.YtjmfdmipdglccaaDoorB3
import Derived.Deep.QuietTactic
import Derived.BigQuiet
namespace Go.Proofs.YtjmfdmipdglccaaDoor
open Go.RowKit

theorem ints_any (A B : Option Addr) (n m c d : Nat) (xs ys : List Int) (w : World) (h1 : Nums .i64 w A n c xs) (h2 : Nums .i64 w B m d ys) (hn : n ≤ 140737488355328) :
    Calls Tryd.prog 60 #[.slice A n c, .slice B m d] w (BoolPost (decide (xs = ys)) w) := by
  have H1 := Lib.hid h1
  have H2 := Lib.hid h2
  clear h1 h2
  by_cases hnm : n = m
  · subst hnm
    go_enter Tryd.func60, Tryd.ntmps60
    go_wp2
    go_loopw [5] (fun i wr => ∃ k : Nat, k ≤ n ∧ i = .int .i64 k ∧ Hid (∀ j : Nat, j < k → xs.getD j 0 = ys.getD j 0) ∧ Hid (Below w.heap.size w wr)) (fun i _ => n - (intOf i).toNat)
    case atStart => exact ⟨0, Nat.zero_le _, rfl, fun j hj => by omega, Below.refl _ _⟩
    case round =>
      obtain ⟨k, hk, rfl, hall, hbel⟩ := hrel
      by_cases hlt : k < n
      · obtain ⟨a1, e1, g1⟩ := (H1.out.below hbel.out).at_ k hlt
        obtain ⟨a2, e2, g2⟩ := (H2.out.below hbel.out).at_ k hlt
        have hltI : (k : Int) < (n : Int) := by omega
        have hk0 : (0 : Int) ≤ (k : Int) := by omega
        have hne : Hid (xs.getD k 0 ≠ ys.getD k 0 → xs ≠ ys) := fun h e => h (by rw [e])
        obtain ⟨x, hx⟩ : ∃ x, x = xs.getD k 0 := ⟨_, rfl⟩
        obtain ⟨y, hy⟩ : ∃ y, y = ys.getD k 0 := ⟨_, rfl⟩
        rw [← hx] at g1 hne
        rw [← hy] at g2 hne
        have HX := Lib.hid hx
        have HY := Lib.hid hy
        clear hx hy
        subst e1 e2
        by_cases hxy : x = y
        · subst hxy
          clear hne
          go_wp2
          go_quiet (fail)
          go_wp2
          go_roundw
          case rel =>
            refine ⟨k + 1, by omega, by go_num, fun j hj => ?_, below_drewN hbel.out _⟩
            by_cases hjk : j = k
            · subst hjk
              rw [← HX.out, ← HY.out]
            · exact hall.out j (by omega)
          case measure => simp [intOf]; omega
        · have hxyb : (x != y) = true := by simpa using hxy
          go_wp2
          go_quiet (fail)
          go_wp2
          go_ret
          refine ⟨?_, below_drewN hbel.out _⟩
          rw [decide_eq_false (hne.out hxy)]
          rfl
      · go_wp2
        go_ret
        refine ⟨?_, hbel.out⟩
        have he : xs = ys := by
          apply List.ext_getElem
          · rw [H1.out.len, H2.out.len]
          · intro j hj1 hj2
            have := hall.out j (by rw [H1.out.len] at hj1; omega)
            simpa [List.getD, hj1, hj2] using this
        rw [decide_eq_true he]
        rfl
  · have hne : xs ≠ ys := fun e => hnm (by rw [← H1.out.len, ← H2.out.len, e])
    have hq := Lib.hid (decide_eq_false hne)
    clear hne
    have hnmI : ((n : Int) != (m : Int)) = true := by simpa using (fun e => hnm (by omega))
    go_enter Tryd.func60, Tryd.ntmps60
    go_wp2
    go_ret
    refine ⟨?_, Below.refl _ _⟩
    rw [hq.out]
    rfl
theorem eqBytes_any (A B : Option Addr) (n m c d : Nat) (xs ys : List Int) (w : World) (h1 : Nums .u8 w A n c xs) (h2 : Nums .u8 w B m d ys) (hn : n ≤ 140737488355328) :
    Calls Tryd.prog 24 #[.slice A n c, .slice B m d] w (BoolPost (decide (xs = ys)) w) := by
  have H1 := Lib.hid h1
  have H2 := Lib.hid h2
  clear h1 h2
  by_cases hnm : n = m
  · subst hnm
    go_enter Tryd.func24, Tryd.ntmps24
    go_wp2
    go_loopw [5] (fun i wr => ∃ k : Nat, k ≤ n ∧ i = .int .i64 k ∧ Hid (∀ j : Nat, j < k → xs.getD j 0 = ys.getD j 0) ∧ Hid (Below w.heap.size w wr)) (fun i _ => n - (intOf i).toNat)
    case atStart => exact ⟨0, Nat.zero_le _, rfl, fun j hj => by omega, Below.refl _ _⟩
    case round =>
      obtain ⟨k, hk, rfl, hall, hbel⟩ := hrel
      by_cases hlt : k < n
      · obtain ⟨a1, e1, g1⟩ := (H1.out.below hbel.out).at_ k hlt
        obtain ⟨a2, e2, g2⟩ := (H2.out.below hbel.out).at_ k hlt
        have hltI : (k : Int) < (n : Int) := by omega
        have hk0 : (0 : Int) ≤ (k : Int) := by omega
        have hne : Hid (xs.getD k 0 ≠ ys.getD k 0 → xs ≠ ys) := fun h e => h (by rw [e])
        obtain ⟨x, hx⟩ : ∃ x, x = xs.getD k 0 := ⟨_, rfl⟩
        obtain ⟨y, hy⟩ : ∃ y, y = ys.getD k 0 := ⟨_, rfl⟩
        rw [← hx] at g1 hne
        rw [← hy] at g2 hne
        have HX := Lib.hid hx
        have HY := Lib.hid hy
        clear hx hy
        subst e1 e2
        by_cases hxy : x = y
        · subst hxy
          clear hne
          go_wp2
          go_quiet (fail)
          go_wp2
          go_roundw
          case rel =>
            refine ⟨k + 1, by omega, by go_num, fun j hj => ?_, below_drewN hbel.out _⟩
            by_cases hjk : j = k
            · subst hjk
              rw [← HX.out, ← HY.out]
            · exact hall.out j (by omega)
          case measure => simp [intOf]; omega
        · have hxyb : (x != y) = true := by simpa using hxy
          go_wp2
          go_quiet (fail)
          go_wp2
          go_ret
          refine ⟨?_, below_drewN hbel.out _⟩
          rw [decide_eq_false (hne.out hxy)]
          rfl
      · go_wp2
        go_ret
        refine ⟨?_, hbel.out⟩
        have he : xs = ys := by
          apply List.ext_getElem
          · rw [H1.out.len, H2.out.len]
          · intro j hj1 hj2
            have := hall.out j (by rw [H1.out.len] at hj1; omega)
            simpa [List.getD, hj1, hj2] using this
        rw [decide_eq_true he]
        rfl
  · have hne : xs ≠ ys := fun e => hnm (by rw [← H1.out.len, ← H2.out.len, e])
    have hq := Lib.hid (decide_eq_false hne)
    clear hne
    have hnmI : ((n : Int) != (m : Int)) = true := by simpa using (fun e => hnm (by omega))
    go_enter Tryd.func24, Tryd.ntmps24
    go_wp2
    go_ret
    refine ⟨?_, Below.refl _ _⟩
    rw [hq.out]
    rfl
theorem eqInts_any (A B : Option Addr) (n m c d : Nat) (xs ys : List Int) (w : World) (h1 : Nums .i64 w A n c xs) (h2 : Nums .i64 w B m d ys) (hn : n ≤ 140737488355328) :
    Calls Tryd.prog 46 #[.slice A n c, .slice B m d] w (BoolPost (decide (xs = ys)) w) := by
  have H1 := Lib.hid h1
  have H2 := Lib.hid h2
  clear h1 h2
  by_cases hnm : n = m
  · subst hnm
    go_enter Tryd.func46, Tryd.ntmps46
    go_wp2
    go_loopw [5] (fun i wr => ∃ k : Nat, k ≤ n ∧ i = .int .i64 k ∧ Hid (∀ j : Nat, j < k → xs.getD j 0 = ys.getD j 0) ∧ Hid (Below w.heap.size w wr)) (fun i _ => n - (intOf i).toNat)
    case atStart => exact ⟨0, Nat.zero_le _, rfl, fun j hj => by omega, Below.refl _ _⟩
    case round =>
      obtain ⟨k, hk, rfl, hall, hbel⟩ := hrel
      by_cases hlt : k < n
      · obtain ⟨a1, e1, g1⟩ := (H1.out.below hbel.out).at_ k hlt
        obtain ⟨a2, e2, g2⟩ := (H2.out.below hbel.out).at_ k hlt
        have hltI : (k : Int) < (n : Int) := by omega
        have hk0 : (0 : Int) ≤ (k : Int) := by omega
        have hne : Hid (xs.getD k 0 ≠ ys.getD k 0 → xs ≠ ys) := fun h e => h (by rw [e])
        obtain ⟨x, hx⟩ : ∃ x, x = xs.getD k 0 := ⟨_, rfl⟩
        obtain ⟨y, hy⟩ : ∃ y, y = ys.getD k 0 := ⟨_, rfl⟩
        rw [← hx] at g1 hne
        rw [← hy] at g2 hne
        have HX := Lib.hid hx
        have HY := Lib.hid hy
        clear hx hy
        subst e1 e2
        by_cases hxy : x = y
        · subst hxy
          clear hne
          go_wp2
          go_quiet (fail)
          go_wp2
          go_roundw
          case rel =>
            refine ⟨k + 1, by omega, by go_num, fun j hj => ?_, below_drewN hbel.out _⟩
            by_cases hjk : j = k
            · subst hjk
              rw [← HX.out, ← HY.out]
            · exact hall.out j (by omega)
          case measure => simp [intOf]; omega
        · have hxyb : (x != y) = true := by simpa using hxy
          go_wp2
          go_quiet (fail)
          go_wp2
          go_ret
          refine ⟨?_, below_drewN hbel.out _⟩
          rw [decide_eq_false (hne.out hxy)]
          rfl
      · go_wp2
        go_ret
        refine ⟨?_, hbel.out⟩
        have he : xs = ys := by
          apply List.ext_getElem
          · rw [H1.out.len, H2.out.len]
          · intro j hj1 hj2
            have := hall.out j (by rw [H1.out.len] at hj1; omega)
            simpa [List.getD, hj1, hj2] using this
        rw [decide_eq_true he]
        rfl
  · have hne : xs ≠ ys := fun e => hnm (by rw [← H1.out.len, ← H2.out.len, e])
    have hq := Lib.hid (decide_eq_false hne)
    clear hne
    have hnmI : ((n : Int) != (m : Int)) = true := by simpa using (fun e => hnm (by omega))
    go_enter Tryd.func46, Tryd.ntmps46
    go_wp2
    go_ret
    refine ⟨?_, Below.refl _ _⟩
    rw [hq.out]
    rfl
theorem copyBytes_any (A : Option Addr) (n c : Nat) (xs : List Int) (w : World) (h : Nums .u8 w A n c xs) (hn : n ≤ 140737488355328) :
    Calls Tryd.prog 20 #[.slice A n c] w (SlicePost .u8 5 n xs w) := by
  obtain ⟨i, hi, hz0, hz1, hz2⟩ := info_parts info5
  have H := Lib.hid h
  clear h
  go_enter Tryd.func20, Tryd.ntmps20
  go_wp2_with (at_builtin; refine wpList_append_cells _ rfl _ _ 22 rfl w.heap.size 5 i (.int .u8 0) 1 1 Tryd.underlying22 hi hz0 hz1 hz2 rfl (by decide) _ 0 [] rfl ?h1 _ n c (xs.map (Value.int .u8)) rfl ?h2 ?h3 (by unfold maxLen; omega) (by omega) ?h4 ?_)
  case h1 => exact World.ownsRow_nil _ _ _ _
  case h2 => exact H.out.1
  case h3 => exact ints_oneCell _ _
  case h4 => exact Nat.le_refl _
  intro A' c' w1 hown hgrow hb
  have hown2 := Lib.hid hown
  have hgrow2 := Lib.hid hgrow
  clear hown hgrow hb
  go_wp2
  go_ret
  refine ⟨_, _, rfl, Nums.of_own hown2.out, Typed.of_own hown2.out, ?_⟩
  exact Below.grown (Below.refl _ _) hgrow2.out (Nat.le_refl _) (fun k hk => by cases hk)
end Go.Proofs.YtjmfdmipdglccaaDoor
