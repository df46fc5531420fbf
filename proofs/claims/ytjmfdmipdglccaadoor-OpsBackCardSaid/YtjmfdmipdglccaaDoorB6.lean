/- The walk of may. -/
import Derived.Test.YtjmfdmipdglccaaDoorB4
import Derived.Test.YtjmfdmipdglccaaDoorB5
namespace Go.Proofs.YtjmfdmipdglccaaDoor
open Go.RowKit

set_option maxRecDepth 100000 in
theorem may_head (x : Ins) (tA : Option Addr) (tc : Nat) (kA : Option Addr) (kc : Nat) (w : World) (hh : headB x = false) :
    Calls Tryd.prog 57 #[insV x tA tc kA kc] w (BoolPost false w) := by
  obtain ⟨At, Op, N, M, To, Keys⟩ := x
  simp only [insV, headB, decide_eq_false_iff_not] at *
  generalize To.length = n at *
  generalize Keys.length = m at *
  by_cases h1 : 0 ≤ At ∧ At ≤ 8191
  · have e1 := inB_true h1.1 h1.2
    have e2 : inB Op 0 89 = false := inB_false (by omega)
    clear hh h1
    go_enter Tryd.func57, Tryd.ntmps57
    go_wp2_with (first | (go_at_call 88; refine (within_any _ _ _ _).mono ?_; rintro e w2 ⟨rfl, rfl⟩; (first | rw [e1] | rw [e2])))
    go_ret
    exact ⟨rfl, (Below.refl _ _).alloc (Nat.le_refl _) _⟩
  · have e1 := inB_false h1
    clear hh h1
    go_enter Tryd.func57, Tryd.ntmps57
    go_wp2_with (first | (go_at_call 88; refine (within_any _ _ _ _).mono ?_; rintro e w2 ⟨rfl, rfl⟩; rw [e1]))
    go_ret
    exact ⟨rfl, (Below.refl _ _).alloc (Nat.le_refl _) _⟩

set_option maxRecDepth 100000 in
theorem may_ways (x : Ins) (tA : Option Addr) (tc : Nat) (kA : Option Addr) (kc : Nat) (w : World) (hT : Tabs w) (h : Lists w x tA tc kA kc) (hh : headB x = true) (hw : (placesB x && waysB x) = false) :
    Calls Tryd.prog 57 #[insV x tA tc kA kc] w (BoolPost false w) := by
  have hh' : 0 ≤ x.At ∧ x.At ≤ 8191 ∧ 0 ≤ x.Op ∧ x.Op ≤ 89 := by simpa [headB] using hh
  have e1 : inB x.At 0 8191 = true := inB_true hh'.1 hh'.2.1
  have e2 : inB x.Op 0 89 = true := inB_true hh'.2.2.1 hh'.2.2.2
  have T := fun (W : World) (hb : Below w.heap.size w W) => Lib.hid (mayWays_any x tA tc kA kc W (hT.below' hb) (h.below hb) hh'.1 hh'.2.1)
  rw [hw] at T
  clear hh hh' hT h hw
  obtain ⟨At, Op, N, M, To, Keys⟩ := x
  simp only [insV] at *
  generalize To.length = n at *
  generalize Keys.length = m at *
  go_enter Tryd.func57, Tryd.ntmps57
  go_wp2_with (first | (go_at_call 88; refine (within_any _ _ _ _).mono ?_; rintro e w2 ⟨rfl, rfl⟩; (first | rw [e1] | rw [e2])) | (go_at_call 89; refine (T _ ((Below.refl _ _).alloc (Nat.le_refl _) _)).out.mono ?_))
  rintro e w1 ⟨rfl, hb⟩
  have HB := Lib.hid (below_then ((Below.refl w.heap.size w).alloc (Nat.le_refl _) _) (by simp) hb)
  clear T hb
  go_wp2
  go_ret
  exact ⟨rfl, HB.out⟩

set_option maxRecDepth 100000 in
theorem may_nums (x : Ins) (tA : Option Addr) (tc : Nat) (kA : Option Addr) (kc : Nat) (w : World) (hT : Tabs w) (h : Lists w x tA tc kA kc) (hh : headB x = true) (hw : (placesB x && waysB x) = true) (hn : numsB x = false) :
    Calls Tryd.prog 57 #[insV x tA tc kA kc] w (BoolPost false w) := by
  have hh' : 0 ≤ x.At ∧ x.At ≤ 8191 ∧ 0 ≤ x.Op ∧ x.Op ≤ 89 := by simpa [headB] using hh
  have e1 : inB x.At 0 8191 = true := inB_true hh'.1 hh'.2.1
  have e2 : inB x.Op 0 89 = true := inB_true hh'.2.2.1 hh'.2.2.2
  have T := fun (W : World) (hb : Below w.heap.size w W) => Lib.hid (mayWays_any x tA tc kA kc W (hT.below' hb) (h.below hb) hh'.1 hh'.2.1)
  rw [hw] at T
  have T2 := fun (W : World) (hb : Below w.heap.size w W) => Lib.hid (mayNumbers_any x tA tc kA kc W (hT.below' hb) h.tlen)
  rw [hn] at T2
  clear hh hh' hT h hw hn
  obtain ⟨At, Op, N, M, To, Keys⟩ := x
  simp only [insV] at *
  generalize To.length = n at *
  generalize Keys.length = m at *
  go_enter Tryd.func57, Tryd.ntmps57
  go_wp2_with (first | (go_at_call 88; refine (within_any _ _ _ _).mono ?_; rintro e w2 ⟨rfl, rfl⟩; (first | rw [e1] | rw [e2])) | (go_at_call 89; refine (T _ ((Below.refl _ _).alloc (Nat.le_refl _) _)).out.mono ?_))
  rintro e w1 ⟨rfl, hb⟩
  have hBk := (Blk.new w 26 _).below' hb
  have d0 : w1.cell? ⟨w.heap.size, 0, none⟩ = some (.int .i64 At) := hBk.cell 0
  have d1 : w1.cell? ⟨w.heap.size, 1, none⟩ = some (.int .i64 Op) := hBk.cell 1
  have d2 : w1.cell? ⟨w.heap.size, 2, none⟩ = some (.int .i64 N) := hBk.cell 2
  have d3 : w1.cell? ⟨w.heap.size, 3, none⟩ = some (.int .i64 M) := hBk.cell 3
  have d4 : w1.cell? ⟨w.heap.size, 4, none⟩ = some (.slice tA n tc) := hBk.cell 4
  have d5 : w1.cell? ⟨w.heap.size, 5, none⟩ = some (.slice kA m kc) := hBk.cell 5
  have hB0 := below_then ((Below.refl w.heap.size w).alloc (Nat.le_refl _) _) (by simp) hb
  have HT2 := Lib.hid (T2 w1 hB0)
  have HB := Lib.hid hB0
  clear T T2 hb hBk hB0
  go_wp2_with (first | (go_at_call 90; refine HT2.out.out.mono ?_))
  rintro e w2 ⟨rfl, hb⟩
  have HB2 := Lib.hid (below_then HB.out HB.out.size hb)
  clear HB hb HT2
  clear d0 d1 d2 d3 d4 d5
  go_wp2
  go_ret
  exact ⟨rfl, HB2.out⟩

set_option maxRecDepth 100000 in
set_option maxHeartbeats 1000000 in
theorem may_keys (x : Ins) (tA : Option Addr) (tc : Nat) (kA : Option Addr) (kc : Nat) (w : World) (hT : Tabs w) (h : Lists w x tA tc kA kc) (hh : headB x = true) (hw : (placesB x && waysB x) = true) (hn : numsB x = true) :
    Calls Tryd.prog 57 #[insV x tA tc kA kc] w (BoolPost (keysB x.Keys) w) := by
  have hh' : 0 ≤ x.At ∧ x.At ≤ 8191 ∧ 0 ≤ x.Op ∧ x.Op ≤ 89 := by simpa [headB] using hh
  have e1 : inB x.At 0 8191 = true := inB_true hh'.1 hh'.2.1
  have e2 : inB x.Op 0 89 = true := inB_true hh'.2.2.1 hh'.2.2.2
  have T := fun (W : World) (hb : Below w.heap.size w W) => Lib.hid (mayWays_any x tA tc kA kc W (hT.below' hb) (h.below hb) hh'.1 hh'.2.1)
  rw [hw] at T
  have T2 := fun (W : World) (hb : Below w.heap.size w W) => Lib.hid (mayNumbers_any x tA tc kA kc W (hT.below' hb) h.tlen)
  rw [hn] at T2
  have HN := Lib.hid h.keys
  have hl2 := h.klen
  clear hh hh' hT h hw hn
  obtain ⟨At, Op, N, M, To, Keys⟩ := x
  simp only [insV] at *
  generalize To.length = n at *
  generalize Keys.length = m at *
  go_enter Tryd.func57, Tryd.ntmps57
  go_wp2_with (first | (go_at_call 88; refine (within_any _ _ _ _).mono ?_; rintro e w2 ⟨rfl, rfl⟩; (first | rw [e1] | rw [e2])) | (go_at_call 89; refine (T _ ((Below.refl _ _).alloc (Nat.le_refl _) _)).out.mono ?_))
  rintro e w1 ⟨rfl, hb⟩
  have hBk := (Blk.new w 26 _).below' hb
  have d0 : w1.cell? ⟨w.heap.size, 0, none⟩ = some (.int .i64 At) := hBk.cell 0
  have d1 : w1.cell? ⟨w.heap.size, 1, none⟩ = some (.int .i64 Op) := hBk.cell 1
  have d2 : w1.cell? ⟨w.heap.size, 2, none⟩ = some (.int .i64 N) := hBk.cell 2
  have d3 : w1.cell? ⟨w.heap.size, 3, none⟩ = some (.int .i64 M) := hBk.cell 3
  have d4 : w1.cell? ⟨w.heap.size, 4, none⟩ = some (.slice tA n tc) := hBk.cell 4
  have d5 : w1.cell? ⟨w.heap.size, 5, none⟩ = some (.slice kA m kc) := hBk.cell 5
  have hB0 := below_then ((Below.refl w.heap.size w).alloc (Nat.le_refl _) _) (by simp) hb
  have HT2 := Lib.hid (T2 w1 hB0)
  have HB := Lib.hid hB0
  have HBk := Lib.hid hBk
  clear T T2 hb hBk hB0
  go_wp2_with (first | (go_at_call 90; refine HT2.out.out.mono ?_))
  rintro e w2 ⟨rfl, hb⟩
  have HB2 := Lib.hid (below_then HB.out HB.out.size hb)
  have hBk2 := HBk.out.below' hb
  have c5 : w2.cell? ⟨w.heap.size, 5, none⟩ = some (.slice kA m kc) := hBk2.cell 5
  clear HB hb HT2 hBk2
  clear d0 d1 d2 d3 d4 d5
  have HN2 := Lib.hid (HN.out.below HB2.out)
  clear HN
  go_wp2
  go_loop [28] (fun i => ∃ k : Nat, k ≤ m ∧ i = .int .i64 k ∧ Hid (∀ j, j < k → keyB Keys j = true)) (fun i => m - (intOf i).toNat)
  case atStart => exact ⟨0, Nat.zero_le _, rfl, fun j hj => by omega⟩
  case round =>
    obtain ⟨k, hk, rfl, hall⟩ := hrel
    by_cases hlt : k < m
    · obtain ⟨ad, hA, hcell⟩ := HN2.out.all_ (by omega)
      have hlen := Lib.hid HN2.out.len
      subst hA
      cases k with
      | zero =>
        have c1 : w2.cell? ad = some (.int .i64 (Keys.getD 0 0)) := hcell 0 hlt
        have hkb := Lib.hid (show keyB Keys 0 = decide (-2147483648 ≤ Keys.getD 0 0 ∧ Keys.getD 0 0 ≤ 2147483647 ∧ (0 < 0 → Keys.getD (0 - 1) 0 < Keys.getD 0 0)) from rfl)
        generalize Keys.getD 0 0 = y at *
        generalize Keys.getD (0 - 1) 0 = z at *
        clear hcell
        by_cases hr : -2147483648 ≤ y ∧ y ≤ 2147483647
        · have e3 : inB y (-2147483648) 2147483647 = true := inB_true hr.1 hr.2
          go_wp2_with (first | (go_at_call 88; refine (within_any _ _ _ _).mono ?_; rintro e w2 ⟨rfl, rfl⟩; rw [e3]))
          go_round
          case rel =>
            refine ⟨1, by omega, by go_num, fun j hj => ?_⟩
            obtain rfl : j = 0 := by omega
            rw [hkb.out]
            simpa using hr
          case measure => simp [intOf]; omega
        · have e3 : inB y (-2147483648) 2147483647 = false := inB_false hr
          go_wp2_with (first | (go_at_call 88; refine (within_any _ _ _ _).mono ?_; rintro e w2 ⟨rfl, rfl⟩; rw [e3]))
          go_ret
          refine ⟨?_, HB2.out⟩
          rw [keysB_false 0 (by rw [hlen.out]; exact hlt) (by rw [hkb.out]; simpa using hr)]
          rfl
      | succ k =>
        have c1 : w2.cell? ⟨ad.block, ad.off + (k + 1), none⟩ = some (.int .i64 (Keys.getD (k + 1) 0)) := hcell (k + 1) hlt
        have c0 := hcell k (by omega)
        have hkb := Lib.hid (show keyB Keys (k + 1) = decide (-2147483648 ≤ Keys.getD (k + 1) 0 ∧ Keys.getD (k + 1) 0 ≤ 2147483647 ∧ (0 < k + 1 → Keys.getD k 0 < Keys.getD (k + 1) 0)) from rfl)
        generalize Keys.getD (k + 1) 0 = y at *
        generalize Keys.getD k 0 = z at *
        clear hcell
        by_cases hr : -2147483648 ≤ y ∧ y ≤ 2147483647
        · have e3 : inB y (-2147483648) 2147483647 = true := inB_true hr.1 hr.2
          by_cases hz : z < y
          · go_wp2_with (first | (go_at_call 88; refine (within_any _ _ _ _).mono ?_; rintro e w2 ⟨rfl, rfl⟩; rw [e3]))
            go_round
            case rel =>
              refine ⟨k + 1 + 1, by omega, by go_num, fun j hj => ?_⟩
              by_cases hjk : j = k + 1
              · subst hjk
                rw [hkb.out]
                simpa [hz] using hr
              · exact hall.out j (by omega)
            case measure => simp [intOf]; omega
          · go_wp2_with (first | (go_at_call 88; refine (within_any _ _ _ _).mono ?_; rintro e w2 ⟨rfl, rfl⟩; rw [e3]))
            go_ret
            refine ⟨?_, HB2.out⟩
            rw [keysB_false (k + 1) (by rw [hlen.out]; exact hlt) (by rw [hkb.out]; simp; omega)]
            rfl
        · have e3 : inB y (-2147483648) 2147483647 = false := inB_false hr
          go_wp2_with (first | (go_at_call 88; refine (within_any _ _ _ _).mono ?_; rintro e w2 ⟨rfl, rfl⟩; rw [e3]))
          go_ret
          refine ⟨?_, HB2.out⟩
          rw [keysB_false (k + 1) (by rw [hlen.out]; exact hlt) (by rw [hkb.out]; simp; omega)]
          rfl
    · have hlen := Lib.hid HN2.out.len
      go_wp2
      go_ret
      refine ⟨?_, HB2.out⟩
      rw [keysB_true (fun j hj => hall.out j (by rw [hlen.out] at hj; omega))]
      rfl

theorem may_any (x : Ins) (tA : Option Addr) (tc : Nat) (kA : Option Addr) (kc : Nat) (w : World) (hT : Tabs w) (h : Lists w x tA tc kA kc) :
    Calls Tryd.prog 57 #[insV x tA tc kA kc] w (BoolPost (mayB x) w) := by
  unfold mayB
  by_cases hh : headB x = true
  · by_cases hw : (placesB x && waysB x) = true
    · by_cases hn : numsB x = true
      · rw [hh, hw, hn]
        simp only [Bool.true_and]
        exact may_keys x tA tc kA kc w hT h hh hw hn
      · have hn' : numsB x = false := by simpa using hn
        rw [hn']
        simp only [Bool.and_false, Bool.false_and]
        exact may_nums x tA tc kA kc w hT h hh hw hn'
    · have hw' : (placesB x && waysB x) = false := by simpa using hw
      rw [hw']
      simp only [Bool.and_false, Bool.false_and]
      exact may_ways x tA tc kA kc w hT h hh hw'
  · have hh' : headB x = false := by simpa using hh
    rw [hh']
    simp only [Bool.false_and]
    exact may_head x tA tc kA kc w hh'
end Go.Proofs.YtjmfdmipdglccaaDoor
