/- The walks of Op: its closure, IndexFunc. -/
import Derived.Test.YtjmfdmipdglccaaDoorB2
import Derived.Test.YtjmfdmipdglccaaDoorD2
import Derived.Deep.WholeRow
import Derived.Deep.MidRow
namespace Go.Proofs.YtjmfdmipdglccaaDoor
open Go.RowKit

/-- The closure: is it called so? -/
theorem so_any (s key : ByteArray) (n : Int) (b : Bool) (B : Nat) (w : World) (hc : w.cell? ⟨B, 0, none⟩ = some (.string key)) :
    Calls Tryd.prog 64 #[.agg #[.string s, .int .i64 n, .bool b], .pointer (some ⟨B, 0, none⟩)] w fun e w' => e = .returned (.bool (decide (s.toList = key.toList))) ∧ Below w.heap.size w w' := by
  have hlt := World.block_lt_of_cell? w _ hc
  have hne : (B = w.heap.size) = False := eq_false (Nat.ne_of_lt hlt)
  have hF : ∀ o, Hid (Below w.heap.size w (w.alloc o)) := fun o => (Below.refl _ _).alloc (Nat.le_refl _) _
  by_cases h : s.toList = key.toList
  · go_enter Tryd.func64, Tryd.ntmps64
    go_wp2
    go_ret
    exact ⟨by simp, (hF _).out⟩
  · go_enter Tryd.func64, Tryd.ntmps64
    go_wp2
    go_ret
    exact ⟨by simp [h], (hF _).out⟩

/-- Are they the same letters? -/
def eqS (s t : ByteArray) : Bool := decide (s.toList = t.toList)
/-- The rows of a table that lies in block g. -/
def Rows3 (w : World) (g : Nat) : Prop := ∀ k : Nat, k < 90 → w.cell? ⟨g, k * 3, none⟩ = some (.string (nameB k)) ∧ (w.cell? ⟨g, k * 3 + 1, none⟩ = some (.int .i64 (shp k))) ∧ (w.cell? ⟨g, k * 3 + 2, none⟩ = some (.bool (endsB k)))
theorem Rows3.below {w w' : World} {g : Nat} (h : Rows3 w g) (hb : Below w.heap.size w w') : Rows3 w' g := fun k hk =>
  ⟨cell_kept hb (h k hk).1, cell_kept hb (h k hk).2.1, cell_kept hb (h k hk).2.2⟩
def idxName (key : ByteArray) : Int := idxB (fun s => eqS s key) ((List.range 90).map fun (k : Nat) => nameB (k : Int))
theorem idxName_at (key : ByteArray) (k : Nat) (hk : k < 90) (h : (nameB k).toList = key.toList) (h0 : ∀ j : Nat, j < k → (nameB j).toList ≠ key.toList) : idxName key = k := by
  unfold idxName
  refine idxB_at _ _ k (nameB k) (by simp [hk]) (by simp [eqS, h]) (fun j v hj hv => ?_)
  have hj2 : j < 90 := by omega
  simp [hj2] at hv
  subst hv
  simpa [eqS] using h0 j hj
theorem idxName_none (key : ByteArray) (h0 : ∀ j : Nat, j < 90 → (nameB j).toList ≠ key.toList) : idxName key = -1 := by
  unfold idxName
  refine idxB_none _ _ (fun j v hv => ?_)
  have hj2 : j < 90 := by
    have := (List.getElem?_eq_some_iff.1 hv).1
    simpa using this
  simp [hj2] at hv
  subst hv
  simpa [eqS] using h0 j hj2

theorem so_any' (s key : ByteArray) (n : Int) (b q : Bool) (B : Nat) (w0 w : World) (hb0 : Below w0.heap.size w0 w) (hc : w0.cell? ⟨B, 0, none⟩ = some (.string key)) (hq : q = decide (s.toList = key.toList)) :
    Calls Tryd.prog 64 #[.agg #[.string s, .int .i64 n, .bool b], .pointer (some ⟨B, 0, none⟩)] w fun e w' => e = .returned (.bool q) ∧ Below w0.heap.size w0 w' := by
  subst hq
  exact (so_any s key n b B w (cell_kept hb0 hc)).mono fun e w' h => ⟨h.1, below_then hb0 hb0.size h.2⟩
theorem range88 {w : World} {g k : Nat} (h : Rows3 w g) (hk : k < 90) : w.rangeAt g (k * 3) [.string (nameB k), .int .i64 (shp k), .bool (endsB k)] := by
  intro j v hj
  have : j < 3 := by
    have := (List.getElem?_eq_some_iff.1 hj).1
    simpa using this
  match j, this, hj with
  | 0, _, hj => cases hj; exact (h k hk).1
  | 1, _, hj => cases hj; exact (h k hk).2.1
  | 2, _, hj => cases hj; exact (h k hk).2.2
theorem info88 : (Tryd.prog.info? 88).map (·.size) = some 3 := by kernel_rfl

set_option maxRecDepth 100000 in
theorem idxFunc_any (g B : Nat) (key : ByteArray) (w : World) (hR : Rows3 w g) (hc : w.cell? ⟨B, 0, none⟩ = some (.string key)) :
    Calls Tryd.prog 63 #[.slice (some ⟨g, 0, none⟩) 90 90, .func (.func 64) #[] #[.pointer (some ⟨B, 0, none⟩)]] w fun e w' => e = .returned (.int .i64 (idxName key)) ∧ Below w.heap.size w w' := by
  have T := fun (k : Nat) (q : Bool) (W : World) (hW : Below w.heap.size w W) (hq : q = decide ((nameB k).toList = key.toList)) => Lib.hid (so_any' (nameB k) key (shp k) (endsB k) q B w W hW hc hq)
  have HR := Lib.hid (fun W (h : Below w.heap.size w W) => hR.below h)
  clear hR hc
  go_enter Tryd.func63, Tryd.ntmps63
  go_wp2
  go_loopw [8] (fun i w' => ∃ k : Nat, k ≤ 90 ∧ i = .int .i64 k ∧ Hid (∀ j : Nat, j < k → (nameB j).toList ≠ key.toList) ∧ Hid (Below w.heap.size w w')) (fun i _ => 90 - (intOf i).toNat)
  case atStart => exact ⟨0, Nat.zero_le _, rfl, fun j hj => by omega, Below.refl _ _⟩
  case round =>
    obtain ⟨k, hk, rfl, hall, hb⟩ := hrel
    by_cases hlt : k < 90
    · have hr := range88 (HR.out _ hb.out) hlt
      by_cases hq : (nameB k).toList = key.toList
      · have T' := T k true _ hb.out (by simp [hq])
        have HQ := Lib.hid hq
        clear hq
        go_wp2_with (first | (refine wpList_load_mid rfl 88 _ rfl g (k * 3) rfl _ _ hr Tryd.underlying88 rfl info88 ?_) | (go_at_call 64; refine T'.out.mono ?_))
        rintro e w1 ⟨rfl, hb1⟩
        have HB := Lib.hid hb1
        clear hb1
        go_wp2
        go_ret
        exact ⟨by rw [idxName_at key k hlt HQ.out hall.out]; rfl, HB.out⟩
      · have T' := T k false _ hb.out (by simp [hq])
        have HQ := Lib.hid hq
        clear hq
        go_wp2_with (first | (refine wpList_load_mid rfl 88 _ rfl g (k * 3) rfl _ _ hr Tryd.underlying88 rfl info88 ?_) | (go_at_call 64; refine T'.out.mono ?_))
        rintro e w1 ⟨rfl, hb1⟩
        have HB := Lib.hid hb1
        clear hb1
        go_wp2
        go_round
        case rel =>
          refine ⟨k + 1, by omega, by go_num, fun j hj => ?_, HB⟩
          by_cases hjk : j = k
          · subst hjk
            exact HQ.out
          · exact hall.out j (by omega)
        case measure => simp [intOf]; omega
    · have hk' : k = 90 := by omega
      subst hk'
      go_wp2
      go_ret
      exact ⟨by rw [idxName_none key hall.out]; rfl, hb.out⟩
end Go.Proofs.YtjmfdmipdglccaaDoor
