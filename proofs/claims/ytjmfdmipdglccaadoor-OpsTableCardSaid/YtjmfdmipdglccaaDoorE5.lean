/- The walks of the reference's Names, Name, Op; of the law OpsTable. -/
import Derived.Test.YtjmfdmipdglccaaDoorE3
import Derived.Test.YtjmfdmipdglccaaDoorD2
import Derived.Test.YtjmfdmipdglccaaDoorR3
namespace Go.Proofs.YtjmfdmipdglccaaDoor
open Go.RowKit

/-- The names' cells. -/
def nameCells : Array Value := ((List.range 90).map fun (k : Nat) => Value.string (nameB (k : Int))).toArray
/-- A slice of all names. -/
def NamesAt (w : World) (g : Nat) : Prop := ∀ k : Nat, k < 90 → w.cell? ⟨g, k, none⟩ = some (.string (nameB k))
theorem NamesAt.below {w w' : World} {g : Nat} (h : NamesAt w g) (hb : Below w.heap.size w w') : NamesAt w' g := fun k hk => cell_kept hb (h k hk)
theorem names_at (w : World) (cs : Array Value) (h : cs = nameCells) : NamesAt (w.alloc (.cells cs 9)) w.heap.size := by
  subst h
  intro k hk
  rw [(Blk.new w 9 nameCells).cell]
  simp [nameCells, hk]
def NamesPost (w : World) (e : Ending) (w' : World) : Prop := ∃ g, e = .returned (.slice (some ⟨g, 0, none⟩) 90 90) ∧ NamesAt w' g ∧ Below w.heap.size w w'
set_option maxRecDepth 100000 in
set_option maxHeartbeats 4000000 in
theorem refNames_any (w : World) : Calls Tryd.prog 66 #[] w (NamesPost w) := by
  have hF : ∀ cs : Array Value, cs = nameCells → NamesPost w (.returned (.slice (some ⟨w.heap.size, 0, none⟩) 90 90)) (w.alloc (.cells cs 9)) :=
    fun cs h => ⟨_, rfl, names_at w cs h, (Below.refl _ _).alloc (Nat.le_refl _) _⟩
  have HF := Lib.hid hF
  clear hF
  go_enter Tryd.func66, Tryd.ntmps66
  go_wp2
  go_ret
  exact HF.out _ (by kernel_rfl)

set_option maxRecDepth 100000 in
theorem refName_any (op : Int) (w : World) : Calls Tryd.prog 30 #[.int .i64 op] w fun e w' => e = .returned (.string (nameB op)) ∧ Below w.heap.size w w' := by
  by_cases ho : op < 0 ∨ 89 < op
  · rw [nameB_out op ho]
    rcases ho with ho | ho
    all_goals
      go_enter Tryd.func30, Tryd.ntmps30
      go_wp2
      go_ret
      exact ⟨rfl, Below.refl _ _⟩
  · obtain ⟨k, rfl⟩ := Int.eq_ofNat_of_zero_le (show 0 ≤ op by omega)
    have hk : k < 90 := by omega
    have T := Lib.hid (refNames_any w)
    clear ho
    go_enter Tryd.func30, Tryd.ntmps30
    go_wp2_with (go_at_call 66; refine T.out.mono ?_)
    rintro e w1 ⟨g, rfl, hN, hb⟩
    have c0 := hN k hk
    have HB := Lib.hid hb
    clear hN hb T
    go_wp2
    go_ret
    exact ⟨rfl, HB.out⟩

set_option maxRecDepth 100000 in
theorem refOp_any (key : ByteArray) (w : World) :
    Calls Tryd.prog 29 #[.string key] w fun e w' => e = .returned (.tuple #[.int .i64 (max (idxName key) 0), .bool (decide (0 ≤ idxName key))]) ∧ Below w.heap.size w w' := by
  have T := Lib.hid (refNames_any w)
  go_enter Tryd.func29, Tryd.ntmps29
  go_wp2_with (go_at_call 66; refine T.out.mono ?_)
  rintro e w1 ⟨g, rfl, hN, hb⟩
  have HN := Lib.hid hN
  have HB := Lib.hid hb
  clear hN hb T
  go_upto_block 1 with (fail)
  go_loop [5] (fun i => ∃ k : Nat, k ≤ 90 ∧ i = .int .i64 k ∧ Hid (∀ j : Nat, j < k → (nameB j).toList ≠ key.toList)) (fun i => 90 - (intOf i).toNat)
  case atStart => exact ⟨0, Nat.zero_le _, rfl, fun j hj => by omega⟩
  case round =>
    obtain ⟨k, hk, rfl, hall⟩ := hrel
    by_cases hlt : k < 90
    · have c0 := HN.out k hlt
      by_cases hq : (nameB k).toList = key.toList
      · have HQ := Lib.hid (idxName_at key k hlt hq hall.out)
        generalize nameB k = s at *
        go_wp2
        refine bodyPost_ret (v := .tuple #[.int .i64 k, .bool true]) (by simp [results, Tryd.results29, go_sem]) rfl ⟨?_, HB.out⟩
        rw [HQ.out, Int.max_eq_left (by omega), decide_eq_true (by omega)]
      · have HQ := Lib.hid hq
        generalize hs : nameB k = s at *
        have HS := Lib.hid hs
        have hqb : (s.toList == key.toList) = false := by simpa using hq
        clear hs hq
        go_wp2
        go_round
        case rel =>
          refine ⟨k + 1, by omega, by go_num, fun j hj => ?_⟩
          by_cases hjk : j = k
          · subst hjk
            rw [HS.out]
            exact HQ.out
          · exact hall.out j (by omega)
        case measure => simp [intOf]; omega
    · have hk' : k = 90 := by omega
      subst hk'
      have HQ := Lib.hid (idxName_none key hall.out)
      go_wp2
      refine bodyPost_ret (v := .tuple #[.int .i64 0, .bool false]) (by simp [results, Tryd.results29, go_sem]) rfl ⟨?_, HB.out⟩
      rw [HQ.out]
      rfl

set_option maxRecDepth 100000 in
theorem table_any (n : Int) (s : ByteArray) (w : World) (hT : Tabs w) : Calls Tryd.prog 5 #[.int .i64 n, .string s] w (BoolPost true w) := by
  have TT := fun (W : World) (h : Below w.heap.size w W) => hT.below h hT.size
  have c1 := Lib.hid (opsOp_any s w hT)
  have c2 := Lib.hid (fun W => refOp_any s W)
  have c3 := Lib.hid (fun (W : World) (h : Below w.heap.size w W) => name_any n W (TT W h))
  have c4 := Lib.hid (fun W => refName_any n W)
  have c5 := Lib.hid (fun (W : World) (h : Below w.heap.size w W) => shape_any n W (TT W h))
  have c6 := Lib.hid (fun W => refShape_any n W)
  have c7 := Lib.hid (fun (W : World) (h : Below w.heap.size w W) => ends_any n W (TT W h))
  have c8 := Lib.hid (fun W => refEnds_any n W)
  have c9 := Lib.hid (fun (W : World) (h : Below w.heap.size w W) => awake_any W (TT W h))
  clear hT TT
  generalize max (idxName s) 0 = a at *
  generalize decide (0 ≤ idxName s) = b at *
  generalize nameB n = t at *
  generalize shp n = u at *
  generalize endsB n = v at *
  cases b
  all_goals cases v
  all_goals
    go_enter Tryd.func5, Tryd.ntmps5
    go_wp2_with (go_at_call 27; refine c1.out.mono ?_)
    rintro e w1 ⟨rfl, H⟩
    have HB := Lib.hid H
    clear H c1
    go_wp2_with (go_at_call 29; refine (c2.out _).mono ?_)
    rintro e w2 ⟨rfl, H2⟩
    have H := below_then HB.out HB.out.size H2
    have c3' := Lib.hid (c3.out _ H)
    clear HB H2 c2 c3
    have HB := Lib.hid H
    clear H
    go_wp2_with (go_at_call 28; refine c3'.out.mono ?_)
    rintro e w3 ⟨rfl, H3⟩
    have H := Lib.hid (below_then HB.out HB.out.size H3)
    clear HB H3 c3'
    go_wp2_with (go_at_call 30; refine (c4.out _).mono ?_)
    rintro e w4 ⟨rfl, H4⟩
    have HB := below_then H.out H.out.size H4
    have c5' := Lib.hid (c5.out _ HB)
    clear H H4 c4 c5
    have H := Lib.hid HB
    clear HB
    go_wp2_with (go_at_call 31; refine c5'.out.mono ?_)
    rintro e w5 ⟨rfl, H5⟩
    have HB := Lib.hid (below_then H.out H.out.size H5)
    clear H H5 c5'
    go_wp2_with (go_at_call 32; refine (c6.out _).mono ?_)
    rintro e w6 ⟨rfl, rfl⟩
    have c7' := Lib.hid (c7.out _ HB.out)
    clear c6 c7
    go_wp2_with (go_at_call 33; refine c7'.out.mono ?_)
    rintro e w7 ⟨rfl, H7⟩
    have H := Lib.hid (below_then HB.out HB.out.size H7)
    clear HB H7 c7'
    go_wp2_with (go_at_call 34; refine (c8.out _).mono ?_)
    rintro e w8 ⟨rfl, rfl⟩
    have c9' := Lib.hid (c9.out _ H.out)
    clear c8 c9
    go_wp2_with (go_at_call 25; refine c9'.out.mono ?_)
    rintro e w9 ⟨rfl, H9⟩
    have HB := Lib.hid (below_then H.out H.out.size H9)
    clear H H9 c9'
    go_wp2
    go_ret
    exact ⟨by simp, HB.out⟩
end Go.Proofs.YtjmfdmipdglccaaDoor
