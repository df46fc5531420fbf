/- The walk of Op. -/
import Derived.Test.YtjmfdmipdglccaaDoorE1
namespace Go.Proofs.YtjmfdmipdglccaaDoor
open Go.RowKit

theorem info89 : (Tryd.prog.info? 89).map (·.size) = some moreC.size := by kernel_rfl
theorem info90 : (Tryd.prog.info? 90).map (·.size) = some tabC.size := by kernel_rfl
theorem moreC_size : moreC.size = 270 := by kernel_rfl
theorem tabC_size : tabC.size = 183 := by kernel_rfl
theorem one89 : moreC.all (·.oneCell') = true := by kernel_rfl
theorem zero89 : ∃ Z : Array Value, (Tryd.prog.info? 89).map (fun i => (i.zero, i.size)) = some (some (.agg Z), 270) ∧ Z.size = 270 := ⟨(match (Tryd.prog.info? 89).bind (·.zero) with | some (.agg z) => z | _ => #[]), by kernel_rfl, by kernel_rfl⟩
theorem tab_extract (k : Nat) (hk : k < 61) : tabC.extract (k * 3) (k * 3 + 3) = #[.string (nameB k), .int .i64 (shp k), .bool (endsB k)] := by
  obtain ⟨h0, h1, h2⟩ := tab_row k hk
  have hs := tabC_size
  apply Array.ext_getElem?
  intro j
  rw [Array.getElem?_extract, show min (k * 3 + 3) tabC.size - k * 3 = 3 from by rw [hs]; omega]
  match j with
  | 0 => exact h0
  | 1 => exact h1
  | 2 => exact h2
  | j + 3 =>
    rw [if_neg (by omega)]
    rfl
theorem index90 (k : Nat) (hk : k < 61) (W : World) : (Instr.index 90 (.agg tabC) (.int .i64 (k : Int))).run Tryd.prog W = .ok (.agg #[.string (nameB k), .int .i64 (shp k), .bool (endsB k)]) W := by
  rw [← tab_extract k hk]
  have hz : ∀ w, (sizeOf 88).run Tryd.prog w = .ok 3 w := fun w => by kernel_rfl
  have ha : ∀ w, (isAgg 88).run Tryd.prog w = .ok true w := fun w => by kernel_rfl
  have h0 : (0 : Int) ≤ k := by omega
  have h1 : (k : Int) < 61 := by omega
  simp [Instr.index, run_underlying Tryd.underlying90, asIntOf, part, hz, ha, h1, go_sem]
  intro h
  omega


theorem one88 (s : ByteArray) (n : Int) (b : Bool) : (#[Value.string s, .int .i64 n, .bool b] : Array Value).all (·.oneCell') = true := by kernel_rfl
/-- The table that Op lays out, k rows overwritten. -/
def OpSt (w0 : World) (key : ByteArray) (k : Nat) (w : World) : Prop :=
  ∃ cs, Blk w (w0.heap.size + 1) 89 cs ∧ cs.size = 270 ∧ (∀ j : Nat, j < k * 3 → cs[j]? = tabC[j]?) ∧ (∀ j : Nat, k * 3 ≤ j → cs[j]? = moreC[j]?) ∧ w.cell? ⟨w0.heap.size, 0, none⟩ = some (.string key) ∧ Below w0.heap.size w0 w
theorem OpSt.there_ {w0 w : World} {key : ByteArray} (k : Nat) (h : OpSt w0 key k w) (hk : k < 61) (o : Obj) : (w.alloc o).there (w0.heap.size + 1) (k * 3) 3 := by
  obtain ⟨cs, hb, hs, _⟩ := h
  intro j hj
  have hb' := hb.alloc o
  refine ⟨?_, hb'.frozen _⟩
  rw [hb'.cell, Array.getElem?_eq_getElem (by omega)]
  rfl
theorem OpSt.next {w0 w : World} {key : ByteArray} (k : Nat) (h : OpSt w0 key k w) (hk : k < 61) (o : Obj) :
    OpSt w0 key (k + 1) ((w.alloc o).setCells (w0.heap.size + 1) (k * 3) [.string (nameB k), .int .i64 (shp k), .bool (endsB k)]) := by
  obtain ⟨cs, hb, hs, hlo, hhi, hkey, hB⟩ := h
  obtain ⟨r0, r1, r2⟩ := tab_row k hk
  have hB1 := hB.alloc hB.size o
  refine ⟨((cs.setIfInBounds (k * 3) (.string (nameB k))).setIfInBounds (k * 3 + 1) (.int .i64 (shp k))).setIfInBounds (k * 3 + 1 + 1) (.bool (endsB k)), (((hb.alloc o).set_ _ _).set_ _ _).set_ _ _, by simp [hs], fun j hj => ?_, fun j hj => ?_, ?_, ?_⟩
  · by_cases h2 : j = k * 3 + 2
    · subst h2
      simp [hs, show k * 3 + 1 + 1 < 270 by omega, r2]
    · by_cases h1 : j = k * 3 + 1
      · subst h1
        simp [hs, show k * 3 + 1 < 270 by omega, r1]
      · by_cases h0 : j = k * 3
        · subst h0
          rw [Array.getElem?_setIfInBounds_ne (by omega), Array.getElem?_setIfInBounds_ne (by omega), r0]
          simp [hs, show k * 3 < 270 by omega]
        · rw [Array.getElem?_setIfInBounds_ne (by omega), Array.getElem?_setIfInBounds_ne (by omega), Array.getElem?_setIfInBounds_ne (by omega)]
          exact hlo j (by omega)
  · rw [Array.getElem?_setIfInBounds_ne (by omega), Array.getElem?_setIfInBounds_ne (by omega), Array.getElem?_setIfInBounds_ne (by omega)]
    exact hhi j (by omega)
  · rw [World.cell?_setCells_out _ _ _ _ _ (fun hb _ => by
      exfalso
      change w0.heap.size = w0.heap.size + 1 at hb
      omega)]
    exact cell_kept ((Below.refl _ _).alloc (Nat.le_refl _) o) hkey
  · exact ((hB1.setCell (by simp) _).setCell (by simp) _).setCell (by simp) _

theorem OpSt.rows {w0 w : World} {key : ByteArray} (h : OpSt w0 key 61 w) : Rows3 w (w0.heap.size + 1) := by
  obtain ⟨cs, hb, hs, hlo, hhi, _⟩ := h
  intro k hk
  rw [hb.cell, hb.cell, hb.cell]
  by_cases h61 : k < 61
  · obtain ⟨r0, r1, r2⟩ := tab_row k h61
    rw [hlo _ (by omega), hlo _ (by omega), hlo _ (by omega)]
    exact ⟨r0, r1, r2⟩
  · obtain ⟨i, rfl⟩ : ∃ i, k = i + 61 := ⟨k - 61, by omega⟩
    obtain ⟨r0, r1, r2⟩ := more_row i (by omega)
    rw [hhi _ (by omega), hhi _ (by omega), hhi _ (by omega)]
    exact ⟨r0, r1, r2⟩

set_option maxRecDepth 100000 in
set_option maxHeartbeats 2000000 in
theorem opsOp_any (key : ByteArray) (w : World) (hT : Tabs w) :
    Calls Tryd.prog 27 #[.string key] w fun e w' => e = .returned (.tuple #[.int .i64 (max (idxName key) 0), .bool (decide (0 ≤ idxName key))]) ∧ Below w.heap.size w w' := by
  obtain ⟨Z, hZ, hZs⟩ := zero89
  obtain ⟨hz, _⟩ := zero_of_info hZ
  obtain ⟨⟨t0, f0, h0⟩, ⟨t1, f1, h1⟩⟩ := hT
  have hs0 : 0 < w.heap.size := (Array.getElem?_eq_some_iff.1 h0).1
  have hs1 : 1 < w.heap.size := (Array.getElem?_eq_some_iff.1 h1).1
  generalize hob : Obj.cells #[Value.string key] 9 = ob
  have hset : ((w.alloc ob).alloc (.cells Z 89)).setRow (w.heap.size + 1) moreC = (w.alloc ob).alloc (.cells moreC 89) := by
    have := World.setRow_alloc_new (w.alloc ob) Z moreC 89
    simpa using this
  have hg : ((w.alloc ob).alloc (.cells Z 89)).heap[w.heap.size + 1]? = some (.cells Z 89 (0, 0)) := by
    have := heap_alloc_last (w.alloc ob) (.cells Z 89)
    simpa using this
  have g0 : (w.alloc ob).heap[0]? = some (.cells moreC t0 f0) := (heap_alloc_old _ _ hs0).trans h0
  have g1 : ((w.alloc ob).alloc (.cells moreC 89)).heap[1]? = some (.cells tabC t1 f1) := (heap_alloc_old _ _ (by simp; omega)).trans ((heap_alloc_old _ _ hs1).trans h1)
  subst hob
  have HS := Lib.hid hset
  have HG := Lib.hid hg
  have G0 := Lib.hid g0
  have G1 := Lib.hid g1
  have HZS := Lib.hid (hZs.trans moreC_size.symm)
  clear hset hg g0 g1 h0 h1 hZs hZ
  go_enter Tryd.func27, Tryd.ntmps27
  go_wp2_with (first
    | (refine wpList_load_row rfl 89 _ rfl 0 rfl _ moreC _ _ G0.out Tryd.underlying89 rfl info89 ?_)
    | (refine wpList_store_row rfl 89 _ _ rfl _ moreC rfl rfl 89 Z HG.out info89 HZS.out one89 ?_; rw [HS.out])
    | (refine wpList_load_row rfl 90 _ rfl 1 rfl _ tabC _ _ G1.out Tryd.underlying90 rfl info90 ?_))
  have hbk : Blk ((w.alloc (.cells #[.string key] 9)).alloc (.cells moreC 89)) (w.heap.size + 1) 89 moreC := by simpa using Blk.new (w.alloc (.cells #[.string key] 9)) 89 moreC
  have hkey : ((w.alloc (.cells #[.string key] 9)).alloc (.cells moreC 89)).cell? ⟨w.heap.size, 0, none⟩ = some (.string key) := ((Blk.new w 9 #[.string key]).alloc _).cell 0
  have hb0 : Below w.heap.size w ((w.alloc (.cells #[.string key] 9)).alloc (.cells moreC 89)) := ((Below.refl _ _).alloc (Nat.le_refl _) _).alloc (by simp) _
  generalize (w.alloc (.cells #[.string key] 9)).alloc (.cells moreC 89) = W at *
  have ST := Lib.hid (show OpSt w key 0 W from ⟨moreC, hbk, moreC_size, fun j hj => by omega, fun j _ => rfl, hkey, hb0⟩)
  have IX := fun (k : Nat) (hk : k < 61) (W : World) => index90 k hk W
  clear hbk hkey hb0 HS HG G0 G1 HZS hz
  generalize moreC = MC
  generalize tabC = TC at IX ⊢
  have IX := Lib.hid IX
  go_loopw [10] (fun i w' => ∃ k : Nat, k ≤ 61 ∧ i = .int .i64 k ∧ Hid (OpSt w key k w')) (fun i _ => 61 - (intOf i).toNat)
  case atStart => exact ⟨0, Nat.zero_le _, rfl, ST⟩
  case round =>
    obtain ⟨k, hk, rfl, hst⟩ := hrel
    by_cases hlt : k < 61
    · have hi := IX.out k hlt
      have hth := hst.out.there_ k hlt (.cells #[.string (nameB k), .int .i64 (shp k), .bool (endsB k)] 88)
      have HN := Lib.hid (hst.out.next k hlt (.cells #[.string (nameB k), .int .i64 (shp k), .bool (endsB k)] 88))
      clear hst
      go_wp2_with (refine wpList_store_mid rfl 88 _ _ rfl (w.heap.size + 1) (k * 3) #[.string (nameB k), .int .i64 (shp k), .bool (endsB k)] rfl rfl hth info88 (one88 _ _ _) ?_)
      go_round
      case rel => exact ⟨k + 1, by omega, by go_num, HN⟩
      case measure => simp [intOf]; omega
    · have hk' : k = 61 := by omega
      subst hk'
      have hR := hst.out.rows
      obtain ⟨_, _, _, _, _, hkey, hB⟩ := hst.out
      have hix : -1 ≤ idxName key ∧ idxName key < 90 := by
        have := idxB_ge (fun s => eqS s key) ((List.range 90).map fun (k : Nat) => nameB (k : Int))
        unfold idxName
        simp at this ⊢
        omega
      have T := Lib.hid (idxFunc_any (w.heap.size + 1) w.heap.size key wr hR hkey)
      generalize hqq : idxName key = q at *
      have HQ := Lib.hid hqq
      clear hqq
      have hmx : ∀ W : World, (Builtin.max_ #[3, 3] 3 #[.int .i64 q, .int .i64 0]).run Tryd.prog W = .ok (.int .i64 (max q 0)) W := fun W => by
        rw [run_max_int2]
        congr 2
        omega
      have HB := Lib.hid hB
      clear hR hB hkey hst
      go_wp2_with (go_at_call 63; refine T.out.mono ?_)
      rintro e w1 ⟨rfl, hb⟩
      have HB' := Lib.hid (below_then HB.out HB.out.size hb)
      clear hb HB T
      go_wp2
      refine bodyPost_ret (v := .tuple #[.int .i64 (max q 0), .bool (decide (0 ≤ q))]) (by simp [results, Tryd.results27, go_sem]) rfl ⟨by rw [HQ.out], HB'.out⟩
end Go.Proofs.YtjmfdmipdglccaaDoor
