/- The walk of awake. -/
import Derived.Test.YtjmfdmipdglccaaDoorD1
namespace Go.Proofs.YtjmfdmipdglccaaDoor
open Go.RowKit

theorem nums_lit (k : IntKind) (W : World) (g : Nat) (e : TypeId) (xs : List Int) (h : Blk W g e (xs.map (Value.int k)).toArray) (hl : xs.length ≤ 100) : Nums k W (some ⟨g, 0, none⟩) xs.length xs.length xs := by
  refine ⟨⟨by simp, fun _ => ⟨_, rfl, fun j u hu => ?_⟩⟩, Nat.le_refl _, by unfold maxLen; omega⟩
  have e1 : (⟨g, 0, none⟩ : Addr).add j = ⟨g, j, none⟩ := by
    have := Addr.add_mid g 0 j
    rwa [Nat.zero_add] at this
  rw [e1, h.cell j]
  simpa using hu
theorem byt_of (bs : List Int) (h : bs.all (fun x => decide (0 ≤ x) && decide (x < 256)) = true) : Byt bs := by
  intro x hx
  have := List.all_eq_true.1 h x hx
  simp at this
  omega

theorem lit1 : decide (dec [5, 3] 0 = (⟨0, 5, 3, 0, [], []⟩, 2, 0)) = true := by decide
theorem lit2 : decide (dec [0, 58, 255, 255] 1 = (⟨1, 58, 0, 0, [0], []⟩, 4, 0)) = true := by decide
theorem lit3 : decide (dec [60, 0, 9, 0, 1, 255, 255, 255, 255, 0, 11] 0 = (⟨0, 60, 0, 0, [9, 11], [-1]⟩, 11, 0)) = true := by decide
theorem lit4 : decide (dec [58, 0] 0 = (Ins.zero, 0, 3)) = true := by decide
theorem lit5 : decide (dec [90] 0 = (Ins.zero, 0, 60)) = true := by decide
theorem lit6 : decide (dec [58, 255, 255] 0 = (Ins.zero, 0, 4)) = true := by decide
theorem lit7 : decide (dec [] 0 = (Ins.zero, 0, 9)) = true := by decide

/-- A call comes through from W: it answers true. -/
abbrev Fine (W : World) : Ending → World → Prop := BoolPost true W
theorem fine_of {b : Bool} {W W' : World} (hb : b = true) (h : Below W.heap.size W W') {e : Ending} {w' : World} (h2 : BoolPost b W' e w') : Fine W e w' := by
  subst hb
  exact ⟨h2.1, below_then h h.size h2.2⟩

theorem aw1 (W : World) (hT : Tabs W) : Calls Tryd.prog 61 #[.slice (some ⟨W.heap.size, 0, none⟩) 2 2, .int .i64 0, .agg #[.int .i64 0, .int .i64 5, .int .i64 3, .int .i64 0, .slice none 0 0, .slice none 0 0], .int .i64 2]
    (W.alloc (.cells #[.int .u8 5, .int .u8 3] 5)) (Fine W) := by
  have b : Below W.heap.size W (W.alloc (.cells #[.int .u8 5, .int .u8 3] 5)) := ((Below.refl W.heap.size W).alloc (Nat.le_refl _) _)
  have n1 : Nums .u8 (W.alloc (.cells #[.int .u8 5, .int .u8 3] 5)) (some ⟨W.heap.size, 0, none⟩) 2 2 [5, 3] := nums_lit .u8 _ _ 5 [5, 3] (Blk.new W 5 _) (by decide)
  have n2 := n1
  have m1 := Nums.nil_ .i64 (W.alloc (.cells #[.int .u8 5, .int .u8 3] 5))
  have n3 := n2
  have m2 := m1
  have k2 := Nums.nil_ .i64 (W.alloc (.cells #[.int .u8 5, .int .u8 3] 5))
  exact (decodes_any _ _ _ [5, 3] 0 2 ⟨0, 5, 3, 0, [], []⟩ _ _ _ _ _ (hT.below b hT.size) n3 (by decide) (byt_of _ (by decide)) ⟨m2, k2, by decide, by decide⟩).mono fun e w' h => fine_of lit1 b h

theorem aw2 (W : World) (hT : Tabs W) : Calls Tryd.prog 61 #[.slice (some ⟨W.heap.size, 0, none⟩) 4 4, .int .i64 1, .agg #[.int .i64 1, .int .i64 58, .int .i64 0, .int .i64 0, .slice (some ⟨W.heap.size + 1, 0, none⟩) 1 1, .slice none 0 0], .int .i64 4]
    ((W.alloc (.cells #[.int .u8 0, .int .u8 58, .int .u8 255, .int .u8 255] 5)).alloc (.cells #[.int .i64 0] 3)) (Fine W) := by
  have b : Below W.heap.size W ((W.alloc (.cells #[.int .u8 0, .int .u8 58, .int .u8 255, .int .u8 255] 5)).alloc (.cells #[.int .i64 0] 3)) := ((((Below.refl W.heap.size W).alloc (Nat.le_refl _) _)).alloc (by simp <;> omega) _)
  have n1 : Nums .u8 (W.alloc (.cells #[.int .u8 0, .int .u8 58, .int .u8 255, .int .u8 255] 5)) (some ⟨W.heap.size, 0, none⟩) 4 4 [0, 58, 255, 255] := nums_lit .u8 _ _ 5 [0, 58, 255, 255] (Blk.new W 5 _) (by decide)
  have n2 := n1.below ((Below.refl _ _).alloc (Nat.le_refl _) (.cells #[.int .i64 0] 3))
  have m1 : Nums .i64 ((W.alloc (.cells #[.int .u8 0, .int .u8 58, .int .u8 255, .int .u8 255] 5)).alloc (.cells #[.int .i64 0] 3)) (some ⟨W.heap.size + 1, 0, none⟩) 1 1 [0] := nums_lit .i64 _ _ 3 [0] (by simpa using Blk.new (W.alloc (.cells #[.int .u8 0, .int .u8 58, .int .u8 255, .int .u8 255] 5)) 3 #[.int .i64 0]) (by decide)
  have n3 := n2
  have m2 := m1
  have k2 := Nums.nil_ .i64 ((W.alloc (.cells #[.int .u8 0, .int .u8 58, .int .u8 255, .int .u8 255] 5)).alloc (.cells #[.int .i64 0] 3))
  exact (decodes_any _ _ _ [0, 58, 255, 255] 1 4 ⟨1, 58, 0, 0, [0], []⟩ _ _ _ _ _ (hT.below b hT.size) n3 (by decide) (byt_of _ (by decide)) ⟨m2, k2, by decide, by decide⟩).mono fun e w' h => fine_of lit2 b h

theorem aw3 (W : World) (hT : Tabs W) : Calls Tryd.prog 61 #[.slice (some ⟨W.heap.size, 0, none⟩) 11 11, .int .i64 0, .agg #[.int .i64 0, .int .i64 60, .int .i64 0, .int .i64 0, .slice (some ⟨W.heap.size + 1, 0, none⟩) 2 2, .slice (some ⟨W.heap.size + 1 + 1, 0, none⟩) 1 1], .int .i64 11]
    (((W.alloc (.cells #[.int .u8 60, .int .u8 0, .int .u8 9, .int .u8 0, .int .u8 1, .int .u8 255, .int .u8 255, .int .u8 255, .int .u8 255, .int .u8 0, .int .u8 11] 5)).alloc (.cells #[.int .i64 9, .int .i64 11] 3)).alloc (.cells #[.int .i64 (-1)] 3)) (Fine W) := by
  have b : Below W.heap.size W (((W.alloc (.cells #[.int .u8 60, .int .u8 0, .int .u8 9, .int .u8 0, .int .u8 1, .int .u8 255, .int .u8 255, .int .u8 255, .int .u8 255, .int .u8 0, .int .u8 11] 5)).alloc (.cells #[.int .i64 9, .int .i64 11] 3)).alloc (.cells #[.int .i64 (-1)] 3)) := ((((((Below.refl W.heap.size W).alloc (Nat.le_refl _) _)).alloc (by simp <;> omega) _)).alloc (by simp <;> omega) _)
  have n1 : Nums .u8 (W.alloc (.cells #[.int .u8 60, .int .u8 0, .int .u8 9, .int .u8 0, .int .u8 1, .int .u8 255, .int .u8 255, .int .u8 255, .int .u8 255, .int .u8 0, .int .u8 11] 5)) (some ⟨W.heap.size, 0, none⟩) 11 11 [60, 0, 9, 0, 1, 255, 255, 255, 255, 0, 11] := nums_lit .u8 _ _ 5 [60, 0, 9, 0, 1, 255, 255, 255, 255, 0, 11] (Blk.new W 5 _) (by decide)
  have n2 := n1.below ((Below.refl _ _).alloc (Nat.le_refl _) (.cells #[.int .i64 9, .int .i64 11] 3))
  have m1 : Nums .i64 ((W.alloc (.cells #[.int .u8 60, .int .u8 0, .int .u8 9, .int .u8 0, .int .u8 1, .int .u8 255, .int .u8 255, .int .u8 255, .int .u8 255, .int .u8 0, .int .u8 11] 5)).alloc (.cells #[.int .i64 9, .int .i64 11] 3)) (some ⟨W.heap.size + 1, 0, none⟩) 2 2 [9, 11] := nums_lit .i64 _ _ 3 [9, 11] (by simpa using Blk.new (W.alloc (.cells #[.int .u8 60, .int .u8 0, .int .u8 9, .int .u8 0, .int .u8 1, .int .u8 255, .int .u8 255, .int .u8 255, .int .u8 255, .int .u8 0, .int .u8 11] 5)) 3 #[.int .i64 9, .int .i64 11]) (by decide)
  have n3 := n2.below ((Below.refl _ _).alloc (Nat.le_refl _) (.cells #[.int .i64 (-1)] 3))
  have m2 := m1.below ((Below.refl _ _).alloc (Nat.le_refl _) (.cells #[.int .i64 (-1)] 3))
  have k2 : Nums .i64 (((W.alloc (.cells #[.int .u8 60, .int .u8 0, .int .u8 9, .int .u8 0, .int .u8 1, .int .u8 255, .int .u8 255, .int .u8 255, .int .u8 255, .int .u8 0, .int .u8 11] 5)).alloc (.cells #[.int .i64 9, .int .i64 11] 3)).alloc (.cells #[.int .i64 (-1)] 3)) (some ⟨W.heap.size + 1 + 1, 0, none⟩) 1 1 [-1] := nums_lit .i64 _ _ 3 [-1] (by simpa using Blk.new ((W.alloc (.cells #[.int .u8 60, .int .u8 0, .int .u8 9, .int .u8 0, .int .u8 1, .int .u8 255, .int .u8 255, .int .u8 255, .int .u8 255, .int .u8 0, .int .u8 11] 5)).alloc (.cells #[.int .i64 9, .int .i64 11] 3)) 3 #[.int .i64 (-1)]) (by decide)
  exact (decodes_any _ _ _ [60, 0, 9, 0, 1, 255, 255, 255, 255, 0, 11] 0 11 ⟨0, 60, 0, 0, [9, 11], [-1]⟩ _ _ _ _ _ (hT.below b hT.size) n3 (by decide) (byt_of _ (by decide)) ⟨m2, k2, by decide, by decide⟩).mono fun e w' h => fine_of lit3 b h

theorem aw4 (W : World) (hT : Tabs W) : Calls Tryd.prog 62 #[.slice (some ⟨W.heap.size, 0, none⟩) 2 2, .int .i64 3] (W.alloc (.cells #[.int .u8 58, .int .u8 0] 5)) (Fine W) := by
  have b : Below W.heap.size W (W.alloc (.cells #[.int .u8 58, .int .u8 0] 5)) := (Below.refl W.heap.size W).alloc (Nat.le_refl _) _
  exact (fails_any _ _ _ [58, 0] 3 _ (hT.below b hT.size) (nums_lit .u8 _ _ 5 [58, 0] (Blk.new W 5 _) (by decide)) (by decide) (byt_of _ (by decide))).mono fun e w' h => fine_of lit4 b h

theorem aw5 (W : World) (hT : Tabs W) : Calls Tryd.prog 62 #[.slice (some ⟨W.heap.size, 0, none⟩) 1 1, .int .i64 60] (W.alloc (.cells #[.int .u8 90] 5)) (Fine W) := by
  have b : Below W.heap.size W (W.alloc (.cells #[.int .u8 90] 5)) := (Below.refl W.heap.size W).alloc (Nat.le_refl _) _
  exact (fails_any _ _ _ [90] 60 _ (hT.below b hT.size) (nums_lit .u8 _ _ 5 [90] (Blk.new W 5 _) (by decide)) (by decide) (byt_of _ (by decide))).mono fun e w' h => fine_of lit5 b h

theorem aw6 (W : World) (hT : Tabs W) : Calls Tryd.prog 62 #[.slice (some ⟨W.heap.size, 0, none⟩) 3 3, .int .i64 4] (W.alloc (.cells #[.int .u8 58, .int .u8 255, .int .u8 255] 5)) (Fine W) := by
  have b : Below W.heap.size W (W.alloc (.cells #[.int .u8 58, .int .u8 255, .int .u8 255] 5)) := (Below.refl W.heap.size W).alloc (Nat.le_refl _) _
  exact (fails_any _ _ _ [58, 255, 255] 4 _ (hT.below b hT.size) (nums_lit .u8 _ _ 5 [58, 255, 255] (Blk.new W 5 _) (by decide)) (by decide) (byt_of _ (by decide))).mono fun e w' h => fine_of lit6 b h

theorem aw7 (W : World) (hT : Tabs W) : Calls Tryd.prog 62 #[.slice none 0 0, .int .i64 9] W (Fine W) := by
  have b : Below W.heap.size W W := Below.refl W.heap.size W
  exact (fails_any _ _ _ [] 9 _ (hT.below b hT.size) (Nums.nil_ .u8 W) (by decide) (byt_of _ (by decide))).mono fun e w' h => fine_of lit7 b h

set_option maxRecDepth 100000 in
theorem awake_any (w : World) (hT : Tabs w) : Calls Tryd.prog 25 #[] w (BoolPost true w) := by
  have TT := fun (W : World) (h : Below w.heap.size w W) => hT.below h hT.size
  clear hT
  have c1 := Lib.hid (aw1 w (TT _ (Below.refl _ _)))
  have HT := Lib.hid TT
  clear TT
  go_enter Tryd.func25, Tryd.ntmps25
  go_wp2_with (go_at_call 61; refine c1.out.mono ?_)
  rintro e w1 ⟨rfl, H1⟩
  have c2 := Lib.hid (aw2 w1 (HT.out _ H1))
  have HB := Lib.hid H1
  clear H1 c1
  go_wp2_with (go_at_call 61; refine c2.out.mono ?_)
  rintro e w2 ⟨rfl, H2⟩
  have H2' := below_then HB.out HB.out.size H2
  have c3 := Lib.hid (aw3 w2 (HT.out _ H2'))
  clear HB H2 c2
  have HB := Lib.hid H2'
  clear H2'
  go_wp2_with (go_at_call 61; refine c3.out.mono ?_)
  rintro e w3 ⟨rfl, H3⟩
  have H3' := below_then HB.out HB.out.size H3
  have c4 := Lib.hid (aw4 w3 (HT.out _ H3'))
  clear HB H3 c3
  have HB := Lib.hid H3'
  clear H3'
  go_wp2_with (go_at_call 62; refine c4.out.mono ?_)
  rintro e w4 ⟨rfl, H4⟩
  have H4' := below_then HB.out HB.out.size H4
  have c5 := Lib.hid (aw5 w4 (HT.out _ H4'))
  clear HB H4 c4
  have HB := Lib.hid H4'
  clear H4'
  go_wp2_with (go_at_call 62; refine c5.out.mono ?_)
  rintro e w5 ⟨rfl, H5⟩
  have H5' := below_then HB.out HB.out.size H5
  have c6 := Lib.hid (aw6 w5 (HT.out _ H5'))
  clear HB H5 c5
  have HB := Lib.hid H5'
  clear H5'
  go_wp2_with (go_at_call 62; refine c6.out.mono ?_)
  rintro e w6 ⟨rfl, H6⟩
  have H6' := below_then HB.out HB.out.size H6
  have c7 := Lib.hid (aw7 w6 (HT.out _ H6'))
  clear HB H6 c6
  have HB := Lib.hid H6'
  clear H6'
  go_wp2_with (go_at_call 62; refine c7.out.mono ?_)
  rintro e w7 ⟨rfl, H7⟩
  have H7' := Lib.hid (below_then HB.out HB.out.size H7)
  clear HB H7 c7
  go_wp2
  go_ret
  exact ⟨rfl, H7'.out⟩
end Go.Proofs.YtjmfdmipdglccaaDoor
