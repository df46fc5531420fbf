/- The walk of OpsNamed; how the names differ. -/
import Derived.Test.YtjmfdmipdglccaaDoorE3
import Derived.Test.YtjmfdmipdglccaaDoorE2
import Derived.Test.YtjmfdmipdglccaaDoorD2
namespace Go.Proofs.YtjmfdmipdglccaaDoor
open Go.RowKit

theorem toList_data (bs : ByteArray) : bs.toList = bs.data.toList := ByteArray.toList_eq bs
theorem nameB_list (a : Int) (h0 : 0 ≤ a) (h1 : a < 90) : (nameB a).toList = names.getD a.toNat [] := by
  rw [toList_data]
  unfold nameB
  rw [if_pos (by omega)]
theorem nameB_ne (a b : Int) (h0 : 0 ≤ a) (h1 : a < 90) (h2 : 0 ≤ b) (h3 : b < 90) (h : a ≠ b) : (nameB a).toList ≠ (nameB b).toList := by
  rw [nameB_list a h0 h1, nameB_list b h2 h3]
  intro e
  have ha : a.toNat < names.length := by rw [names_length]; omega
  have hb : b.toNat < names.length := by rw [names_length]; omega
  rw [List.getD_eq_getElem?_getD, List.getD_eq_getElem?_getD, List.getElem?_eq_getElem ha, List.getElem?_eq_getElem hb, Option.getD_some, Option.getD_some] at e
  have hp := List.pairwise_iff_getElem.1 names_nodup
  rcases Int.lt_or_gt_of_ne h with hlt | hlt
  · exact hp a.toNat b.toNat ha hb (by omega) e
  · exact hp b.toNat a.toNat hb ha (by omega) e.symm
theorem names_some : ∀ x ∈ names, x ≠ [] := by decide +kernel
theorem nameB_some (a : Int) (h0 : 0 ≤ a) (h1 : a < 90) : (nameB a).toList ≠ [] := by
  rw [nameB_list a h0 h1]
  have ha : a.toNat < names.length := by rw [names_length]; omega
  rw [List.getD_eq_getElem?_getD, List.getElem?_eq_getElem ha, Option.getD_some]
  exact names_some _ (List.getElem_mem ha)
theorem idxName_self (a : Int) (h0 : 0 ≤ a) (h1 : a < 90) : idxName (nameB a) = a := by
  obtain ⟨k, rfl⟩ := Int.eq_ofNat_of_zero_le h0
  refine idxName_at (nameB k) k (by omega) rfl (fun j hj => nameB_ne _ _ (by omega) (by omega) (by omega) (by omega) (by omega))

set_option maxRecDepth 100000 in
theorem named_any (n m : Int) (w : World) (hT : Tabs w) (hn : -9223372036854775808 ≤ n ∧ n ≤ 9223372036854775807) (hm : -9223372036854775808 ≤ m ∧ m ≤ 9223372036854775807) : Calls Tryd.prog 4 #[.int .i64 n, .int .i64 m] w (BoolPost true w) := by
  have TT := fun (W : World) (h : Below w.heap.size w W) => hT.below h hT.size
  have b1 := Lib.hid (bring_any n 90 w (by decide) (by decide) hn.1 hn.2)
  have b2 := Lib.hid (bring_any m 90 w (by decide) (by decide) hm.1 hm.2)
  have ha : 0 ≤ n % 90 ∧ n % 90 < 90 := by omega
  have hb : 0 ≤ m % 90 ∧ m % 90 < 90 := by omega
  generalize n % 90 = a at *
  generalize m % 90 = b at *
  have na := Lib.hid (fun (W : World) (h : Below w.heap.size w W) => name_any a W (TT W h))
  have nb := Lib.hid (fun (W : World) (h : Below w.heap.size w W) => name_any b W (TT W h))
  have aw := Lib.hid (fun (W : World) (h : Below w.heap.size w W) => awake_any W (TT W h))
  have op := Lib.hid (fun (W : World) (h : Below w.heap.size w W) => opsOp_any (nameB a) W (TT W h))
  rw [idxName_self a ha.1 ha.2, Int.max_eq_left ha.1, decide_eq_true ha.1] at op
  have hs : (nameB a).toList.isEmpty = false := by
    have := nameB_some a ha.1 ha.2
    cases h : (nameB a).toList with
    | nil => exact absurd h this
    | cons _ _ => rfl
  clear hT hn hm TT
  by_cases hab : a = b
  · subst hab
    generalize nameB a = s at *
    go_enter Tryd.func4, Tryd.ntmps4
    go_wp2_with (go_at_call 26; refine b1.out.mono ?_)
    rintro e w1 ⟨rfl, rfl⟩
    go_wp2_with (go_at_call 26; refine b2.out.mono ?_)
    rintro e w1 ⟨rfl, rfl⟩
    go_wp2_with (go_at_call 28; refine (na.out _ (Below.refl _ _)).mono ?_)
    rintro e w1 ⟨rfl, H1⟩
    have op' := Lib.hid (op.out _ H1)
    have HB := Lib.hid H1
    clear H1 op
    go_wp2_with (go_at_call 27; refine op'.out.mono ?_)
    rintro e w2 ⟨rfl, H2⟩
    have H2' := below_then HB.out HB.out.size H2
    have n3 := Lib.hid (na.out _ H2')
    clear HB H2 op'
    have HB := Lib.hid H2'
    clear H2'
    go_wp2_with (go_at_call 28; refine n3.out.mono ?_)
    rintro e w3 ⟨rfl, H3⟩
    have H3' := below_then HB.out HB.out.size H3
    have n4 := Lib.hid (na.out _ H3')
    clear HB H3 n3
    have HB := Lib.hid H3'
    clear H3'
    go_wp2_with (go_at_call 28; refine n4.out.mono ?_)
    rintro e w4 ⟨rfl, H4⟩
    have H4' := below_then HB.out HB.out.size H4
    have n5 := Lib.hid (na.out _ H4')
    clear HB H4 n4
    have HB := Lib.hid H4'
    clear H4'
    go_wp2_with (go_at_call 28; refine n5.out.mono ?_)
    rintro e w5 ⟨rfl, H5⟩
    have H5' := below_then HB.out HB.out.size H5
    have n6 := Lib.hid (aw.out _ H5')
    clear HB H5 n5
    have HB := Lib.hid H5'
    clear H5'
    go_wp2_with (go_at_call 25; refine n6.out.mono ?_)
    rintro e w6 ⟨rfl, H6⟩
    have H6' := Lib.hid (below_then HB.out HB.out.size H6)
    clear HB H6 n6
    go_wp2
    go_ret
    exact ⟨by simp [hs, *], H6'.out⟩
  · have hne := nameB_ne a b ha.1 ha.2 hb.1 hb.2 hab
    have hab' : (a == b) = false := beq_eq_false_iff_ne.2 hab
    generalize nameB a = s at *
    generalize nameB b = t at *
    go_enter Tryd.func4, Tryd.ntmps4
    go_wp2_with (go_at_call 26; refine b1.out.mono ?_)
    rintro e w1 ⟨rfl, rfl⟩
    go_wp2_with (go_at_call 26; refine b2.out.mono ?_)
    rintro e w1 ⟨rfl, rfl⟩
    go_wp2_with (go_at_call 28; refine (na.out _ (Below.refl _ _)).mono ?_)
    rintro e w1 ⟨rfl, H1⟩
    have op' := Lib.hid (op.out _ H1)
    have HB := Lib.hid H1
    clear H1 op
    go_wp2_with (go_at_call 27; refine op'.out.mono ?_)
    rintro e w2 ⟨rfl, H2⟩
    have H2' := below_then HB.out HB.out.size H2
    have n3 := Lib.hid (na.out _ H2')
    clear HB H2 op'
    have HB := Lib.hid H2'
    clear H2'
    go_wp2_with (go_at_call 28; refine n3.out.mono ?_)
    rintro e w3 ⟨rfl, H3⟩
    have H3' := below_then HB.out HB.out.size H3
    have n4 := Lib.hid (nb.out _ H3')
    clear HB H3 n3
    have HB := Lib.hid H3'
    clear H3'
    go_wp2_with (go_at_call 28; refine n4.out.mono ?_)
    rintro e w4 ⟨rfl, H4⟩
    have H4' := below_then HB.out HB.out.size H4
    have n5 := Lib.hid (na.out _ H4')
    clear HB H4 n4
    have HB := Lib.hid H4'
    clear H4'
    go_wp2_with (go_at_call 28; refine n5.out.mono ?_)
    rintro e w5 ⟨rfl, H5⟩
    have H5' := below_then HB.out HB.out.size H5
    have n6 := Lib.hid (aw.out _ H5')
    clear HB H5 n5
    have HB := Lib.hid H5'
    clear H5'
    go_wp2_with (go_at_call 25; refine n6.out.mono ?_)
    rintro e w6 ⟨rfl, H6⟩
    have H6' := Lib.hid (below_then HB.out HB.out.size H6)
    clear HB H6 n6
    go_wp2
    go_ret
    exact ⟨by simp [hs, *], H6'.out⟩
end Go.Proofs.YtjmfdmipdglccaaDoor
