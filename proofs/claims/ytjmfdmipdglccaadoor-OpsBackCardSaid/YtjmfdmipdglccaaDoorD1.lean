/- The walks of decodes and fails. -/
import Derived.Test.YtjmfdmipdglccaaDoorC1
import Derived.Test.YtjmfdmipdglccaaDoorR2
import Derived.Deep.MidRow
namespace Go.Proofs.YtjmfdmipdglccaaDoor
open Go.RowKit

theorem dec_triple (y x : Ins) (a b c d : Int) : decide ((y, a, c) = (x, b, d)) = (decide (y = x) && (decide (a = b) && decide (c = d))) := by
  rw [Bool.eq_iff_iff]
  simp

theorem info26 : (Tryd.prog.info? 26).map (·.size) = some 6 := by kernel_rfl
theorem range26 {w : World} {b : Nat} {v0 v1 v2 v3 v4 v5 : Value} (h : Blk w b 26 #[v0, v1, v2, v3, v4, v5]) : w.rangeAt b 0 [v0, v1, v2, v3, v4, v5] := by
  intro j v hj
  have : j < 6 := by
    have := (List.getElem?_eq_some_iff.1 hj).1
    simpa using this
  match j, this, hj with
  | 0, _, hj => cases hj; exact h.cell 0
  | 1, _, hj => cases hj; exact h.cell 1
  | 2, _, hj => cases hj; exact h.cell 2
  | 3, _, hj => cases hj; exact h.cell 3
  | 4, _, hj => cases hj; exact h.cell 4
  | 5, _, hj => cases hj; exact h.cell 5

set_option maxRecDepth 100000 in
theorem decodes_any (A : Option Addr) (n c : Nat) (bs : List Int) (at_ en : Int) (x : Ins) (tA kA : Option Addr) (tc kc : Nat) (w : World) (hT : Tabs w) (hN : Nums .u8 w A n c bs) (hn : n ≤ 140737488355328) (hB : Byt bs) (hx : Lists w x tA tc kA kc) :
    Calls Tryd.prog 61 #[.slice A n c, .int .i64 at_, insV x tA tc kA kc, .int .i64 en] w (BoolPost (decide (dec bs at_ = (x, en, 0))) w) := by
  have D := fun W (h : Below w.heap.size w W) => decode_any A n c bs at_ W (hT.below h hT.size) (hN.below h) hn hB
  have HX := Lib.hid (fun W (h : Below w.heap.size w W) => hx.below h)
  generalize hdd : dec bs at_ = r at *
  have DH := Lib.hid D
  clear D hT hN hB hx hdd
  obtain ⟨y, e1, er⟩ := r
  rw [dec_triple]
  obtain ⟨a1, a2, a3, a4, a5, a6⟩ := x
  obtain ⟨b1, b2, b3, b4, b5, b6⟩ := y
  simp only [insV] at *
  have SM := fun W uA uc vA vc (h1 : Lists W ⟨b1, b2, b3, b4, b5, b6⟩ uA uc vA vc) (h2 : Lists W ⟨a1, a2, a3, a4, a5, a6⟩ tA tc kA kc) => Lib.hid (same_any ⟨b1, b2, b3, b4, b5, b6⟩ ⟨a1, a2, a3, a4, a5, a6⟩ uA vA tA kA uc vc tc kc W h1 h2)
  simp only [insV] at SM
  generalize hq : decide (Ins.mk b1 b2 b3 b4 b5 b6 = Ins.mk a1 a2 a3 a4 a5 a6) = q at *
  clear hq
  generalize hn5 : a5.length = n5 at *
  generalize hn6 : a6.length = n6 at *
  clear hn5 hn6
  by_cases h1 : e1 = en
  all_goals by_cases h2 : er = 0
  all_goals
    cases q
    all_goals
      first
      | subst h1
      | have h1' : (e1 == en) = false := beq_eq_false_iff_ne.2 h1
      first
      | subst h2
      | have h2' : (er == 0) = false := beq_eq_false_iff_ne.2 h2
      go_enter Tryd.func61, Tryd.ntmps61
      go_wp2_with (go_at_call 21; refine (DH.out _ ((Below.refl _ _).alloc (Nat.le_refl _) _)).mono ?_)
      rintro e w1 ⟨uA, uc, vA, vc, rfl, hL, hb⟩
      simp only [insV]
      generalize b5.length = m5 at *
      generalize b6.length = m6 at *
      have hBk := (Blk.new w 26 _).below' hb
      have l0 := range26 (hBk.alloc (.cells #[.int .i64 b1, .int .i64 b2, .int .i64 b3, .int .i64 b4, .slice uA m5 uc, .slice vA m6 vc] 26))
      have l1 := range26 (Blk.new w1 26 #[.int .i64 b1, .int .i64 b2, .int .i64 b3, .int .i64 b4, .slice uA m5 uc, .slice vA m6 vc])
      have hB0 := (below_then (((Below.refl w.heap.size w).alloc (Nat.le_refl _) _)) (by simp) hb).alloc (by have := hb.size; simp at this; omega) (.cells #[.int .i64 b1, .int .i64 b2, .int .i64 b3, .int .i64 b4, .slice uA m5 uc, .slice vA m6 vc] 26)
      have SM' := SM _ _ _ _ _ (hL.below ((Below.refl w1.heap.size w1).alloc (Nat.le_refl _) (.cells #[.int .i64 b1, .int .i64 b2, .int .i64 b3, .int .i64 b4, .slice uA m5 uc, .slice vA m6 vc] 26))) (HX.out _ hB0)
      have HF := Lib.hid hB0
      clear SM hL HX hB0 hb hBk DH
      go_wp2_with (first
        | (refine wpList_load_mid rfl 26 _ rfl _ 0 rfl _ _ l0 Tryd.underlying26 rfl info26 ?_)
        | (refine wpList_load_mid rfl 26 _ rfl _ 0 rfl _ _ l1 Tryd.underlying26 rfl info26 ?_)
        | (go_at_call 23; refine SM'.out.mono ?_))
      rintro e w2 ⟨rfl, hb⟩
      have hF2 := Lib.hid (below_then HF.out HF.out.size hb)
      clear hb SM' HF
      go_wp2
      go_ret
      exact ⟨by simp [*], hF2.out⟩

theorem dec_triple' (y x : Ins) (a b c d : Int) : decide ((y, a, c) = (x, b, d)) = (decide (c = d) && (decide (a = b) && decide (y = x))) := by
  rw [Bool.eq_iff_iff]
  simp
  constructor
  · rintro ⟨h1, h2, h3⟩
    exact ⟨h3, h2, h1⟩
  · rintro ⟨h1, h2, h3⟩
    exact ⟨h3, h2, h1⟩

set_option maxRecDepth 100000 in
theorem fails_any (A : Option Addr) (n c : Nat) (bs : List Int) (ec : Int) (w : World) (hT : Tabs w) (hN : Nums .u8 w A n c bs) (hn : n ≤ 140737488355328) (hB : Byt bs) :
    Calls Tryd.prog 62 #[.slice A n c, .int .i64 ec] w (BoolPost (decide (dec bs 0 = (Ins.zero, 0, ec))) w) := by
  have D := decode_any A n c bs 0 w hT hN hn hB
  generalize hdd : dec bs 0 = r at *
  have DH := Lib.hid D
  clear D hT hN hB hdd
  obtain ⟨y, e1, er⟩ := r
  rw [dec_triple']
  obtain ⟨b1, b2, b3, b4, b5, b6⟩ := y
  have SM := fun W uA uc vA vc (h1 : Lists W ⟨b1, b2, b3, b4, b5, b6⟩ uA uc vA vc) => Lib.hid (same_any ⟨b1, b2, b3, b4, b5, b6⟩ Ins.zero uA vA none none uc vc 0 0 W h1 (lists_zero W))
  simp only [insV, Ins.zero] at *
  generalize hq : decide (Ins.mk b1 b2 b3 b4 b5 b6 = Ins.mk 0 0 0 0 [] []) = q at *
  clear hq
  by_cases h1 : er = ec
  all_goals by_cases h2 : e1 = 0
  all_goals
    cases q
    all_goals
      first
      | subst h1
      | have h1' : (er == ec) = false := beq_eq_false_iff_ne.2 h1
      first
      | subst h2
      | have h2' : (e1 == 0) = false := beq_eq_false_iff_ne.2 h2
      go_enter Tryd.func62, Tryd.ntmps62
      go_wp2_with (go_at_call 21; refine DH.out.mono ?_)
      rintro e w1 ⟨uA, uc, vA, vc, rfl, hL, hb⟩
      simp only [insV]
      generalize b5.length = m5 at *
      generalize b6.length = m6 at *
      have l1 := range26 (Blk.new w1 26 #[.int .i64 b1, .int .i64 b2, .int .i64 b3, .int .i64 b4, .slice uA m5 uc, .slice vA m6 vc])
      have hB0 := hb.alloc hb.size (.cells #[.int .i64 b1, .int .i64 b2, .int .i64 b3, .int .i64 b4, .slice uA m5 uc, .slice vA m6 vc] 26)
      have SM' := SM _ _ _ _ _ (hL.below ((Below.refl w1.heap.size w1).alloc (Nat.le_refl _) (.cells #[.int .i64 b1, .int .i64 b2, .int .i64 b3, .int .i64 b4, .slice uA m5 uc, .slice vA m6 vc] 26)))
      have HF := Lib.hid hB0
      clear SM hL hB0 hb DH
      go_wp2_with (first
        | (go_at_call 23; refine SM'.out.mono ?_))
      first
      | (go_ret
         exact ⟨by simp [*], HF.out⟩)
      | (rintro e w2 ⟨rfl, hb⟩
         have hF2 := Lib.hid (below_then HF.out HF.out.size hb)
         clear hb SM' HF
         go_wp2
         go_ret
         exact ⟨by simp [*], hF2.out⟩)
end Go.Proofs.YtjmfdmipdglccaaDoor
