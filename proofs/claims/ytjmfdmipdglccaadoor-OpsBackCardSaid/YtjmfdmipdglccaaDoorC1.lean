/- The walk of ops.Decode. -/
import Derived.Test.YtjmfdmipdglccaaDoorC0
import Derived.Test.YtjmfdmipdglccaaDoorM2
import Derived.StillTailTactics
import Derived.Deep.DeepCutAuto
import Derived.Deep.CutBlock
import Derived.WalkLawsBesides
namespace Go.Proofs.YtjmfdmipdglccaaDoor
open Go.RowKit

/-- What Decode leaves. -/
def DecPost (r : Ins × Int × Int) (w : World) (e : Ending) (w' : World) : Prop :=
  ∃ tA tc kA kc, e = .returned (.tuple #[insV r.1 tA tc kA kc, .int .i64 r.2.1, .int .i64 r.2.2]) ∧ Lists w' r.1 tA tc kA kc ∧ Below w.heap.size w w'
theorem lists_zero (w : World) : Lists w Ins.zero none 0 none 0 := ⟨Nums.nil_ _ _, Nums.nil_ _ _, by simp [Ins.zero], by simp [Ins.zero]⟩

/-- Behind the switch. -/
def DecMid (W : World) (at_ op : Int) (rest : List Int) (_bs : List Int) (w : World) : Prop :=
  ∃ (x : Ins) (l : List Int) (s : Bool), DecSt W at_ x l s w ∧ ((s = true ∧ body at_ op rest = none) ∨ (s = false ∧ body at_ op rest = some (x, l)))

set_option maxRecDepth 100000 in
theorem decode_range (A : Option Addr) (n c : Nat) (at_ : Int) (w : World) (hn : n ≤ 140737488355328) (ho : at_ < 0 ∨ (n : Int) ≤ at_ ∨ 8192 ≤ at_) :
    Calls Tryd.prog 21 #[.slice A n c, .int .i64 at_] w (DecPost (Ins.zero, 0, 9) w) := by
  have fin : ∀ wx, Below w.heap.size w wx → DecPost (Ins.zero, 0, 9) w (.returned (.tuple #[insV Ins.zero none 0 none 0, .int .i64 0, .int .i64 9])) wx := fun wx hb => ⟨none, 0, none, 0, rfl, lists_zero _, hb⟩
  have FIN := Lib.hid fin
  clear fin
  by_cases h0 : at_ < 0
  · clear ho
    go_enter Tryd.func21, Tryd.ntmps21
    go_wp2
    refine bodyPost_ret (v := .tuple #[insV Ins.zero none 0 none 0, .int .i64 0, .int .i64 9]) (by simp [results, Tryd.results21, go_sem, Ins.zero]) rfl ?_
    exact FIN.out _ ((Below.refl _ _).alloc (Nat.le_refl _) _)
  · have h1 : 0 ≤ at_ := by omega
    clear h0
    by_cases hm : n ≤ 8192
    · have h2 : (n : Int) ≤ at_ := by omega
      clear ho
      go_enter Tryd.func21, Tryd.ntmps21
      go_wp2
      refine bodyPost_ret (v := .tuple #[insV Ins.zero none 0 none 0, .int .i64 0, .int .i64 9]) (by simp [results, Tryd.results21, go_sem, Ins.zero]) rfl ?_
      exact FIN.out _ ((Below.refl _ _).alloc (Nat.le_refl _) _)
    · have h2 : 8192 ≤ at_ := by omega
      have hm' : 8192 < n := by omega
      clear ho hm
      go_enter Tryd.func21, Tryd.ntmps21
      go_wp2
      refine bodyPost_ret (v := .tuple #[insV Ins.zero none 0 none 0, .int .i64 0, .int .i64 9]) (by simp [results, Tryd.results21, go_sem, Ins.zero]) rfl ?_
      exact FIN.out _ ((Below.refl _ _).alloc (Nat.le_refl _) _)

theorem min_named (n k : Nat) (h1 : k < n) (h2 : k < 8192) : ∃ m : Int, (k : Int) < m ∧ ∀ W : World, (Builtin.min_ #[3, 3] 3 #[.int .i64 (n : Int), .int .i64 8192]).run Tryd.prog W = .ok (.int .i64 m) W :=
  ⟨if 8192 < (n : Int) then 8192 else n, by split <;> omega, fun W => run_min_int2 W _ _ _ _ _ _⟩
set_option maxRecDepth 100000 in
theorem decode_op (A : Option Addr) (n c k : Nat) (bs : List Int) (w : World) (hN : Nums .u8 w A n c bs) (_hn : n ≤ 140737488355328) (hk : k < n) (hk2 : k < 8192) (hop : 89 < bs.getD k 0) (hB : Byt bs) :
    Calls Tryd.prog 21 #[.slice A n c, .int .i64 k] w (DecPost (Ins.zero, 0, 60) w) := by
  have fin : ∀ wx, Below w.heap.size w wx → DecPost (Ins.zero, 0, 60) w (.returned (.tuple #[insV Ins.zero none 0 none 0, .int .i64 0, .int .i64 60])) wx := fun wx hb => ⟨none, 0, none, 0, rfl, lists_zero _, hb⟩
  have FIN := Lib.hid fin
  obtain ⟨ad, hA, hc⟩ := hN.at_ k hk
  have hlt := World.block_lt_of_cell? w _ hc
  have hbb := byte_at bs k hB (by rw [hN.len]; exact hk)
  generalize bs.getD k 0 = op at *
  subst hA
  obtain ⟨m, hm, hmin⟩ := min_named n k hk hk2
  clear fin hN hB
  go_enter Tryd.func21, Tryd.ntmps21
  go_wp2
  refine bodyPost_ret (v := .tuple #[insV Ins.zero none 0 none 0, .int .i64 0, .int .i64 60]) (by simp [results, Tryd.results21, go_sem, Ins.zero]) rfl ?_
  exact FIN.out _ (((Below.refl _ _).alloc (Nat.le_refl _) _).alloc (by simp) _)

theorem dec_start (w w1 : World) (k : Nat) (op : Int) (bs : List Int) (A A' : Option Addr) (n c : Nat) (hN : Nums .u8 w A n c bs) (hn : n ≤ 140737488355328) (hk : k < n) (hB : Byt bs)
    (hA' : k + 1 < n → n ≤ c → A' = A.map (·.add (k + 1))) (hlt : ∀ ad, A = some ad → ad.block < w.heap.size)
    (hb : Below ((((w.alloc (.cells #[.int .i64 0, .int .i64 0, .int .i64 0, .int .i64 0, .slice none 0 0, .slice none 0 0] 26)).alloc (.cells #[.int .i64 k, .int .i64 op, .int .i64 0, .int .i64 0, .slice none 0 0, .slice none 0 0] 26)).alloc
      (.cells #[.int .i64 k, .slice A' (n - (k + 1)) (c - (k + 1)), .bool false] 77))).heap.size
      (((w.alloc (.cells #[.int .i64 0, .int .i64 0, .int .i64 0, .int .i64 0, .slice none 0 0, .slice none 0 0] 26)).alloc (.cells #[.int .i64 k, .int .i64 op, .int .i64 0, .int .i64 0, .slice none 0 0, .slice none 0 0] 26)).alloc
      (.cells #[.int .i64 k, .slice A' (n - (k + 1)) (c - (k + 1)), .bool false] 77)) w1) :
    DecSt w k ⟨k, op, 0, 0, [], []⟩ (bs.drop (k + 1)) false w1 := by
  generalize ho0 : Obj.cells #[Value.int .i64 0, .int .i64 0, .int .i64 0, .int .i64 0, .slice none 0 0, .slice none 0 0] 26 = o0 at hb
  generalize ho1 : Obj.cells #[Value.int .i64 k, .int .i64 op, .int .i64 0, .int .i64 0, .slice none 0 0, .slice none 0 0] 26 = o1 at hb
  generalize ho2 : Obj.cells #[Value.int .i64 k, .slice A' (n - (k + 1)) (c - (k + 1)), .bool false] 77 = o2 at hb
  have e1 : (w.alloc o0).heap.size = w.heap.size + 1 := by simp
  have e2 : ((w.alloc o0).alloc o1).heap.size = w.heap.size + 2 := by simp
  have b3 : Below w.heap.size w (((w.alloc o0).alloc o1).alloc o2) := (((Below.refl _ _).alloc (Nat.le_refl _) _).alloc (by simp) _).alloc (by simp; omega) _
  have k0 : Blk (((w.alloc o0).alloc o1).alloc o2) w.heap.size 26 _ := (((ho0 ▸ Blk.new w 26 _ : Blk (w.alloc o0) w.heap.size 26 _)).alloc o1).alloc o2
  have k1 : Blk (((w.alloc o0).alloc o1).alloc o2) (w.heap.size + 1) 26 _ := ((ho1 ▸ e1 ▸ Blk.new (w.alloc o0) 26 _ : Blk ((w.alloc o0).alloc o1) (w.heap.size + 1) 26 _)).alloc o2
  have k2 : Blk (((w.alloc o0).alloc o1).alloc o2) (w.heap.size + 2) 77 _ := (ho2 ▸ e2 ▸ Blk.new ((w.alloc o0).alloc o1) 77 _ : Blk (((w.alloc o0).alloc o1).alloc o2) (w.heap.size + 2) 77 _)
  have hlen : (bs.drop (k + 1)).length = n - (k + 1) := by rw [List.length_drop, hN.len]
  refine ⟨?_, ?_, ?_, k0.below' hb⟩
  · have hN2 := (hN.below b3).drop (k + 1) (by omega) A' (fun h => hA' h hN.2.1)
    refine RdAt.below ?_ hb
    refine ⟨A', c - (k + 1), by rw [hlen]; exact k2, by rw [hlen]; exact hN2, ?_, hB.drop _, by rw [hlen]; omega⟩
    rw [hlen]
    intro ad e hpos
    rw [hA' (by omega) hN.2.1] at e
    obtain ⟨a, ha, rfl⟩ := Option.map_eq_some_iff.1 e
    exact .inl (by rw [add_block]; have := hlt a ha; omega)
  · refine InsAt.below ?_ hb
    exact ⟨none, 0, none, 0, k1, World.ownsRow_nil _ _ _ _, World.ownsRow_nil _ _ _ _, .inl rfl⟩
  · exact below_then b3 b3.size hb

set_option maxRecDepth 100000 in
set_option maxHeartbeats 2000000 in
theorem decode_main (A : Option Addr) (n c k : Nat) (bs : List Int) (w : World) (hT : Tabs w) (hN : Nums .u8 w A n c bs) (hn : n ≤ 140737488355328) (hk : k < n) (hk2 : k < 8192) (hop : bs.getD k 0 ≤ 89) (hB : Byt bs) :
    Calls Tryd.prog 21 #[.slice A n c, .int .i64 k] w (DecPost (dec bs k) w) := by
  obtain ⟨ad, hA, hc⟩ := hN.at_ k hk
  have hlt := World.block_lt_of_cell? w _ hc
  have hbb := byte_at bs k hB (by rw [hN.len]; exact hk)
  obtain ⟨i0, hi, hz0, hz1, hz2⟩ := info_parts info5
  have hnc := hN.2.1
  have hcm := hN.2.2
  unfold maxLen at hcm
  obtain ⟨A', hcut, hA0⟩ := cut_low (P := Tryd.prog) (t := 22) Tryd.underlying22 hi A n c (k + 1) .i64 ((k : Int) + 1) (by omega) (by omega)
  have hA' := Lib.hid hA0
  have HN := Lib.hid hN
  have HB := Lib.hid hB
  have HT := Lib.hid hT
  obtain ⟨op, hopd⟩ : ∃ op, op = bs.getD k 0 := ⟨_, rfl⟩
  rw [← hopd] at hc hop hbb
  have HOP := Lib.hid hopd
  subst hA
  obtain ⟨m, hm, hmin⟩ := min_named n k hk hk2
  clear hN hB hT hopd hA0 hi hz0 hz2
  go_enter Tryd.func21, Tryd.ntmps21
  go_wp2_with (go_at_call 31; refine (shape_any _ _ ?_).mono ?_)
  case refine_1 => exact HT.out.below ((((Below.refl w.heap.size w).alloc (Nat.le_refl _) _).alloc (by simp) _).alloc (by simp; omega) _) HT.out.size
  rintro e w1 ⟨rfl, hb⟩
  have s1 := dec_start w w1 k op bs (some ad) A' n c HN.out hn hk HB.out (fun h1 h2 => (hA'.out h1 h2).trans (by rw [hz1, Nat.mul_one])) (by rintro a ⟨⟩; rwa [add_block] at hlt) hb
  have S1 := Lib.hid s1
  clear s1 hb hc hlt hcut hmin
  generalize hs : shp op = s
  have HS := Lib.hid hs
  clear hs
  go_upto_block 0 with (fail)
  go_cut [] from 40 to 87 (fun wc => DecMid w k op (bs.drop (k + 1)) bs wc)
  case first =>
    have hk0 : (0 : Int) ≤ k := by omega
    have hk1 : (k : Int) < 8192 := by omega
    by_cases q1 : s = 1
    · subst q1
      have hs := HS.out
      go_wp2_with (go_at_call 53; refine (plain1 _ _ _ _ _ _ S1.out.1).mono ?_)
      intro e w2 hp
      obtain ⟨y, l2, s2, rfl, hr2, hg2, ho2⟩ := RdTaken.tk_ hp
      have hst := S1.out.took hr2 hg2
      obtain ⟨tA, tc, kA, kc, hbk⟩ := hst.2.1.blk
      have d2 : w2.cell? ⟨w.heap.size + 1, 2, none⟩ = some (.int .i64 0) := hbk.cell 2
      have f2 := hbk.frozen 2
      have ST := Lib.hid (hst.setN y)
      have HO := Lib.hid ho2
      have HS' := Lib.hid hs
      clear hp hr2 hg2 ho2 hst hbk hs
      go_wp2
      go_meet
      case rel =>
        have hs := HS'.out
        refine ⟨_, _, _, ST.out, ?_⟩
        rcases HO.out with ⟨_, h, h2⟩ | ⟨h2, h | h⟩
        · exact .inr ⟨h2, by simp [body, hs, h]⟩
        · cases h
        · exact .inl ⟨h2, by simp [body, hs, h]⟩
    by_cases q2 : s = 2
    · subst q2
      have hs := HS.out
      go_wp2_with (go_at_call 54; refine (signed2 _ _ _ _ _ _ S1.out.1).mono ?_)
      intro e w2 hp
      obtain ⟨y, l2, s2, rfl, hr2, hg2, ho2⟩ := RdTaken.tks_ hp
      have hst := S1.out.took hr2 hg2
      obtain ⟨tA, tc, kA, kc, hbk⟩ := hst.2.1.blk
      have d2 : w2.cell? ⟨w.heap.size + 1, 2, none⟩ = some (.int .i64 0) := hbk.cell 2
      have f2 := hbk.frozen 2
      have ST := Lib.hid (hst.setN y)
      have HO := Lib.hid ho2
      have HS' := Lib.hid hs
      clear hp hr2 hg2 ho2 hst hbk hs
      go_wp2
      go_meet
      case rel =>
        have hs := HS'.out
        refine ⟨_, _, _, ST.out, ?_⟩
        rcases HO.out with ⟨_, h, h2⟩ | ⟨h2, h | h⟩
        · exact .inr ⟨h2, by simp [body, hs, h]⟩
        · cases h
        · exact .inl ⟨h2, by simp [body, hs, h]⟩
    by_cases q3 : s = 3
    · subst q3
      have hs := HS.out
      go_wp2_with (go_at_call 53; refine (plain2 _ _ _ _ _ _ S1.out.1).mono ?_)
      intro e w2 hp
      obtain ⟨y, l2, s2, rfl, hr2, hg2, ho2⟩ := RdTaken.tk_ hp
      have hst := S1.out.took hr2 hg2
      obtain ⟨tA, tc, kA, kc, hbk⟩ := hst.2.1.blk
      have d2 : w2.cell? ⟨w.heap.size + 1, 2, none⟩ = some (.int .i64 0) := hbk.cell 2
      have f2 := hbk.frozen 2
      have ST := Lib.hid (hst.setN y)
      have HO := Lib.hid ho2
      have HS' := Lib.hid hs
      clear hp hr2 hg2 ho2 hst hbk hs
      go_wp2
      go_meet
      case rel =>
        have hs := HS'.out
        refine ⟨_, _, _, ST.out, ?_⟩
        rcases HO.out with ⟨_, h, h2⟩ | ⟨h2, h | h⟩
        · exact .inr ⟨h2, by simp [body, hs, h]⟩
        · cases h
        · exact .inl ⟨h2, by simp [body, hs, h]⟩
    by_cases q4 : s = 4
    · subst q4
      have hs := HS.out
      go_wp2_with (go_at_call 55; refine (to_any _ _ _ _ _ _ S1.out.1 hk0 hk1).mono ?_)
      intro e w2 hp
      obtain ⟨y, l2, s2, rfl, hr2, hg2, ho2⟩ := RdTo.open_ hp
      have hst := S1.out.took hr2 hg2
      obtain ⟨tA, tc, kA, kc, hbk⟩ := hst.2.1.blk
      have d4 : w2.cell? ⟨w.heap.size + 1, 4, none⟩ = some (.slice tA 0 tc) := hbk.cell 4
      have f4 := hbk.frozen 4
      have hlt2 : w.heap.size + 1 < w2.heap.size := hbk.lt
      have ST := Lib.hid (hst.setTo y)
      have HO := Lib.hid ho2
      have HS' := Lib.hid hs
      clear hp hr2 hg2 ho2 hst hbk hs
      go_wp2
      go_meet
      case rel =>
        have hs := HS'.out
        refine ⟨_, _, _, ST.out, ?_⟩
        rcases HO.out with ⟨_, h, h2⟩ | ⟨h2, h | h⟩
        · exact .inr ⟨h2, by simp [body, hs, h]⟩
        · cases h
        · exact .inl ⟨h2, by simp [body, hs, h]⟩
    by_cases q5 : s = 5
    · subst q5
      have hs := HS.out
      go_wp2_with (go_at_call 53; refine (plain1 _ _ _ _ _ _ S1.out.1).mono ?_)
      intro e w2 hp
      obtain ⟨y, l2, s2, rfl, hr2, hg2, ho2⟩ := RdTaken.tk_ hp
      have ST := Lib.hid (S1.out.took hr2 hg2)
      have HO := Lib.hid ho2
      have HS' := Lib.hid hs
      clear hp hr2 hg2 ho2 hs
      go_wp2_with (go_at_call 54; refine (signed1 _ _ _ _ _ _ ST.out.1).mono ?_)
      intro e w3 hp
      obtain ⟨y3, l3, s3, rfl, hr3, hg3, ho3⟩ := RdTaken.tks_ hp
      have hst := ST.out.took hr3 hg3
      obtain ⟨tA, tc, kA, kc, hbk⟩ := hst.2.1.blk
      have d2 : w3.cell? ⟨w.heap.size + 1, 2, none⟩ = some (.int .i64 0) := hbk.cell 2
      have f2 := hbk.frozen 2
      have d3 : w3.cell? ⟨w.heap.size + 1, 3, none⟩ = some (.int .i64 0) := hbk.cell 3
      have f3 := hbk.frozen 3
      have ST3 := Lib.hid ((hst.setN y).setM y3)
      have HO3 := Lib.hid ho3
      clear hp hr3 hg3 ho3 hst hbk
      go_wp2
      go_meet
      case rel =>
        have hs := HS'.out
        refine ⟨_, _, _, ST3.out, ?_⟩
        rcases HO.out with ⟨_, h, h2⟩ | ⟨h2, h | h⟩
        · rcases HO3.out with ⟨_, g, g2⟩ | ⟨g2, g | g⟩
          · exact .inr ⟨g2, by simp [body, hs, h, g]⟩
          · rw [h2] at g; cases g
          · exact .inl ⟨g2, by simp [body, hs, h, g]⟩
        · cases h
        · rcases HO3.out with ⟨g0, _⟩ | ⟨g2, _⟩
          · rw [h2] at g0; cases g0
          · exact .inl ⟨g2, by simp [body, hs, h]⟩
    by_cases q6 : s = 6
    · subst q6
      have hs := HS.out
      go_wp2_with (go_at_call 55; refine (to_any _ _ _ _ _ _ S1.out.1 hk0 hk1).mono ?_)
      intro e w2 hp
      obtain ⟨y, l2, s2, rfl, hr2, hg2, ho2⟩ := RdTo.open_ hp
      have hst := S1.out.took hr2 hg2
      obtain ⟨tA, tc, kA, kc, hbk⟩ := hst.2.1.blk
      have d4 : w2.cell? ⟨w.heap.size + 1, 4, none⟩ = some (.slice tA 0 tc) := hbk.cell 4
      have f4 := hbk.frozen 4
      have hlt2 : w.heap.size + 1 < w2.heap.size := hbk.lt
      have ST := Lib.hid (hst.setTo y)
      have HO := Lib.hid ho2
      have HS' := Lib.hid hs
      clear hp hr2 hg2 ho2 hst hbk hs
      go_wp2_with (go_at_call 54; refine (signed4 _ _ _ _ _ _ ST.out.1).mono ?_)
      intro e w3 hp
      obtain ⟨y3, l3, s3, rfl, hr3, hg3, ho3⟩ := RdTaken.tks_ hp
      have hst := ST.out.took hr3 hg3
      obtain ⟨tA3, tc3, kA3, kc3, hbk⟩ := hst.2.1.blk
      have d2 : w3.cell? ⟨w.heap.size + 1, 2, none⟩ = some (.int .i64 0) := hbk.cell 2
      have f2 := hbk.frozen 2
      have ST3 := Lib.hid (hst.setN y3)
      have HO3 := Lib.hid ho3
      clear hp hr3 hg3 ho3 hst hbk d4 f4 hlt2
      go_wp2_with (go_at_call 56; refine (ways_any _ _ _ false ⟨k, op, y3, 0, [y], []⟩ _ _ _ (by omega) (by omega) ST3.out.1 ST3.out.2.1 hk0 hk1 rfl rfl).mono ?_)
      intro e w4 hp
      obtain ⟨rfl, T, K, l4, s4, hr4, hi4, hb4, ho4⟩ := hp
      have HR4 := Lib.hid (show DecSt w k ⟨k, op, y3, 0, T, K⟩ l4 s4 w4 from ⟨hr4, hi4, ST3.out.2.2.1.trans (hb4.mono (by omega)), ST3.out.2.2.2.below hb4 (by omega)⟩)
      have HO4 := Lib.hid ho4
      clear hr4 hi4 hb4 ho4
      go_wp2
      go_meet
      case rel =>
        have hs := HS'.out
        refine ⟨_, _, _, HR4.out, ?_⟩
        have f := HO4.out
        rcases HO.out with ⟨_, h, h2⟩ | ⟨h2, h | h⟩
        · rcases HO3.out with ⟨_, g, g2⟩ | ⟨g2, g | g⟩
          · rw [g2] at f
            simp only [Bool.false_eq_true, if_false] at f
            split at f
            · rename_i hq
              exact .inl ⟨f, by rw [body_6 hs, h]; simp only [Option.bind_some]; rw [g]; simp only [Option.bind_some]; rw [hq]; rfl⟩
            · rename_i pq hq
              obtain ⟨f1, rfl, rfl, rfl⟩ := f
              exact .inr ⟨f1, by rw [body_6 hs, h]; simp only [Option.bind_some]; rw [g]; simp only [Option.bind_some]; rw [hq]; rfl⟩
          · rw [h2] at g; cases g
          · rw [g2] at f
            exact .inl ⟨f, by simp [body, hs, h, g]⟩
        · cases h
        · rcases HO3.out with ⟨g0, _⟩ | ⟨g2, _⟩
          · rw [h2] at g0; cases g0
          · rw [g2] at f
            exact .inl ⟨f, by simp [body, hs, h]⟩
    by_cases q7 : s = 7
    · subst q7
      have hs := HS.out
      go_wp2_with (go_at_call 55; refine (to_any _ _ _ _ _ _ S1.out.1 hk0 hk1).mono ?_)
      intro e w2 hp
      obtain ⟨y, l2, s2, rfl, hr2, hg2, ho2⟩ := RdTo.open_ hp
      have hst := S1.out.took hr2 hg2
      obtain ⟨tA, tc, kA, kc, hbk⟩ := hst.2.1.blk
      have d4 : w2.cell? ⟨w.heap.size + 1, 4, none⟩ = some (.slice tA 0 tc) := hbk.cell 4
      have f4 := hbk.frozen 4
      have hlt2 : w.heap.size + 1 < w2.heap.size := hbk.lt
      have ST := Lib.hid (hst.setTo y)
      have HO := Lib.hid ho2
      have HS' := Lib.hid hs
      clear hp hr2 hg2 ho2 hst hbk hs
      go_wp2_with (go_at_call 56; refine (ways_any _ _ _ true ⟨k, op, 0, 0, [y], []⟩ _ _ _ (by omega) (by omega) ST.out.1 ST.out.2.1 hk0 hk1 rfl rfl).mono ?_)
      intro e w3 hp
      obtain ⟨rfl, T, K, l4, s4, hr4, hi4, hb4, ho4⟩ := hp
      have HR4 := Lib.hid (show DecSt w k ⟨k, op, 0, 0, T, K⟩ l4 s4 w3 from ⟨hr4, hi4, ST.out.2.2.1.trans (hb4.mono (by omega)), ST.out.2.2.2.below hb4 (by omega)⟩)
      have HO4 := Lib.hid ho4
      clear hr4 hi4 hb4 ho4
      go_wp2
      go_meet
      case rel =>
        have hs := HS'.out
        refine ⟨_, _, _, HR4.out, ?_⟩
        have f := HO4.out
        rcases HO.out with ⟨_, h, h2⟩ | ⟨h2, h | h⟩
        · rw [h2] at f
          simp only [Bool.false_eq_true, if_false] at f
          split at f
          · rename_i hq
            exact .inl ⟨f, by rw [body_7 hs, h]; simp only [Option.bind_some]; rw [hq]; rfl⟩
          · rename_i pq hq
            obtain ⟨f1, rfl, rfl, rfl⟩ := f
            exact .inr ⟨f1, by rw [body_7 hs, h]; simp only [Option.bind_some]; rw [hq]; rfl⟩
        · cases h
        · rw [h2] at f
          exact .inl ⟨f, by simp [body, hs, h]⟩
    have hs := HS.out
    obtain ⟨e1, e2, e3, e4, e5, e6, e7⟩ : (s == 1) = false ∧ (s == 2) = false ∧ (s == 3) = false ∧ (s == 4) = false ∧ (s == 5) = false ∧ (s == 6) = false ∧ (s == 7) = false := by simp [*]
    have HS' := Lib.hid hs
    clear hs
    go_wp2
    go_meet
    case rel =>
      have hs := HS'.out
      exact ⟨_, _, _, S1.out, .inr ⟨rfl, by simp [body, *]⟩⟩
  case rest =>
    obtain ⟨x, l, s', hst, hbody⟩ := hcut
    have hlen := Lib.hid HN.out.len
    have hd := dec_of (bs := bs) (k := k) (by rw [hlen.out]; exact hk) hk2 HOP.out hop
    have c2 := hst.1.cell2
    obtain ⟨tA, tc, kA, kc, hbk, o1, o2, o3⟩ := hst.2.1
    have d0 : wc.cell? ⟨w.heap.size + 1, 0, none⟩ = some (.int .i64 x.At) := hbk.cell 0
    have d1 : wc.cell? ⟨w.heap.size + 1, 1, none⟩ = some (.int .i64 x.Op) := hbk.cell 1
    have d2 : wc.cell? ⟨w.heap.size + 1, 2, none⟩ = some (.int .i64 x.N) := hbk.cell 2
    have d3 : wc.cell? ⟨w.heap.size + 1, 3, none⟩ = some (.int .i64 x.M) := hbk.cell 3
    have d4 : wc.cell? ⟨w.heap.size + 1, 4, none⟩ = some (.slice tA x.To.length tc) := hbk.cell 4
    have d5 : wc.cell? ⟨w.heap.size + 1, 5, none⟩ = some (.slice kA x.Keys.length kc) := hbk.cell 5
    have z0 : wc.cell? ⟨w.heap.size, 0, none⟩ = some (.int .i64 0) := hst.2.2.2.cell 0
    have z1 : wc.cell? ⟨w.heap.size, 1, none⟩ = some (.int .i64 0) := hst.2.2.2.cell 1
    have z2 : wc.cell? ⟨w.heap.size, 2, none⟩ = some (.int .i64 0) := hst.2.2.2.cell 2
    have z3 : wc.cell? ⟨w.heap.size, 3, none⟩ = some (.int .i64 0) := hst.2.2.2.cell 3
    have z4 : wc.cell? ⟨w.heap.size, 4, none⟩ = some (.slice none 0 0) := hst.2.2.2.cell 4
    have z5 : wc.cell? ⟨w.heap.size, 5, none⟩ = some (.slice none 0 0) := hst.2.2.2.cell 5
    have y0 := hst.2.2.2.frozen 0
    have y1 := hst.2.2.2.frozen 1
    have y2 := hst.2.2.2.frozen 2
    have y3 := hst.2.2.2.frozen 3
    have y4 := hst.2.2.2.frozen 4
    have y5 := hst.2.2.2.frozen 5
    have ST := Lib.hid hst
    have HBD := Lib.hid hbody
    have HD := Lib.hid hd
    have HBK := Lib.hid hbk
    have O1 := Lib.hid o1
    have O2 := Lib.hid o2
    have O3 := Lib.hid o3
    clear hst hbody hd hbk o1 o2 o3 hA' hcm hnc
    cases s'
    · have hbody : Hid (body k op (bs.drop (k + 1)) = some (x, l)) := by
        rcases HBD.out with ⟨h, _⟩ | ⟨_, h⟩
        · cases h
        · exact h
      have hL := body_len (HB.out.drop _) hbody.out
      have hls : Lists wc x tA tc kA kc := ⟨Nums.of_own O1.out, Nums.of_own O2.out, by omega, by omega⟩
      have HLS := Lib.hid hls
      have hll : l.length ≤ n := by
        have h1 := hL.2.2.1
        have h2 := hlen.out
        rw [List.length_drop] at h1
        omega
      obtain ⟨Al, cl, hbl, _⟩ := ST.out.1
      have e1 : wc.cell? ⟨w.heap.size + 1 + 1, 1, none⟩ = some (.slice Al l.length cl) := hbl.cell 1
      have HBL := Lib.hid hbl
      have T := Lib.hid (may_any x tA tc kA kc wc (HT.out.below ST.out.2.2.1 HT.out.size) hls)
      clear hL hls hbl
      go_wp2_with (go_at_call 57; refine T.out.mono ?_)
      rintro e w5 ⟨rfl, hb5⟩
      have hbk := HBK.out.below' hb5
      have hzz := ST.out.2.2.2.below' hb5
      have hbl := HBL.out.below' hb5
      clear d0 d1 d2 d3 d4 d5 z0 z1 z2 z3 z4 z5 y0 y1 y2 y3 y4 y5 c2 e1 T
      have d0 : w5.cell? ⟨w.heap.size + 1, 0, none⟩ = some (.int .i64 x.At) := hbk.cell 0
      have d1 : w5.cell? ⟨w.heap.size + 1, 1, none⟩ = some (.int .i64 x.Op) := hbk.cell 1
      have d2 : w5.cell? ⟨w.heap.size + 1, 2, none⟩ = some (.int .i64 x.N) := hbk.cell 2
      have d3 : w5.cell? ⟨w.heap.size + 1, 3, none⟩ = some (.int .i64 x.M) := hbk.cell 3
      have d4 : w5.cell? ⟨w.heap.size + 1, 4, none⟩ = some (.slice tA x.To.length tc) := hbk.cell 4
      have d5 : w5.cell? ⟨w.heap.size + 1, 5, none⟩ = some (.slice kA x.Keys.length kc) := hbk.cell 5
      have z0 : w5.cell? ⟨w.heap.size, 0, none⟩ = some (.int .i64 0) := hzz.cell 0
      have z1 : w5.cell? ⟨w.heap.size, 1, none⟩ = some (.int .i64 0) := hzz.cell 1
      have z2 : w5.cell? ⟨w.heap.size, 2, none⟩ = some (.int .i64 0) := hzz.cell 2
      have z3 : w5.cell? ⟨w.heap.size, 3, none⟩ = some (.int .i64 0) := hzz.cell 3
      have z4 : w5.cell? ⟨w.heap.size, 4, none⟩ = some (.slice none 0 0) := hzz.cell 4
      have z5 : w5.cell? ⟨w.heap.size, 5, none⟩ = some (.slice none 0 0) := hzz.cell 5
      have y0 := hzz.frozen 0
      have y1 := hzz.frozen 1
      have y2 := hzz.frozen 2
      have y3 := hzz.frozen 3
      have y4 := hzz.frozen 4
      have y5 := hzz.frozen 5
      have e1 : w5.cell? ⟨w.heap.size + 1 + 1, 1, none⟩ = some (.slice Al l.length cl) := hbl.cell 1
      have HB5 := Lib.hid (below_then ST.out.2.2.1 ST.out.2.2.1.size hb5)
      have HL5 := Lib.hid (HLS.out.below hb5)
      have P1 := Lib.hid (O1.out.kept (grownBy_of_below hb5 none) (by cases (Value.slice tA x.To.length tc).ownBlock <;> simp))
      have P2 := Lib.hid (O2.out.kept (grownBy_of_below hb5 none) (by cases (Value.slice kA x.Keys.length kc).ownBlock <;> simp))
      clear hbk hzz hbl hb5
      by_cases hmay : mayB x = true
      · have hres : Hid (dec bs k = (x, (n : Int) - l.length, 0)) := by
          show dec bs k = _
          rw [HD.out, hbody.out]
          simp only [hmay, if_true, hlen.out]
        rw [hmay]
        clear hmay
        go_wp2
        have n1 : (w.heap.size = w.heap.size + 1 + 1) = False := eq_false (by omega)
        have n2 : (w.heap.size + 1 + 1 = w.heap.size) = False := eq_false (by omega)
        go_region_held3 (fun w' => w'.cell? ⟨w.heap.size + 1, 0, none⟩ = some (.int .i64 x.At) ∧ w'.cell? ⟨w.heap.size + 1, 1, none⟩ = some (.int .i64 x.Op) ∧ w'.cell? ⟨w.heap.size + 1, 2, none⟩ = some (.int .i64 x.N) ∧ w'.cell? ⟨w.heap.size + 1, 3, none⟩ = some (.int .i64 x.M) ∧ w'.cell? ⟨w.heap.size + 1, 4, none⟩ = some (.slice tA x.To.length tc) ∧ w'.cell? ⟨w.heap.size + 1, 5, none⟩ = some (.slice kA x.Keys.length kc) ∧ w'.cell? ⟨w.heap.size + 1 + 1, 1, none⟩ = some (.slice Al l.length cl)) (go_keep) (fail)
        go_wp2
        have hw : IntKind.i64.wrap ((n : Int) - l.length) = (n : Int) - l.length := IntWalk.i64_in _ (by omega)
        refine bodyPost_ret (v := .tuple #[insV x tA tc kA kc, .int .i64 ((n : Int) - l.length), .int .i64 0]) (by simp [results, Tryd.results21, go_sem, z0, z1, z2, z3, z4, z5, hw]) rfl ?_
        rw [hres.out]
        have p1 := P1.out
        have p2 := P2.out
        have q1 := (ownsRow_setCell_below (ownsRow_setCell_below (ownsRow_setCell_below (ownsRow_setCell_below (ownsRow_setCell_below (ownsRow_setCell_below p1 (a := ⟨w.heap.size, 0, none⟩) (Nat.lt_succ_self _) (.int .i64 x.At)) (a := ⟨w.heap.size, 1, none⟩) (Nat.lt_succ_self _) (.int .i64 x.Op)) (a := ⟨w.heap.size, 2, none⟩) (Nat.lt_succ_self _) (.int .i64 x.N)) (a := ⟨w.heap.size, 3, none⟩) (Nat.lt_succ_self _) (.int .i64 x.M)) (a := ⟨w.heap.size, 4, none⟩) (Nat.lt_succ_self _) (.slice tA x.To.length tc)) (a := ⟨w.heap.size, 5, none⟩) (Nat.lt_succ_self _) (.slice kA x.Keys.length kc)).drew
        have q2 := (ownsRow_setCell_below (ownsRow_setCell_below (ownsRow_setCell_below (ownsRow_setCell_below (ownsRow_setCell_below (ownsRow_setCell_below p2 (a := ⟨w.heap.size, 0, none⟩) (Nat.lt_succ_self _) (.int .i64 x.At)) (a := ⟨w.heap.size, 1, none⟩) (Nat.lt_succ_self _) (.int .i64 x.Op)) (a := ⟨w.heap.size, 2, none⟩) (Nat.lt_succ_self _) (.int .i64 x.N)) (a := ⟨w.heap.size, 3, none⟩) (Nat.lt_succ_self _) (.int .i64 x.M)) (a := ⟨w.heap.size, 4, none⟩) (Nat.lt_succ_self _) (.slice tA x.To.length tc)) (a := ⟨w.heap.size, 5, none⟩) (Nat.lt_succ_self _) (.slice kA x.Keys.length kc)).drew
        exact ⟨tA, tc, kA, kc, rfl, ⟨Nums.of_own q1, Nums.of_own q2, HL5.out.tlen, HL5.out.klen⟩, ((((((HB5.out.setCell (Nat.le_refl _) _).setCell (Nat.le_refl _) _).setCell (Nat.le_refl _) _).setCell (Nat.le_refl _) _).setCell (Nat.le_refl _) _).setCell (Nat.le_refl _) _).drew⟩
      · have hmay' : mayB x = false := by simpa using hmay
        have hres : Hid (dec bs k = (Ins.zero, 0, 4)) := by
          show dec bs k = _
          rw [HD.out, hbody.out]
          simp only [hmay', Bool.false_eq_true, if_false]
        rw [hmay']
        clear hmay hmay'
        go_wp2
        refine bodyPost_ret (v := .tuple #[insV Ins.zero none 0 none 0, .int .i64 0, .int .i64 4]) (by simp [results, Tryd.results21, go_sem, Ins.zero, z0, z1, z2, z3, z4, z5]) rfl ?_
        rw [hres.out]
        exact ⟨none, 0, none, 0, rfl, lists_zero _, ((((((HB5.out.setCell (Nat.le_refl _) _).setCell (Nat.le_refl _) _).setCell (Nat.le_refl _) _).setCell (Nat.le_refl _) _).setCell (Nat.le_refl _) _).setCell (Nat.le_refl _) _)⟩
    · have hnone : Hid (dec bs k = (Ins.zero, 0, 3)) := by
        rcases HBD.out with ⟨_, h⟩ | ⟨h, _⟩
        · show dec bs k = _
          rw [HD.out, h]
        · cases h
      go_wp2
      refine bodyPost_ret (v := .tuple #[insV Ins.zero none 0 none 0, .int .i64 0, .int .i64 3]) (by simp [results, Tryd.results21, go_sem, Ins.zero, z0, z1, z2, z3, z4, z5]) rfl ?_
      rw [hnone.out]
      exact ⟨none, 0, none, 0, rfl, lists_zero _, ((((((ST.out.2.2.1.setCell (Nat.le_refl _) _).setCell (Nat.le_refl _) _).setCell (Nat.le_refl _) _).setCell (Nat.le_refl _) _).setCell (Nat.le_refl _) _).setCell (Nat.le_refl _) _)⟩

theorem decode_any (A : Option Addr) (n c : Nat) (bs : List Int) (at_ : Int) (w : World) (hT : Tabs w) (hN : Nums .u8 w A n c bs) (hn : n ≤ 140737488355328) (hB : Byt bs) :
    Calls Tryd.prog 21 #[.slice A n c, .int .i64 at_] w (DecPost (dec bs at_) w) := by
  by_cases ho : at_ < 0 ∨ (n : Int) ≤ at_ ∨ 8192 ≤ at_
  · rw [dec_range (by rw [hN.len]; exact ho)]
    exact decode_range A n c at_ w hn ho
  · obtain ⟨k, rfl⟩ := Int.eq_ofNat_of_zero_le (show 0 ≤ at_ by omega)
    by_cases hop : 89 < bs.getD k 0
    · rw [dec_op (by rw [hN.len]; omega) (by omega) hop]
      exact decode_op A n c k bs w hN hn (by omega) (by omega) hop hB
    · exact decode_main A n c k bs w hT hN hn (by omega) (by omega) (by omega) hB
end Go.Proofs.YtjmfdmipdglccaaDoor
