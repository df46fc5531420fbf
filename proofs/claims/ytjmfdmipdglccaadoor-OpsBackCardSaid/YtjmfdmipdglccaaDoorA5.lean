/- The walk of the reader's ways. -/
import Derived.Test.YtjmfdmipdglccaaDoorA4
import Derived.Deep.RegionHeld3
import Derived.Deep.RegionLaw
import Derived.Deep.DeepCutAuto
namespace Go.Proofs.YtjmfdmipdglccaaDoor
open Go.RowKit

/-- How far the loop of ways has come. -/
def WaysInv (at_ : Int) (keys : Bool) (R : Option (List Int × List Int × List Int)) (m : Nat) (T K l : List Int) (s : Bool) : Prop :=
  (s = false ∧ ways at_ keys m T K l = R) ∨ (s = true ∧ R = none)
/-- What ways leaves. -/
def WaysPost (base g h : Nat) (x : Ins) (keys : Bool) (left : List Int) (short : Bool) (w : World) (e : Ending) (w' : World) : Prop :=
  e = .returned (.tuple #[]) ∧ ∃ T K l s, RdAt w' base g x.At l s ∧ InsAt w' base h { x with To := T, Keys := K } ∧ Below base w w' ∧
    (if short then s = true else match (tk 2 left).bind fun r => ways x.At keys r.1.toNat x.To x.Keys r.2 with
      | none => s = true
      | some p => s = false ∧ T = p.1 ∧ K = p.2.1 ∧ l = p.2.2)

/-- The loop's relation. -/
def WaysRel (base g h : Nat) (x : Ins) (keys : Bool) (R : Option (List Int × List Int × List Int)) (w0 : World) (v : Value) (wr : World) : Prop :=
  ∃ (m : Nat) (T K l : List Int) (s : Bool), v = .int .i64 m ∧ RdAt wr base g x.At l s ∧ InsAt wr base h { x with To := T, Keys := K } ∧ Below base w0 wr ∧ WaysInv x.At keys R m T K l s ∧ T.length + m ≤ 65537 ∧ K.length + m ≤ 65537
theorem RdTo.open_ {base g : Nat} {at_ : Int} {left : List Int} {short : Bool} {w w' : World} {e : Ending} (h : RdTo base g at_ left short w e w') :
    ∃ (y : Int) (l : List Int) (s : Bool), e = .returned (.int .i64 y) ∧ RdAt w' base g at_ l s ∧ w.grownBy w' (some g) ∧
      ((short = false ∧ tkTo at_ left = some (y, l) ∧ s = false) ∨ (s = true ∧ (short = true ∨ tkTo at_ left = none))) := by
  obtain ⟨h1, h2⟩ := h
  by_cases hc : short = false ∧ 2 ≤ left.length
  · rw [if_pos hc] at h1
    exact ⟨_, _, _, h1.1, h1.2, h2, .inl ⟨hc.1, by simp [tkTo, tks, hc.2], rfl⟩⟩
  · rw [if_neg hc] at h1
    refine ⟨_, _, _, h1.1, h1.2, h2, .inr ⟨rfl, ?_⟩⟩
    cases short
    · exact .inr (by simp [tkTo, tks]; simpa using hc)
    · exact .inl rfl
theorem ways_step_false (at_ : Int) (R : Option (List Int × List Int × List Int)) (m : Nat) (T K l : List Int) (y : Int) (l2 : List Int) (s2 : Bool) (h : WaysInv at_ false R (m + 1) T K l false)
    (ho : (false = false ∧ tkTo at_ l = some (y, l2) ∧ s2 = false) ∨ (s2 = true ∧ (false = true ∨ tkTo at_ l = none))) : WaysInv at_ false R m (T ++ [y]) K l2 s2 := by
  rcases h with ⟨_, h⟩ | ⟨h, _⟩
  · rcases ho with ⟨_, h2, h3⟩ | ⟨h2, h3 | h3⟩
    · refine .inl ⟨h3, ?_⟩
      rw [← h]
      simp [ways, h2]
    · cases h3
    · refine .inr ⟨h2, ?_⟩
      rw [← h]
      simp [ways, h3]
  · cases h

theorem ways_end {base g h : Nat} {x : Ins} {keys : Bool} {left : List Int} {short : Bool} {w wr : World} {m : Nat} {T K l : List Int} {s : Bool} {R : Option (List Int × List Int × List Int)}
    (hR : R = (tk 2 left).bind fun r => ways x.At keys r.1.toNat x.To x.Keys r.2) (hr : RdAt wr base g x.At l s) (hi : InsAt wr base h { x with To := T, Keys := K }) (hb : Below base w wr)
    (hv : WaysInv x.At keys (if short then none else R) m T K l s) (hm : m = 0 ∨ s = true) : WaysPost base g h x keys left short w (.returned (.tuple #[])) wr := by
  refine ⟨rfl, T, K, l, s, hr, hi, hb, ?_⟩
  rw [← hR]
  rcases hv with ⟨h1, h2⟩ | ⟨h1, h2⟩
  · have hm0 : m = 0 := by
      rcases hm with h | h
      · exact h
      · rw [h1] at h; cases h
    subst hm0
    cases short
    · simp only [ways] at h2
      rw [if_neg (by simp)] at h2 ⊢
      rw [← h2]
      exact ⟨h1, rfl, rfl, rfl⟩
    · simp [ways] at h2
  · cases short
    · rw [if_neg (by simp)] at h2 ⊢
      rw [h2]
      exact h1
    · exact h1

theorem ways_loop_false (base g h : Nat) (x : Ins) (left : List Int) (short : Bool) (w : World) (hg : base ≤ g) (hh : base ≤ h) (hr : RdAt w base g x.At left short) (hi : InsAt w base h x)
    (h0 : 0 ≤ x.At) (h1 : x.At < 8192) (hT : x.To.length = 1) (hK : x.Keys = []) :
    Calls Tryd.prog 56 #[.pointer (some ⟨g, 0, none⟩), .pointer (some ⟨h, 0, none⟩), .bool false] w (WaysPost base g h x false left short w) := by
  obtain ⟨i0, hi0, hz0, hz1, hz2⟩ := info_parts info3
  have HR := Lib.hid hr
  have HI := Lib.hid hi
  have HT := Lib.hid hT
  have HK := Lib.hid hK
  clear hr hi hT hK
  go_enter Tryd.func56, Tryd.ntmps56
  go_wp2_with (go_at_call 53; refine (plain2 base g _ left short _ HR.out).mono ?_)
  intro e w1 hp
  obtain ⟨y, l, s, rfl, hr, hgr, ho⟩ := hp.open_
  obtain ⟨R, hR⟩ : ∃ R, Hid (R = (tk 2 left).bind fun r => ways x.At false r.1.toNat x.To x.Keys r.2) := ⟨_, rfl⟩
  obtain ⟨m0, rfl, hm0, hinv⟩ : ∃ m0 : Nat, y = (m0 : Int) ∧ m0 ≤ 65535 ∧ Hid (WaysInv x.At false (if short then none else R) m0 x.To x.Keys l s) := by
    have hb := HR.out.byt
    rcases ho with ⟨a1, a2, a3, a4, a5⟩ | ⟨a1, a2, a3, a4⟩
    · have b0 := be_take_ge left hb 2
      have b1 : be (left.take 2) < 65536 := be_take_lt left hb 2
      refine ⟨(be (left.take 2)).toNat, by rw [a3]; show be (left.take 2) = _; omega, by omega, .inl ⟨a5, ?_⟩⟩
      rw [a1, hR.out]
      simp [tk, a2, a4]
    · refine ⟨0, by rw [a2]; rfl, by omega, .inr ⟨a4, ?_⟩⟩
      cases short
      · rw [hR.out]; simp at a1; simp [tk, Nat.not_le.2 a1]
      · rfl
  have HREL : Hid (WaysRel base g h x false (if short then none else R) w (.int .i64 m0) w1) :=
    ⟨m0, x.To, x.Keys, l, s, rfl, hr, (HI.out.grown (rowOf_blk (base := 0) HR.out.blk.choose_spec (Nat.zero_le _)) (by decide) (by decide) hgr), below_row (rowOf_blk HR.out.blk.choose_spec hg) hgr (by have := HR.out.blk.choose_spec.lt; omega), hinv.out, by rw [HT.out]; omega, by rw [HK.out]; simp; omega⟩
  clear hinv ho hr hgr hp
  go_wp2
  go_loopw [6] (fun v wr => WaysRel base g h x false (if short then none else R) w v wr) (fun v _ => (intOf v).toNat)
  case atStart => exact HREL.out
  case round =>
    clear HREL
    obtain ⟨m, T, K, l, s, rfl, hr, hi, hbel, hinv, hT, hK⟩ := hrel
    have c2 := hr.cell2
    have HR1 := Lib.hid hr
    have HI1 := Lib.hid hi
    have HB1 := Lib.hid hbel
    have HV1 := Lib.hid hinv
    clear hr hi hbel hinv
    cases m with
    | zero =>
      go_wp2
      go_end0
      exact ways_end hR.out HR1.out HI1.out HB1.out HV1.out (.inl rfl)
    | succ m =>
      cases s
      · obtain ⟨tA, tc, kA, kc, hb, o1, o2, o3⟩ := HI1.out
        have c4 := hb.cell 4
        have hlt := hb.lt
        have HBk := Lib.hid hb
        have HO1 := Lib.hid o1
        have HO2 := Lib.hid o2
        have HO3 := Lib.hid o3
        clear hb o1 o2 o3
        go_wp2
        go_region_law (first
          | (go_simp; go_at_call 55; (refine (to_any base g x.At l false _ (HR1.out.below (Below.refl _ _).drew) h0 h1).mono ?_; rintro e w2 hp; obtain ⟨y, l2, s2, rfl, hr2, hg2, ho2⟩ := RdTo.open_ hp; have k2 : w2.cell? ⟨h, 4, none⟩ = some (.slice tA T.length tc) := hg2.cell c4 (fun e => HBk.out.ne_ HR1.out.blk.choose_spec (by decide) (Option.some.inj e)); have hlt2 : h < w2.heap.size := Nat.lt_of_lt_of_le hlt hg2.size; have hO1 := Lib.hid (((HO1.out.kept (grownBy_of_drew hg2) (own_ne HO1.out (rowOf_blk (base := 0) HR1.out.blk.choose_spec (Nat.zero_le _)) (by decide))).alloc (.cells #[.int .i64 y] 3)))))
          | (have tok := hO1; (refine step_append_lies _ rfl _ _ 24 rfl base 3 i0 (.int .i64 0) 1 8 Tryd.underlying24 hi0 hz0 hz1 hz2 rfl (by decide) (.slice tA T.length tc) T.length (T.map (Value.int .i64)) (by simp [Act.eval]) hO1.out ⟨w2.heap.size, 0, none⟩ 1 1 [.int .i64 y] (by simp [Act.eval]) rfl (World.news_of_block (heap_alloc_new w2 _)) (ints_oneCell .i64 [y]) (by omega) (by unfold maxLen; omega) (by omega) (by simp; omega) (w2.heap.size + 1) (by simp) ?_); intro g3 cap3 w3 hown3 hgrow3 hat3 hlt3; have hB3 := Lib.hid (places_blk (x := { x with To := T, Keys := K }) HR1.out HBk.out HO1.out (grownBy_of_drew hg2) hgrow3); have k3 : w3.cell? ⟨h, 4, none⟩ = some (.slice tA T.length tc) := hB3.out.cell 4; have f3 : w3.frozen? ⟨h, 4, none⟩ = false := hB3.out.frozen 4))
        all_goals
          obtain ⟨q1, q2, q3⟩ := places_step (x := { x with To := T, Keys := K }) hh hg HR1.out HBk.out HO1.out HO2.out HO3.out HB1.out hr2 (grownBy_of_drew hg2) y g3 cap3 hown3 hgrow3 hat3
          have Q1 := Lib.hid q1
          have Q2 := Lib.hid q2
          have Q3 := Lib.hid q3
          have HV2 := Lib.hid (ways_step_false _ _ _ _ _ _ _ _ _ HV1.out ho2)
          clear q1 q2 q3 ho2 hr2 hg2 hown3 hgrow3 hat3 hlt3 k3 f3 k2 hlt2 hp c4 hlt hO1 tok c2
          go_wp2
          go_roundw
          case rel => exact ⟨m, _, _, _, _, by go_num, Q1.out, Q2.out, Q3.out, HV2.out, by simp; omega, by show K.length + m ≤ 65537; omega⟩
          case measure => simp [intOf]
      · go_wp2
        go_end0
        exact ways_end hR.out HR1.out HI1.out HB1.out HV1.out (.inr rfl)
theorem ways_step_true (at_ : Int) (R : Option (List Int × List Int × List Int)) (m : Nat) (T K l : List Int) (y1 y2 : Int) (l1 l2 : List Int) (s1 s2 : Bool) (h : WaysInv at_ true R (m + 1) T K l false)
    (ho1 : (false = false ∧ 4 ≤ l.length ∧ y1 = sgn 4 (be (l.take 4)) ∧ l1 = l.drop 4 ∧ s1 = false) ∨ (¬ (false = false ∧ 4 ≤ l.length) ∧ y1 = 0 ∧ l1 = l ∧ s1 = true))
    (ho2 : (s1 = false ∧ tkTo at_ l1 = some (y2, l2) ∧ s2 = false) ∨ (s2 = true ∧ (s1 = true ∨ tkTo at_ l1 = none))) : WaysInv at_ true R m (T ++ [y2]) (K ++ [y1]) l2 s2 := by
  rcases h with ⟨_, h⟩ | ⟨h, _⟩
  · rcases ho1 with ⟨_, a2, a3, a4, a5⟩ | ⟨a1, a2, a3, a4⟩
    · subst a3 a4 a5
      rcases ho2 with ⟨_, h2, h3⟩ | ⟨h2, h3 | h3⟩
      · refine .inl ⟨h3, ?_⟩
        rw [← h]
        simp [ways, tks, a2, h2]
      · cases h3
      · refine .inr ⟨h2, ?_⟩
        rw [← h]
        simp [ways, tks, a2, h3]
    · subst a2 a3 a4
      have a1' : ¬ 4 ≤ l1.length := fun h => a1 ⟨rfl, h⟩
      rcases ho2 with ⟨h1, _⟩ | ⟨h2, _⟩
      · cases h1
      · refine .inr ⟨h2, ?_⟩
        rw [← h]
        simp [ways, tks, a1']
  · cases h

set_option maxHeartbeats 2000000 in
theorem ways_loop_true (base g h : Nat) (x : Ins) (left : List Int) (short : Bool) (w : World) (hg : base ≤ g) (hh : base ≤ h) (hr : RdAt w base g x.At left short) (hi : InsAt w base h x)
    (h0 : 0 ≤ x.At) (h1 : x.At < 8192) (hT : x.To.length = 1) (hK : x.Keys = []) :
    Calls Tryd.prog 56 #[.pointer (some ⟨g, 0, none⟩), .pointer (some ⟨h, 0, none⟩), .bool true] w (WaysPost base g h x true left short w) := by
  obtain ⟨i0, hi0, hz0, hz1, hz2⟩ := info_parts info3
  have HR := Lib.hid hr
  have HI := Lib.hid hi
  have HT := Lib.hid hT
  have HK := Lib.hid hK
  clear hr hi hT hK
  go_enter Tryd.func56, Tryd.ntmps56
  go_wp2_with (go_at_call 53; refine (plain2 base g _ left short _ HR.out).mono ?_)
  intro e w1 hp
  obtain ⟨y, l, s, rfl, hr, hgr, ho⟩ := hp.open_
  obtain ⟨R, hR⟩ : ∃ R, Hid (R = (tk 2 left).bind fun r => ways x.At true r.1.toNat x.To x.Keys r.2) := ⟨_, rfl⟩
  obtain ⟨m0, rfl, hm0, hinv⟩ : ∃ m0 : Nat, y = (m0 : Int) ∧ m0 ≤ 65535 ∧ Hid (WaysInv x.At true (if short then none else R) m0 x.To x.Keys l s) := by
    have hb := HR.out.byt
    rcases ho with ⟨a1, a2, a3, a4, a5⟩ | ⟨a1, a2, a3, a4⟩
    · have b0 := be_take_ge left hb 2
      have b1 : be (left.take 2) < 65536 := be_take_lt left hb 2
      refine ⟨(be (left.take 2)).toNat, by rw [a3]; show be (left.take 2) = _; omega, by omega, .inl ⟨a5, ?_⟩⟩
      rw [a1, hR.out]
      simp [tk, a2, a4]
    · refine ⟨0, by rw [a2]; rfl, by omega, .inr ⟨a4, ?_⟩⟩
      cases short
      · rw [hR.out]; simp at a1; simp [tk, Nat.not_le.2 a1]
      · rfl
  have HREL : Hid (WaysRel base g h x true (if short then none else R) w (.int .i64 m0) w1) :=
    ⟨m0, x.To, x.Keys, l, s, rfl, hr, (HI.out.grown (rowOf_blk (base := 0) HR.out.blk.choose_spec (Nat.zero_le _)) (by decide) (by decide) hgr), below_row (rowOf_blk HR.out.blk.choose_spec hg) hgr (by have := HR.out.blk.choose_spec.lt; omega), hinv.out, by rw [HT.out]; omega, by rw [HK.out]; simp; omega⟩
  clear hinv ho hr hgr hp
  go_wp2
  go_loopw [6] (fun v wr => WaysRel base g h x true (if short then none else R) w v wr) (fun v _ => (intOf v).toNat)
  case atStart => exact HREL.out
  case round =>
    clear HREL
    obtain ⟨m, T, K, l, s, rfl, hr, hi, hbel, hinv, hT, hK⟩ := hrel
    have c2 := hr.cell2
    have HR1 := Lib.hid hr
    have HI1 := Lib.hid hi
    have HB1 := Lib.hid hbel
    have HV1 := Lib.hid hinv
    clear hr hi hbel hinv
    cases m with
    | zero =>
      go_wp2
      go_end0
      exact ways_end hR.out HR1.out HI1.out HB1.out HV1.out (.inl rfl)
    | succ m =>
      cases s
      · obtain ⟨tA, tc, kA, kc, hb, o1, o2, o3⟩ := HI1.out
        have c5 := hb.cell 5
        have hlt := hb.lt
        have HBk := Lib.hid hb
        have HO1 := Lib.hid o1
        have HO2 := Lib.hid o2
        have HO3 := Lib.hid o3
        clear hb o1 o2 o3
        go_wp2
        go_region_law (first
          | (go_simp; go_at_call 54; (refine (signed4 base g x.At l false _ (HR1.out.below (Below.refl _ _).drew)).mono ?_; rintro e w2 hp; obtain ⟨y, l2, s2, rfl, hr2, hg2, ho2⟩ := RdTaken.open_ hp; have k2 : w2.cell? ⟨h, 5, none⟩ = some (.slice kA K.length kc) := hg2.cell c5 (fun e => HBk.out.ne_ HR1.out.blk.choose_spec (by decide) (Option.some.inj e)); have hlt2 : h < w2.heap.size := Nat.lt_of_lt_of_le hlt hg2.size; have hO2 := Lib.hid (((HO2.out.kept (grownBy_of_drew hg2) (own_ne HO2.out (rowOf_blk (base := 0) HR1.out.blk.choose_spec (Nat.zero_le _)) (by decide))).alloc (.cells #[.int .i64 y] 3)))))
          | (have tok := hO2; (refine step_append_lies _ rfl _ _ 24 rfl base 3 i0 (.int .i64 0) 1 8 Tryd.underlying24 hi0 hz0 hz1 hz2 rfl (by decide) (.slice kA K.length kc) K.length (K.map (Value.int .i64)) (by simp [Act.eval]) hO2.out ⟨w2.heap.size, 0, none⟩ 1 1 [.int .i64 y] (by simp [Act.eval]) rfl (World.news_of_block (heap_alloc_new w2 _)) (ints_oneCell .i64 [y]) (by omega) (by unfold maxLen; omega) (by omega) (by simp; omega) (w2.heap.size + 1) (by simp) ?_); intro g3 cap3 w3 hown3 hgrow3 hat3 hlt3; have hB3 := Lib.hid (keys_blk (x := { x with To := T, Keys := K }) HR1.out HBk.out HO2.out (grownBy_of_drew hg2) hgrow3); have k3 : w3.cell? ⟨h, 5, none⟩ = some (.slice kA K.length kc) := hB3.out.cell 5; have f3 : w3.frozen? ⟨h, 5, none⟩ = false := hB3.out.frozen 5))
        all_goals
          obtain ⟨q1, q2, q3⟩ := keys_step (x := { x with To := T, Keys := K }) hh hg HR1.out HBk.out HO1.out HO2.out HO3.out HB1.out hr2 (grownBy_of_drew hg2) y g3 cap3 hown3 hgrow3 hat3
          have HHO := Lib.hid ho2
          have RQ1 := Lib.hid q1
          have RQ3 := Lib.hid q3
          obtain ⟨tB, tb, kB, kb, hb', p1, p2, p3⟩ := q2
          obtain ⟨wn, hwn⟩ : ∃ wn, wn = w3.setCell ⟨h, 5, none⟩ (.slice (some ⟨g3, 0, none⟩) (K.length + 1) cap3) := ⟨_, rfl⟩
          have c4 := hb'.cell 4
          have hltn := hb'.lt
          clear q1 q3 ho2 hr2 hg2 hown3 hgrow3 hat3 hlt3 k3 f3 k2 hlt2 hp c5 hlt hO2 tok c2 HBk HO1 HO2 HO3 hB3
          have HPk := Lib.hid hb'
          have HP1 := Lib.hid p1
          have HP2 := Lib.hid p2
          have HP3 := Lib.hid p3
          clear hb' p1 p2 p3
          simp only [] at c4 hltn RQ1 RQ3 HPk HP1 HP2 HP3
          rw [← hwn] at c4 hltn RQ1 RQ3 HPk HP1 HP2
          rw [← hwn]
          clear hwn
          go_wp2
          go_region_law (first
            | (go_simp; go_at_call 55; (refine (to_any base g x.At l2 s2 _ (RQ1.out.below (Below.refl _ _).drew) h0 h1).mono ?_; rintro e w4 hp; obtain ⟨y4, l4, s4, rfl, hr4, hg4, ho4⟩ := RdTo.open_ hp; have k4 : w4.cell? ⟨h, 4, none⟩ = some (.slice tB T.length tb) := hg4.cell c4 (fun e => HPk.out.ne_ RQ1.out.blk.choose_spec (by decide) (Option.some.inj e)); have hlt4 : h < w4.heap.size := Nat.lt_of_lt_of_le hltn hg4.size; have hO4 := Lib.hid (((HP1.out.kept (grownBy_of_drew hg4) (own_ne HP1.out (rowOf_blk (base := 0) RQ1.out.blk.choose_spec (Nat.zero_le _)) (by decide))).alloc (.cells #[.int .i64 y4] 3)))))
            | (have tok := hO4; (refine step_append_lies _ rfl _ _ 24 rfl base 3 i0 (.int .i64 0) 1 8 Tryd.underlying24 hi0 hz0 hz1 hz2 rfl (by decide) (.slice tB T.length tb) T.length (T.map (Value.int .i64)) (by simp [Act.eval]) hO4.out ⟨w4.heap.size, 0, none⟩ 1 1 [.int .i64 y4] (by simp [Act.eval]) rfl (World.news_of_block (heap_alloc_new w4 _)) (ints_oneCell .i64 [y4]) (by omega) (by unfold maxLen; omega) (by omega) (by simp; omega) (w4.heap.size + 1) (by simp) ?_); intro g5 cap5 w5 hown5 hgrow5 hat5 hlt5; have hB5 := Lib.hid (places_blk (x := { x with To := T, Keys := K ++ [y] }) RQ1.out HPk.out HP1.out (grownBy_of_drew hg4) hgrow5); have k5 : w5.cell? ⟨h, 4, none⟩ = some (.slice tB T.length tb) := hB5.out.cell 4; have f5 : w5.frozen? ⟨h, 4, none⟩ = false := hB5.out.frozen 4))
          all_goals
            obtain ⟨q1, q2, q3⟩ := places_step (x := { x with To := T, Keys := K ++ [y] }) hh hg RQ1.out HPk.out HP1.out HP2.out HP3.out RQ3.out hr4 (grownBy_of_drew hg4) y4 g5 cap5 hown5 hgrow5 hat5
            have Q1 := Lib.hid q1
            have Q2 := Lib.hid q2
            have Q3 := Lib.hid q3
            have HV2 := Lib.hid (ways_step_true _ _ _ _ _ _ _ _ _ _ _ _ HV1.out (by simpa using HHO.out) ho4)
            clear q1 q2 q3 ho4 hr4 hg4 hown5 hgrow5 hat5 hlt5 k5 f5 k4 hlt4 hp c4 hltn hO4 tok
            go_wp2
            go_roundw
            case rel => exact ⟨m, _, _, _, _, by go_num, Q1.out, Q2.out, Q3.out, HV2.out, by simp; omega, by simp; omega⟩
            case measure => simp [intOf]
      · go_wp2
        go_end0
        exact ways_end hR.out HR1.out HI1.out HB1.out HV1.out (.inr rfl)

theorem ways_any (base g h : Nat) (keys : Bool) (x : Ins) (left : List Int) (short : Bool) (w : World) (hg : base ≤ g) (hh : base ≤ h) (hr : RdAt w base g x.At left short) (hi : InsAt w base h x)
    (h0 : 0 ≤ x.At) (h1 : x.At < 8192) (hT : x.To.length = 1) (hK : x.Keys = []) :
    Calls Tryd.prog 56 #[.pointer (some ⟨g, 0, none⟩), .pointer (some ⟨h, 0, none⟩), .bool keys] w (WaysPost base g h x keys left short w) := by
  cases keys
  · exact ways_loop_false base g h x left short w hg hh hr hi h0 h1 hT hK
  · exact ways_loop_true base g h x left short w hg hh hr hi h0 h1 hT hK
end Go.Proofs.YtjmfdmipdglccaaDoor
