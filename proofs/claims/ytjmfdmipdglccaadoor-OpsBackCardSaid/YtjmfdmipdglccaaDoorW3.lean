/- The walk of ops.Encode: the switches; all shapes joined. -/
import Derived.Test.YtjmfdmipdglccaaDoorW2
namespace Go.Proofs.YtjmfdmipdglccaaDoor
open Go.RowKit

set_option maxRecDepth 100000 in
theorem enc_6 (x : Ins) (tA : Option Addr) (tc : Nat) (kA : Option Addr) (kc : Nat) (w : World) (hT : Tabs w) (h : Lists w x tA tc kA kc) (hm : mayB x = true) (hs : shp x.Op = 6) :
    Calls Tryd.prog 36 #[insV x tA tc kA kc] w (EncPost (encB x) w) := by
  have MAY := Lib.hid (fun (W : World) (hb : Below w.heap.size w W) => hm ▸ may_any x tA tc kA kc W (hT.below' hb) (h.below hb))
  have SH := Lib.hid (fun (W : World) (hb : Below w.heap.size w W) => hs ▸ shape_any x.Op W (hT.below' hb))
  obtain ⟨hh, hp, hw, hn, hk⟩ := may_iff.1 hm
  obtain ⟨ha, ho0, ho1⟩ := head_iff.1 hh
  obtain ⟨ha0, ha1⟩ := ha
  have HE : Hid (encB x = (x.Op % 256) :: (put (x.To.getD 0 0 - x.At) 2 ++ put x.N 4 ++ put ((x.To.length : Int) - 1) 2 ++ (x.To.drop 1).flatMap fun t => put (t - x.At) 2)) := by
    show _ = _
    simp only [encB, hs, Int.reduceEq, if_false, if_true, or_self]
  have hnn : -2147483648 ≤ x.N ∧ x.N ≤ 2147483649 := by
    simp only [numsB, hs, Int.reduceEq, if_false, if_true, decide_eq_true_eq] at hn
    omega
  obtain ⟨hn0, hn1⟩ := hnn
  have hll : 2 ≤ x.To.length ∧ x.To.length ≤ 1001 := by
    simp only [waysB, hs, Int.reduceEq, if_false, if_true, decide_eq_true_eq] at hw
    omega
  obtain ⟨hl2, hl1⟩ := hll
  have HPL := Lib.hid (places_iff.1 hp)
  have HNT := Lib.hid h.to_
  have htc := h.to_.2.1
  have htc2 := h.to_.2.2
  unfold maxLen at htc2
  clear hT h hm hs hh hp hw hn hk
  obtain ⟨At, Op, N, M, To, Keys⟩ := x
  simp only [insV] at *
  have plAt : ∀ k, k < To.length → 0 ≤ To.getD k 0 ∧ To.getD k 0 ≤ 8191 := fun k hk => HPL.out _ (by simp [List.getD, hk])
  have HPA := Lib.hid plAt
  have hp0 := plAt 0 (by omega)
  clear plAt HPL
  generalize hnl : To.length = n at *
  have HNL := Lib.hid hnl
  clear hnl
  generalize Keys.length = m at *
  obtain ⟨ad, hA, hcell⟩ := HNT.out.all_ (by omega)
  have HC := Lib.hid hcell
  clear hcell
  subst hA
  obtain ⟨i0, hi, hz0, hz1, hz2⟩ := info_parts info3
  obtain ⟨A', hcut, hA0⟩ := cut_low (P := Tryd.prog) (t := 24) Tryd.underlying24 hi (some ad) n tc 1 .i64 1 (by omega) (by omega)
  have HA' := Lib.hid (hA0 (by omega) htc)
  clear hA0 hi hz0 hz2
  go_enter Tryd.func36, Tryd.ntmps36
  go_wp2_with (go_at_call 57; refine (MAY.out _ ((Below.refl _ _).alloc (Nat.le_refl _) _)).mono ?_)
  rintro e w1 ⟨rfl, hb⟩
  have hx := (Blk.new w 26 _).below' hb
  have c0 : w1.cell? ⟨w.heap.size, 0, none⟩ = some (.int .i64 At) := hx.cell 0
  have c1 : w1.cell? ⟨w.heap.size, 1, none⟩ = some (.int .i64 Op) := hx.cell 1
  have hlt := hx.lt
  have HX := Lib.hid hx
  have HB := Lib.hid (below_then ((Below.refl w.heap.size w).alloc (Nat.le_refl _) _) (by simp) hb)
  clear hx hb MAY
  go_wp2_with (go_at_call 31; refine (SH.out _ ((HB.out.alloc HB.out.size _).alloc (by have := HB.out.size; simp; omega) _)).mono ?_)
  rintro e w2 ⟨rfl, hb⟩
  have hb' := below_then (((Below.refl w1.heap.size w1).alloc (Nat.le_refl _) _).alloc (by simp) _) (by simp; omega) hb
  have hw2 := (wr_start _ _ _).below hb
  have hx := HX.out.below' hb'
  have d4 : w2.cell? ⟨w.heap.size, 4, none⟩ = some (.slice (some ad) n tc) := hx.cell 4
  have hB2 := HB.out.trans (hb'.mono HB.out.size)
  have e0 : w2.cell? ad = some (.int .i64 (To.getD 0 0)) := by
    have := cell_kept hB2 (HC.out 0 (by omega))
    rwa [Addr.add_zero'] at this
  have HX2 := Lib.hid hx
  have HB2 := Lib.hid hB2
  have HW2 := Lib.hid hw2
  have hsz2 := hb'.size
  have hsz1 := HB.out.size
  clear hb hb' hw2 hx HX SH c0 c1 hB2
  go_wp2_with (go_at_call 68; refine (wto_any w1.heap.size (w1.heap.size + 1) At _ _ _ HW2.out (by simp) ⟨ha0, ha1⟩ hp0).mono ?_)
  rintro e w3 ⟨rfl, hw3, hb3⟩
  have hx := HX2.out.below hb3 hlt
  have d2 : w3.cell? ⟨w.heap.size, 2, none⟩ = some (.int .i64 N) := hx.cell 2
  have HX3 := Lib.hid hx
  have HB3 := Lib.hid hb3
  have HW3 := Lib.hid hw3
  clear hx hb3 hw3 HX2 HW2 d4 e0
  go_wp2_with (go_at_call 67; refine (put_any w1.heap.size (w1.heap.size + 1) 4 At N _ _ HW3.out (by omega) (by simp [put_len]) (by omega) (by omega)).mono ?_)
  rintro e w4 ⟨rfl, hw4, hb4⟩
  have hx := HX3.out.below hb4 hlt
  have d4 : w4.cell? ⟨w.heap.size, 4, none⟩ = some (.slice (some ad) n tc) := hx.cell 4
  have HX4 := Lib.hid hx
  have HB4 := Lib.hid (HB3.out.trans hb4)
  have HW4 := Lib.hid hw4
  clear hx hb4 hw4 HX3 HW3 d2 HB3
  go_wp2_with (go_at_call 67; refine (put_any w1.heap.size (w1.heap.size + 1) 2 At ((n : Int) - 1) _ _ HW4.out (by omega) (by simp [put_len]) (by omega) (by omega)).mono ?_)
  rintro e w5 ⟨rfl, hw5, hb5⟩
  have hx := HX4.out.below hb5 hlt
  have d4' : w5.cell? ⟨w.heap.size, 4, none⟩ = some (.slice (some ad) n tc) := hx.cell 4
  have HX5 := Lib.hid hx
  have HB5 := Lib.hid (HB4.out.trans hb5)
  have HW5 := Lib.hid hw5
  clear hx hb5 hw5 HX4 HW4 d4 HB4
  go_wp2
  have hnts := HNT.out.drop 1 (by omega) A' (fun _ => by have := HA'.out; rwa [hz1, Nat.mul_one] at this)
  have hout : Hid (WrAt w5 w1.heap.size (w1.heap.size + 1) At ((((([Op] ++ put (To.getD 0 0 - At) 2) ++ put N 4) ++ put ((n : Int) - 1) 2)) ++ ((To.drop 1).take 0).flatMap fun t => put (t - At) 2)) := by
    show WrAt _ _ _ _ _
    simpa using HW5.out
  generalize hpre : (([Op] ++ put (To.getD 0 0 - At) 2) ++ put N 4) ++ put ((n : Int) - 1) 2 = pre at *
  have hprel : pre.length = 9 := by rw [← hpre]; simp [put_len]
  have HPRE := Lib.hid hpre
  have HPREL := Lib.hid hprel
  have HNTS := Lib.hid hnts
  clear hpre hprel hnts HW5
  go_loopw [76] (fun v wr => ∃ k : Nat, k ≤ n - 1 ∧ v = .int .i64 k ∧ Hid (WrAt wr w1.heap.size (w1.heap.size + 1) At (pre ++ ((To.drop 1).take k).flatMap fun t => put (t - At) 2)) ∧ Hid (Below w1.heap.size w5 wr)) (fun v _ => n - 1 - (intOf v).toNat)
  case atStart => exact ⟨0, Nat.zero_le _, rfl, hout, Below.refl _ _⟩
  case round =>
    clear hout d4'
    obtain ⟨k, hk, rfl, hwr, hbel⟩ := hrel
    by_cases hlt : k < n - 1
    · obtain ⟨ad', hAA, hcl⟩ := (HNTS.out.below (HB2.out.trans ((HB5.out.trans hbel.out).mono (by omega)))).at_ k hlt
      have hgd : (To.drop 1).getD k 0 = To.getD (k + 1) 0 := by simp [List.getD]
      have hpk := HPA.out (k + 1) (by omega)
      rw [← hgd] at hpk
      have hlen : Hid ((pre ++ ((To.drop 1).take k).flatMap fun t => put (t - At) 2).length + 2 ≤ 1000000) := by
        show _ ≤ _
        rw [List.length_append, flat_len, HPREL.out, List.length_take]
        omega
      have hsucc := Lib.hid (flat_take_succ (fun t => put (t - At) 2) (To.drop 1) k (by rw [HNTS.out.len]; exact hlt))
      clear hgd
      generalize (To.drop 1).getD k 0 = t at *
      clear HA' hcut
      subst hAA
      have hltI : (k : Int) < ((n - 1 : Nat) : Int) := by omega
      go_wp2_with (go_at_call 68; refine (wto_any w1.heap.size (w1.heap.size + 1) At t _ _ hwr.out hlen.out ⟨ha0, ha1⟩ hpk).mono ?_)
      rintro e w6 ⟨rfl, hw6, hb6⟩
      have HW6 := Lib.hid hw6
      have HB6 := Lib.hid (hbel.out.trans hb6)
      clear hw6 hb6 hcl
      go_wp2
      go_roundw
      case rel =>
        refine ⟨k + 1, by omega, by go_num, ?_, HB6⟩
        show WrAt _ _ _ _ _
        rw [hsucc.out, ← List.append_assoc]
        exact HW6.out
      case measure => simp [intOf]; omega
    · have hk' : Hid (k = n - 1) := by show _ = _; omega
      have hltI : ¬ (k : Int) < ((n - 1 : Nat) : Int) := by omega
      obtain ⟨A, c, hc, hfin⟩ := enc_fin hwr.out (bs := encB ⟨At, Op, N, M, To, Keys⟩) (by
        rw [HE.out, hk'.out, List.take_of_length_le (by rw [HNTS.out.len]; exact Nat.le_refl _), ← HPRE.out]
        have : Op % 256 = Op := by omega
        simp [this]) (by omega) (HB5.out.trans hbel.out) HB2.out
      go_wp2
      go_ret2
      exact hfin.out

set_option maxRecDepth 100000 in
theorem enc_7 (x : Ins) (tA : Option Addr) (tc : Nat) (kA : Option Addr) (kc : Nat) (w : World) (hT : Tabs w) (h : Lists w x tA tc kA kc) (hm : mayB x = true) (hs : shp x.Op = 7) :
    Calls Tryd.prog 36 #[insV x tA tc kA kc] w (EncPost (encB x) w) := by
  have MAY := Lib.hid (fun (W : World) (hb : Below w.heap.size w W) => hm ▸ may_any x tA tc kA kc W (hT.below' hb) (h.below hb))
  have SH := Lib.hid (fun (W : World) (hb : Below w.heap.size w W) => hs ▸ shape_any x.Op W (hT.below' hb))
  obtain ⟨hh, hp, hw, hn, hk⟩ := may_iff.1 hm
  obtain ⟨ha, ho0, ho1⟩ := head_iff.1 hh
  obtain ⟨ha0, ha1⟩ := ha
  have HE : Hid (encB x = (x.Op % 256) :: (put (x.To.getD 0 0 - x.At) 2 ++ put x.Keys.length 2 ++ encKeys x.At x.Keys (x.To.drop 1))) := by
    show _ = _
    simp only [encB, hs, Int.reduceEq, if_false, if_true, or_self]
  have hll : x.To.length = x.Keys.length + 1 ∧ x.Keys.length ≤ 1000 := by
    simp only [waysB, hs, Int.reduceEq, if_false, if_true, decide_eq_true_eq] at hw
    omega
  have HPL := Lib.hid (places_iff.1 hp)
  have HKL := Lib.hid (keys_all hk)
  have HNT := Lib.hid h.to_
  have HNK := Lib.hid h.keys
  clear hT h hm hs hh hp hw hn hk
  obtain ⟨At, Op, N, M, To, Keys⟩ := x
  simp only [insV] at *
  obtain ⟨hl2, hl1⟩ := hll
  have HPA := Lib.hid (fun k (hk : k < To.length) => (HPL.out _ (by simp [List.getD, hk]) : 0 ≤ To.getD k 0 ∧ To.getD k 0 ≤ 8191))
  have HKA := Lib.hid (fun k (hk : k < Keys.length) => (HKL.out _ (by simp [List.getD, hk]) : -2147483648 ≤ Keys.getD k 0 ∧ Keys.getD k 0 ≤ 2147483647))
  have hp0 := HPA.out 0 (by omega)
  clear HPL HKL
  generalize hml : Keys.length = m at *
  rw [hl2] at HNT HPA MAY ⊢
  have HTL := Lib.hid hl2
  have HML := Lib.hid hml
  clear hml hl2
  obtain ⟨ad, hA, hcell⟩ := HNT.out.all_ (by omega)
  have HC := Lib.hid hcell
  clear hcell
  subst hA
  go_enter Tryd.func36, Tryd.ntmps36
  go_wp2_with (go_at_call 57; refine (MAY.out _ ((Below.refl _ _).alloc (Nat.le_refl _) _)).mono ?_)
  rintro e w1 ⟨rfl, hb⟩
  have hx := (Blk.new w 26 _).below' hb
  have c0 : w1.cell? ⟨w.heap.size, 0, none⟩ = some (.int .i64 At) := hx.cell 0
  have c1 : w1.cell? ⟨w.heap.size, 1, none⟩ = some (.int .i64 Op) := hx.cell 1
  have hlt := hx.lt
  have HX := Lib.hid hx
  have HB := Lib.hid (below_then ((Below.refl w.heap.size w).alloc (Nat.le_refl _) _) (by simp) hb)
  clear hx hb MAY
  go_wp2_with (go_at_call 31; refine (SH.out _ ((HB.out.alloc HB.out.size _).alloc (by have := HB.out.size; simp; omega) _)).mono ?_)
  rintro e w2 ⟨rfl, hb⟩
  have hb' := below_then (((Below.refl w1.heap.size w1).alloc (Nat.le_refl _) _).alloc (by simp) _) (by simp; omega) hb
  have hw2 := (wr_start _ _ _).below hb
  have hx := HX.out.below' hb'
  have d4 : w2.cell? ⟨w.heap.size, 4, none⟩ = some (.slice (some ad) (m + 1) tc) := hx.cell 4
  have hB2 := HB.out.trans (hb'.mono HB.out.size)
  have e0 : w2.cell? ad = some (.int .i64 (To.getD 0 0)) := by
    have := cell_kept hB2 (HC.out 0 (by omega))
    rwa [Addr.add_zero'] at this
  have HX2 := Lib.hid hx
  have HB2 := Lib.hid hB2
  have HW2 := Lib.hid hw2
  have hsz2 := hb'.size
  have hsz1 := HB.out.size
  clear hb hb' hw2 hx HX SH c0 c1 hB2
  go_wp2_with (go_at_call 68; refine (wto_any w1.heap.size (w1.heap.size + 1) At _ _ _ HW2.out (by simp) ⟨ha0, ha1⟩ hp0).mono ?_)
  rintro e w3 ⟨rfl, hw3, hb3⟩
  have hx := HX2.out.below hb3 hlt
  have d5 : w3.cell? ⟨w.heap.size, 5, none⟩ = some (.slice kA m kc) := hx.cell 5
  have HX3 := Lib.hid hx
  have HB3 := Lib.hid hb3
  have HW3 := Lib.hid hw3
  clear hx hb3 hw3 HX2 HW2 d4 e0
  go_wp2_with (go_at_call 67; refine (put_any w1.heap.size (w1.heap.size + 1) 2 At (m : Int) _ _ HW3.out (by omega) (by simp [put_len]) (by omega) (by omega)).mono ?_)
  rintro e w5 ⟨rfl, hw5, hb5⟩
  have hx := HX3.out.below hb5 hlt
  have d5' : w5.cell? ⟨w.heap.size, 5, none⟩ = some (.slice kA m kc) := hx.cell 5
  have HX5 := Lib.hid hx
  have HB5 := Lib.hid (HB3.out.trans hb5)
  have HW5 := Lib.hid hw5
  clear hx hb5 hw5 HX3 HW3 d5 HB3
  go_wp2
  have hout : Hid (WrAt w5 w1.heap.size (w1.heap.size + 1) At ((([Op] ++ put (To.getD 0 0 - At) 2) ++ put (m : Int) 2) ++ encKeys At (Keys.take 0) ((To.drop 1).take 0))) := by
    show WrAt _ _ _ _ _
    simpa [encKeys] using HW5.out
  generalize hpre : ([Op] ++ put (To.getD 0 0 - At) 2) ++ put (m : Int) 2 = pre at *
  have hprel : pre.length = 5 := by rw [← hpre]; simp [put_len]
  have HPRE := Lib.hid hpre
  have HPREL := Lib.hid hprel
  clear hpre hprel HW5
  go_loopw [100] (fun v wr => ∃ k : Nat, k ≤ m ∧ v = .int .i64 k ∧ Hid (WrAt wr w1.heap.size (w1.heap.size + 1) At (pre ++ encKeys At (Keys.take k) ((To.drop 1).take k))) ∧ Hid (Below w1.heap.size w5 wr)) (fun v _ => m - (intOf v).toNat)
  case atStart => exact ⟨0, Nat.zero_le _, rfl, hout, Below.refl _ _⟩
  case round =>
    clear hout d5'
    obtain ⟨k, hk, rfl, hwr, hbel⟩ := hrel
    by_cases hlt2 : k < m
    · have hbw : Hid (Below w.heap.size w wr) := HB2.out.trans ((HB5.out.trans hbel.out).mono (by omega))
      obtain ⟨ak, hAA, hcl⟩ := (HNK.out.below hbw.out).at_ k hlt2
      have hgd : (To.drop 1).getD k 0 = To.getD (k + 1) 0 := by simp [List.getD]
      have hpk := HPA.out (k + 1) (by omega)
      have hkk := HKA.out k (by omega)
      have hlen : Hid ((pre ++ encKeys At (Keys.take k) ((To.drop 1).take k)).length + 6 ≤ 1000000) := by
        show _ ≤ _
        have := encKeys_len At (Keys.take k) ((To.drop 1).take k)
        rw [List.length_take] at this
        rw [List.length_append, HPREL.out]
        omega
      have hsucc := Lib.hid (encKeys_take_succ At Keys (To.drop 1) k (by rw [HML.out]; exact hlt2) (by rw [List.length_drop, HTL.out]; omega))
      rw [hgd] at hsucc
      clear hgd
      have hct := Lib.hid (HC.out (k + 1) (by omega))
      generalize Keys.getD k 0 = ky at *
      generalize To.getD (k + 1) 0 = t at *
      subst hAA
      obtain ⟨hk1, hk2⟩ := hkk
      have hltI : (k : Int) < (m : Int) := by omega
      go_wp2_with (go_at_call 67; refine (put_any w1.heap.size (w1.heap.size + 1) 4 At ky _ _ hwr.out (by omega) (by have := hlen.out; omega) (by omega) (by omega)).mono ?_)
      rintro e w6 ⟨rfl, hw6, hb6⟩
      have HW6 := Lib.hid hw6
      have hB6 := hbel.out.trans hb6
      have d4 : w6.cell? ⟨w.heap.size, 4, none⟩ = some (.slice (some ad) (m + 1) tc) := (HX5.out.below hB6 hlt).cell 4
      have e1 : w6.cell? (ad.add (k + 1)) = some (.int .i64 t) := cell_kept (HB2.out.trans ((HB5.out.trans hB6).mono (by omega))) hct.out
      have e2 : w6.cell? ⟨ad.block, ad.off + (k + 1), none⟩ = some (.int .i64 t) := by simpa [Addr.add] using e1
      have HB6 := Lib.hid hB6
      have hlt3 : (k : Int) + 1 < ((m + 1 : Nat) : Int) := by omega
      clear hw6 hb6 hcl hB6
      go_wp2_with (go_at_call 68; refine (wto_any w1.heap.size (w1.heap.size + 1) At t _ _ HW6.out (by rw [List.length_append, put_len]; have := hlen.out; omega) ⟨ha0, ha1⟩ hpk).mono ?_)
      rintro e w7 ⟨rfl, hw7, hb7⟩
      have HW7 := Lib.hid hw7
      have HB7 := Lib.hid (HB6.out.trans hb7)
      clear hw7 hb7 d4 e1 e2
      go_wp2
      go_roundw
      case rel =>
        refine ⟨k + 1, by omega, by go_num, ?_, HB7⟩
        show WrAt _ _ _ _ _
        rw [hsucc.out, ← List.append_assoc, ← List.append_assoc]
        exact HW7.out
      case measure => simp [intOf]; omega
    · have hk' : Hid (k = m) := by show _ = _; omega
      have hltI : ¬ (k : Int) < (m : Int) := by omega
      obtain ⟨A, c, hc, hfin⟩ := enc_fin hwr.out (bs := encB ⟨At, Op, N, M, To, Keys⟩) (by
        rw [HE.out, hk'.out, List.take_of_length_le (by rw [HML.out]; exact Nat.le_refl _), List.take_of_length_le (by rw [List.length_drop, HTL.out]; omega), ← HPRE.out]
        have : Op % 256 = Op := by omega
        simp [this]) (by omega) (HB5.out.trans hbel.out) HB2.out
      go_wp2
      go_ret2
      exact hfin.out

/-- What Encode leaves. -/
def EncAny (x : Ins) (w : World) (e : Ending) (w' : World) : Prop :=
  if mayB x then EncPost (encB x) w e w' else e = .returned (.tuple #[.slice none 0 0, .int .i64 2]) ∧ Below w.heap.size w w'
theorem encode_any (x : Ins) (tA : Option Addr) (tc : Nat) (kA : Option Addr) (kc : Nat) (w : World) (hT : Tabs w) (h : Lists w x tA tc kA kc) :
    Calls Tryd.prog 36 #[insV x tA tc kA kc] w (EncAny x w) := by
  cases hm : mayB x with
  | false =>
    refine (enc_bad x tA tc kA kc w hT h hm).mono fun e w' hp => ?_
    unfold EncAny
    rw [hm]
    exact hp
  | true =>
    have key : Calls Tryd.prog 36 #[insV x tA tc kA kc] w (EncPost (encB x) w) := by
      rcases shp_cases x.Op with hs | hs | hs | hs | hs | hs | hs | hs
      · exact enc_0 x tA tc kA kc w hT h hm hs
      · exact enc_1 x tA tc kA kc w hT h hm hs
      · exact enc_2 x tA tc kA kc w hT h hm hs
      · exact enc_3 x tA tc kA kc w hT h hm hs
      · exact enc_4 x tA tc kA kc w hT h hm hs
      · exact enc_5 x tA tc kA kc w hT h hm hs
      · exact enc_6 x tA tc kA kc w hT h hm hs
      · exact enc_7 x tA tc kA kc w hT h hm hs
    refine key.mono fun e w' hp => ?_
    unfold EncAny
    rw [hm]
    exact hp
end Go.Proofs.YtjmfdmipdglccaaDoor
