/- The walk of the law OpsBack. -/
import Derived.Test.YtjmfdmipdglccaaDoorX1
import Derived.Deep.OwnRows
import Derived.Deep.RegionLaw
namespace Go.Proofs.YtjmfdmipdglccaaDoor
open Go.RowKit

/-- 'append(s, x...)' at a step of a region that draws its order, the source nil, empty or not. -/
theorem step_append_cells {P : Program} {w : World} {ops : Array Oper} {o : Oper} {a : Act} {K : Act → World → Prop} {Q : Exit → Act → World → Prop} {E : Prop} (hgd : o.guard = none) (s x : Operand) (t : TypeId)
    (ho : o.op = .call { callee := .builtin .append, args := #[s, x], argTypes := #[t, t] })
    (base : Nat) (e : TypeId) (i : TypeInfo) (z : Value) (size bytes : Nat) (ht : P.underlying t = some (.slice e)) (hi : P.info? e = some i) (hz : i.zero = some z)
    (hsize : i.size = size) (hby : i.bytes = bytes) (hzs : z.cells.size = size) (hsz : 0 < size)
    (v : Value) (n : Nat) (xs : List Value) (hs : a.eval s = v) (hown : w.ownsRow base e size v n xs)
    (A : Option Addr) (m c : Nat) (news : List Value) (hx : a.eval x = .slice A m c) (hr : Cells w A m size news) (h1 : ∀ u ∈ news, u.oneCell' = true)
    (h63 : n + m ≤ maxLen) (hbytes : (n + m) * bytes ≤ 140737488355328) (hbase : base ≤ w.heap.size)
    (h : ∀ A' c' w', w'.ownsRow base e size (.slice A' (n + m) c') (n + m) (xs ++ news) → w.grownBy w' v.ownBlock → ((Value.slice A' (n + m) c').ownBlock = v.ownBlock ∨ (Value.slice A' (n + m) c').ownBlock = some w.heap.size) → K (a.put o.dst (.slice A' (n + m) c')) w') :
    if Region.wanted o (yielded ops a.tmps) = true then Oper.wp P o a w K Q else E := by
  have hw : Region.wanted o (yielded ops a.tmps) = true := by simp [Region.wanted, hgd]
  rw [if_pos hw]
  obtain ⟨v', w', hrun, h2, h3, h4⟩ := run_append_cells (P := P) w base t o.type e i z size bytes ht hi hz hsize hby hzs hsz v n xs hown A m c news hr h1 h63 hbytes hbase
  obtain ⟨A', c', rfl⟩ := own_form h2
  unfold Oper.wp execOp
  simp only [ho, resolve, invoke, builtin, Sem.run_bind, Sem.run_pure, Result.andThen_ok, List.map_toArray, List.map_cons, List.map_nil, hs, hx, hrun]
  exact h A' c' w' h2 h3 h4

theorem made_bytes (k : Nat) : (madeCells #[Value.int .u8 0] k).toList = (List.replicate k (0 : Int)).map (Value.int .u8) := by
  apply List.ext_getElem
  · simp [madeCells]
  · intro j h1 h2
    have e : j % 1 = 0 := Nat.mod_one j
    simp [madeCells, e]
theorem info5' : (Tryd.prog.info? 5).map (fun i => (i.zero, i.size, i.bytes)) = some (some (Value.int .u8 0), 1, 1) := info5
/-- 'make([]byte, n)'. -/
theorem make_named (k : Nat) (K : Int) (hK : K = (k : Int)) (hk : k ≤ 100000) : ∃ Z : Array Value, Hid (Z.toList = (List.replicate k (0 : Int)).map (Value.int .u8)) ∧
    ∀ W : World, (Instr.makeSlice 22 (.int .i64 K) (.int .i64 K)).run Tryd.prog W = .ok (.slice (some ⟨W.heap.size, 0, none⟩) k k) (W.alloc (.cells Z 5)) := by
  obtain ⟨i, hi, hz0, hz1, hz2⟩ := info_parts info5
  subst hK
  exact ⟨_, made_bytes k, fun W => run_make_row (P := Tryd.prog) 22 5 i (.int .u8 0) Tryd.underlying22 hi hz0 hz1 rfl .i64 .i64 k (by rw [hz2]; omega) (by omega) W⟩

set_option maxRecDepth 100000 in
theorem back_bad (x : Ins) (tA : Option Addr) (tc : Nat) (kA : Option Addr) (kc : Nat) (B : Option Addr) (n c : Nat) (w : World) (hT : Tabs w) (h : Lists w x tA tc kA kc) (hm : mayB x = false) :
    Calls Tryd.prog 7 #[insV x tA tc kA kc, .slice B n c] w (BoolPost true w) := by
  have EN := Lib.hid (fun (W : World) (hb : Below w.heap.size w W) => enc_bad x tA tc kA kc W (hT.below' hb) (h.below hb) hm)
  have AW := Lib.hid (fun (W : World) (h : Below w.heap.size w W) => awake_any W (hT.below h hT.size))
  clear hT h hm
  obtain ⟨At, Op, N, M, To, Keys⟩ := x
  simp only [insV] at *
  generalize To.length = t at *
  generalize Keys.length = m at *
  have l0 := range26 (Blk.new w 26 #[.int .i64 At, .int .i64 Op, .int .i64 N, .int .i64 M, .slice tA t tc, .slice kA m kc])
  go_enter Tryd.func7, Tryd.ntmps7
  go_wp2_with (first
    | (refine wpList_load_mid rfl 26 _ rfl _ 0 rfl _ _ l0 Tryd.underlying26 rfl info26 ?_)
    | (go_at_call 36; refine (EN.out _ ((Below.refl _ _).alloc (Nat.le_refl _) _)).mono ?_))
  rintro e w1 ⟨rfl, hb⟩
  have hB1 := below_then ((Below.refl w.heap.size w).alloc (Nat.le_refl _) _) (by simp) hb
  have aw := Lib.hid (AW.out _ hB1)
  have HB := Lib.hid hB1
  clear hb hB1 EN AW l0
  go_wp2_with (go_at_call 25; refine aw.out.mono ?_)
  rintro e w2 ⟨rfl, hb⟩
  have HB2 := Lib.hid (below_then HB.out HB.out.size hb)
  clear hb aw HB
  go_wp2
  go_ret
  exact ⟨rfl, HB2.out⟩

theorem grown_new {w1 W w3 : World} {n c : Nat} (hb : Below w1.heap.size w1 W) (hg : W.grownBy w3 (Value.slice (some ⟨w1.heap.size, 0, none⟩) n c).ownBlock) : Below w1.heap.size w1 w3 :=
  hb.grown hg hb.size (fun k hk => by
    have : w1.heap.size = k := by simpa [Value.ownBlock] using hk
    omega)
theorem byt_replicate (k : Nat) : Byt (List.replicate k 0) := fun x hx => by
  have := (List.mem_replicate.1 hx).2
  omega
/-- Behind the two appends. -/
def BackMid (w : World) (k L j : Nat) (eb bt : List Int) (xc : Array Value) (v : Value) (wc : World) : Prop :=
  ∃ A4 c4, v = .slice A4 (k + L + j) c4 ∧ Nums .u8 wc A4 (k + L + j) c4 ((List.replicate k 0 ++ eb) ++ bt) ∧ Below w.heap.size w wc ∧ Blk wc w.heap.size 26 xc
/-- A whole struct, where an operation's guard says yes. -/
theorem wpList_load_mid_w {P : Program} {ops : Array Oper} {rest : List Oper} {op : Oper} {a : Act} {w : World} {Q : Exit → Act → World → Prop} (hw : Region.wanted op (yielded ops a.tmps) = true) (ty : TypeId) (x : Operand) (ho : op.op = .load ty x)
    (b o : Nat) (hx : a.eval x = .pointer (some ⟨b, o, none⟩)) (cs : List Value) (d : TypeDesc) (hc : w.rangeAt b o cs)
    (hu : P.underlying ty = some d) (hd : d.isRow = true) (hi : (P.info? ty).map (·.size) = some cs.length)
    (h : wpList P ops Q rest (a.put op.dst (.agg cs.toArray)) w) : wpList P ops Q (op :: rest) a w :=
  wpList_step fun K hK => by
    simp only [hw, if_true]
    exact wp_load_mid ty x ho b o hx cs d hc hu hd hi (hK _ _ h)
theorem decide_self (x : Ins) : decide (x = x) = true := decide_eq_true rfl

set_option maxRecDepth 100000 in
set_option maxHeartbeats 2000000 in
theorem back_ok (x : Ins) (tA : Option Addr) (tc : Nat) (kA : Option Addr) (kc : Nat) (B : Option Addr) (n c : Nat) (bs : List Int) (w : World) (hT : Tabs w) (h : Lists w x tA tc kA kc) (hN : Nums .u8 w B n c bs) (hn : n ≤ 140737488355328) (hB : Byt bs) (hm : mayB x = true) :
    Calls Tryd.prog 7 #[insV x tA tc kA kc, .slice B n c] w (BoolPost true w) := by
  obtain ⟨hh, _⟩ := may_iff.1 hm
  obtain ⟨⟨ha0, ha1⟩, _, _⟩ := head_iff.1 hh
  obtain ⟨k, hk⟩ := Int.eq_ofNat_of_zero_le ha0
  obtain ⟨j, hj⟩ : ∃ j : Nat, j = min n 100 := ⟨_, rfl⟩
  have hjn : j ≤ n := by omega
  have hj100 : j ≤ 100 := by omega
  obtain ⟨i0, hi, hz0, hz1, hz2⟩ := info_parts info5
  have hnc := hN.2.1
  obtain ⟨B', hcut, hB0⟩ := cut_high (P := Tryd.prog) (t := 22) Tryd.underlying22 hi B n c j .i64 (j : Int) rfl (by omega)
  have hNB := hN.take j hjn B' (fun h => hB0 h)
  have hmin : ∀ W : World, (Builtin.min_ #[3, 3] 3 #[.int .i64 (n : Int), .int .i64 100]).run Tryd.prog W = .ok (.int .i64 (j : Int)) W := fun W => by
    have e : (if (100 : Int) < (n : Int) then (100 : Int) else n) = (j : Int) := by split <;> omega
    rw [← e]
    exact run_min_int2 W _ _ _ _ _ _
  obtain ⟨Z, HZ, hmk⟩ := make_named k x.At hk (by omega)
  have hEL := encB_len x hm
  have hDEC := dec_enc x hm (List.replicate k 0) (bs.take j) (by rw [List.length_replicate]; exact hk.symm)
  have EN := Lib.hid (fun (W : World) (hb : Below w.heap.size w W) => encode_ok x tA tc kA kc W (hT.below' hb) (h.below hb) hm)
  have AW := Lib.hid (fun (W : World) (h : Below w.heap.size w W) => awake_any W (hT.below h hT.size))
  have HT := Lib.hid hT
  have HNB := Lib.hid hNB
  have HBT := Lib.hid (byt_append (byt_append (byt_replicate k) (encB_byt x)) (hB.take j))
  have HD := Lib.hid hDEC
  have HXL := Lib.hid h
  have SM := Lib.hid (fun W uA uc vA vc (h1 : Lists W x tA tc kA kc) (h2 : Lists W x uA uc vA vc) => decide_self x ▸ same_any x x tA kA uA vA tc kc uc vc W h1 h2)
  have HK := Lib.hid hk
  clear hT h hN hB hm hh hB0 hNB hDEC hj hk
  obtain ⟨At, Op, N, M, To, Keys⟩ := x
  simp only [insV] at *
  have HEL := Lib.hid hEL
  obtain ⟨L, hL⟩ : ∃ L, L = (encB ⟨At, Op, N, M, To, Keys⟩).length := ⟨_, rfl⟩
  have hL0 : 1 ≤ L ∧ L ≤ 7000 := by rw [hL]; exact hEL
  have HL := Lib.hid hL
  clear hL hEL
  obtain ⟨hL1, hL2⟩ := hL0
  generalize htt : To.length = t at *
  generalize hmm : Keys.length = m at *
  have HTT := Lib.hid htt
  have HMM := Lib.hid hmm
  clear htt hmm
  have l0 := range26 (Blk.new w 26 #[.int .i64 At, .int .i64 Op, .int .i64 N, .int .i64 M, .slice tA t tc, .slice kA m kc])
  have EN' := Lib.hid (EN.out (w.alloc (.cells #[.int .i64 At, .int .i64 Op, .int .i64 N, .int .i64 M, .slice tA t tc, .slice kA m kc] 26)) ((Below.refl _ _).alloc (Nat.le_refl _) _))
  clear EN
  have hAt8 : At < 8192 := by omega
  have hk8 : k < 8192 := by have h : At = (k : Int) := HK.out; omega
  go_enter Tryd.func7, Tryd.ntmps7
  go_wp2_with (first
    | (refine wpList_load_mid rfl 26 _ rfl _ 0 rfl _ _ l0 Tryd.underlying26 rfl info26 ?_)
    | (go_at_call 36; refine EN'.out.mono ?_))
  rintro e w1 ⟨A1, c1, rfl, hN1, _, hb⟩
  rw [← HL.out] at hN1 ⊢
  have hx := (Blk.new w 26 _).below' hb
  have d0 : w1.cell? ⟨w.heap.size, 0, none⟩ = some (.int .i64 At) := hx.cell 0
  have HX := Lib.hid hx
  have HN1 := Lib.hid hN1
  have HB1 := Lib.hid (below_then ((Below.refl w.heap.size w).alloc (Nat.le_refl _) _) (by simp) hb)
  have hlt := hx.lt
  have hO0 := Lib.hid (show (w1.drew.alloc (.cells Z 5)).ownsRow w1.heap.size 5 1 (.slice (some ⟨w1.heap.size, 0, none⟩) k k) k ((List.replicate k 0).map (Value.int .u8)) from by
    have := World.ownsRow_lit (e := 5) (size := 1) w1.drew Z k (Nat.le_refl _) (by unfold maxLen; omega) (by
      have e := congrArg List.length HZ.out
      rw [List.length_map, List.length_replicate, Array.length_toList] at e
      omega)
    rw [HZ.out] at this
    exact this)
  have hbz := Lib.hid (((Below.refl w1.heap.size w1).drew.alloc (Nat.le_refl _) (.cells Z 5)) : Below w1.heap.size w1 (w1.drew.alloc (.cells Z 5)))
  have hC1 := Lib.hid (HN1.out.below hbz.out).1
  clear hx hN1 hb l0 EN'
  go_upto_region 6 with (fail)
  go_cut [7] (fun v wc => BackMid w k L j (encB ⟨At, Op, N, M, To, Keys⟩) (bs.take j) #[.int .i64 At, .int .i64 Op, .int .i64 N, .int .i64 M, .slice tA t tc, .slice kA m kc] v wc)
  case first =>
    go_region_law (first
      | (have tok := hO3; (refine step_append_cells rfl _ _ 22 rfl w1.heap.size 5 i0 (.int .u8 0) 1 1 Tryd.underlying22 hi hz0 hz1 hz2 rfl (by decide) (.slice A3 (k + L) c3) (k + L) _ (by simp [Act.eval, Act.put]) hO3.out B' j c _ (by simp [Act.eval, Act.put]) hC3.out (ints_oneCell _ _) (by unfold maxLen; omega) (by omega) (by omega) ?_); intro A4 c4 w4 hown4 hgrow4 hat4; have hb4 := Lib.hid (HB3.out.grown hgrow4 hs3 (fun q hq => (hO3.out.lt q hq).1)); have hO4 := Lib.hid hown4; clear hown4 hgrow4 hat4)
      | (have tok := hO0; (refine step_append_cells rfl _ _ 22 rfl w1.heap.size 5 i0 (.int .u8 0) 1 1 Tryd.underlying22 hi hz0 hz1 hz2 rfl (by decide) (.slice (some ⟨w1.heap.size, 0, none⟩) k k) k _ (by simp [Act.eval, Act.put]) hO0.out A1 L c1 _ (by simp [Act.eval, Act.put]) hC1.out (ints_oneCell _ _) (by unfold maxLen; omega) (by omega) (by simp) ?_); intro A3 c3 w3 hown3 hgrow3 hat3; have hO3 := Lib.hid hown3; have hb3 := grown_new hbz.out hgrow3; have hs3 := hb3.size; have HB3 := Lib.hid hb3; have hC3 := Lib.hid (HNB.out.below (HB1.out.trans (hb3.mono HB1.out.size))).1; clear hown3 hgrow3 hat3 hb3))
    all_goals
      have hN4 := Nums.of_own (k := .u8) (xs := (List.replicate k 0 ++ encB ⟨At, Op, N, M, To, Keys⟩) ++ bs.take j) (by
        have := hO4.out
        rw [← List.map_append, ← List.map_append] at this
        exact this)
      have hB4 := HB1.out.trans (hb4.out.mono HB1.out.size)
      have HMID : Hid (BackMid w k L j (encB ⟨At, Op, N, M, To, Keys⟩) (bs.take j) #[.int .i64 At, .int .i64 Op, .int .i64 N, .int .i64 M, .slice tA t tc, .slice kA m kc] (.slice A4 (k + L + j) c4) w4) := ⟨A4, c4, rfl, hN4, hB4, HX.out.below' hb4.out⟩
      clear hN4 hB4
      go_wp2
      go_meet
      case rel => exact HMID.out
  case rest =>
    obtain ⟨A4, c4, rfl, hN4, hB4, hx4⟩ := hcut
    have D := decode_any A4 (k + L + j) c4 _ At wc (HT.out.below hB4 HT.out.size) hN4 (by omega) HBT.out
    rw [HD.out, ← HL.out] at D
    have DH := Lib.hid D
    have d04 : wc.cell? ⟨w.heap.size, 0, none⟩ = some (.int .i64 At) := hx4.cell 0
    have HX4 := Lib.hid hx4
    have HB4 := Lib.hid hB4
    clear hN4 hB4 D hx4 hO0 hC1 hbz hmk d0 hcut hmin
    go_wp2_with (go_at_call 21; refine DH.out.mono ?_)
    rintro e w5 ⟨uA, uc, vA, vc, rfl, hL5, hb⟩
    simp only [insV]
    rw [HTT.out, HMM.out]
    have hbA := (Below.refl w5.heap.size w5).alloc (Nat.le_refl _) (.cells #[.int .i64 At, .int .i64 Op, .int .i64 N, .int .i64 M, .slice uA t uc, .slice vA m vc] 26)
    have hL6 := hL5.below hbA
    have hb6 := below_then HB4.out HB4.out.size (below_then hb hb.size hbA)
    have SM' := Lib.hid (SM.out _ uA uc vA vc (HXL.out.below hb6) hL6)
    have hx6 := (HX4.out.below' hb).alloc (.cells #[.int .i64 At, .int .i64 Op, .int .i64 N, .int .i64 M, .slice uA t uc, .slice vA m vc] 26)
    have l1 := range26 (Blk.new w5 26 #[.int .i64 At, .int .i64 Op, .int .i64 N, .int .i64 M, .slice uA t uc, .slice vA m vc])
    have l2 := range26 hx6
    have d06 : (w5.alloc (.cells #[.int .i64 At, .int .i64 Op, .int .i64 N, .int .i64 M, .slice uA t uc, .slice vA m vc] 26)).cell? ⟨w.heap.size, 0, none⟩ = some (.int .i64 At) := hx6.cell 0
    have HB6 := Lib.hid hb6
    clear hL5 hb hbA hL6 hb6 hx6 DH d04 SM
    go_wp2_with (first
      | (refine wpList_load_mid_w (by simp [Region.wanted, yielded, Act.put]) 26 _ rfl _ 0 rfl _ _ l2 Tryd.underlying26 rfl info26 ?_)
      | (refine wpList_load_mid_w (by simp [Region.wanted, yielded, Act.put]) 26 _ rfl _ 0 rfl _ _ l1 Tryd.underlying26 rfl info26 ?_)
      | (go_at_call 23; refine SM'.out.mono ?_))
    rintro e w7 ⟨rfl, hb⟩
    have hB7 := below_then HB6.out HB6.out.size hb
    have aw := Lib.hid (AW.out _ hB7)
    have HB7 := Lib.hid hB7
    clear hb hB7 HB6 SM' l1 l2 d06 AW
    go_wp2_with (go_at_call 25; refine aw.out.mono ?_)
    rintro e w8 ⟨rfl, hb⟩
    have HB8 := Lib.hid (below_then HB7.out HB7.out.size hb)
    clear hb aw HB7
    go_wp2
    go_ret
    exact ⟨rfl, HB8.out⟩

theorem back_any (x : Ins) (tA : Option Addr) (tc : Nat) (kA : Option Addr) (kc : Nat) (B : Option Addr) (n c : Nat) (bs : List Int) (w : World) (hT : Tabs w) (h : Lists w x tA tc kA kc) (hN : Nums .u8 w B n c bs) (hn : n ≤ 140737488355328) (hB : Byt bs) :
    Calls Tryd.prog 7 #[insV x tA tc kA kc, .slice B n c] w (BoolPost true w) := by
  cases hm : mayB x with
  | false => exact back_bad x tA tc kA kc B n c w hT h hm
  | true => exact back_ok x tA tc kA kc B n c bs w hT h hN hn hB hm
end Go.Proofs.YtjmfdmipdglccaaDoor
