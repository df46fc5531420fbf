/- The walk of the writer's to; of ops.Encode where nothing, a number, two numbers or one place are written. -/
import Derived.Test.YtjmfdmipdglccaaDoorW1
import Derived.Test.YtjmfdmipdglccaaDoorB6
namespace Go.Proofs.YtjmfdmipdglccaaDoor
open Go.RowKit

theorem Addr.add_zero' (a : Addr) : a.add 0 = a := by simp [Addr.add]
theorem wto_any (base g : Nat) (at_ t : Int) (out : List Int) (w : World) (h : WrAt w base g at_ out) (hl : out.length + 2 ≤ 1000000) (ha : 0 ≤ at_ ∧ at_ ≤ 8191) (ht : 0 ≤ t ∧ t ≤ 8191) :
    Calls Tryd.prog 68 #[.pointer (some ⟨g, 0, none⟩), .int .i64 t] w (WrPost base g at_ (out ++ put (t - at_) 2) w) := by
  have c0 := h.cell0
  have T := Lib.hid (put_any base g 2 at_ (t - at_) out w h (by omega) (by omega) (by omega) (by omega))
  clear h
  obtain ⟨h1, h2⟩ := ha
  obtain ⟨h3, h4⟩ := ht
  go_enter Tryd.func68, Tryd.ntmps68
  go_wp2_with (go_at_call 67; refine T.out.mono ?_)
  rintro e w1 ⟨rfl, hp, hb⟩
  have HP := Lib.hid hp
  have HB := Lib.hid hb
  clear hp hb T
  go_wp2
  go_end0
  exact ⟨rfl, HP.out, HB.out⟩

theorem wr_start (w1 : World) (at_ y : Int) : WrAt ((w1.alloc (.cells #[.int .u8 y] 5)).alloc (.cells #[.int .i64 at_, .slice (some ⟨w1.heap.size, 0, none⟩) 1 1] 99)) w1.heap.size (w1.heap.size + 1) at_ [y] := by
  have hb := Blk.new (w1.alloc (.cells #[.int .u8 y] 5)) 99 #[.int .i64 at_, .slice (some ⟨w1.heap.size, 0, none⟩) 1 1]
  have e : (w1.alloc (.cells #[.int .u8 y] 5)).heap.size = w1.heap.size + 1 := by simp
  rw [e] at hb
  exact ⟨_, 1, hb, (World.ownsRow_lit w1 #[.int .u8 y] 1 (Nat.le_refl _) (by unfold maxLen; omega) rfl).alloc _, by omega⟩

/-- What Encode leaves, where an instruction may be. -/
def EncPost (bs : List Int) (w : World) (e : Ending) (w' : World) : Prop :=
  ∃ A c, e = .returned (.tuple #[.slice A bs.length c, .int .i64 0]) ∧ Nums .u8 w' A bs.length c bs ∧ Typed w' 5 A bs.length ∧ Below w.heap.size w w'
theorem enc_fin {w W w' : World} {B g : Nat} {at_ : Int} {out bs : List Int} (h : WrAt w' B g at_ out) (he : out = bs) (hB : w.heap.size ≤ B) (h1 : Below B W w') (h2 : Below w.heap.size w W) :
    ∃ A c, w'.cell? ⟨g, 1, none⟩ = some (.slice A bs.length c) ∧ Hid (EncPost bs w (.returned (.tuple #[.slice A bs.length c, .int .i64 0])) w') := by
  subst he
  obtain ⟨A, c, hb, ho, _⟩ := h
  exact ⟨A, c, hb.cell 1, A, c, rfl, Nums.of_own ho, Typed.of_own ho, h2.trans (h1.mono hB)⟩

set_option maxRecDepth 100000 in
theorem enc_bad (x : Ins) (tA : Option Addr) (tc : Nat) (kA : Option Addr) (kc : Nat) (w : World) (hT : Tabs w) (h : Lists w x tA tc kA kc) (hm : mayB x = false) :
    Calls Tryd.prog 36 #[insV x tA tc kA kc] w fun e w' => e = .returned (.tuple #[.slice none 0 0, .int .i64 2]) ∧ Below w.heap.size w w' := by
  have MAY := Lib.hid (fun (W : World) (hb : Below w.heap.size w W) => hm ▸ may_any x tA tc kA kc W (hT.below' hb) (h.below hb))
  clear hT h hm
  obtain ⟨At, Op, N, M, To, Keys⟩ := x
  simp only [insV] at *
  generalize To.length = n at *
  generalize Keys.length = m at *
  go_enter Tryd.func36, Tryd.ntmps36
  go_wp2_with (go_at_call 57; refine (MAY.out _ ((Below.refl _ _).alloc (Nat.le_refl _) _)).mono ?_)
  rintro e w1 ⟨rfl, hb⟩
  have HB := Lib.hid (below_then ((Below.refl w.heap.size w).alloc (Nat.le_refl _) _) (by simp) hb)
  clear hb MAY
  go_wp2
  go_ret2
  exact ⟨rfl, HB.out⟩

set_option maxRecDepth 100000 in
theorem enc_1 (x : Ins) (tA : Option Addr) (tc : Nat) (kA : Option Addr) (kc : Nat) (w : World) (hT : Tabs w) (h : Lists w x tA tc kA kc) (hm : mayB x = true) (hs : shp x.Op = 1) :
    Calls Tryd.prog 36 #[insV x tA tc kA kc] w (EncPost (encB x) w) := by
  have MAY := Lib.hid (fun (W : World) (hb : Below w.heap.size w W) => hm ▸ may_any x tA tc kA kc W (hT.below' hb) (h.below hb))
  have SH := Lib.hid (fun (W : World) (hb : Below w.heap.size w W) => hs ▸ shape_any x.Op W (hT.below' hb))
  obtain ⟨hh, hp, hw, hn, hk⟩ := may_iff.1 hm
  obtain ⟨ha, ho0, ho1⟩ := head_iff.1 hh
  obtain ⟨ha0, ha1⟩ := ha
  have HE : Hid (encB x = (x.Op % 256) :: put x.N 1) := by
    show _ = _
    simp only [encB, hs, Int.reduceEq, if_false, if_true, or_self]
  have hnn : 0 ≤ x.N ∧ x.N ≤ 255 := by
    simp only [numsB, hs, Int.reduceEq, if_false, if_true, decide_eq_true_eq] at hn
    omega
  obtain ⟨hn0, hn1⟩ := hnn
  clear hT h hm hs hh hp hw hn hk
  obtain ⟨At, Op, N, M, To, Keys⟩ := x
  simp only [insV] at *
  generalize To.length = n at *
  generalize Keys.length = m at *
  go_enter Tryd.func36, Tryd.ntmps36
  go_wp2_with (go_at_call 57; refine (MAY.out _ ((Below.refl _ _).alloc (Nat.le_refl _) _)).mono ?_)
  rintro e w1 ⟨rfl, hb⟩
  have hx := (Blk.new w 26 _).below' hb
  have c0 : w1.cell? ⟨w.heap.size, 0, none⟩ = some (.int .i64 At) := hx.cell 0
  have c1 : w1.cell? ⟨w.heap.size, 1, none⟩ = some (.int .i64 Op) := hx.cell 1
  have hlt := hx.lt
  have HX := Lib.hid hx
  have HB := Lib.hid (below_then ((Below.refl w.heap.size w).alloc (Nat.le_refl _) _) (by simp) hb)
  clear hx hb MAY
  go_wp2_with (go_at_call 31; refine (SH.out _ ((HB.out.alloc HB.out.size _).alloc (by have := HB.out.size; simp; omega) _)).mono ?_)
  rintro e w2 ⟨rfl, hb⟩
  have hb' := below_then (((Below.refl w1.heap.size w1).alloc (Nat.le_refl _) _).alloc (by simp) _) (by simp; omega) hb
  have hw2 := (wr_start _ _ _).below hb
  have hx := HX.out.below' hb'
  have d2 : w2.cell? ⟨w.heap.size, 2, none⟩ = some (.int .i64 N) := hx.cell 2
  have HX2 := Lib.hid hx
  have HB2 := Lib.hid (HB.out.trans (hb'.mono HB.out.size))
  have HW2 := Lib.hid hw2
  have hsz2 := hb'.size
  clear hb hb' hw2 hx HX HB SH c0 c1
  go_wp2_with (go_at_call 67; refine (put_any w1.heap.size (w1.heap.size + 1) 1 At N _ _ HW2.out (by omega) (by simp) (by omega) (by omega)).mono ?_)
  rintro e w3 ⟨rfl, hw3, hb3⟩
  obtain ⟨A, c, hc, hfin⟩ := enc_fin hw3 (bs := encB ⟨At, Op, N, M, To, Keys⟩) (by rw [HE.out]; simp; try omega) (by omega) hb3 HB2.out
  clear hw3 hb3
  go_wp2
  go_ret2
  exact hfin.out


set_option maxRecDepth 100000 in
theorem enc_2 (x : Ins) (tA : Option Addr) (tc : Nat) (kA : Option Addr) (kc : Nat) (w : World) (hT : Tabs w) (h : Lists w x tA tc kA kc) (hm : mayB x = true) (hs : shp x.Op = 2) :
    Calls Tryd.prog 36 #[insV x tA tc kA kc] w (EncPost (encB x) w) := by
  have MAY := Lib.hid (fun (W : World) (hb : Below w.heap.size w W) => hm ▸ may_any x tA tc kA kc W (hT.below' hb) (h.below hb))
  have SH := Lib.hid (fun (W : World) (hb : Below w.heap.size w W) => hs ▸ shape_any x.Op W (hT.below' hb))
  obtain ⟨hh, hp, hw, hn, hk⟩ := may_iff.1 hm
  obtain ⟨ha, ho0, ho1⟩ := head_iff.1 hh
  obtain ⟨ha0, ha1⟩ := ha
  have HE : Hid (encB x = (x.Op % 256) :: put x.N 2) := by
    show _ = _
    simp only [encB, hs, Int.reduceEq, if_false, if_true, true_or]
  have hnn : -32768 ≤ x.N ∧ x.N ≤ 32767 := by
    simp only [numsB, hs, Int.reduceEq, if_false, if_true, decide_eq_true_eq] at hn
    omega
  obtain ⟨hn0, hn1⟩ := hnn
  clear hT h hm hs hh hp hw hn hk
  obtain ⟨At, Op, N, M, To, Keys⟩ := x
  simp only [insV] at *
  generalize To.length = n at *
  generalize Keys.length = m at *
  go_enter Tryd.func36, Tryd.ntmps36
  go_wp2_with (go_at_call 57; refine (MAY.out _ ((Below.refl _ _).alloc (Nat.le_refl _) _)).mono ?_)
  rintro e w1 ⟨rfl, hb⟩
  have hx := (Blk.new w 26 _).below' hb
  have c0 : w1.cell? ⟨w.heap.size, 0, none⟩ = some (.int .i64 At) := hx.cell 0
  have c1 : w1.cell? ⟨w.heap.size, 1, none⟩ = some (.int .i64 Op) := hx.cell 1
  have hlt := hx.lt
  have HX := Lib.hid hx
  have HB := Lib.hid (below_then ((Below.refl w.heap.size w).alloc (Nat.le_refl _) _) (by simp) hb)
  clear hx hb MAY
  go_wp2_with (go_at_call 31; refine (SH.out _ ((HB.out.alloc HB.out.size _).alloc (by have := HB.out.size; simp; omega) _)).mono ?_)
  rintro e w2 ⟨rfl, hb⟩
  have hb' := below_then (((Below.refl w1.heap.size w1).alloc (Nat.le_refl _) _).alloc (by simp) _) (by simp; omega) hb
  have hw2 := (wr_start _ _ _).below hb
  have hx := HX.out.below' hb'
  have d2 : w2.cell? ⟨w.heap.size, 2, none⟩ = some (.int .i64 N) := hx.cell 2
  have HX2 := Lib.hid hx
  have HB2 := Lib.hid (HB.out.trans (hb'.mono HB.out.size))
  have HW2 := Lib.hid hw2
  have hsz2 := hb'.size
  clear hb hb' hw2 hx HX HB SH c0 c1
  go_wp2_with (go_at_call 67; refine (put_any w1.heap.size (w1.heap.size + 1) 2 At N _ _ HW2.out (by omega) (by simp) (by omega) (by omega)).mono ?_)
  rintro e w3 ⟨rfl, hw3, hb3⟩
  obtain ⟨A, c, hc, hfin⟩ := enc_fin hw3 (bs := encB ⟨At, Op, N, M, To, Keys⟩) (by rw [HE.out]; simp; try omega) (by omega) hb3 HB2.out
  clear hw3 hb3
  go_wp2
  go_ret2
  exact hfin.out


set_option maxRecDepth 100000 in
theorem enc_3 (x : Ins) (tA : Option Addr) (tc : Nat) (kA : Option Addr) (kc : Nat) (w : World) (hT : Tabs w) (h : Lists w x tA tc kA kc) (hm : mayB x = true) (hs : shp x.Op = 3) :
    Calls Tryd.prog 36 #[insV x tA tc kA kc] w (EncPost (encB x) w) := by
  have MAY := Lib.hid (fun (W : World) (hb : Below w.heap.size w W) => hm ▸ may_any x tA tc kA kc W (hT.below' hb) (h.below hb))
  have SH := Lib.hid (fun (W : World) (hb : Below w.heap.size w W) => hs ▸ shape_any x.Op W (hT.below' hb))
  obtain ⟨hh, hp, hw, hn, hk⟩ := may_iff.1 hm
  obtain ⟨ha, ho0, ho1⟩ := head_iff.1 hh
  obtain ⟨ha0, ha1⟩ := ha
  have HE : Hid (encB x = (x.Op % 256) :: put x.N 2) := by
    show _ = _
    simp only [encB, hs, Int.reduceEq, if_false, if_true, or_true]
  have hnn : 0 ≤ x.N ∧ x.N ≤ 65535 := by
    simp only [numsB, hs, Int.reduceEq, if_false, if_true, decide_eq_true_eq] at hn
    omega
  obtain ⟨hn0, hn1⟩ := hnn
  clear hT h hm hs hh hp hw hn hk
  obtain ⟨At, Op, N, M, To, Keys⟩ := x
  simp only [insV] at *
  generalize To.length = n at *
  generalize Keys.length = m at *
  go_enter Tryd.func36, Tryd.ntmps36
  go_wp2_with (go_at_call 57; refine (MAY.out _ ((Below.refl _ _).alloc (Nat.le_refl _) _)).mono ?_)
  rintro e w1 ⟨rfl, hb⟩
  have hx := (Blk.new w 26 _).below' hb
  have c0 : w1.cell? ⟨w.heap.size, 0, none⟩ = some (.int .i64 At) := hx.cell 0
  have c1 : w1.cell? ⟨w.heap.size, 1, none⟩ = some (.int .i64 Op) := hx.cell 1
  have hlt := hx.lt
  have HX := Lib.hid hx
  have HB := Lib.hid (below_then ((Below.refl w.heap.size w).alloc (Nat.le_refl _) _) (by simp) hb)
  clear hx hb MAY
  go_wp2_with (go_at_call 31; refine (SH.out _ ((HB.out.alloc HB.out.size _).alloc (by have := HB.out.size; simp; omega) _)).mono ?_)
  rintro e w2 ⟨rfl, hb⟩
  have hb' := below_then (((Below.refl w1.heap.size w1).alloc (Nat.le_refl _) _).alloc (by simp) _) (by simp; omega) hb
  have hw2 := (wr_start _ _ _).below hb
  have hx := HX.out.below' hb'
  have d2 : w2.cell? ⟨w.heap.size, 2, none⟩ = some (.int .i64 N) := hx.cell 2
  have HX2 := Lib.hid hx
  have HB2 := Lib.hid (HB.out.trans (hb'.mono HB.out.size))
  have HW2 := Lib.hid hw2
  have hsz2 := hb'.size
  clear hb hb' hw2 hx HX HB SH c0 c1
  go_wp2_with (go_at_call 67; refine (put_any w1.heap.size (w1.heap.size + 1) 2 At N _ _ HW2.out (by omega) (by simp) (by omega) (by omega)).mono ?_)
  rintro e w3 ⟨rfl, hw3, hb3⟩
  obtain ⟨A, c, hc, hfin⟩ := enc_fin hw3 (bs := encB ⟨At, Op, N, M, To, Keys⟩) (by rw [HE.out]; simp; try omega) (by omega) hb3 HB2.out
  clear hw3 hb3
  go_wp2
  go_ret2
  exact hfin.out


set_option maxRecDepth 100000 in
theorem enc_4 (x : Ins) (tA : Option Addr) (tc : Nat) (kA : Option Addr) (kc : Nat) (w : World) (hT : Tabs w) (h : Lists w x tA tc kA kc) (hm : mayB x = true) (hs : shp x.Op = 4) :
    Calls Tryd.prog 36 #[insV x tA tc kA kc] w (EncPost (encB x) w) := by
  have MAY := Lib.hid (fun (W : World) (hb : Below w.heap.size w W) => hm ▸ may_any x tA tc kA kc W (hT.below' hb) (h.below hb))
  have SH := Lib.hid (fun (W : World) (hb : Below w.heap.size w W) => hs ▸ shape_any x.Op W (hT.below' hb))
  obtain ⟨hh, hp, hw, hn, hk⟩ := may_iff.1 hm
  obtain ⟨ha, ho0, ho1⟩ := head_iff.1 hh
  obtain ⟨ha0, ha1⟩ := ha
  have HE : Hid (encB x = (x.Op % 256) :: put (x.To.getD 0 0 - x.At) 2) := by
    show _ = _
    simp only [encB, hs, Int.reduceEq, if_false, if_true, or_self]
  obtain ⟨t, ht⟩ : ∃ t, x.To = [t] := by
    simp only [waysB, hs, Int.reduceEq, if_false, if_true, decide_eq_true_eq] at hw
    exact List.length_eq_one_iff.1 hw.1
  have hpt := places_iff.1 hp t (by rw [ht]; simp)
  unfold Pl at hpt
  have HNT := Lib.hid h.to_
  rw [ht] at HNT
  clear hT h hm hs hh hp hw hn hk
  obtain ⟨At, Op, N, M, To, Keys⟩ := x
  simp only [insV] at *
  subst ht
  generalize Keys.length = m at *
  go_enter Tryd.func36, Tryd.ntmps36
  go_wp2_with (go_at_call 57; refine (MAY.out _ ((Below.refl _ _).alloc (Nat.le_refl _) _)).mono ?_)
  rintro e w1 ⟨rfl, hb⟩
  have hx := (Blk.new w 26 _).below' hb
  have c0 : w1.cell? ⟨w.heap.size, 0, none⟩ = some (.int .i64 At) := hx.cell 0
  have c1 : w1.cell? ⟨w.heap.size, 1, none⟩ = some (.int .i64 Op) := hx.cell 1
  have hlt := hx.lt
  have HX := Lib.hid hx
  have HB := Lib.hid (below_then ((Below.refl w.heap.size w).alloc (Nat.le_refl _) _) (by simp) hb)
  clear hx hb MAY
  go_wp2_with (go_at_call 31; refine (SH.out _ ((HB.out.alloc HB.out.size _).alloc (by have := HB.out.size; simp; omega) _)).mono ?_)
  rintro e w2 ⟨rfl, hb⟩
  have hb' := below_then (((Below.refl w1.heap.size w1).alloc (Nat.le_refl _) _).alloc (by simp) _) (by simp; omega) hb
  have hw2 := (wr_start _ _ _).below hb
  have hx := HX.out.below' hb'
  obtain ⟨ad, had, hcell⟩ := (HNT.out.below HB.out).at_ 0 (by simp)
  have hcell' := cell_kept hb' hcell
  subst had
  have d4 : w2.cell? ⟨w.heap.size, 4, none⟩ = some (.slice (some ad) 1 tc) := hx.cell 4
  simp only [List.getD_cons_zero, Addr.add_zero'] at hcell'
  clear hcell
  have HX2 := Lib.hid hx
  have HB2 := Lib.hid (HB.out.trans (hb'.mono HB.out.size))
  have HW2 := Lib.hid hw2
  have hsz2 := hb'.size
  clear hb hb' hw2 hx HX HB SH c0 c1
  go_wp2_with (go_at_call 68; refine (wto_any w1.heap.size (w1.heap.size + 1) At t _ _ HW2.out (by simp) ⟨by omega, by omega⟩ ⟨by omega, by omega⟩).mono ?_)
  rintro e w3 ⟨rfl, hw3, hb3⟩
  obtain ⟨A, c, hc, hfin⟩ := enc_fin hw3 (bs := encB ⟨At, Op, N, M, [t], Keys⟩) (by rw [HE.out]; simp; try omega) (by omega) hb3 HB2.out
  clear hw3 hb3
  go_wp2
  go_ret2
  exact hfin.out


set_option maxRecDepth 100000 in
theorem enc_5 (x : Ins) (tA : Option Addr) (tc : Nat) (kA : Option Addr) (kc : Nat) (w : World) (hT : Tabs w) (h : Lists w x tA tc kA kc) (hm : mayB x = true) (hs : shp x.Op = 5) :
    Calls Tryd.prog 36 #[insV x tA tc kA kc] w (EncPost (encB x) w) := by
  have MAY := Lib.hid (fun (W : World) (hb : Below w.heap.size w W) => hm ▸ may_any x tA tc kA kc W (hT.below' hb) (h.below hb))
  have SH := Lib.hid (fun (W : World) (hb : Below w.heap.size w W) => hs ▸ shape_any x.Op W (hT.below' hb))
  obtain ⟨hh, hp, hw, hn, hk⟩ := may_iff.1 hm
  obtain ⟨ha, ho0, ho1⟩ := head_iff.1 hh
  obtain ⟨ha0, ha1⟩ := ha
  have HE : Hid (encB x = (x.Op % 256) :: (put x.N 1 ++ put x.M 1)) := by
    show _ = _
    simp only [encB, hs, Int.reduceEq, if_false, if_true, or_self]
  have hnn : 0 ≤ x.N ∧ x.N ≤ 255 ∧ -128 ≤ x.M ∧ x.M ≤ 127 := by
    simp only [numsB, hs, Int.reduceEq, if_false, if_true, decide_eq_true_eq] at hn
    omega
  obtain ⟨hn0, hn1, hn2, hn3⟩ := hnn
  clear hT h hm hs hh hp hw hn hk
  obtain ⟨At, Op, N, M, To, Keys⟩ := x
  simp only [insV] at *
  generalize To.length = n at *
  generalize Keys.length = m at *
  go_enter Tryd.func36, Tryd.ntmps36
  go_wp2_with (go_at_call 57; refine (MAY.out _ ((Below.refl _ _).alloc (Nat.le_refl _) _)).mono ?_)
  rintro e w1 ⟨rfl, hb⟩
  have hx := (Blk.new w 26 _).below' hb
  have c0 : w1.cell? ⟨w.heap.size, 0, none⟩ = some (.int .i64 At) := hx.cell 0
  have c1 : w1.cell? ⟨w.heap.size, 1, none⟩ = some (.int .i64 Op) := hx.cell 1
  have hlt := hx.lt
  have HX := Lib.hid hx
  have HB := Lib.hid (below_then ((Below.refl w.heap.size w).alloc (Nat.le_refl _) _) (by simp) hb)
  clear hx hb MAY
  go_wp2_with (go_at_call 31; refine (SH.out _ ((HB.out.alloc HB.out.size _).alloc (by have := HB.out.size; simp; omega) _)).mono ?_)
  rintro e w2 ⟨rfl, hb⟩
  have hb' := below_then (((Below.refl w1.heap.size w1).alloc (Nat.le_refl _) _).alloc (by simp) _) (by simp; omega) hb
  have hw2 := (wr_start _ _ _).below hb
  have hx := HX.out.below' hb'
  have d2 : w2.cell? ⟨w.heap.size, 2, none⟩ = some (.int .i64 N) := hx.cell 2
  have d3 : w2.cell? ⟨w.heap.size, 3, none⟩ = some (.int .i64 M) := hx.cell 3
  have HX2 := Lib.hid hx
  have HB2 := Lib.hid (HB.out.trans (hb'.mono HB.out.size))
  have HW2 := Lib.hid hw2
  have hsz2 := hb'.size
  clear hb hb' hw2 hx HX HB SH c0 c1
  go_wp2_with (go_at_call 67; refine (put_any w1.heap.size (w1.heap.size + 1) 1 At N _ _ HW2.out (by omega) (by simp) (by omega) (by omega)).mono ?_)
  rintro e w3 ⟨rfl, hw3, hb3⟩
  have e3 : w3.cell? ⟨w.heap.size, 3, none⟩ = some (.int .i64 M) := (HX2.out.below hb3 (by omega)).cell 3
  have HB3 := Lib.hid hb3
  have HW3 := Lib.hid hw3
  clear d2 d3 hw3 hb3
  go_wp2_with (go_at_call 67; refine (put_any w1.heap.size (w1.heap.size + 1) 1 At M _ _ HW3.out (by omega) (by simp [put_len]) (by omega) (by omega)).mono ?_)
  rintro e w4 ⟨rfl, hw4, hb4⟩
  obtain ⟨A, c, hc, hfin⟩ := enc_fin hw4 (bs := encB ⟨At, Op, N, M, To, Keys⟩) (by rw [HE.out]; simp; try omega) (by omega) (HB3.out.trans hb4) HB2.out
  clear hw4 hb4
  go_wp2
  go_ret2
  exact hfin.out


set_option maxRecDepth 100000 in
theorem enc_0 (x : Ins) (tA : Option Addr) (tc : Nat) (kA : Option Addr) (kc : Nat) (w : World) (hT : Tabs w) (h : Lists w x tA tc kA kc) (hm : mayB x = true) (hs : shp x.Op = 0) :
    Calls Tryd.prog 36 #[insV x tA tc kA kc] w (EncPost (encB x) w) := by
  have MAY := Lib.hid (fun (W : World) (hb : Below w.heap.size w W) => hm ▸ may_any x tA tc kA kc W (hT.below' hb) (h.below hb))
  have SH := Lib.hid (fun (W : World) (hb : Below w.heap.size w W) => hs ▸ shape_any x.Op W (hT.below' hb))
  obtain ⟨hh, hp, hw, hn, hk⟩ := may_iff.1 hm
  obtain ⟨ha, ho0, ho1⟩ := head_iff.1 hh
  obtain ⟨ha0, ha1⟩ := ha
  have HE : Hid (encB x = (x.Op % 256) :: []) := by
    show _ = _
    simp only [encB, hs, Int.reduceEq, if_false, or_self]
  clear hT h hm hs hh hp hw hn hk
  obtain ⟨At, Op, N, M, To, Keys⟩ := x
  simp only [insV] at *
  generalize To.length = n at *
  generalize Keys.length = m at *
  go_enter Tryd.func36, Tryd.ntmps36
  go_wp2_with (go_at_call 57; refine (MAY.out _ ((Below.refl _ _).alloc (Nat.le_refl _) _)).mono ?_)
  rintro e w1 ⟨rfl, hb⟩
  have hx := (Blk.new w 26 _).below' hb
  have c0 : w1.cell? ⟨w.heap.size, 0, none⟩ = some (.int .i64 At) := hx.cell 0
  have c1 : w1.cell? ⟨w.heap.size, 1, none⟩ = some (.int .i64 Op) := hx.cell 1
  have hlt := hx.lt
  have HX := Lib.hid hx
  have HB := Lib.hid (below_then ((Below.refl w.heap.size w).alloc (Nat.le_refl _) _) (by simp) hb)
  clear hx hb MAY
  go_wp2_with (go_at_call 31; refine (SH.out _ ((HB.out.alloc HB.out.size _).alloc (by have := HB.out.size; simp; omega) _)).mono ?_)
  rintro e w2 ⟨rfl, hb⟩
  have hb' := below_then (((Below.refl w1.heap.size w1).alloc (Nat.le_refl _) _).alloc (by simp) _) (by simp; omega) hb
  have hw2 := (wr_start _ _ _).below hb
  have hx := HX.out.below' hb'
  have HX2 := Lib.hid hx
  have HB2 := Lib.hid (HB.out.trans (hb'.mono HB.out.size))
  have HW2 := Lib.hid hw2
  have hsz2 := hb'.size
  clear hb hb' hw2 hx HX HB SH c0 c1
  obtain ⟨A, c, hc, hfin⟩ := enc_fin HW2.out (bs := encB ⟨At, Op, N, M, To, Keys⟩) (by rw [HE.out]; simp; try omega) (by omega) (Below.refl _ _) HB2.out
  go_wp2
  go_ret2
  exact hfin.out

end Go.Proofs.YtjmfdmipdglccaaDoor
