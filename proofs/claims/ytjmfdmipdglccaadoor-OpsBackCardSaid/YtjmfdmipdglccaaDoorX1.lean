/- The walk of the law OpsAgain. -/
import Derived.Test.YtjmfdmipdglccaaDoorD2
import Derived.Test.YtjmfdmipdglccaaDoorW3
import Derived.Test.YtjmfdmipdglccaaDoorS1
namespace Go.Proofs.YtjmfdmipdglccaaDoor
open Go.RowKit

/-- 's[i:j]': the address under a name of its own. -/
theorem cut_both {P : Program} {t e : TypeId} {i0 : TypeInfo} (ht : P.underlying t = some (.slice e)) (hi : P.info? e = some i0) (A : Option Addr) (n c i j : Nat) (k k' : IntKind) (I J : Int) (hI : I = (i : Int)) (hJ : J = (j : Int)) (h : i ≤ j) (h2 : j ≤ c) :
    ∃ A', (∀ W : World, (Instr.slice t (.slice A n c) (some (.int k I)) (some (.int k' J)) none).run P W = .ok (.slice A' (j - i) (c - i)) W) ∧ (i < j → A' = A.map (·.add (i * i0.size))) := by
  subst hI hJ
  have hel : P.elem t = e := by simp [Program.elem, ht]
  refine ⟨if c = i then A else A.map (·.add (i * i0.size)), fun W => ?_, fun h1 => by rw [if_neg (by omega)]⟩
  rw [run_slice_lh W t A n c (by rw [hel]; exact ht) k k' i j (by omega) (by omega) (by omega), hel]
  simp [sizeOf, typeInfo, hi, sliced]
/-- 's[:j]'. -/
theorem cut_high {P : Program} {t e : TypeId} {i0 : TypeInfo} (ht : P.underlying t = some (.slice e)) (hi : P.info? e = some i0) (A : Option Addr) (n c j : Nat) (k : IntKind) (J : Int) (hJ : J = (j : Int)) (h2 : j ≤ c) :
    ∃ A', (∀ W : World, (Instr.slice t (.slice A n c) none (some (.int k J)) none).run P W = .ok (.slice A' j c) W) ∧ (0 < j → A' = A) := by
  subst hJ
  have hel : P.elem t = e := by simp [Program.elem, ht]
  refine ⟨if c = 0 then A else A.map (·.add (0 * i0.size)), fun W => ?_, fun h1 => by
    rw [if_neg (by omega)]
    cases A <;> simp [Addr.add]⟩
  rw [run_slice_h W t A n c (by rw [hel]; exact ht) k j (by omega) (by omega), hel]
  simp [sizeOf, typeInfo, hi, sliced]

set_option maxRecDepth 100000 in
theorem again_bad (A : Option Addr) (n c : Nat) (bs : List Int) (at_ : Int) (w : World) (hT : Tabs w) (hN : Nums .u8 w A n c bs) (hn : n ≤ 140737488355328) (hB : Byt bs)
    (h0 : -9223372036854775808 ≤ at_) (h1 : at_ ≤ 9223372036854775807) (he : (dec bs (bringB at_ n)).2.2 ≠ 0) :
    Calls Tryd.prog 8 #[.slice A n c, .int .i64 at_] w (BoolPost true w) := by
  have BR := Lib.hid (fun W => bring_all at_ n W (by omega) h0 h1)
  generalize hk : bringB at_ n = k at *
  have D := Lib.hid (decode_any A n c bs k w hT hN hn hB)
  have AW := Lib.hid (fun (W : World) (h : Below w.heap.size w W) => awake_any W (hT.below h hT.size))
  clear hT hN hB hk
  generalize dec bs k = r at *
  obtain ⟨⟨b1, b2, b3, b4, b5, b6⟩, e1, er⟩ := r
  simp only [] at he
  have he' : (er != 0) = true := by simpa using he
  clear he
  go_enter Tryd.func8, Tryd.ntmps8
  go_wp2_with (go_at_call 26; refine (BR.out _).mono ?_)
  rintro e w1 ⟨rfl, rfl⟩
  go_wp2_with (go_at_call 21; refine D.out.mono ?_)
  rintro e w1 ⟨uA, uc, vA, vc, rfl, hL, hb⟩
  simp only [insV]
  generalize b5.length = m5 at *
  generalize b6.length = m6 at *
  have hb2 := hb.alloc hb.size (.cells #[.int .i64 b1, .int .i64 b2, .int .i64 b3, .int .i64 b4, .slice uA m5 uc, .slice vA m6 vc] 26)
  have aw := Lib.hid (AW.out _ hb2)
  have HB := Lib.hid hb2
  clear hL hb hb2 D BR AW
  go_wp2_with (go_at_call 25; refine aw.out.mono ?_)
  rintro e w2 ⟨rfl, hb⟩
  have HB2 := Lib.hid (below_then HB.out HB.out.size hb)
  clear hb aw HB
  go_wp2
  go_ret
  exact ⟨rfl, HB2.out⟩

theorem encode_ok (x : Ins) (tA : Option Addr) (tc : Nat) (kA : Option Addr) (kc : Nat) (w : World) (hT : Tabs w) (h : Lists w x tA tc kA kc) (hm : mayB x = true) :
    Calls Tryd.prog 36 #[insV x tA tc kA kc] w (EncPost (encB x) w) :=
  (encode_any x tA tc kA kc w hT h).mono fun e w' hp => by
    unfold EncAny at hp
    rwa [if_pos hm] at hp
theorem Nums.sub {k : IntKind} {w : World} {A : Option Addr} {n c : Nat} {xs : List Int} (h : Nums k w A n c xs) (i j : Nat) (hij : i ≤ j) (hj : j ≤ n) (A' : Option Addr)
    (hA : i < j → A' = A.map (·.add i)) : Nums k w A' (j - i) (c - i) ((xs.drop i).take (j - i)) := by
  by_cases h0 : i < j
  · have h1 := h.drop i (by omega) A' (fun _ => hA h0)
    exact h1.take (j - i) (by omega) A' (fun _ => rfl)
  · have e : j - i = 0 := by omega
    rw [e]
    refine ⟨⟨by simp, fun hn => by omega⟩, Nat.zero_le _, by have := h.2.2; omega⟩

set_option maxRecDepth 100000 in
theorem again_ok (A : Option Addr) (n c : Nat) (bs : List Int) (at_ : Int) (w : World) (hT : Tabs w) (hN : Nums .u8 w A n c bs) (hn : n ≤ 140737488355328) (hB : Byt bs)
    (h0 : -9223372036854775808 ≤ at_) (h1 : at_ ≤ 9223372036854775807) (x : Ins) (nx : Int) (he : dec bs (bringB at_ n) = (x, nx, 0)) :
    Calls Tryd.prog 8 #[.slice A n c, .int .i64 at_] w (BoolPost true w) := by
  have BR := Lib.hid (fun W => bring_all at_ n W (by omega) h0 h1)
  generalize hk : bringB at_ n = k at *
  obtain ⟨hm, hk0, hk1, hk2, henc⟩ := enc_dec hB he
  have D := decode_any A n c bs k w hT hN hn hB
  rw [he] at D
  have hlen := hN.len
  rw [hlen] at hk2
  obtain ⟨i0, hi, hz0, hz1, hz2⟩ := info_parts info5
  obtain ⟨kk, rfl⟩ := Int.eq_ofNat_of_zero_le hk0
  obtain ⟨nn, rfl⟩ := Int.eq_ofNat_of_zero_le (show 0 ≤ nx by omega)
  have e1 : ((nn : Int) - (kk : Int)).toNat = nn - kk := by omega
  rw [Int.toNat_natCast, e1] at henc
  have hnc := hN.2.1
  obtain ⟨A', hcut, hA0⟩ := cut_both (P := Tryd.prog) (t := 22) Tryd.underlying22 hi A n c kk nn .i64 .i64 (kk : Int) (nn : Int) rfl rfl (by omega) (by omega)
  have hsub := hN.sub kk nn (by omega) (by omega) A' (fun h => by rw [hA0 h, hz1, Nat.mul_one])
  have AW := Lib.hid (fun (W : World) (h : Below w.heap.size w W) => awake_any W (hT.below h hT.size))
  have EN := Lib.hid (fun (W : World) (h : Below w.heap.size w W) uA uc vA vc (hl : Lists W x uA uc vA vc) => encode_ok x uA uc vA vc W (hT.below h hT.size) hl hm)
  have HSUB := Lib.hid hsub
  have HENC := Lib.hid henc
  have D' := Lib.hid D
  have hkn : (kk : Int) < (nn : Int) := hk1
  have hnn : (nn : Int) ≤ (n : Int) := hk2
  have hcn : (n : Int) ≤ (c : Int) := by omega
  have hlb : nn - kk ≤ 140737488355328 := by omega
  clear hT hN hB hk he hm henc D hlen hsub hA0 hi hz0 hz1 hz2 hk1 hk2 e1
  obtain ⟨b1, b2, b3, b4, b5, b6⟩ := x
  simp only [insV] at *
  go_enter Tryd.func8, Tryd.ntmps8
  go_wp2_with (go_at_call 26; refine (BR.out _).mono ?_)
  rintro e w1 ⟨rfl, rfl⟩
  go_wp2_with (go_at_call 21; refine D'.out.mono ?_)
  rintro e w1 ⟨uA, uc, vA, vc, rfl, hL, hb⟩
  simp only [insV]
  have hbA := (Below.refl w1.heap.size w1).alloc (Nat.le_refl _) (.cells #[.int .i64 b1, .int .i64 b2, .int .i64 b3, .int .i64 b4, .slice uA b5.length uc, .slice vA b6.length vc] 26)
  have hL2 := hL.below hbA
  have hb2 := below_then hb hb.size hbA
  have EN' := Lib.hid (EN.out _ hb2 _ _ _ _ hL2)
  try simp only [insV] at EN'
  generalize b5.length = m5 at *
  generalize b6.length = m6 at *
  have l1 := range26 (Blk.new w1 26 #[.int .i64 b1, .int .i64 b2, .int .i64 b3, .int .i64 b4, .slice uA m5 uc, .slice vA m6 vc])
  have HB := Lib.hid hb2
  clear hL hb hb2 D' BR EN hL2 hbA
  go_wp2_with (first
    | (refine wpList_load_mid rfl 26 _ rfl _ 0 rfl _ _ l1 Tryd.underlying26 rfl info26 ?_)
    | (go_at_call 36; refine EN'.out.mono ?_))
  rintro e w2 ⟨A2, c2, rfl, hN2, _, hb⟩
  have hB2 := below_then HB.out HB.out.size hb
  have hle : Hid ((encB ⟨b1, b2, b3, b4, b5, b6⟩).length = nn - kk) := by
    have := HSUB.out.len
    rw [← HENC.out] at this
    exact this
  rw [hle.out] at hN2 ⊢
  have EQ := eqBytes_any A2 A' _ _ c2 _ _ _ w2 hN2 (HSUB.out.below hB2) hlb
  rw [HENC.out, decide_eq_true rfl] at EQ
  have EQ' := Lib.hid EQ
  have HB2 := Lib.hid hB2
  clear hN2 hb hB2 EQ EN' HB l1
  go_wp2_with (go_at_call 24; refine EQ'.out.mono ?_)
  rintro e w3 ⟨rfl, hb⟩
  have hB3 := below_then HB2.out HB2.out.size hb
  have aw := Lib.hid (AW.out _ hB3)
  have HB3 := Lib.hid hB3
  clear hb hB3 HB2 EQ' AW
  go_wp2_with (go_at_call 25; refine aw.out.mono ?_)
  rintro e w4 ⟨rfl, hb⟩
  have HB4 := Lib.hid (below_then HB3.out HB3.out.size hb)
  clear hb aw HB3
  go_wp2
  go_ret
  exact ⟨rfl, HB4.out⟩

theorem again_any (A : Option Addr) (n c : Nat) (bs : List Int) (at_ : Int) (w : World) (hT : Tabs w) (hN : Nums .u8 w A n c bs) (hn : n ≤ 140737488355328) (hB : Byt bs)
    (h0 : -9223372036854775808 ≤ at_) (h1 : at_ ≤ 9223372036854775807) : Calls Tryd.prog 8 #[.slice A n c, .int .i64 at_] w (BoolPost true w) := by
  by_cases he : (dec bs (bringB at_ n)).2.2 = 0
  · exact again_ok A n c bs at_ w hT hN hn hB h0 h1 (dec bs (bringB at_ n)).1 (dec bs (bringB at_ n)).2.1 (by rw [← he])
  · exact again_bad A n c bs at_ w hT hN hn hB h0 h1 he
end Go.Proofs.YtjmfdmipdglccaaDoor
