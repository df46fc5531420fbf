/- The walks of leb.take and its callers. -/
import Derived.Test.YtjmfdmipdglccaaDoorRows
import Derived.Test.YtjmfdmipdglccaaDoorV
import Derived.Test.YtjmfdmipdglccaaDoorM
import Derived.WalkKit
import Derived.WalkSpells
import Derived.KernelRfl
import Derived.Lib.SliceRun
import Derived.Lib.Hide
import Derived.Outline
namespace Go.Proofs.YtjmfdmipdglccaaDoor
open Go.RowKit

theorem info5 : (Tryd.prog.info? 5).map (fun i => (i.zero, i.size, i.bytes)) = some (some (.int .u8 0), 1, 1) := by kernel_rfl
theorem info3 : (Tryd.prog.info? 3).map (fun i => (i.zero, i.size, i.bytes)) = some (some (.int .i64 0), 1, 8) := by kernel_rfl

/-- What comes back is a slice that reads as xs, in new memory. -/
def SlicePost (k : IntKind) (t : TypeId) (n : Nat) (xs : List Int) (w : World) (e : Ending) (w' : World) : Prop :=
  ∃ A c, e = .returned (.slice A n c) ∧ Nums k w' A n c xs ∧ Typed w' t A n ∧ Below w.heap.size w w'

set_option maxRecDepth 100000 in
theorem clone_any (A : Option Addr) (n c : Nat) (xs : List Int) (w : World) (h : Nums .u8 w A n c xs) (hn : n ≤ 140737488355328) :
    Calls Tryd.prog 103 #[.slice A n c] w (SlicePost .u8 5 n xs w) := by
  obtain ⟨i, hi, hz0, hz1, hz2⟩ := info_parts info5
  have hm : n ≤ maxLen := by unfold maxLen; omega
  rcases A with _ | ad
  · obtain rfl := h.none_len
    have hl : xs = [] := List.eq_nil_of_length_eq_zero h.len
    have hq : Hid (Nums .u8 w none 0 0 xs) := by rw [hl]; exact Nums.nil_ .u8 w
    clear hl h
    have hnil := fun (w : World) => Lib.run_eql_slice_nil (P := Tryd.prog) w 22 5 none 0 c 0 0 Tryd.underlying22
    go_enter Tryd.func103, Tryd.ntmps103
    go_wp2
    go_ret
    exact ⟨_, _, rfl, hq.out, fun _ h => by (cases h), Below.refl _ _⟩
  · have H := Lib.hid h
    clear h
    have hnil := fun (w : World) => Lib.run_eql_slice_nil (P := Tryd.prog) w 22 5 (some ad) n c 0 0 Tryd.underlying22
    go_enter Tryd.func103, Tryd.ntmps103
    go_wp2_with (at_builtin; refine wpList_append_cells _ rfl _ _ 22 rfl w.heap.size 5 i (.int .u8 0) 1 1 Tryd.underlying22 hi hz0 hz1 hz2 rfl (by decide) _ 0 [] rfl ?h1 _ n c (xs.map (Value.int .u8)) rfl ?h2 ?h3 (by omega) (by omega) ?h4 ?_)
    case h1 => exact World.ownsRow_lit w #[] 0 (Nat.le_refl _) (by unfold maxLen; omega) rfl
    case h2 => exact H.out.1.below ((Below.refl _ _).alloc (Nat.le_refl _) _)
    case h3 => exact ints_oneCell _ _
    case h4 => simp
    intro A' c' w1 hown hgrow hb
    have hown2 := Lib.hid hown
    have hgrow2 := Lib.hid hgrow
    clear hown hgrow hb
    go_wp2
    go_ret
    refine ⟨_, _, rfl, Nums.of_own hown2.out, Typed.of_own hown2.out, ?_⟩
    · refine Below.grown (((Below.refl _ _).alloc (Nat.le_refl _) _)) hgrow2.out (by simp) ?_
      intro k hk
      have : w.heap.size = k := by simpa [Value.ownBlock, Act.eval] using hk
      omega

/-- What leb.take leaves. -/
def TakePost (n size : Nat) (xs : List Int) (w : World) (e : Ending) (w' : World) : Prop :=
  if size ≤ n then ∃ A c, e = .returned (.tuple #[.int .u64 (be (xs.take size)), .slice A (n - size) c, .int .i64 0]) ∧ Nums .u8 w' A (n - size) c (xs.drop size) ∧ Typed w' 5 A (n - size) ∧ Below w.heap.size w w'
  else e = .returned (.tuple #[.int .u64 0, .slice none 0 0, .int .i64 3]) ∧ Below w.heap.size w w'

theorem take_any (A : Option Addr) (n c size : Nat) (most : Int) (xs : List Int) (w : World) (h : Nums .u8 w A n c xs) (hn : n ≤ 140737488355328) (hx : Byt xs)
    (hs : 1 ≤ size) (hs4 : size ≤ 4) (hm : 7 ≤ most) : Calls Tryd.prog 100 #[.slice A n c, .int .i64 size, .int .i64 most] w (TakePost n size xs w) := by
  have hh := h.2.1
  have hh2 := h.2.2
  unfold maxLen at hh2
  have H := Lib.hid h
  have HX := Lib.hid hx
  clear h hx
  by_cases hle : size ≤ n
  · obtain ⟨i, hi, hz0, hz1, hz2⟩ := info_parts info5
    obtain ⟨A', hcut, hA0⟩ := cut_low (P := Tryd.prog) (t := 22) Tryd.underlying22 hi A n c size .i64 (size : Int) rfl hle
    have hA' := Lib.hid hA0
    clear hA0 hi
    go_enter Tryd.func100, Tryd.ntmps100
    go_wp2
    go_loop [6, 28] (fun v i => ∃ k : Nat, k ≤ size ∧ i = .int .i64 k ∧ v = .int .u64 (be (xs.take k))) (fun _ i => size - (intOf i).toNat)
    case atStart => exact ⟨0, Nat.zero_le _, rfl, rfl⟩
    case round =>
      obtain ⟨k, hk, rfl, rfl⟩ := hrel
      by_cases hlt : k < size
      · have h0 := be_take_ge xs HX.out k
        have h1 := be_take_lt3 xs HX.out k (by omega)
        obtain ⟨ad, hA, hc⟩ := H.out.at_ k (by omega)
        have hb := byte_at xs k HX.out (by rw [H.out.len]; omega)
        have hj := Lib.hid (or_join _ _ h0 h1 hb.1 hb.2)
        have hsucc := Lib.hid (be_take_succ xs k (by rw [H.out.len]; omega))
        obtain ⟨x, hxk⟩ : ∃ x, x = xs.getD k 0 := ⟨_, rfl⟩
        rw [← hxk] at hc hb hj hsucc
        clear hxk
        obtain ⟨y, hy⟩ : ∃ y, y = be (xs.take k) := ⟨_, rfl⟩
        rw [← hy] at h0 h1 hj hsucc ⊢
        clear hy
        subst hA
        go_wp2
        go_round
        case rel => exact ⟨k + 1, by omega, by go_num, by rw [hsucc.out, hj.out]⟩
        case measure => simp [intOf]; omega
      · obtain ⟨y, hy⟩ : ∃ y, y = be (xs.take k) := ⟨_, rfl⟩
        rw [← hy]
        have HY := Lib.hid hy
        clear hy
        have hks : Hid (k = size) := by show k = size; omega
        clear hk
        go_wp2_with (go_at_call 103; refine (clone_any _ _ _ (xs.drop size) _ ?hN ?hL).mono ?_)
        case hN => exact H.out.drop size hle _ (fun h => (hA'.out h hh).trans (by rw [hz1, Nat.mul_one]))
        case hL => omega
        intro e w1 hp
        obtain ⟨A1, c1, rfl, h1, ht1, hb1⟩ := hp
        have H1 := Lib.hid h1
        have HT1 := Lib.hid ht1
        clear h1 ht1
        go_wp2
        go_ret3
        unfold TakePost
        rw [if_pos hle]
        refine ⟨A1, c1, ?_, H1.out, HT1.out, hb1⟩
        rw [← hks.out, ← HY.out]
        rfl
  · have hnn : n < size := by omega
    go_enter Tryd.func100, Tryd.ntmps100
    go_wp2
    go_ret3
    unfold TakePost
    rw [if_neg hle]
    exact ⟨rfl, Below.refl _ _⟩

/-- What TakeBig, TakeBigS leave: 'f' of the number. -/
def BigPost (f : Int → Int) (n size : Nat) (xs : List Int) (w : World) (e : Ending) (w' : World) : Prop :=
  if size ≤ n then ∃ A c, e = .returned (.tuple #[.int .i64 (f (be (xs.take size))), .slice A (n - size) c, .int .i64 0]) ∧ Nums .u8 w' A (n - size) c (xs.drop size) ∧ Typed w' 5 A (n - size) ∧ Below w.heap.size w w'
  else e = .returned (.tuple #[.int .i64 0, .slice none 0 0, .int .i64 3]) ∧ Below w.heap.size w w'

theorem pow_le4 (k : Nat) (hk : k ≤ 4) : (256 : Int) ^ k ≤ 4294967296 := by
  match k, hk with
  | 0, _ => decide
  | 1, _ => decide
  | 2, _ => decide
  | 3, _ => decide
  | 4, _ => decide

theorem takeBig_any (A : Option Addr) (n c size : Nat) (xs : List Int) (w : World) (h : Nums .u8 w A n c xs) (hn : n ≤ 140737488355328) (hx : Byt xs)
    (hs : 1 ≤ size) (hs4 : size ≤ 4) : Calls Tryd.prog 86 #[.slice A n c, .int .i64 size] w (BigPost id n size xs w) := by
  have h0 := be_take_ge xs hx size
  have h1 : be (xs.take size) < 4294967296 := Int.lt_of_lt_of_le (be_take_lt xs hx size) (pow_le4 size hs4)
  have T := Lib.hid (take_any A n c size 7 xs w h hn hx hs hs4 (by omega))
  clear h hx
  go_enter Tryd.func86, Tryd.ntmps86
  go_wp2_with (go_at_call 100; refine T.out.mono ?_)
  intro e w1 hp
  unfold TakePost at hp
  by_cases hle : size ≤ n
  · rw [if_pos hle] at hp
    obtain ⟨A1, c1, rfl, hN, hT, hb⟩ := hp
    have HN := Lib.hid hN
    have HT := Lib.hid hT
    clear hN hT
    obtain ⟨y, hy⟩ : ∃ y, y = be (xs.take size) := ⟨_, rfl⟩
    rw [← hy] at h0 h1 ⊢
    have HY := Lib.hid hy
    clear hy
    go_wp2
    go_ret3
    unfold BigPost
    rw [if_pos hle]
    refine ⟨A1, c1, ?_, HN.out, HT.out, hb⟩
    rw [← HY.out]
    rfl
  · rw [if_neg hle] at hp
    obtain ⟨rfl, hb⟩ := hp
    go_wp2
    go_ret3
    unfold BigPost
    rw [if_neg hle]
    exact ⟨rfl, hb⟩

theorem sgn_1 (y : Int) (h0 : 0 ≤ y) (h1 : y < 256) : wrap64 (y * 72057594037927936) / 72057594037927936 = sgn 1 y := by
  unfold sgn wrap64
  have e1 : (2 : Int) ^ (8 * 1 - 1) = 128 := by decide
  have e2 : (2 : Int) ^ (8 * 1) = 256 := by decide
  rw [e1, e2]
  split <;> omega
theorem takeBigS_1 (A : Option Addr) (n c : Nat) (xs : List Int) (w : World) (h : Nums .u8 w A n c xs) (hn : n ≤ 140737488355328) (hx : Byt xs) :
    Calls Tryd.prog 87 #[.slice A n c, .int .i64 1] w (BigPost (sgn 1) n 1 xs w) := by
  have h0 := be_take_ge xs hx 1
  have h1 : be (xs.take 1) < 256 := be_take_lt xs hx 1
  have hj := Lib.hid (sgn_1 _ h0 h1)
  have T := Lib.hid (take_any A n c 1 8 xs w h hn hx (by omega) (by omega) (by omega))
  clear h hx
  go_enter Tryd.func87, Tryd.ntmps87
  go_wp2_with (go_at_call 100; refine T.out.mono ?_)
  intro e w1 hp
  unfold TakePost at hp
  by_cases hle : 1 ≤ n
  · rw [if_pos hle] at hp
    obtain ⟨A1, c1, rfl, hN, hT, hb⟩ := hp
    have HN := Lib.hid hN
    have HT := Lib.hid hT
    clear hN hT
    obtain ⟨y, hy⟩ : ∃ y, y = be (xs.take 1) := ⟨_, rfl⟩
    rw [← hy] at h0 h1 hj ⊢
    have HY := Lib.hid hy
    clear hy
    go_wp2
    go_ret3
    unfold BigPost
    rw [if_pos hle]
    refine ⟨A1, c1, ?_, HN.out, HT.out, hb⟩
    rw [← HY.out, ← hj.out]
    rfl
  · rw [if_neg hle] at hp
    obtain ⟨rfl, hb⟩ := hp
    go_wp2
    go_ret3
    unfold BigPost
    rw [if_neg hle]
    exact ⟨rfl, hb⟩
theorem sgn_2 (y : Int) (h0 : 0 ≤ y) (h1 : y < 65536) : wrap64 (y * 281474976710656) / 281474976710656 = sgn 2 y := by
  unfold sgn wrap64
  have e1 : (2 : Int) ^ (8 * 2 - 1) = 32768 := by decide
  have e2 : (2 : Int) ^ (8 * 2) = 65536 := by decide
  rw [e1, e2]
  split <;> omega
theorem takeBigS_2 (A : Option Addr) (n c : Nat) (xs : List Int) (w : World) (h : Nums .u8 w A n c xs) (hn : n ≤ 140737488355328) (hx : Byt xs) :
    Calls Tryd.prog 87 #[.slice A n c, .int .i64 2] w (BigPost (sgn 2) n 2 xs w) := by
  have h0 := be_take_ge xs hx 2
  have h1 : be (xs.take 2) < 65536 := be_take_lt xs hx 2
  have hj := Lib.hid (sgn_2 _ h0 h1)
  have T := Lib.hid (take_any A n c 2 8 xs w h hn hx (by omega) (by omega) (by omega))
  clear h hx
  go_enter Tryd.func87, Tryd.ntmps87
  go_wp2_with (go_at_call 100; refine T.out.mono ?_)
  intro e w1 hp
  unfold TakePost at hp
  by_cases hle : 2 ≤ n
  · rw [if_pos hle] at hp
    obtain ⟨A1, c1, rfl, hN, hT, hb⟩ := hp
    have HN := Lib.hid hN
    have HT := Lib.hid hT
    clear hN hT
    obtain ⟨y, hy⟩ : ∃ y, y = be (xs.take 2) := ⟨_, rfl⟩
    rw [← hy] at h0 h1 hj ⊢
    have HY := Lib.hid hy
    clear hy
    go_wp2
    go_ret3
    unfold BigPost
    rw [if_pos hle]
    refine ⟨A1, c1, ?_, HN.out, HT.out, hb⟩
    rw [← HY.out, ← hj.out]
    rfl
  · rw [if_neg hle] at hp
    obtain ⟨rfl, hb⟩ := hp
    go_wp2
    go_ret3
    unfold BigPost
    rw [if_neg hle]
    exact ⟨rfl, hb⟩
theorem sgn_4 (y : Int) (h0 : 0 ≤ y) (h1 : y < 4294967296) : wrap64 (y * 4294967296) / 4294967296 = sgn 4 y := by
  unfold sgn wrap64
  have e1 : (2 : Int) ^ (8 * 4 - 1) = 2147483648 := by decide
  have e2 : (2 : Int) ^ (8 * 4) = 4294967296 := by decide
  rw [e1, e2]
  split <;> omega
theorem takeBigS_4 (A : Option Addr) (n c : Nat) (xs : List Int) (w : World) (h : Nums .u8 w A n c xs) (hn : n ≤ 140737488355328) (hx : Byt xs) :
    Calls Tryd.prog 87 #[.slice A n c, .int .i64 4] w (BigPost (sgn 4) n 4 xs w) := by
  have h0 := be_take_ge xs hx 4
  have h1 : be (xs.take 4) < 4294967296 := be_take_lt xs hx 4
  have hj := Lib.hid (sgn_4 _ h0 h1)
  have T := Lib.hid (take_any A n c 4 8 xs w h hn hx (by omega) (by omega) (by omega))
  clear h hx
  go_enter Tryd.func87, Tryd.ntmps87
  go_wp2_with (go_at_call 100; refine T.out.mono ?_)
  intro e w1 hp
  unfold TakePost at hp
  by_cases hle : 4 ≤ n
  · rw [if_pos hle] at hp
    obtain ⟨A1, c1, rfl, hN, hT, hb⟩ := hp
    have HN := Lib.hid hN
    have HT := Lib.hid hT
    clear hN hT
    obtain ⟨y, hy⟩ : ∃ y, y = be (xs.take 4) := ⟨_, rfl⟩
    rw [← hy] at h0 h1 hj ⊢
    have HY := Lib.hid hy
    clear hy
    go_wp2
    go_ret3
    unfold BigPost
    rw [if_pos hle]
    refine ⟨A1, c1, ?_, HN.out, HT.out, hb⟩
    rw [← HY.out, ← hj.out]
    rfl
  · rw [if_neg hle] at hp
    obtain ⟨rfl, hb⟩ := hp
    go_wp2
    go_ret3
    unfold BigPost
    rw [if_neg hle]
    exact ⟨rfl, hb⟩
end Go.Proofs.YtjmfdmipdglccaaDoor
