/- The writer in memory; the walks of its methods put and to. -/
import Derived.Test.YtjmfdmipdglccaaDoorA4
import Derived.Deep.RegionHeld3
import Derived.Deep.RegionLaw
import Derived.Deep.DeepCutAuto
import Derived.Test.YtjmfdmipdglccaaDoorL3
namespace Go.Proofs.YtjmfdmipdglccaaDoor
open Go.RowKit

/-- A writer in block g: at a place, its bytes in a row of the call's own. -/
def WrAt (w : World) (base g : Nat) (at_ : Int) (out : List Int) : Prop :=
  ∃ A c, Blk w g 99 #[.int .i64 at_, .slice A out.length c] ∧ w.ownsRow base 5 1 (.slice A out.length c) out.length (out.map (Value.int .u8)) ∧ base ≤ g
theorem WrAt.below {w w' : World} {base g : Nat} {at_ : Int} {out : List Int} (h : WrAt w base g at_ out) (hb : Below w.heap.size w w') : WrAt w' base g at_ out := by
  obtain ⟨A, c, h1, h2, h3⟩ := h
  exact ⟨A, c, h1.below' hb, h2.kept (grownBy_of_below hb none) (by cases (Value.slice A out.length c).ownBlock <;> simp), h3⟩
theorem WrAt.cell0 {w : World} {base g : Nat} {at_ : Int} {out : List Int} (h : WrAt w base g at_ out) : w.cell? ⟨g, 0, none⟩ = some (.int .i64 at_) := by
  obtain ⟨A, c, h1, _⟩ := h
  exact h1.cell 0
/-- What a method of the writer leaves. -/
def WrPost (base g : Nat) (at_ : Int) (out : List Int) (w : World) (e : Ending) (w' : World) : Prop :=
  e = .returned (.tuple #[]) ∧ WrAt w' base g at_ out ∧ Below base w w'

theorem wr_blk {w w3 : World} {base g : Nat} {at_ : Int} {out : List Int} {A : Option Addr} {c : Nat} {o : Obj}
    (hb : Blk w g 99 #[.int .i64 at_, .slice A out.length c]) (ho : w.ownsRow base 5 1 (.slice A out.length c) out.length (out.map (Value.int .u8)))
    (hgrow : (w.drew.alloc o).grownBy w3 (Value.slice A out.length c).ownBlock) : Blk w3 g 99 #[.int .i64 at_, .slice A out.length c] := by
  have hb1 : Blk (w.drew.alloc o) g 99 _ := hb.drew.alloc o
  exact hb1.grown hgrow (fun e => by
    obtain ⟨_, cs, hc⟩ := rowOf_own (ho.drew.alloc o) g e.symm
    exact hb1.ne_ hc (by decide) rfl)
theorem wr_step {w w3 : World} {base g : Nat} {at_ : Int} {out : List Int} {A : Option Addr} {c : Nat} {o : Obj} {y : Int} {A3 : Option Addr} {c3 : Nat}
    (hb : Blk w g 99 #[.int .i64 at_, .slice A out.length c]) (ho : w.ownsRow base 5 1 (.slice A out.length c) out.length (out.map (Value.int .u8))) (hg : base ≤ g)
    (hown : w3.ownsRow base 5 1 (.slice A3 (out.length + 1) c3) (out.length + 1) (out.map (Value.int .u8) ++ [.int .u8 y]))
    (hgrow : (w.drew.alloc o).grownBy w3 (Value.slice A out.length c).ownBlock) :
    WrAt (w3.setCell ⟨g, 1, none⟩ (.slice A3 (out.length + 1) c3)) base g at_ (out ++ [y]) ∧ Below base w (w3.setCell ⟨g, 1, none⟩ (.slice A3 (out.length + 1) c3)) := by
  have hlt := hb.lt
  have ho' := ho.drew.alloc o
  have hrow := rowOf_own ho'
  have hb1 : Blk (w.drew.alloc o) g 99 _ := hb.drew.alloc o
  have hb3 : Blk w3 g 99 _ := hb1.grown hgrow (fun e => by
    obtain ⟨_, cs, hc⟩ := hrow g e.symm
    exact hb1.ne_ hc (by decide) rfl)
  refine ⟨⟨A3, c3, ?_, ?_, hg⟩, ?_⟩
  · have := hb3.set_ 1 (.slice A3 (out.length + 1) c3)
    simpa using this
  · have := hown.kept (grownBy_one w3 g 1 (.slice A3 (out.length + 1) c3)) (own_ne hown (rowOf_blk (base := 0) hb3 (Nat.zero_le _)) (by decide))
    simpa using this
  · have b1 : Below base w w.drew := (Below.refl base w).drew
    have b2 : Below base w (w.drew.alloc o) := b1.alloc (by have : w.drew.heap.size = w.heap.size := rfl; omega) o
    have b3 : Below base w w3 := b2.grown hgrow (by simp; omega) (fun k hk => (hrow k hk).1)
    exact b3.setCell hg _
theorem int_eq {k : IntKind} {a b : Int} (h : a = b) : Value.int k a = Value.int k b := by rw [h]
theorem shr_at (n : Int) (i : Nat) (hi : i ≤ 3) (L : Int) (hL : L = ((8 * i : Nat) : Int)) : Op.shift .shr .i64 n .i64 (IntKind.i64.wrap L) = pure (.int .i64 (n / 256 ^ i)) := by
  subst hL
  have e : IntKind.i64.wrap ((8 * i : Nat) : Int) = ((8 * i : Nat) : Int) := IntWalk.i64_in _ (by omega)
  rw [e, shift_shr .i64 .i64 n _ (by omega) (by have : IntKind.i64.bits = 64 := rfl; omega), Int.toNat_natCast]
  match i, hi with
  | 0, _ => rfl
  | 1, _ => rfl
  | 2, _ => rfl
  | 3, _ => rfl
set_option maxHeartbeats 1000000 in
theorem put_any (base g size : Nat) (at_ n : Int) (out : List Int) (w : World) (h : WrAt w base g at_ out) (hs : size ≤ 4) (hl : out.length + size ≤ 1000000) (_h0 : -9223372036854775808 ≤ n) (_h1 : n ≤ 9223372036854775807) :
    Calls Tryd.prog 67 #[.pointer (some ⟨g, 0, none⟩), .int .i64 n, .int .i64 size] w (WrPost base g at_ (out ++ put n size) w) := by
  obtain ⟨i0, hi0, hz0, hz1, hz2⟩ := info_parts info5
  have H := Lib.hid h
  clear h
  go_enter Tryd.func67, Tryd.ntmps67
  go_wp2
  go_loopw [6] (fun v wr => ∃ j : Nat, j ≤ size ∧ v = .int .i64 ((size : Int) - 1 - j) ∧ Hid (WrAt wr base g at_ (out ++ (put n size).take j)) ∧ Hid (Below base w wr)) (fun v _ => (intOf v + 1).toNat)
  case atStart => exact ⟨0, Nat.zero_le _, by simp, by show WrAt _ _ _ _ _; simpa using H.out, Below.refl _ _⟩
  case round =>
    obtain ⟨j, hj, rfl, hwr, hbel⟩ := hrel
    by_cases hlt : j < size
    · obtain ⟨A, c, hb, ho, hg⟩ := hwr.out
      have hlen : Hid ((out ++ (put n size).take j).length ≤ 1000000) := by
        show _ ≤ _
        rw [List.length_append, List.length_take, put_len]
        omega
      have hsucc := Lib.hid (put_take_succ n size j hlt)
      obtain ⟨T, hT⟩ : ∃ T, T = out ++ (put n size).take j := ⟨_, rfl⟩
      rw [← hT] at hb ho hlen
      have hTl := hlen.out
      have HT := Lib.hid hT
      have c1 := hb.cell 1
      have f1 := hb.frozen 1
      have hgl := hb.lt
      have hbs : base ≤ wr.heap.size := by omega
      have HB := Lib.hid hb
      have HO := Lib.hid ho
      have HG := Lib.hid hg
      have hO := Lib.hid (fun o => ho.drew.alloc o)
      clear hT hb ho hg hlen
      obtain ⟨I, hI⟩ : ∃ I : Int, (size : Int) - 1 - j = I := ⟨_, rfl⟩
      rw [hI]
      obtain ⟨q, HQ⟩ : ∃ q, Hid (q = n / 256 ^ (size - 1 - j)) := ⟨_, rfl⟩
      have sh := fun (i : Nat) (hi : i ≤ 3) (he : size - 1 - j = i) (L : Int) (hL : L = ((8 * i : Nat) : Int)) => (shr_at n i hi L hL).trans (by rw [HQ.out, he] : (pure (.int .i64 (n / 256 ^ i)) : Sem Value) = pure (.int .i64 q))
      have hcases : (I = 0 ∧ Op.shift .shr .i64 n .i64 (IntKind.i64.wrap 0) = pure (.int .i64 q)) ∨ (I = 1 ∧ Op.shift .shr .i64 n .i64 (IntKind.i64.wrap 8) = pure (.int .i64 q)) ∨ (I = 2 ∧ Op.shift .shr .i64 n .i64 (IntKind.i64.wrap 16) = pure (.int .i64 q)) ∨ (I = 3 ∧ Op.shift .shr .i64 n .i64 (IntKind.i64.wrap 24) = pure (.int .i64 q)) := by
        have h4 : I = 0 ∨ I = 1 ∨ I = 2 ∨ I = 3 := by omega
        rcases h4 with h | h | h | h
        · exact .inl ⟨h, sh 0 (by omega) (by omega) 0 (by omega)⟩
        · exact .inr (.inl ⟨h, sh 1 (by omega) (by omega) 8 (by omega)⟩)
        · exact .inr (.inr (.inl ⟨h, sh 2 (by omega) (by omega) 16 (by omega)⟩))
        · exact .inr (.inr (.inr ⟨h, sh 3 (by omega) (by omega) 24 (by omega)⟩))
      have HII := Lib.hid hI
      clear hI sh
      rcases hcases with ⟨rfl, hsh⟩ | ⟨rfl, hsh⟩ | ⟨rfl, hsh⟩ | ⟨rfl, hsh⟩
      all_goals
        go_wp2
        go_region_law (first
          | (have tok := hO; (refine step_append_lies _ rfl _ _ 22 rfl base 5 i0 (.int .u8 0) 1 1 Tryd.underlying22 hi0 hz0 hz1 hz2 rfl (by decide) (.slice A T.length c) T.length (T.map (Value.int .u8)) (by simp [Act.eval]) (hO.out _) ⟨wr.heap.size, 0, none⟩ 1 1 [.int .u8 _] (by simp [Act.eval]) rfl (World.news_of_block (heap_alloc_new _ _)) (ints_oneCell .u8 [_]) (by omega) (by unfold maxLen; omega) (by omega) (by simp; omega) (wr.heap.size + 1) (by simp) ?_); intro g3 cap3 w3 hown3 hgrow3 hat3 hlt3; have hB3 := Lib.hid (wr_blk HB.out HO.out hgrow3); have k3 : w3.cell? ⟨g, 1, none⟩ = some (.slice A T.length c) := hB3.out.cell 1; have f3 : w3.frozen? ⟨g, 1, none⟩ = false := hB3.out.frozen 1))
      all_goals
        obtain ⟨q1, q2⟩ := wr_step HB.out HO.out HG.out hown3 hgrow3
        have Q1 := Lib.hid q1
        have Q2 := Lib.hid (hbel.out.trans q2)
        clear q1 q2 hown3 hgrow3 hat3 hlt3 k3 f3 hO tok
        go_wp2
        go_roundw
        case rel =>
          refine ⟨j + 1, hlt, ?_, ?_, Q2⟩
          · exact int_eq (by have := HII.out; omega)
          · have := Q1.out
            show WrAt _ _ _ _ _
            rw [hsucc.out, ← List.append_assoc, ← HT.out, ← HQ.out]
            exact this
        case measure => simp [intOf]
    · have HJ : Hid (j = size) := by show j = size; omega
      have hneg : (size : Int) - 1 - j = -1 := by omega
      rw [hneg]
      clear hneg
      go_wp2
      go_end0
      refine ⟨rfl, ?_, hbel.out⟩
      have := hwr.out
      rw [HJ.out, List.take_of_length_le (by rw [put_len]; exact Nat.le_refl _)] at this
      exact this
end Go.Proofs.YtjmfdmipdglccaaDoor
