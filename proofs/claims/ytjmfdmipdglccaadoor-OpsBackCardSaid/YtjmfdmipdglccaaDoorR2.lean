/- The walk of Same. -/
import Derived.Test.YtjmfdmipdglccaaDoorR1
namespace Go.Proofs.YtjmfdmipdglccaaDoor
open Go.RowKit

theorem ins_ext {a b : Ins} (h1 : a.At = b.At) (h2 : a.Op = b.Op) (h3 : a.N = b.N) (h4 : a.M = b.M) (h5 : a.To = b.To) (h6 : a.Keys = b.Keys) : a = b := by
  cases a
  cases b
  simp at h1 h2 h3 h4 h5 h6
  subst h1 h2 h3 h4 h5 h6
  rfl
instance : DecidableEq Ins := fun a b =>
  if h : a.At = b.At ∧ a.Op = b.Op ∧ a.N = b.N ∧ a.M = b.M ∧ a.To = b.To ∧ a.Keys = b.Keys then isTrue (ins_ext h.1 h.2.1 h.2.2.1 h.2.2.2.1 h.2.2.2.2.1 h.2.2.2.2.2)
  else isFalse fun e => h (by subst e; exact ⟨rfl, rfl, rfl, rfl, rfl, rfl⟩)

set_option maxRecDepth 100000 in
theorem same_nums (a b : Ins) (tA kA tB kB : Option Addr) (tc kc tc' kc' : Nat) (w : World) (hne : ¬ (a.At = b.At ∧ a.Op = b.Op ∧ a.N = b.N ∧ a.M = b.M)) :
    Calls Tryd.prog 23 #[insV a tA tc kA kc, insV b tB tc' kB kc'] w (BoolPost false w) := by
  obtain ⟨a1, a2, a3, a4, a5, a6⟩ := a
  obtain ⟨b1, b2, b3, b4, b5, b6⟩ := b
  simp only [insV] at *
  generalize a5.length = n5 at *
  generalize a6.length = n6 at *
  generalize b5.length = m5 at *
  generalize b6.length = m6 at *
  have fin : ∀ o1 o2, Hid (Below w.heap.size w ((w.alloc o1).alloc o2)) := fun o1 o2 => ((Below.refl _ _).alloc (Nat.le_refl _) _).alloc (by simp) _
  by_cases h1 : a1 = b1
  · subst h1
    by_cases h2 : a2 = b2
    · subst h2
      by_cases h3 : a3 = b3
      · subst h3
        have h4 : (a4 == b4) = false := by
          rw [beq_eq_false_iff_ne]
          rintro rfl
          exact hne ⟨rfl, rfl, rfl, rfl⟩
        clear hne
        go_enter Tryd.func23, Tryd.ntmps23
        go_wp2_with fail
        go_ret
        exact ⟨rfl, (fin _ _).out⟩
      · have h3' : (a3 == b3) = false := beq_eq_false_iff_ne.2 h3
        clear hne h3
        go_enter Tryd.func23, Tryd.ntmps23
        go_wp2_with fail
        go_ret
        exact ⟨rfl, (fin _ _).out⟩
    · have h2' : (a2 == b2) = false := beq_eq_false_iff_ne.2 h2
      clear hne h2
      go_enter Tryd.func23, Tryd.ntmps23
      go_wp2_with fail
      go_ret
      exact ⟨rfl, (fin _ _).out⟩
  · have h1' : (a1 == b1) = false := beq_eq_false_iff_ne.2 h1
    clear hne h1
    go_enter Tryd.func23, Tryd.ntmps23
    go_wp2_with fail
    go_ret
    exact ⟨rfl, (fin _ _).out⟩

set_option maxRecDepth 100000 in
theorem same_lists (a : Ins) (T K : List Int) (tA kA tB kB : Option Addr) (tc kc tc' kc' : Nat) (w : World) (ha : Lists w a tA tc kA kc) (hb : Lists w { a with To := T, Keys := K } tB tc' kB kc') :
    Calls Tryd.prog 23 #[insV a tA tc kA kc, insV { a with To := T, Keys := K } tB tc' kB kc'] w (BoolPost (decide (a.To = T) && decide (a.Keys = K)) w) := by
  have T1 := fun (W : World) (h : Below w.heap.size w W) => Lib.hid (ints_any tA tB a.To.length T.length tc tc' a.To T W (ha.to_.below h) (hb.to_.below h) (by have := ha.tlen; omega))
  have T2 := fun (W : World) (h : Below w.heap.size w W) => Lib.hid (ints_any kA kB a.Keys.length K.length kc kc' a.Keys K W (ha.keys.below h) (hb.keys.below h) (by have := ha.klen; omega))
  clear ha hb
  obtain ⟨a1, a2, a3, a4, a5, a6⟩ := a
  simp only [insV] at *
  generalize hd1 : decide (a5 = T) = q1 at *
  generalize hd2 : decide (a6 = K) = q2 at *
  clear hd1 hd2
  generalize a5.length = n5 at *
  generalize a6.length = n6 at *
  generalize T.length = m5 at *
  generalize K.length = m6 at *
  cases q1
  all_goals
    go_enter Tryd.func23, Tryd.ntmps23
    go_wp2_with (first | (go_at_call 60; refine (T1 _ (((Below.refl _ _).alloc (Nat.le_refl _) _).alloc (by simp) _)).out.mono ?_))
    rintro e w1 ⟨rfl, hb⟩
    have hB0 := below_then (((Below.refl w.heap.size w).alloc (Nat.le_refl _) _).alloc (by simp) _) (by simp; omega) hb
    have hBk := ((Blk.new w 26 _).alloc _).below' hb
    have hBk2 := (Blk.new (w.alloc _) 26 _).below' hb
    have d5 : w1.cell? ⟨w.heap.size, 5, none⟩ = some (.slice kA n6 kc) := hBk.cell 5
    have e5 : w1.cell? ⟨w.heap.size + 1, 5, none⟩ = some (.slice kB m6 kc') := by simpa using hBk2.cell 5
    have HT2 := Lib.hid (T2 w1 hB0)
    have HB := Lib.hid hB0
    clear T1 T2 hb hBk hBk2 hB0
    go_wp2_with (first | (go_at_call 60; refine HT2.out.out.mono ?_))
    first
    | (go_ret; exact ⟨rfl, HB.out⟩)
    | (rintro e w2 ⟨rfl, hb⟩
       have HB2 := Lib.hid (below_then HB.out HB.out.size hb)
       clear HB hb HT2
       go_wp2
       go_ret
       exact ⟨rfl, HB2.out⟩)

theorem same_any (a b : Ins) (tA kA tB kB : Option Addr) (tc kc tc' kc' : Nat) (w : World) (ha : Lists w a tA tc kA kc) (hb : Lists w b tB tc' kB kc') :
    Calls Tryd.prog 23 #[insV a tA tc kA kc, insV b tB tc' kB kc'] w (BoolPost (decide (a = b)) w) := by
  by_cases h : a.At = b.At ∧ a.Op = b.Op ∧ a.N = b.N ∧ a.M = b.M
  · obtain ⟨a1, a2, a3, a4, a5, a6⟩ := a
    obtain ⟨b1, b2, b3, b4, b5, b6⟩ := b
    obtain ⟨h1, h2, h3, h4⟩ := h
    simp only at h1 h2 h3 h4
    subst h1 h2 h3 h4
    have := same_lists ⟨a1, a2, a3, a4, a5, a6⟩ b5 b6 tA kA tB kB tc kc tc' kc' w ha hb
    have e : decide (Ins.mk a1 a2 a3 a4 a5 a6 = Ins.mk a1 a2 a3 a4 b5 b6) = (decide (a5 = b5) && decide (a6 = b6)) := by
      rw [Bool.eq_iff_iff]
      simp
    rw [e]
    exact this
  · have e : decide (a = b) = false := decide_eq_false (fun e => h (by subst e; exact ⟨rfl, rfl, rfl, rfl⟩))
    rw [e]
    exact same_nums a b tA kA tB kB tc kc tc' kc' w h
end Go.Proofs.YtjmfdmipdglccaaDoor
