/- The reader and an instruction in memory, while others are written. -/
import Derived.Test.YtjmfdmipdglccaaDoorA3
import Derived.Deep.AppendLies
namespace Go.Proofs.YtjmfdmipdglccaaDoor
open Go.RowKit

theorem grownBy_one (w : World) (g i : Nat) (u : Value) : w.grownBy (w.setCell ⟨g, i, none⟩ u) (some g) := grownBy_set (World.grownBy.refl w _) i u
/-- A row that may be written: it lies from base on, in blocks of other types. -/
def RowOf (w : World) (base : Nat) (row : Option Nat) (t : TypeId) : Prop := ∀ r, row = some r → base ≤ r ∧ ∃ cs, Blk w r t cs
theorem rowOf_blk {w : World} {base g : Nat} {t : TypeId} {cs : Array Value} (h : Blk w g t cs) (hb : base ≤ g) : RowOf w base (some g) t := fun r e => by
  cases e
  exact ⟨hb, cs, h⟩
theorem rowOf_own {w : World} {base : Nat} {e : TypeId} {size n : Nat} {v : Value} {vs : List Value} (h : w.ownsRow base e size v n vs) : RowOf w base v.ownBlock e := fun r hr => by
  rcases h.2 with ⟨rfl, _⟩ | ⟨g, cap, cur, rfl, hb, hh, _⟩
  · cases hr
  · have : g = r := by simpa [Value.ownBlock] using hr
    subst this
    exact ⟨hb, cur, hh⟩
theorem own_ne {w : World} {base : Nat} {e t : TypeId} {size n : Nat} {v : Value} {vs : List Value} (h : w.ownsRow base e size v n vs) {b0 : Nat} {row : Option Nat} (hr : RowOf w b0 row t) (hne : e ≠ t) : v.ownBlock = none ∨ v.ownBlock ≠ row := by
  rcases h.2 with ⟨rfl, _⟩ | ⟨g, cap, cur, rfl, hb, hh, _⟩
  · exact .inl rfl
  · refine .inr fun he => ?_
    obtain ⟨_, cs, hc⟩ := hr g he.symm
    exact Blk.ne_ (t := e) hh hc hne rfl
theorem below_row {w w' : World} {base : Nat} {row : Option Nat} {t : TypeId} (hr : RowOf w base row t) (hg : w.grownBy w' row) (hB : base ≤ w.heap.size) : Below base w w' :=
  (Below.refl base w).grown hg hB (fun k hk => (hr k hk).1)

theorem RdAt.blk {w : World} {base g : Nat} {at_ : Int} {left : List Int} {short : Bool} (h : RdAt w base g at_ left short) : ∃ cs, Blk w g 77 cs := by
  obtain ⟨A, c, hb, _⟩ := h
  exact ⟨_, hb⟩
theorem RdAt.cell2 {w : World} {base g : Nat} {at_ : Int} {left : List Int} {short : Bool} (h : RdAt w base g at_ left short) : w.cell? ⟨g, 2, none⟩ = some (.bool short) := by
  obtain ⟨A, c, hb, _⟩ := h
  exact hb.cell 2
theorem Nums.grownRow {k : IntKind} {w w' : World} {A : Option Addr} {n c : Nat} {xs : List Int} (h : Nums k w A n c xs) {row : Option Nat} (hg : w.grownBy w' row) (hne : ∀ ad, A = some ad → 0 < n → row ≠ some ad.block) : Nums k w' A n c xs := by
  refine ⟨⟨h.1.1, fun hn => ?_⟩, h.2⟩
  obtain ⟨ad, e, hc⟩ := h.1.2 hn
  refine ⟨ad, e, fun j v hv => ?_⟩
  have hcell := hc j v hv
  rw [World.cell?_of_block (hg.block _ (World.block_lt_of_cell? w _ hcell) (fun e' => hne ad e hn (by rw [add_block] at e'; exact e'.symm)))]
  exact hcell
theorem Far.grownRow {w w' : World} {base : Nat} {t : TypeId} {A : Option Addr} {n : Nat} (h : Far w base t A n) {row : Option Nat} (hg : w.grownBy w' row) (hne : ∀ ad, A = some ad → 0 < n → row ≠ some ad.block) : Far w' base t A n := fun ad e hn => by
  rcases h ad e hn with h | ⟨cs, hc⟩
  · exact .inl h
  · exact .inr ⟨cs, hc.grown hg (fun e' => hne ad e hn e'.symm)⟩
theorem Far.neRow {w : World} {base : Nat} {t t' : TypeId} {A : Option Addr} {n : Nat} (h : Far w base t A n) {row : Option Nat} (hr : RowOf w base row t') (hne : t ≠ t') : ∀ ad, A = some ad → 0 < n → row ≠ some ad.block := by
  rintro ad e hn rfl
  obtain ⟨hb, cs, hc⟩ := hr _ rfl
  exact h.ne_ hb hc hne ad e hn rfl
theorem RdAt.grown {w w' : World} {base g : Nat} {at_ : Int} {left : List Int} {short : Bool} (h : RdAt w base g at_ left short) {row : Option Nat} {t : TypeId} (hr : RowOf w base row t) (ht : 77 ≠ t) (ht5 : 5 ≠ t) (hg : w.grownBy w' row) : RdAt w' base g at_ left short := by
  obtain ⟨A, c, hb, hN, hF, hB, hl⟩ := h
  have hne := hF.neRow hr ht5
  refine ⟨A, c, hb.grown hg ?_, hN.grownRow hg hne, hF.grownRow hg hne, hB, hl⟩
  intro e
  obtain ⟨_, cs, hc⟩ := hr g e.symm
  exact hb.ne_ hc ht rfl
theorem RdAt.below {w w' : World} {base g : Nat} {at_ : Int} {left : List Int} {short : Bool} (h : RdAt w base g at_ left short) (hb : Below w.heap.size w w') : RdAt w' base g at_ left short := by
  obtain ⟨A, c, h1, hN, hF, hB, hl⟩ := h
  exact ⟨A, c, h1.below' hb, hN.below hb, hF.below hb, hB, hl⟩

/-- An instruction in block h, its lists in rows of the call's own. -/
def InsAt (w : World) (base h : Nat) (x : Ins) : Prop :=
  ∃ tA tc kA kc, Blk w h 26 #[.int .i64 x.At, .int .i64 x.Op, .int .i64 x.N, .int .i64 x.M, .slice tA x.To.length tc, .slice kA x.Keys.length kc] ∧
    w.ownsRow base 3 1 (.slice tA x.To.length tc) x.To.length (x.To.map (Value.int .i64)) ∧ w.ownsRow base 3 1 (.slice kA x.Keys.length kc) x.Keys.length (x.Keys.map (Value.int .i64)) ∧
    ((Value.slice tA x.To.length tc).ownBlock = none ∨ (Value.slice tA x.To.length tc).ownBlock ≠ (Value.slice kA x.Keys.length kc).ownBlock)
theorem InsAt.grown {w w' : World} {base h : Nat} {x : Ins} (hi : InsAt w base h x) {row : Option Nat} {t : TypeId} {b0 : Nat} (hr : RowOf w b0 row t) (ht : 26 ≠ t) (ht3 : 3 ≠ t) (hg : w.grownBy w' row) : InsAt w' base h x := by
  obtain ⟨tA, tc, kA, kc, hb, h1, h2, h3⟩ := hi
  refine ⟨tA, tc, kA, kc, hb.grown hg ?_, h1.kept hg (own_ne h1 hr ht3), h2.kept hg (own_ne h2 hr ht3), h3⟩
  intro e
  obtain ⟨_, cs, hc⟩ := hr h e.symm
  exact hb.ne_ hc ht rfl
theorem InsAt.below {w w' : World} {base h : Nat} {x : Ins} (hi : InsAt w base h x) (hb : Below w.heap.size w w') : InsAt w' base h x := by
  obtain ⟨tA, tc, kA, kc, h0, h1, h2, h3⟩ := hi
  exact ⟨tA, tc, kA, kc, h0.below' hb, h1.kept (grownBy_of_below hb none) (by cases (Value.slice tA x.To.length tc).ownBlock <;> simp), h2.kept (grownBy_of_below hb none) (by cases (Value.slice kA x.Keys.length kc).ownBlock <;> simp), h3⟩
/-- A number behind the keys. -/
theorem InsAt.key {w w' : World} {base h : Nat} {x : Ins} {tA kA : Option Addr} {tc kc : Nat}
    (hb : Blk w h 26 #[.int .i64 x.At, .int .i64 x.Op, .int .i64 x.N, .int .i64 x.M, .slice tA x.To.length tc, .slice kA x.Keys.length kc])
    (h1 : w.ownsRow base 3 1 (.slice tA x.To.length tc) x.To.length (x.To.map (Value.int .i64))) (h2 : w.ownsRow base 3 1 (.slice kA x.Keys.length kc) x.Keys.length (x.Keys.map (Value.int .i64)))
    (h3 : (Value.slice tA x.To.length tc).ownBlock = none ∨ (Value.slice tA x.To.length tc).ownBlock ≠ (Value.slice kA x.Keys.length kc).ownBlock) (y : Int) (g cap : Nat)
    (hown : w'.ownsRow base 3 1 (.slice (some ⟨g, 0, none⟩) (x.Keys.length + 1) cap) (x.Keys.length + 1) (x.Keys.map (Value.int .i64) ++ [.int .i64 y])) (hgrow : w.grownBy w' (Value.slice kA x.Keys.length kc).ownBlock)
    (hat : (Value.slice kA x.Keys.length kc).ownBlock = some g ∨ g = w.heap.size) :
    InsAt (w'.setCell ⟨h, 5, none⟩ (.slice (some ⟨g, 0, none⟩) (x.Keys.length + 1) cap)) base h { x with Keys := x.Keys ++ [y] } := by
  have hr := rowOf_own h2
  have hh : h ≠ g := by
    rcases hat with hat | hat
    · obtain ⟨_, cs, hc⟩ := hr g hat
      exact hb.ne_ hc (by decide)
    · have := hb.lt; omega
  have hb' : Blk w' h 26 _ := hb.grown hgrow (fun e => by
    obtain ⟨_, cs, hc⟩ := hr h e.symm
    exact hb.ne_ hc (by decide) rfl)
  have h1' := h1.kept hgrow h3
  have hlen : (x.Keys ++ [y]).length = x.Keys.length + 1 := by simp
  have hg1 := grownBy_one w' h 5 (.slice (some ⟨g, 0, none⟩) (x.Keys.length + 1) cap)
  have hrow := rowOf_blk (base := 0) hb' (Nat.zero_le _)
  refine ⟨tA, tc, some ⟨g, 0, none⟩, cap, ?_, h1'.kept hg1 (own_ne h1' hrow (by decide)), ?_, ?_⟩
  · simp only [hlen]
    exact hb'.set_ 5 _
  · simp only [hlen, List.map_append, List.map_cons, List.map_nil]
    exact hown.kept hg1 (own_ne hown hrow (by decide))
  · simp only [hlen]
    rcases hat with hat | hat
    · rcases h3 with h3 | h3
      · exact .inl h3
      · refine .inr fun e => h3 ?_
        rw [e, hat]; rfl
    · refine .inr fun e => ?_
      have := (h1.lt g (e.trans rfl)).2
      omega
/-- A number behind the places. -/
theorem InsAt.place {w w' : World} {base h : Nat} {x : Ins} {tA kA : Option Addr} {tc kc : Nat}
    (hb : Blk w h 26 #[.int .i64 x.At, .int .i64 x.Op, .int .i64 x.N, .int .i64 x.M, .slice tA x.To.length tc, .slice kA x.Keys.length kc])
    (h1 : w.ownsRow base 3 1 (.slice tA x.To.length tc) x.To.length (x.To.map (Value.int .i64))) (h2 : w.ownsRow base 3 1 (.slice kA x.Keys.length kc) x.Keys.length (x.Keys.map (Value.int .i64)))
    (h3 : (Value.slice tA x.To.length tc).ownBlock = none ∨ (Value.slice tA x.To.length tc).ownBlock ≠ (Value.slice kA x.Keys.length kc).ownBlock) (y : Int) (g cap : Nat)
    (hown : w'.ownsRow base 3 1 (.slice (some ⟨g, 0, none⟩) (x.To.length + 1) cap) (x.To.length + 1) (x.To.map (Value.int .i64) ++ [.int .i64 y])) (hgrow : w.grownBy w' (Value.slice tA x.To.length tc).ownBlock)
    (hat : (Value.slice tA x.To.length tc).ownBlock = some g ∨ g = w.heap.size) :
    InsAt (w'.setCell ⟨h, 4, none⟩ (.slice (some ⟨g, 0, none⟩) (x.To.length + 1) cap)) base h { x with To := x.To ++ [y] } := by
  have hr := rowOf_own h1
  have hh : h ≠ g := by
    rcases hat with hat | hat
    · obtain ⟨_, cs, hc⟩ := hr g hat
      exact hb.ne_ hc (by decide)
    · have := hb.lt; omega
  have hb' : Blk w' h 26 _ := hb.grown hgrow (fun e => by
    obtain ⟨_, cs, hc⟩ := hr h e.symm
    exact hb.ne_ hc (by decide) rfl)
  have h3' : (Value.slice kA x.Keys.length kc).ownBlock = none ∨ (Value.slice kA x.Keys.length kc).ownBlock ≠ (Value.slice tA x.To.length tc).ownBlock := by
    rcases h3 with h3 | h3
    · rw [h3]
      cases (Value.slice kA x.Keys.length kc).ownBlock <;> simp
    · exact .inr fun e => h3 e.symm
  have h2' := h2.kept hgrow h3'
  have hlen : (x.To ++ [y]).length = x.To.length + 1 := by simp
  have hg1 := grownBy_one w' h 4 (.slice (some ⟨g, 0, none⟩) (x.To.length + 1) cap)
  have hrow := rowOf_blk (base := 0) hb' (Nat.zero_le _)
  refine ⟨some ⟨g, 0, none⟩, cap, kA, kc, ?_, ?_, h2'.kept hg1 (own_ne h2' hrow (by decide)), ?_⟩
  · simp only [hlen]
    exact hb'.set_ 4 _
  · simp only [hlen, List.map_append, List.map_cons, List.map_nil]
    exact hown.kept hg1 (own_ne hown hrow (by decide))
  · simp only [hlen]
    rcases hat with hat | hat
    · rcases h3' with h3' | h3'
      · rw [h3']; exact .inr (by simp [Value.ownBlock])
      · refine .inr fun e => h3' ?_
        rw [← e, hat]; rfl
    · refine .inr fun e => ?_
      have := (h2.lt g (e.symm.trans rfl)).2
      omega
/-- A whole step: what is taken off the reader goes behind the places. -/
theorem places_blk {wr w2 w3 : World} {base g h : Nat} {x : Ins} {l : List Int} {s : Bool} {tA kA : Option Addr} {tc kc : Nat} {o : Obj}
    (hr : RdAt wr base g x.At l s)
    (hb : Blk wr h 26 #[.int .i64 x.At, .int .i64 x.Op, .int .i64 x.N, .int .i64 x.M, .slice tA x.To.length tc, .slice kA x.Keys.length kc])
    (o1 : wr.ownsRow base 3 1 (.slice tA x.To.length tc) x.To.length (x.To.map (Value.int .i64)))
    (hg2 : wr.grownBy w2 (some g)) (hgrow : (w2.alloc o).grownBy w3 (Value.slice tA x.To.length tc).ownBlock) :
    Blk w3 h 26 #[.int .i64 x.At, .int .i64 x.Op, .int .i64 x.N, .int .i64 x.M, .slice tA x.To.length tc, .slice kA x.Keys.length kc] := by
  have hb2 := (hb.grown hg2 (fun e => hb.ne_ hr.blk.choose_spec (by decide) (Option.some.inj e))).alloc o
  have ho2 := ((o1.kept hg2 (own_ne o1 (rowOf_blk (base := 0) hr.blk.choose_spec (Nat.zero_le _)) (by decide))).alloc o)
  exact hb2.grown hgrow (fun e => by
    obtain ⟨_, cs, hc⟩ := rowOf_own ho2 h e.symm
    exact hb2.ne_ hc (by decide) rfl)
theorem places_step {w0 wr w2 w3 : World} {base g h : Nat} {x : Ins} {l l2 : List Int} {s s2 : Bool} {tA kA : Option Addr} {tc kc : Nat} {o : Obj} (hh : base ≤ h) (hg : base ≤ g)
    (hr : RdAt wr base g x.At l s)
    (hb : Blk wr h 26 #[.int .i64 x.At, .int .i64 x.Op, .int .i64 x.N, .int .i64 x.M, .slice tA x.To.length tc, .slice kA x.Keys.length kc])
    (o1 : wr.ownsRow base 3 1 (.slice tA x.To.length tc) x.To.length (x.To.map (Value.int .i64))) (o2 : wr.ownsRow base 3 1 (.slice kA x.Keys.length kc) x.Keys.length (x.Keys.map (Value.int .i64)))
    (o3 : (Value.slice tA x.To.length tc).ownBlock = none ∨ (Value.slice tA x.To.length tc).ownBlock ≠ (Value.slice kA x.Keys.length kc).ownBlock)
    (hbel : Below base w0 wr) (hr2 : RdAt w2 base g x.At l2 s2) (hg2 : wr.grownBy w2 (some g)) (y : Int) (g3 cap : Nat)
    (hown : w3.ownsRow base 3 1 (.slice (some ⟨g3, 0, none⟩) (x.To.length + 1) cap) (x.To.length + 1) (x.To.map (Value.int .i64) ++ [.int .i64 y]))
    (hgrow : (w2.alloc o).grownBy w3 (Value.slice tA x.To.length tc).ownBlock) (hat : (Value.slice tA x.To.length tc).ownBlock = some g3 ∨ g3 = w2.heap.size + 1) :
    RdAt (w3.setCell ⟨h, 4, none⟩ (.slice (some ⟨g3, 0, none⟩) (x.To.length + 1) cap)) base g x.At l2 s2 ∧
    InsAt (w3.setCell ⟨h, 4, none⟩ (.slice (some ⟨g3, 0, none⟩) (x.To.length + 1) cap)) base h { x with To := x.To ++ [y] } ∧
    Below base w0 (w3.setCell ⟨h, 4, none⟩ (.slice (some ⟨g3, 0, none⟩) (x.To.length + 1) cap)) := by
  have hrow := rowOf_blk (base := 0) hr.blk.choose_spec (Nat.zero_le _)
  have hb2 := (hb.grown hg2 (fun e => hb.ne_ hr.blk.choose_spec (by decide) (Option.some.inj e))).alloc o
  have p1 := (o1.kept hg2 (own_ne o1 hrow (by decide))).alloc o
  have p2 := (o2.kept hg2 (own_ne o2 hrow (by decide))).alloc o
  have hb3 := places_blk hr hb o1 hg2 hgrow
  have hlt := hb.lt
  have hle : wr.heap.size ≤ w2.heap.size := hg2.size
  have hrw := rowOf_own p1
  have hr3 : RdAt w3 base g x.At l2 s2 := (hr2.below ((Below.refl _ _).alloc (Nat.le_refl _) o)).grown hrw (by decide) (by decide) hgrow
  refine ⟨hr3.grown (rowOf_blk hb3 hh) (by decide) (by decide) (grownBy_one _ _ _ _), InsAt.place hb2 p1 p2 o3 y g3 cap hown hgrow (by simpa using hat), ?_⟩
  have b1 : Below base w0 w2 := hbel.trans (below_row (rowOf_blk hr.blk.choose_spec hg) hg2 (by omega))
  have b2 : Below base w0 (w2.alloc o) := b1.alloc (by omega) o
  have b3 : Below base w0 w3 := b2.grown hgrow (by simp; omega) (fun k hk => (hrw k hk).1)
  exact b3.setCell hh _
/-- A whole step: what is taken off the reader goes behind the keys. -/
theorem keys_blk {wr w2 w3 : World} {base g h : Nat} {x : Ins} {l : List Int} {s : Bool} {tA kA : Option Addr} {tc kc : Nat} {o : Obj}
    (hr : RdAt wr base g x.At l s)
    (hb : Blk wr h 26 #[.int .i64 x.At, .int .i64 x.Op, .int .i64 x.N, .int .i64 x.M, .slice tA x.To.length tc, .slice kA x.Keys.length kc])
    (o2 : wr.ownsRow base 3 1 (.slice kA x.Keys.length kc) x.Keys.length (x.Keys.map (Value.int .i64)))
    (hg2 : wr.grownBy w2 (some g)) (hgrow : (w2.alloc o).grownBy w3 (Value.slice kA x.Keys.length kc).ownBlock) :
    Blk w3 h 26 #[.int .i64 x.At, .int .i64 x.Op, .int .i64 x.N, .int .i64 x.M, .slice tA x.To.length tc, .slice kA x.Keys.length kc] := by
  have hb2 := (hb.grown hg2 (fun e => hb.ne_ hr.blk.choose_spec (by decide) (Option.some.inj e))).alloc o
  have ho2 := ((o2.kept hg2 (own_ne o2 (rowOf_blk (base := 0) hr.blk.choose_spec (Nat.zero_le _)) (by decide))).alloc o)
  exact hb2.grown hgrow (fun e => by
    obtain ⟨_, cs, hc⟩ := rowOf_own ho2 h e.symm
    exact hb2.ne_ hc (by decide) rfl)
theorem keys_step {w0 wr w2 w3 : World} {base g h : Nat} {x : Ins} {l l2 : List Int} {s s2 : Bool} {tA kA : Option Addr} {tc kc : Nat} {o : Obj} (hh : base ≤ h) (hg : base ≤ g)
    (hr : RdAt wr base g x.At l s)
    (hb : Blk wr h 26 #[.int .i64 x.At, .int .i64 x.Op, .int .i64 x.N, .int .i64 x.M, .slice tA x.To.length tc, .slice kA x.Keys.length kc])
    (o1 : wr.ownsRow base 3 1 (.slice tA x.To.length tc) x.To.length (x.To.map (Value.int .i64))) (o2 : wr.ownsRow base 3 1 (.slice kA x.Keys.length kc) x.Keys.length (x.Keys.map (Value.int .i64)))
    (o3 : (Value.slice tA x.To.length tc).ownBlock = none ∨ (Value.slice tA x.To.length tc).ownBlock ≠ (Value.slice kA x.Keys.length kc).ownBlock)
    (hbel : Below base w0 wr) (hr2 : RdAt w2 base g x.At l2 s2) (hg2 : wr.grownBy w2 (some g)) (y : Int) (g3 cap : Nat)
    (hown : w3.ownsRow base 3 1 (.slice (some ⟨g3, 0, none⟩) (x.Keys.length + 1) cap) (x.Keys.length + 1) (x.Keys.map (Value.int .i64) ++ [.int .i64 y]))
    (hgrow : (w2.alloc o).grownBy w3 (Value.slice kA x.Keys.length kc).ownBlock) (hat : (Value.slice kA x.Keys.length kc).ownBlock = some g3 ∨ g3 = w2.heap.size + 1) :
    RdAt (w3.setCell ⟨h, 5, none⟩ (.slice (some ⟨g3, 0, none⟩) (x.Keys.length + 1) cap)) base g x.At l2 s2 ∧
    InsAt (w3.setCell ⟨h, 5, none⟩ (.slice (some ⟨g3, 0, none⟩) (x.Keys.length + 1) cap)) base h { x with Keys := x.Keys ++ [y] } ∧
    Below base w0 (w3.setCell ⟨h, 5, none⟩ (.slice (some ⟨g3, 0, none⟩) (x.Keys.length + 1) cap)) := by
  have hrow := rowOf_blk (base := 0) hr.blk.choose_spec (Nat.zero_le _)
  have hb2 := (hb.grown hg2 (fun e => hb.ne_ hr.blk.choose_spec (by decide) (Option.some.inj e))).alloc o
  have p1 := (o1.kept hg2 (own_ne o1 hrow (by decide))).alloc o
  have p2 := (o2.kept hg2 (own_ne o2 hrow (by decide))).alloc o
  have hb3 := keys_blk hr hb o2 hg2 hgrow
  have hlt := hb.lt
  have hle : wr.heap.size ≤ w2.heap.size := hg2.size
  have hrw := rowOf_own p2
  have hr3 : RdAt w3 base g x.At l2 s2 := (hr2.below ((Below.refl _ _).alloc (Nat.le_refl _) o)).grown hrw (by decide) (by decide) hgrow
  refine ⟨hr3.grown (rowOf_blk hb3 hh) (by decide) (by decide) (grownBy_one _ _ _ _), InsAt.key hb2 p1 p2 o3 y g3 cap hown hgrow (by simpa using hat), ?_⟩
  have b1 : Below base w0 w2 := hbel.trans (below_row (rowOf_blk hr.blk.choose_spec hg) hg2 (by omega))
  have b2 : Below base w0 (w2.alloc o) := b1.alloc (by omega) o
  have b3 : Below base w0 w3 := b2.grown hgrow (by simp; omega) (fun k hk => (hrw k hk).1)
  exact b3.setCell hh _
end Go.Proofs.YtjmfdmipdglccaaDoor
