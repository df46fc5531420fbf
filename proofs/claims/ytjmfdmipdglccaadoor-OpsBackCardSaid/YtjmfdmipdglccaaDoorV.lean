/- Words of our own for memory: a slice whose cells are known, nil let in; an append onto a row of the call's own. -/
import Derived.Below
import Derived.Laws.OwnMore
import Derived.Deep.Draws
import Derived.Laws.Rows
import Derived.Maps.AppendAt
import Derived.OwnWalk
import Derived.WalkKit
namespace Go.Proofs.YtjmfdmipdglccaaDoor
open Go.RowKit

theorem add_block (a : Addr) (n : Nat) : (a.add n).block = a.block := by unfold Addr.add; split <;> rfl
theorem add_add' (a : Addr) (i j : Nat) : (a.add i).add j = a.add (i + j) := by
  unfold Addr.add
  by_cases hi : i = 0 <;> by_cases hj : j = 0 <;> simp [hi, hj, Nat.add_assoc]
theorem add_flat (g j : Nat) : (⟨g, 0, none⟩ : Addr).add j = ⟨g, j, none⟩ := by unfold Addr.add; split <;> simp_all
theorem cell_kept {w w' : World} (hb : Below w.heap.size w w') {a : Addr} {v : Value} (h : w.cell? a = some v) : w'.cell? a = some v :=
  (hb.cell (World.block_lt_of_cell? w a h)).trans h

/-- A slice value's cells: n elements of 'size' cells each. -/
def Cells (w : World) (A : Option Addr) (n size : Nat) (vs : List Value) : Prop :=
  vs.length = n * size ∧ (0 < n → ∃ ad, A = some ad ∧ ∀ j u, vs[j]? = some u → w.cell? (ad.add j) = some u)
theorem Cells.below {w w' : World} {A : Option Addr} {n size : Nat} {vs : List Value} (h : Cells w A n size vs) (hb : Below w.heap.size w w') : Cells w' A n size vs :=
  ⟨h.1, fun hn => by
    obtain ⟨ad, e, hc⟩ := h.2 hn
    exact ⟨ad, e, fun j u hu => cell_kept hb (hc j u hu)⟩⟩
theorem Cells.nil_ (w : World) (size : Nat) : Cells w none 0 size [] := ⟨by simp, fun h => absurd h (by omega)⟩
theorem Cells.drop {w : World} {A : Option Addr} {n size : Nat} {vs : List Value} (h : Cells w A n size vs) (k : Nat) (hk : k ≤ n) (A' : Option Addr)
    (hA : k < n → A' = A.map (·.add (k * size))) : Cells w A' (n - k) size (vs.drop (k * size)) := by
  refine ⟨by rw [List.length_drop, h.1, Nat.sub_mul], fun hn => ?_⟩
  obtain ⟨ad, rfl, hc⟩ := h.2 (by omega)
  refine ⟨ad.add (k * size), by rw [hA (by omega)]; rfl, fun j u hu => ?_⟩
  rw [add_add']
  exact hc _ u (by rw [← hu, List.getElem?_drop])
theorem Cells.take {w : World} {A : Option Addr} {n size : Nat} {vs : List Value} (h : Cells w A n size vs) (k : Nat) (hk : k ≤ n) (A' : Option Addr)
    (hA : 0 < k → A' = A) : Cells w A' k size (vs.take (k * size)) := by
  refine ⟨by rw [List.length_take, h.1]; exact Nat.min_eq_left (Nat.mul_le_mul_right _ hk), fun hn => ?_⟩
  obtain ⟨ad, rfl, hc⟩ := h.2 (by omega)
  refine ⟨ad, hA hn, fun j u hu => hc j u ?_⟩
  rw [List.getElem?_take] at hu
  split at hu
  · exact hu
  · cases hu
theorem Cells.of_own {w : World} {base : Nat} {e : TypeId} {size n c : Nat} {A : Option Addr} {vs : List Value} (h : w.ownsRow base e size (.slice A n c) n vs) : Cells w A n size vs := by
  refine ⟨h.1, fun hn => ?_⟩
  rcases h.2 with ⟨hv, h0⟩ | ⟨g, cap, cur, hv, _⟩
  · omega
  · have hA : A = some ⟨g, 0, none⟩ := by injection hv
    subst hA
    exact ⟨_, rfl, h.cells (g := g) rfl⟩

/-- A slice of whole numbers of kind k that reads as xs. -/
def Nums (k : IntKind) (w : World) (A : Option Addr) (n c : Nat) (xs : List Int) : Prop :=
  Cells w A n 1 (xs.map (Value.int k)) ∧ n ≤ c ∧ c ≤ maxLen
theorem Nums.len {k : IntKind} {w : World} {A : Option Addr} {n c : Nat} {xs : List Int} (h : Nums k w A n c xs) : xs.length = n := by
  have := h.1.1; simpa using this
theorem Nums.below {k : IntKind} {w w' : World} {A : Option Addr} {n c : Nat} {xs : List Int} (h : Nums k w A n c xs) (hb : Below w.heap.size w w') : Nums k w' A n c xs :=
  ⟨h.1.below hb, h.2⟩
theorem Nums.nil_ (k : IntKind) (w : World) : Nums k w none 0 0 [] := ⟨Cells.nil_ w 1, Nat.le_refl _, by unfold maxLen; omega⟩
theorem Nums.at_ {k : IntKind} {w : World} {A : Option Addr} {n c : Nat} {xs : List Int} (h : Nums k w A n c xs) (j : Nat) (hj : j < n) :
    ∃ ad, A = some ad ∧ w.cell? (ad.add j) = some (.int k (xs.getD j 0)) := by
  obtain ⟨ad, e, hc⟩ := h.1.2 (by omega)
  have hl := h.len
  exact ⟨ad, e, hc j _ (by simp [List.getD, show j < xs.length by omega])⟩
/-- One address for all the cells. -/
theorem Nums.all_ {k : IntKind} {w : World} {A : Option Addr} {n c : Nat} {xs : List Int} (h : Nums k w A n c xs) (hn : 0 < n) :
    ∃ ad, A = some ad ∧ ∀ j, j < n → w.cell? (ad.add j) = some (.int k (xs.getD j 0)) := by
  obtain ⟨ad, e, hc⟩ := h.1.2 hn
  have hl := h.len
  exact ⟨ad, e, fun j hj => hc j _ (by simp [List.getD, show j < xs.length by omega])⟩
theorem Nums.drop {k : IntKind} {w : World} {A : Option Addr} {n c : Nat} {xs : List Int} (h : Nums k w A n c xs) (i : Nat) (hi : i ≤ n) (A' : Option Addr)
    (hA : i < n → A' = A.map (·.add i)) : Nums k w A' (n - i) (c - i) (xs.drop i) := by
  refine ⟨?_, by have := h.2.1; omega, by have := h.2.2; omega⟩
  have := h.1.drop i hi A' (fun h' => by rw [hA h', Nat.mul_one])
  rwa [Nat.mul_one, ← List.map_drop] at this
theorem Nums.take {k : IntKind} {w : World} {A : Option Addr} {n c : Nat} {xs : List Int} (h : Nums k w A n c xs) (i : Nat) (hi : i ≤ n) (A' : Option Addr)
    (hA : 0 < i → A' = A) : Nums k w A' i c (xs.take i) := by
  refine ⟨?_, by have := h.2.1; omega, h.2.2⟩
  have := h.1.take i hi A' hA
  rwa [Nat.mul_one, ← List.map_take] at this
theorem Nums.of_own {k : IntKind} {w : World} {base : Nat} {e : TypeId} {n c : Nat} {A : Option Addr} {xs : List Int} (h : w.ownsRow base e 1 (.slice A n c) n (xs.map (Value.int k))) : Nums k w A n c xs := by
  refine ⟨Cells.of_own h, ?_⟩
  rcases h.2 with ⟨hv, h0⟩ | ⟨g, cap, cur, hv, _, _, h1, h2, _⟩
  · injection hv with _ _ h3
    subst h0; subst h3
    exact ⟨Nat.le_refl _, by unfold maxLen; omega⟩
  · injection hv with _ _ h3
    subst h3
    exact ⟨h1, h2⟩
theorem Nums.none_len {k : IntKind} {w : World} {n c : Nat} {xs : List Int} (h : Nums k w none n c xs) : n = 0 := by
  rcases Nat.eq_zero_or_pos n with h0 | h0
  · exact h0
  · obtain ⟨ad, e, _⟩ := h.1.2 h0
    cases e

/-- What an owned row's value looks like. -/
theorem own_form {w : World} {base : Nat} {e : TypeId} {size n : Nat} {v : Value} {vs : List Value} (h : w.ownsRow base e size v n vs) : ∃ A c, v = .slice A n c := by
  rcases h.2 with ⟨rfl, rfl⟩ | ⟨g, cap, cur, rfl, _⟩
  · exact ⟨_, _, rfl⟩
  · exact ⟨_, _, rfl⟩
theorem own_blk {w : World} {base : Nat} {e : TypeId} {size n : Nat} {v : Value} {vs : List Value} (h : w.ownsRow base e size v n vs) {k : Nat} (hk : v.ownBlock = some k) : base ≤ k ∧ k < w.heap.size := h.lt k hk
theorem below_grown {B : Nat} {w w1 w2 : World} (h : Below B w w1) {row : Option Nat} (hg : w1.grownBy w2 row) (hB : B ≤ w1.heap.size) (hr : ∀ k, row = some k → B ≤ k) : Below B w w2 := h.grown hg hB hr
theorem below_alloc' {w W : World} (h : Below w.heap.size w W) (o : Obj) : Below w.heap.size w (W.alloc o) := h.alloc h.size o
theorem below_then {B : Nat} {w w1 w2 : World} (h : Below B w w1) (hB : B ≤ w1.heap.size) (k : Below w1.heap.size w1 w2) : Below B w w2 := h.trans (k.mono hB)

/-- 'append(s, x...)' onto an owned row, the source nil, empty or not; elements of 'size' cells. -/
theorem run_append_cells {P : Program} (w : World) (base : Nat) (t ty e : TypeId) (i : TypeInfo) (z : Value) (size bytes : Nat) (ht : P.underlying t = some (.slice e)) (hi : P.info? e = some i) (hz : i.zero = some z)
    (hsize : i.size = size) (hby : i.bytes = bytes) (hzs : z.cells.size = size) (hsz : 0 < size)
    (v : Value) (n : Nat) (xs : List Value) (hown : w.ownsRow base e size v n xs) (A : Option Addr) (m c : Nat) (news : List Value) (hr : Cells w A m size news) (h1 : ∀ u ∈ news, u.oneCell' = true)
    (h63 : n + m ≤ maxLen) (hbytes : (n + m) * bytes ≤ 140737488355328) (hbase : base ≤ w.heap.size) :
    ∃ v' w', (Builtin.append_ #[t, t] ty #[v, .slice A m c]).run P w = .ok v' w' ∧ w'.ownsRow base e size v' (n + m) (xs ++ news) ∧ w.grownBy w' v.ownBlock ∧
      (v'.ownBlock = v.ownBlock ∨ v'.ownBlock = some w.heap.size) := by
  rcases A with _ | ad
  · have hm : m = 0 := by
      rcases Nat.eq_zero_or_pos m with h0 | h0
      · exact h0
      · obtain ⟨ad, h, _⟩ := hr.2 h0
        cases h
    subst hm
    have hn : news = [] := List.eq_nil_of_length_eq_zero (by simpa using hr.1)
    subst hn
    refine ⟨v, w, ?_, by simpa using hown, World.grownBy.refl w _, .inl rfl⟩
    rcases hown.2 with ⟨rfl, rfl⟩ | ⟨g, cap, cur, rfl, _, _, hnc, _⟩
    · simp [Builtin.append_, run_underlying ht, sizeOf, typeInfo, hi, Builtin.lenOf, Builtin.firstCells]
    · simp [Builtin.append_, run_underlying ht, sizeOf, typeInfo, hi, Builtin.lenOf, Builtin.firstCells, hnc, storeCells]
  · have hcells : ∀ j u, news[j]? = some u → w.cell? (ad.add j) = some u := by
      intro j u hu
      rcases Nat.eq_zero_or_pos m with h0 | h0
      · subst h0
        have hn : news = [] := List.eq_nil_of_length_eq_zero (by simpa using hr.1)
        subst hn
        simp at hu
      · obtain ⟨ad', h, hc⟩ := hr.2 h0
        injection h with h
        subst h
        exact hc j u hu
    obtain ⟨v', w', hrun, h2, h3, _, h5⟩ := run_append_own_at (P := P) w base t ty e i z size bytes ht hi hz hsize hby hzs hsz v n xs hown ad m c news hr.1 hcells h1 h63 hbytes hbase
    exact ⟨v', w', hrun, h2, h3, h5⟩
theorem wpList_append_cells {P : Program} (w : World) {ops : Array Oper} {rest : List Oper} {o : Oper} {a : Act} {Q : Exit → Act → World → Prop} (hgd : o.guard = none) (s x : Operand) (t : TypeId)
    (ho : o.op = .call { callee := .builtin .append, args := #[s, x], argTypes := #[t, t] })
    (base : Nat) (e : TypeId) (i : TypeInfo) (z : Value) (size bytes : Nat) (ht : P.underlying t = some (.slice e)) (hi : P.info? e = some i) (hz : i.zero = some z)
    (hsize : i.size = size) (hby : i.bytes = bytes) (hzs : z.cells.size = size) (hsz : 0 < size)
    (v : Value) (n : Nat) (xs : List Value) (hs : a.eval s = v) (hown : w.ownsRow base e size v n xs)
    (A : Option Addr) (m c : Nat) (news : List Value) (hx : a.eval x = .slice A m c) (hr : Cells w A m size news) (h1 : ∀ u ∈ news, u.oneCell' = true)
    (h63 : n + m ≤ maxLen) (hbytes : (n + m) * bytes ≤ 140737488355328) (hbase : base ≤ w.heap.size)
    (h : ∀ A' c' w', w'.ownsRow base e size (.slice A' (n + m) c') (n + m) (xs ++ news) → w.grownBy w' v.ownBlock → ((Value.slice A' (n + m) c').ownBlock = v.ownBlock ∨ (Value.slice A' (n + m) c').ownBlock = some w.heap.size) → wpList P ops Q rest (a.put o.dst (.slice A' (n + m) c')) w') : wpList P ops Q (o :: rest) a w := by
  refine wpList_plain hgd fun K hK => ?_
  obtain ⟨v', w', hrun, h2, h3, h4⟩ := run_append_cells (P := P) w base t o.type e i z size bytes ht hi hz hsize hby hzs hsz v n xs hown A m c news hr h1 h63 hbytes hbase
  obtain ⟨A', c', rfl⟩ := own_form h2
  unfold Oper.wp execOp
  simp only [ho, resolve, invoke, builtin, Sem.run_bind, Sem.run_pure, Result.andThen_ok, List.map_toArray, List.map_cons, List.map_nil, hs, hx, hrun]
  exact hK _ _ (h A' c' w' h2 h3 h4)

/-- 's[i:]': the address under a name of its own. -/
theorem cut_low {P : Program} {t e : TypeId} {i0 : TypeInfo} (ht : P.underlying t = some (.slice e)) (hi : P.info? e = some i0) (A : Option Addr) (n c i : Nat) (k : IntKind) (I : Int) (hI : I = (i : Int)) (h : i ≤ n) :
    ∃ A', (∀ W : World, (Instr.slice t (.slice A n c) (some (.int k I)) none none).run P W = .ok (.slice A' (n - i) (c - i)) W) ∧ (i < n → n ≤ c → A' = A.map (·.add (i * i0.size))) := by
  subst hI
  have hel : P.elem t = e := by simp [Program.elem, ht]
  refine ⟨if c = i then A else A.map (·.add (i * i0.size)), fun W => ?_, fun h1 h2 => by rw [if_neg (by omega)]⟩
  rw [run_slice_l W t A n c (by rw [hel]; exact ht) k i (by omega) (by omega), hel]
  simp [sizeOf, typeInfo, hi, sliced]

/-! ### A block that is known whole -/
def Blk (w : World) (g : Nat) (t : TypeId) (cs : Array Value) : Prop := w.heap[g]? = some (.cells cs t (0, 0))
section
variable {w w' : World} {g : Nat} {t : TypeId} {cs : Array Value}
theorem Blk.lt (h : Blk w g t cs) : g < w.heap.size := (Array.getElem?_eq_some_iff.1 h).1
theorem Blk.cell (h : Blk w g t cs) (i : Nat) : w.cell? ⟨g, i, none⟩ = cs[i]? := by unfold Blk at h; simp [World.cell?, h]
theorem Blk.frozen (h : Blk w g t cs) (i : Nat) : w.frozen? ⟨g, i, none⟩ = false := by unfold Blk at h; simp [World.frozen?, h]
theorem Blk.new (w : World) (t : TypeId) (cs : Array Value) : Blk (w.alloc (.cells cs t)) w.heap.size t cs := heap_alloc_new w _
theorem Blk.alloc (h : Blk w g t cs) (o : Obj) : Blk (w.alloc o) g t cs := (Below.heap_alloc w o g h.lt).trans h
theorem Blk.drew (h : Blk w g t cs) : Blk w.drew g t cs := h
theorem Blk.drewN (h : Blk w g t cs) (n : Nat) : Blk (w.drewN n) g t cs := h
theorem Blk.set_ (h : Blk w g t cs) (i : Nat) (u : Value) : Blk (w.setCell ⟨g, i, none⟩ u) g t (cs.setIfInBounds i u) := by
  unfold Blk at h ⊢
  simp [World.setCell, Array.getElem?_modify, h]
theorem Blk.far (h : Blk w g t cs) {p : Addr} (hp : g ≠ p.block) (u : Value) : Blk (w.setCell p u) g t cs := (Below.heap_setCell w p u g hp).trans h
theorem Blk.below {B : Nat} (h : Blk w g t cs) (hb : Below B w w') (hg : g < B) : Blk w' g t cs := (hb.block g hg).trans h
theorem Blk.below' (h : Blk w g t cs) (hb : Below w.heap.size w w') : Blk w' g t cs := h.below hb h.lt
theorem Blk.grown {row : Option Nat} (h : Blk w g t cs) (hb : w.grownBy w' row) (hg : some g ≠ row) : Blk w' g t cs := (hb.block g h.lt hg).trans h
theorem Blk.ne_ {g' : Nat} {t' : TypeId} {cs' : Array Value} (h : Blk w g t cs) (h' : Blk w g' t' cs') (hne : t ≠ t') : g ≠ g' := by
  rintro rfl
  unfold Blk at h h'
  rw [h] at h'
  injection h' with h'
  injection h' with _ ht
  exact hne ht
end
/-- Only block g has turned, and what is new. -/
theorem grownBy_of_below {w w' : World} (h : Below w.heap.size w w') (row : Option Nat) : w.grownBy w' row := ⟨h.os, h.tape, h.output, h.size, fun i hi _ => h.block i hi⟩
theorem grownBy_set {a w : World} {g : Nat} (h : a.grownBy w (some g)) (i : Nat) (u : Value) : a.grownBy (w.setCell ⟨g, i, none⟩ u) (some g) :=
  ⟨h.os, h.tape, h.output, by simpa [World.setCell] using h.size, fun k hk hne => (Below.heap_setCell w _ u k (fun e => hne (by rw [e]))).trans (h.block k hk hne)⟩
theorem grownBy_trans {a b c : World} {g : Nat} (h : a.grownBy b (some g)) (k : b.grownBy c (some g)) : a.grownBy c (some g) :=
  ⟨k.os.trans h.os, k.tape.trans h.tape, k.output.trans h.output, Nat.le_trans h.size k.size, fun i hi hne => (k.block i (Nat.lt_of_lt_of_le hi h.size) hne).trans (h.block i hi hne)⟩
theorem grownBy_below {a b c : World} {g : Nat} (h : a.grownBy b (some g)) (k : Below b.heap.size b c) : a.grownBy c (some g) := grownBy_trans h (grownBy_of_below k _)
theorem grownBy_drew {a b : World} {row : Option Nat} (h : a.grownBy b row) : a.grownBy b.drew row := ⟨h.os, h.tape, h.output, h.size, h.block⟩
theorem grownBy_drewN {a b : World} {row : Option Nat} (h : a.grownBy b row) (n : Nat) : a.grownBy (b.drewN n) row := ⟨h.os, h.tape, h.output, h.size, h.block⟩
theorem grownBy_alloc' {a b : World} {row : Option Nat} (h : a.grownBy b row) (o : Obj) : a.grownBy (b.alloc o) row :=
  ⟨h.os, h.tape, h.output, Nat.le_trans h.size (by simp), fun k hk hne => (Below.heap_alloc b o k (Nat.lt_of_lt_of_le hk h.size)).trans (h.block k hk hne)⟩
theorem below_drewN {B : Nat} {a w : World} (h : Below B a w) (n : Nat) : Below B a (w.drewN n) := ⟨h.os, h.tape, h.output, h.size, h.block⟩
theorem Cells.set_far {w : World} {A : Option Addr} {n size : Nat} {vs : List Value} (h : Cells w A n size vs) (p : Addr) (hp : ∀ ad, A = some ad → 0 < n → ad.block ≠ p.block) (u : Value) : Cells (w.setCell p u) A n size vs :=
  ⟨h.1, fun hn => by
    obtain ⟨ad, e, hc⟩ := h.2 hn
    refine ⟨ad, e, fun j v hv => ?_⟩
    rw [World.cell?_of_block (Below.heap_setCell w p u _ (by rw [add_block]; exact hp ad e hn))]
    exact hc j v hv⟩
theorem Nums.set_far {k : IntKind} {w : World} {A : Option Addr} {n c : Nat} {xs : List Int} (h : Nums k w A n c xs) (p : Addr) (hp : ∀ ad, A = some ad → 0 < n → ad.block ≠ p.block) (u : Value) : Nums k (w.setCell p u) A n c xs :=
  ⟨h.1.set_far p hp u, h.2⟩
/-- A block without a number of that kind is another than the numbers'. -/
theorem Nums.ne_ {k : IntKind} {w : World} {A : Option Addr} {n c : Nat} {xs : List Int} (h : Nums k w A n c xs) {g : Nat} {t : TypeId} {cs : Array Value} (hb : Blk w g t cs) (hno : ∀ (j : Nat) (x : Int), cs[j]? ≠ some (.int k x)) :
    ∀ ad, A = some ad → 0 < n → ad.block ≠ g := by
  rintro ad rfl hn rfl
  obtain ⟨ad', e, hc⟩ := h.all_ hn
  obtain rfl := Option.some.inj e
  have h0 := hc 0 hn
  unfold Blk at hb
  simp only [World.cell?, add_block, hb] at h0
  split at h0
  · cases h0
  · exact hno _ _ h0
theorem Nums.grown {k : IntKind} {w w' : World} {A : Option Addr} {n c : Nat} {xs : List Int} (h : Nums k w A n c xs) {g : Nat} (hg : w.grownBy w' (some g)) (hne : ∀ ad, A = some ad → 0 < n → ad.block ≠ g) : Nums k w' A n c xs := by
  refine ⟨⟨h.1.1, fun hn => ?_⟩, h.2⟩
  obtain ⟨ad, e, hc⟩ := h.1.2 hn
  refine ⟨ad, e, fun j v hv => ?_⟩
  have hcell := hc j v hv
  rw [World.cell?_of_block (hg.block _ (World.block_lt_of_cell? w _ hcell) (fun e' => hne ad e hn (by rw [add_block] at e'; exact Option.some.inj e')))]
  exact hcell

/-! ### What type of block a slice lies in -/
def Typed (w : World) (t : TypeId) (A : Option Addr) (n : Nat) : Prop := ∀ ad, A = some ad → 0 < n → ∃ cs, Blk w ad.block t cs
theorem Typed.of_own {w : World} {base : Nat} {e : TypeId} {size n c : Nat} {A : Option Addr} {vs : List Value} (h : w.ownsRow base e size (.slice A n c) n vs) : Typed w e A n := by
  rintro ad rfl hn
  rcases h.2 with ⟨hv, h0⟩ | ⟨g, cap, cur, hv, _, hh, _⟩
  · omega
  · injection hv with hv
    injection hv with hv
    subst hv
    exact ⟨_, hh⟩
theorem Typed.below {w w' : World} {t : TypeId} {A : Option Addr} {n : Nat} (h : Typed w t A n) (hb : Below w.heap.size w w') : Typed w' t A n := fun ad e hn => by
  obtain ⟨cs, hc⟩ := h ad e hn
  exact ⟨cs, hc.below' hb⟩
theorem Typed.less {w : World} {t : TypeId} {A : Option Addr} {n m : Nat} (h : Typed w t A n) (hm : m ≤ n) : Typed w t A m := fun ad e hn => h ad e (by omega)
/-- Below a block number, or in a block of a type. -/
def Far (w : World) (base : Nat) (t : TypeId) (A : Option Addr) (n : Nat) : Prop := ∀ ad, A = some ad → 0 < n → ad.block < base ∨ ∃ cs, Blk w ad.block t cs
theorem Typed.far {w : World} {t : TypeId} {A : Option Addr} {n : Nat} (h : Typed w t A n) (base : Nat) : Far w base t A n := fun ad e hn => .inr (h ad e hn)
theorem Far.below {w w' : World} {base : Nat} {t : TypeId} {A : Option Addr} {n : Nat} (h : Far w base t A n) (hb : Below w.heap.size w w') : Far w' base t A n := fun ad e hn => by
  rcases h ad e hn with h | ⟨cs, hc⟩
  · exact .inl h
  · exact .inr ⟨cs, hc.below' hb⟩
theorem Far.set_ {w : World} {base : Nat} {t : TypeId} {A : Option Addr} {n : Nat} (h : Far w base t A n) (p : Addr) (hp : p.spot = none) (u : Value) : Far (w.setCell p u) base t A n := fun ad e hn => by
  rcases h ad e hn with h | ⟨cs, hc⟩
  · exact .inl h
  · by_cases he : ad.block = p.block
    · obtain ⟨b, o, s⟩ := p
      cases hp
      rw [he] at hc ⊢
      exact .inr ⟨_, hc.set_ o u⟩
    · exact .inr ⟨cs, hc.far he u⟩
theorem Far.grown {w w' : World} {base : Nat} {t : TypeId} {A : Option Addr} {n : Nat} (h : Far w base t A n) {g : Nat} (hg : w.grownBy w' (some g)) (hne : ∀ ad, A = some ad → 0 < n → ad.block ≠ g) : Far w' base t A n := fun ad e hn => by
  rcases h ad e hn with h | ⟨cs, hc⟩
  · exact .inl h
  · exact .inr ⟨cs, hc.grown hg (fun e' => hne ad e hn (Option.some.inj e'))⟩
/-- What lies so is in no block of another type from base on. -/
theorem Far.ne_ {w : World} {base : Nat} {t : TypeId} {A : Option Addr} {n : Nat} (h : Far w base t A n) {g : Nat} (hbase : base ≤ g) {t' : TypeId} {cs' : Array Value} (hg : Blk w g t' cs') (hne : t ≠ t') : ∀ ad, A = some ad → 0 < n → ad.block ≠ g := by
  intro ad e hn
  rcases h ad e hn with h | ⟨cs, hc⟩
  · omega
  · exact hc.ne_ hg hne
end Go.Proofs.YtjmfdmipdglccaaDoor
