/- What arguments of bytes, numbers and instructions give; that they read as they did, behind a call that turns nothing. -/
import Derived.Test.YtjmfdmipdglccaaDoorF2
import Derived.Test.YtjmfdmipdglccaaDoorB3
import Derived.ReadAgain
import Derived.Lib.SmallJoins
namespace Go.Proofs.YtjmfdmipdglccaaDoor
open Go.ChangeShapes Go.WideShapes Go.ChangeAt Go.RowKit

theorem kids_ : Kids Tryd.prog (· < Tryd.prog.types.size) := kids_rows (by kernel_rfl) (by kernel_rfl)
theorem full_ : ∀ t e, t < Tryd.prog.types.size → Tryd.prog.underlying t = some (.slice e) → 0 < Tryd.prog.cellsOf e := slices_full_of Tryd.prog (by kernel_rfl)

section
variable {H : Type} {enc : TypeId × Value → H} {W W' : World}
theorem same_below (hb : Below W.heap.size W W') {p : MemPlace} (hp : p.block < W.heap.size) : W.sameAt W' p := by
  have h := hb.block p.block hp
  cases p with
  | cell b o => exact World.cell?_of_block h
  | map b => simpa [World.sameAt, MemPlace.block] using h
theorem trodAll_below {base : Nat} {sp : Nat → Bool} {held : Bool} (hb : Below W.heap.size W W') : ∀ {ts : List TypeId} {vs : List Value} {ds : List (DataW H)} {ps : List MemPlace}, (∀ p ∈ ps, p.block < W.heap.size) →
    DataW.TrodAll enc Tryd.prog W base sp held ts vs ds ps → DataW.TrodAll enc Tryd.prog W' base sp held ts vs ds ps
  | [], [], [], _, _, h => h
  | _ :: _, _ :: _, _ :: _, _, hl, ⟨p, q, ⟨n, h1⟩, h2, e⟩ =>
    ⟨p, q, ⟨n, DataW.trod_carry n _ _ _ h1 (fun x hx => same_below hb (hl x (by rw [e]; exact List.mem_append_left _ hx)))⟩, trodAll_below hb (fun x hx => hl x (by rw [e]; exact List.mem_append_right _ hx)) h2, e⟩
/-- The arguments read again as they did. -/
theorem args_again {ts : List TypeId} {vs : List Value} {ds : List (DataW H)} {ps : List MemPlace} (hb : Below W.heap.size W W') (ht : ∀ t ∈ ts, t < Tryd.prog.types.size) (h : DataW.TrodAll enc Tryd.prog W 0 (fun _ => true) true ts vs ds ps)
    (sp : Nat → Bool) (hs : ∀ p ∈ ps, sp p.block = true) : DataW.TrodAll enc Tryd.prog W' 0 sp true ts vs ds ps :=
  DataW.TrodAll.respare kids_ full_ ht (trodAll_below hb h.lt h) hs

/-- A list of numbers that came in. -/
theorem open_nums {t e : TypeId} {k : IntKind} {fuel : Nat} {v : Value} {x : DataW H × List MemPlace} (b : Nat) (ht : Tryd.prog.underlying t = some (.slice e)) (he : Tryd.prog.underlying e = some (.int k)) (hc : Tryd.prog.cellsOf e = 1) (hbb : Tryd.prog.bytesOf e = b)
    (h : DataW.trod enc Tryd.prog W 0 (fun _ => true) true fuel t [v] = some x) (hw : ∀ m ∈ x.1.weights Tryd.prog t, m ≤ reachBytes) :
    ∃ A n c xs, v = .slice A n c ∧ Nums k W A n c xs ∧ n * b ≤ reachBytes ∧ (∀ y ∈ xs, (Lit.int k y).wf = true) := by
  rcases open_ints ht he hc h with ⟨hcs, hx⟩ | ⟨a, len, cap, zs, hcs, _, hl, hm, hz, hx, hcell, hwz⟩
  · have hv : v = .slice none 0 0 := by simpa using hcs
    exact ⟨none, 0, 0, [], hv, Nums.nil_ k W, by rw [Nat.zero_mul]; exact Nat.zero_le _, fun y hy => by cases hy⟩
  · have hv : v = .slice (some a) len cap := by simpa using hcs
    simp only [if_true] at hz
    have hzl : (zs.take len).length = len := by rw [List.length_take]; omega
    refine ⟨some a, len, cap, zs.take len, hv, ⟨⟨by rw [List.length_map, hzl, Nat.mul_one], fun hn => ⟨a, rfl, fun j u hu => ?_⟩⟩, hl, hm⟩, ?_, fun y hy => hwz y (List.mem_of_mem_take hy)⟩
    · rw [List.getElem?_map] at hu
      obtain ⟨y, hy, rfl⟩ := Option.map_eq_some_iff.1 hu
      rw [List.getElem?_take] at hy
      split at hy
      · have hj : j < zs.length := (List.getElem?_eq_some_iff.1 hy).1
        rw [hcell j hj]
        simp [List.getD, hy]
      · cases hy
    · rw [hx] at hw
      have := hw ((zs.take len).length * b + (zs.drop len).length * b) (by
        simp only [DataW.weights, ht]
        refine List.mem_cons.2 (.inl ?_)
        simp only [lits, List.length_map, hbb]
        rw [Nat.add_mul])
      rw [hzl] at this
      omega
theorem wf_byt {xs : List Int} (h : ∀ y ∈ xs, (Lit.int .u8 y).wf = true) : Byt xs := fun y hy => by
  have := bounds_u8 (h y hy)
  omega
theorem reach_eq : reachBytes = 140737488351232 := rfl
set_option maxRecDepth 100000 in
theorem open_bytes {v : Value} {r : Reach} {b0 : Nat} {d : DataW H} {p : List MemPlace} (hval : Value.okWide Tryd.prog W r b0 22 v) (h : DataW.Trod enc Tryd.prog W 0 (fun _ => true) true 22 v d p) (hw : ∀ m ∈ d.weights Tryd.prog 22, m ≤ reachBytes) :
    ∃ A n c bs, v = .slice A n c ∧ Nums .u8 W A n c bs ∧ n ≤ 140737488351232 ∧ Byt bs := by
  obtain ⟨A, n, c, rfl⟩ := okWide_slice Tryd.underlying22 hval
  obtain ⟨fuel, hf⟩ := h
  obtain ⟨A', n', c', bs, hv, hN, hn, hB⟩ := open_nums 1 Tryd.underlying22 Tryd.underlying5 (by kernel_rfl) (by kernel_rfl) hf hw
  rw [reach_eq] at hn
  exact ⟨A', n', c', bs, hv, hN, by omega, wf_byt hB⟩

set_option maxRecDepth 100000 in
/-- An instruction that came in. -/
theorem open_ins {v : Value} {r : Reach} {b0 : Nat} {d : DataW H} {p : List MemPlace} (hval : Value.okWide Tryd.prog W r b0 26 v) (h : DataW.Trod enc Tryd.prog W 0 (fun _ => true) true 26 v d p) (hw : ∀ m ∈ d.weights Tryd.prog 26, m ≤ reachBytes) :
    ∃ x tA tc kA kc, v = insV x tA tc kA kc ∧ Lists W x tA tc kA kc ∧ (∀ y ∈ [x.At, x.Op, x.N, x.M], (Lit.int .i64 y).wf = true) ∧ (∀ y ∈ x.To, (Lit.int .i64 y).wf = true) ∧ (∀ y ∈ x.Keys, (Lit.int .i64 y).wf = true) := by
  have hs := Tryd.underlying26
  obtain ⟨cs, rfl, hsz⟩ := okWide_struct hs hval
  obtain ⟨l⟩ := cs
  have hC : Tryd.prog.cellsOf 26 = 6 := by kernel_rfl
  match l, hsz.trans hC with
  | [c0, c1, c2, c3, c4, c5], _ =>
    obtain ⟨fuel, hf⟩ := h
    obtain ⟨xs, n, _, hx, _, hlen, hg⟩ := DataW.trod_struct hs hf
    match xs, hlen with
    | [y0, y1, y2, y3, y4, y5], _ =>
      have k3 : Tryd.prog.cellsOf 3 = 1 := by kernel_rfl
      have k24 : Tryd.prog.cellsOf 24 = 1 := by kernel_rfl
      have g0 := hg 0 _ rfl
      have g1 := hg 1 _ rfl
      have g2 := hg 2 _ rfl
      have g3 := hg 3 _ rfl
      have g4 := hg 4 _ rfl
      have g5 := hg 5 _ rfl
      simp only [Value.cells] at g0 g1 g2 g3 g4 g5
      obtain ⟨a0, q0, rfl, w0⟩ := DataW.trod_int Tryd.underlying3 g0
      obtain ⟨a1, q1, rfl, w1⟩ := DataW.trod_int Tryd.underlying3 g1
      obtain ⟨a2, q2, rfl, w2⟩ := DataW.trod_int Tryd.underlying3 g2
      obtain ⟨a3, q3, rfl, w3⟩ := DataW.trod_int Tryd.underlying3 g3
      obtain rfl : c0 = .int .i64 a0 := by simpa [k3] using q0
      obtain rfl : c1 = .int .i64 a1 := by simpa [k3] using q1
      obtain rfl : c2 = .int .i64 a2 := by simpa [k3] using q2
      obtain rfl : c3 = .int .i64 a3 := by simpa [k3] using q3
      simp only [Prod.mk.injEq] at hx
      have hd := hx.1
      simp only [List.map_cons, List.map_nil] at hd
      rw [hd] at hw
      simp only [DataW.weights, hs, DataW.weightsEach, List.map_cons, List.map_nil, List.nil_append, List.append_nil] at hw
      have hw4 : ∀ m ∈ y4.1.weights Tryd.prog 24, m ≤ reachBytes := fun m hm => hw m (List.mem_append_left _ hm)
      have hw5 : ∀ m ∈ y5.1.weights Tryd.prog 24, m ≤ reachBytes := fun m hm => hw m (List.mem_append_right _ hm)
      have b8 : Tryd.prog.bytesOf 3 = 8 := by kernel_rfl
      obtain ⟨tA, tn, tc, T, rfl, hT, ht, hTw⟩ := open_nums 8 Tryd.underlying24 Tryd.underlying3 k3 b8 g4 hw4
      obtain ⟨kA, kn, kc, K, rfl, hK, hk, hKw⟩ := open_nums 8 Tryd.underlying24 Tryd.underlying3 k3 b8 g5 hw5
      rw [reach_eq] at ht hk
      have e1 := hT.len
      have e2 := hK.len
      subst e1 e2
      refine ⟨⟨a0, a1, a2, a3, T, K⟩, tA, tc, kA, kc, rfl, ⟨hT, hK, by show T.length ≤ _; omega, by show K.length ≤ _; omega⟩, ?_, hTw, hKw⟩
      intro y hy
      simp only [List.mem_cons, List.not_mem_nil, or_false] at hy
      rcases hy with rfl | rfl | rfl | rfl
      · exact w0
      · exact w1
      · exact w2
      · exact w3
end
end Go.Proofs.YtjmfdmipdglccaaDoor
