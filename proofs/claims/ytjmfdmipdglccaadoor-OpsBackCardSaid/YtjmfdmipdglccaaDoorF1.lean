/- What a row's list of tables gives: the tables lie in memory as they were laid. -/
import Derived.Test.YtjmfdmipdglccaaDoorB1
import Derived.Deep.Strs
import Derived.Lib.LaidTab
namespace Go.Proofs.YtjmfdmipdglccaaDoor
open Go.RowKit

theorem flatAll_eq {H : Type} (ds : List (DataW H)) : flatAll ds = (ds.map flat).flatten := by
  induction ds with
  | nil => simp [flatAll]
  | cons d ds ih => simp [flatAll, ih]
theorem chunks_flat {H : Type} (n m : Nat) : ∀ (cs : List Value) (ys : List (DataW H)), cs.length = n * m → ys.length = n →
    (∀ (i : Nat) (y : DataW H), ys[i]? = some y → (cs.drop (i * m)).take m = flat y) → cs = (ys.map flat).flatten := by
  induction n with
  | zero =>
    intro cs ys hc hy _
    obtain rfl : cs = [] := List.eq_nil_of_length_eq_zero (by omega)
    obtain rfl : ys = [] := List.eq_nil_of_length_eq_zero hy
    rfl
  | succ n ih =>
    intro cs ys hc hy h
    match ys, hy with
    | y :: ys, hy =>
      have h0 := h 0 y rfl
      simp at h0
      have := ih (cs.drop m) ys (by rw [List.length_drop, hc, Nat.succ_mul]; omega) (by simpa using hy) (fun i z hz => by
        rw [List.drop_drop, ← h (i + 1) z (by simpa using hz), Nat.succ_mul, Nat.add_comm])
      simp only [List.map_cons, List.flatten_cons, ← this, ← h0]
      exact (List.take_append_drop m cs).symm
theorem cells88 : Tryd.prog.cellsOf 88 = 3 := by kernel_rfl
set_option maxRecDepth 100000 in
theorem entry_flat {H : Type} {enc : TypeId × Value → H} {w : World} {base : Nat} {sp : Nat → Bool} {held : Bool} {fuel : Nat} {cs : List Value} {x : DataW H × List MemPlace}
    (h : DataW.trod enc Tryd.prog w base sp held fuel 88 cs = some x) : cs = flat x.1 := by
  obtain ⟨y0, y1, y2, n, rfl, hl, h0, h1, h2⟩ := Go.Deep.trod_struct3 Tryd.underlying88 h
  obtain ⟨s, e0, rfl, _⟩ := DataW.trod_string Tryd.underlying9 h0
  obtain ⟨k, e1, rfl, _⟩ := DataW.trod_int Tryd.underlying3 h1
  obtain ⟨b, e2, rfl⟩ := DataW.trod_bool Tryd.underlying4 h2
  rw [cells88] at hl
  obtain ⟨a, b', c, rfl⟩ : ∃ a b' c, cs = [a, b', c] := by
    cases cs with
    | nil => simp at hl
    | cons a r =>
      cases r with
      | nil => simp at hl
      | cons b' r =>
        cases r with
        | nil => simp at hl
        | cons c r =>
          cases r with
          | nil => exact ⟨a, b', c, rfl⟩
          | cons d r => simp at hl
  have c9 : Tryd.prog.cellsOf 9 = 1 := by kernel_rfl
  have c3 : Tryd.prog.cellsOf 3 = 1 := by kernel_rfl
  have c4 : Tryd.prog.cellsOf 4 = 1 := by kernel_rfl
  have q0 : a = .string s := by
    have := congrArg (·[0]?) e0
    simpa [c9] using this
  have q1 : b' = .int .i64 k := by
    have := congrArg (·[0]?) e1
    simpa [c3] using this
  have q2 : c = .bool b := by
    have := congrArg (·[0]?) e2
    simpa [c4] using this
  subst q0 q1 q2
  simp [flat, flatAll]
theorem table_flat {H : Type} {enc : TypeId × Value → H} {w : World} {base : Nat} {sp : Nat → Bool} {held : Bool} {fuel t n : Nat} {cs : List Value} {x : DataW H × List MemPlace} (ht : Tryd.prog.underlying t = some (.array n 88)) (hct : Tryd.prog.cellsOf t = n * 3)
    (h : DataW.trod enc Tryd.prog w base sp held fuel t cs = some x) : cs = flat x.1 := by
  obtain ⟨xs, m, _, rfl, hl, hxl, hf⟩ := DataW.trod_array ht h
  rw [hct] at hl
  simp only [flat, flatAll_eq]
  refine chunks_flat n 3 cs (xs.map (·.1)) hl (by simpa using hxl) (fun i y hy => ?_)
  obtain ⟨z, hz, rfl⟩ := List.getElem?_map .. ▸ hy |> Option.map_eq_some_iff.1
  have hi : i < n := by
    have := (List.getElem?_eq_some_iff.1 hz).1
    omega
  have := hf i hi
  rw [cells88, hz] at this
  exact entry_flat this

theorem gTable : Tryd.prog.globalNamed "warpbeam/ops.table" = some 1 := by kernel_rfl
theorem gMore : Tryd.prog.globalNamed "warpbeam/ops.more" = some 0 := by kernel_rfl
theorem gTableT : (Tryd.prog.globals[1]?).map (·.type) = some 90 := by kernel_rfl
theorem gMoreT : (Tryd.prog.globals[0]?).map (·.type) = some 89 := by kernel_rfl
theorem tabs_of_laid {W : World} (h : laidMetH Tryd.prog Rows.opsNamedRow.laid W) : Tabs W := by
  obtain ⟨ps, ⟨g, t, cs, fuel, p, q, hg, ht, hvar, hd, ⟨g', t', cs', fuel', p', q', hg', ht', hvar', hd', _, _⟩, _⟩, _⟩ := h
  obtain rfl := Option.some.inj (gTable.symm.trans hg)
  obtain rfl := Option.some.inj (gTableT.symm.trans ht)
  obtain rfl := Option.some.inj (gMore.symm.trans hg')
  obtain rfl := Option.some.inj (gMoreT.symm.trans ht')
  have e1 := table_flat (n := 61) Tryd.underlying90 (by kernel_rfl) hd
  have e0 := table_flat (n := 90) Tryd.underlying89 (by kernel_rfl) hd'
  have hM : (flat (H := Unit) Rows.laid_warpbeam_ops_more).toArray = moreC := rfl
  have hT : (flat (H := Unit) Rows.laid_warpbeam_ops_table).toArray = tabC := rfl
  have look : ∀ (nm : String) (k : Nat) (c : Array Value), Tryd.prog.globalNamed nm = some k → W.var? Tryd.prog nm = some c → ∃ t fz, W.heap[k]? = some (.cells c t fz) := by
    intro nm k c h1 h2
    unfold World.var? at h2
    rw [h1, Option.bind_some] at h2
    split at h2
    · rename_i cs' t' fz' hh
      obtain rfl := Option.some.inj h2
      exact ⟨_, _, hh⟩
    · cases h2
  refine ⟨?_, ?_⟩
  · have := look _ _ _ gMore hvar'
    rw [← hM, ← e0]
    simpa using this
  · have := look _ _ _ gTable hvar
    rw [← hT, ← e1]
    simpa using this
end Go.Proofs.YtjmfdmipdglccaaDoor
