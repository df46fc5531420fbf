/- Plain facts that the walks of the encoders use. -/
import Derived.Test.YtjmfdmipdglccaaDoorL2
namespace Go.Proofs.YtjmfdmipdglccaaDoor

theorem put_at (n : Int) : ∀ (size j : Nat), j < size → (put n size).getD j 0 = n / 256 ^ (size - 1 - j) % 256 := by
  intro size
  induction size with
  | zero => intro j h; omega
  | succ size ih =>
    intro j h
    cases j with
    | zero => simp [put]
    | succ j =>
      have := ih j (by omega)
      simp only [put, List.getD_cons_succ]
      rw [this]
      congr 2
      have e : size - 1 - j = size + 1 - 1 - (j + 1) := by omega
      rw [e]
theorem take_snoc_getD (xs : List Int) (k : Nat) (h : k < xs.length) : xs.take (k + 1) = xs.take k ++ [xs.getD k 0] := by
  rw [List.take_succ_eq_append_getElem h]
  simp [List.getD, h]
theorem put_take_succ (n : Int) (size j : Nat) (h : j < size) : (put n size).take (j + 1) = (put n size).take j ++ [n / 256 ^ (size - 1 - j) % 256] := by
  rw [take_snoc_getD _ _ (by rw [put_len]; exact h), put_at n size j h]
theorem flat_take_succ (f : Int → List Int) (ts : List Int) (k : Nat) (h : k < ts.length) : (ts.take (k + 1)).flatMap f = (ts.take k).flatMap f ++ f (ts.getD k 0) := by
  rw [take_snoc_getD ts k h, List.flatMap_append]
  simp
theorem encKeys_snoc (at_ : Int) (k t : Int) : ∀ ks ts : List Int, ks.length = ts.length → encKeys at_ (ks ++ [k]) (ts ++ [t]) = encKeys at_ ks ts ++ (put k 4 ++ put (t - at_) 2) := by
  intro ks
  induction ks with
  | nil =>
    intro ts h
    obtain rfl : ts = [] := List.eq_nil_of_length_eq_zero h.symm
    simp [encKeys]
  | cons a ks ih =>
    intro ts h
    match ts, h with
    | b :: ts, h =>
      simp only [List.cons_append, encKeys]
      rw [ih ts (by simpa using h)]
      simp only [List.append_assoc]
theorem encKeys_take_succ (at_ : Int) (ks ts : List Int) (i : Nat) (h : i < ks.length) (h2 : i < ts.length) :
    encKeys at_ (ks.take (i + 1)) (ts.take (i + 1)) = encKeys at_ (ks.take i) (ts.take i) ++ (put (ks.getD i 0) 4 ++ put (ts.getD i 0 - at_) 2) := by
  rw [take_snoc_getD ks i h, take_snoc_getD ts i h2]
  exact encKeys_snoc _ _ _ _ _ (by rw [List.length_take, List.length_take]; omega)
theorem flat_len (at_ : Int) (ts : List Int) : (ts.flatMap fun t => put (t - at_) 2).length = 2 * ts.length := by
  induction ts with
  | nil => rfl
  | cons t ts ih => rw [List.flatMap_cons, List.length_append, put_len, ih, List.length_cons]; omega
theorem encKeys_len (at_ : Int) : ∀ ks ts : List Int, (encKeys at_ ks ts).length ≤ 6 * ks.length
  | [], _ => by simp [encKeys]
  | _ :: _, [] => by simp [encKeys]
  | k :: ks, t :: ts => by
    have := encKeys_len at_ ks ts
    simp only [encKeys, List.length_append, put_len, List.length_cons]
    omega
theorem byt_append {xs ys : List Int} (h1 : Byt xs) (h2 : Byt ys) : Byt (xs ++ ys) := fun x hx => by
  rcases List.mem_append.1 hx with h | h
  · exact h1 x h
  · exact h2 x h
theorem flat_byt (at_ : Int) (ts : List Int) : Byt (ts.flatMap fun t => put (t - at_) 2) := by
  intro x hx
  obtain ⟨t, _, h⟩ := List.mem_flatMap.1 hx
  exact put_byt _ _ x h
theorem encKeys_byt (at_ : Int) : ∀ ks ts : List Int, Byt (encKeys at_ ks ts)
  | [], _ => fun x hx => by simp [encKeys] at hx
  | _ :: _, [] => fun x hx => by simp [encKeys] at hx
  | k :: ks, t :: ts => by
    rw [encKeys]
    exact byt_append (byt_append (put_byt _ _) (put_byt _ _)) (encKeys_byt at_ ks ts)
theorem encB_byt (x : Ins) : Byt (encB x) := by
  intro y hy
  rw [encB] at hy
  rcases List.mem_cons.1 hy with rfl | hy
  · omega
  · have : Byt (if shp x.Op = 1 then put x.N 1
      else if shp x.Op = 2 ∨ shp x.Op = 3 then put x.N 2
      else if shp x.Op = 4 then put (x.To.getD 0 0 - x.At) 2
      else if shp x.Op = 5 then put x.N 1 ++ put x.M 1
      else if shp x.Op = 6 then put (x.To.getD 0 0 - x.At) 2 ++ put x.N 4 ++ put ((x.To.length : Int) - 1) 2 ++ (x.To.drop 1).flatMap fun t => put (t - x.At) 2
      else if shp x.Op = 7 then put (x.To.getD 0 0 - x.At) 2 ++ put x.Keys.length 2 ++ encKeys x.At x.Keys (x.To.drop 1)
      else []) := by
      split
      · exact put_byt _ _
      split
      · exact put_byt _ _
      split
      · exact put_byt _ _
      split
      · exact byt_append (put_byt _ _) (put_byt _ _)
      split
      · exact byt_append (byt_append (byt_append (put_byt _ _) (put_byt _ _)) (put_byt _ _)) (flat_byt _ _)
      split
      · exact byt_append (byt_append (put_byt _ _) (put_byt _ _)) (encKeys_byt _ _ _)
      · intro x hx; cases hx
    exact this y hy
theorem encB_len (x : Ins) (h : mayB x = true) : 1 ≤ (encB x).length ∧ (encB x).length ≤ 7000 := by
  obtain ⟨_, _, hw, _, _⟩ := may_iff.1 h
  have h1 := flat_len x.At (x.To.drop 1)
  have h2 := encKeys_len x.At x.Keys (x.To.drop 1)
  rw [List.length_drop] at h1
  unfold waysB at hw
  unfold encB
  rw [List.length_cons]
  rcases shp_cases x.Op with hs | hs | hs | hs | hs | hs | hs | hs
  all_goals
    simp only [hs, Int.reduceEq, if_false, if_true, or_self, true_or, or_true, decide_eq_true_eq, List.length_append, put_len, List.length_nil, h1] at hw ⊢
    omega
end Go.Proofs.YtjmfdmipdglccaaDoor
