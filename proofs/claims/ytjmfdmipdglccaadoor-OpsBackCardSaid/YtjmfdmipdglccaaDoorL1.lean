/- Plain laws on bytes and instructions: what is encoded is decoded as it was, and back; no program in sight. -/
import Derived.Test.YtjmfdmipdglccaaDoorM2
namespace Go.Proofs.YtjmfdmipdglccaaDoor

theorem put_len (n : Int) (k : Nat) : (put n k).length = k := by
  induction k with
  | zero => rfl
  | succ k ih => simp [put, ih]
theorem put_byt (n : Int) (k : Nat) : Byt (put n k) := by
  induction k with
  | zero => intro x hx; cases hx
  | succ k ih =>
    intro x hx
    rcases List.mem_cons.1 hx with rfl | hx
    · omega
    · exact ih x hx
theorem foldl_be (xs : List Int) : ∀ a : Int, xs.foldl (fun a x => a * 256 + x) a = a * 256 ^ xs.length + be xs := by
  induction xs with
  | nil => intro a; simp [be]
  | cons x xs ih =>
    intro a
    have h1 := ih (a * 256 + x)
    have h2 := ih x
    simp only [be, List.foldl_cons, List.length_cons] at *
    rw [h1]
    have e : (0 : Int) * 256 + x = x := by omega
    rw [e, h2, Int.pow_succ, Int.add_mul, Int.mul_assoc, Int.mul_comm 256 (256 ^ xs.length)]
    omega
theorem be_cons (x : Int) (xs : List Int) : be (x :: xs) = x * 256 ^ xs.length + be xs := by
  have := foldl_be xs x
  simp only [be, List.foldl_cons] at *
  have e : (0 : Int) * 256 + x = x := by omega
  rw [e, this]
theorem emod_step (n m : Int) (hm : 0 < m) : n % (m * 256) = n / m % 256 * m + n % m := by
  have h1 : m * (n / m) + n % m = n := Int.mul_ediv_add_emod n m
  have h2 : 256 * (n / m / 256) + n / m % 256 = n / m := Int.mul_ediv_add_emod (n / m) 256
  have h3 : 0 ≤ n % m := Int.emod_nonneg _ (by omega)
  have h4 : n % m < m := Int.emod_lt_of_pos _ hm
  have h5 : 0 ≤ n / m % 256 := by omega
  have h6 : n / m % 256 ≤ 255 := by omega
  generalize n / m % 256 = r at *
  generalize n / m / 256 = q at *
  generalize n % m = a at *
  generalize n / m = d at *
  subst h2
  have e : n = (r * m + a) + m * 256 * q := by
    rw [← h1, Int.mul_add, Int.mul_comm m r, Int.mul_assoc m 256 q]; omega
  rw [e, Int.add_mul_emod_self_left]
  have h7 : 0 ≤ r * m := Int.mul_nonneg h5 (by omega)
  have h8 : r * m ≤ 255 * m := Int.mul_le_mul_of_nonneg_right h6 (by omega)
  exact Int.emod_eq_of_lt (by omega) (by omega)
theorem pow_pos256 (k : Nat) : (0 : Int) < 256 ^ k := Int.pow_pos (by decide)
theorem be_put (n : Int) (k : Nat) : be (put n k) = n % 256 ^ k := by
  induction k with
  | zero => simp [put, be]
  | succ k ih => rw [put, be_cons, put_len, ih, Int.pow_succ, emod_step n _ (pow_pos256 k)]
theorem put_congr (n m : Int) (k : Nat) (h : n % 256 ^ k = m % 256 ^ k) : put n k = put m k := by
  induction k with
  | zero => rfl
  | succ k ih =>
    rw [Int.pow_succ, emod_step n _ (pow_pos256 k), emod_step m _ (pow_pos256 k)] at h
    have h1 : n % 256 ^ k = m % 256 ^ k ∧ n / 256 ^ k % 256 = m / 256 ^ k % 256 := by
      have a0 := Int.emod_nonneg n (Int.ne_of_gt (pow_pos256 k))
      have a1 := Int.emod_lt_of_pos n (pow_pos256 k)
      have b0 := Int.emod_nonneg m (Int.ne_of_gt (pow_pos256 k))
      have b1 := Int.emod_lt_of_pos m (pow_pos256 k)
      have hp := pow_pos256 k
      generalize (256 : Int) ^ k = p at *
      have e1 : (n / p % 256 * p + n % p) % p = n % p := by
        rw [Int.add_comm, Int.add_mul_emod_self_right]; exact Int.emod_eq_of_lt a0 a1
      have e2 : (m / p % 256 * p + m % p) % p = m % p := by
        rw [Int.add_comm, Int.add_mul_emod_self_right]; exact Int.emod_eq_of_lt b0 b1
      have e3 : n % p = m % p := by rw [← e1, ← e2, h]
      refine ⟨e3, ?_⟩
      rw [e3] at h
      have h' : n / p % 256 * p = m / p % 256 * p := by omega
      exact Int.eq_of_mul_eq_mul_right (Int.ne_of_gt hp) h'
    rw [put, put, h1.2, ih h1.1]
theorem be_lt_all (xs : List Int) (h : Byt xs) : 0 ≤ be xs ∧ be xs < 256 ^ xs.length := by
  have h1 := be_take_ge xs h xs.length
  have h2 := be_take_lt xs h xs.length
  rw [List.take_length] at h1 h2
  exact ⟨h1, h2⟩
theorem put_be (xs : List Int) (h : Byt xs) : put (be xs) xs.length = xs := by
  induction xs with
  | nil => rfl
  | cons x xs ih =>
    have hx := h x (List.mem_cons_self ..)
    have hxs : Byt xs := fun y hy => h y (List.mem_cons_of_mem _ hy)
    have hb := be_lt_all xs hxs
    have hp := pow_pos256 xs.length
    rw [List.length_cons, put, be_cons]
    have e1 : (x * 256 ^ xs.length + be xs) / 256 ^ xs.length = x := by
      rw [Int.add_comm, Int.add_mul_ediv_right _ _ (Int.ne_of_gt hp), Int.ediv_eq_zero_of_lt hb.1 hb.2]; omega
    have e2 : put (x * 256 ^ xs.length + be xs) xs.length = put (be xs) xs.length :=
      put_congr _ _ _ (by rw [Int.add_comm, Int.add_mul_emod_self_right])
    rw [e1, e2, ih hxs, Int.emod_eq_of_lt hx.1 hx.2]

/-! ### Taking off what was put -/
theorem take_put (n : Int) (k : Nat) (r : List Int) : (put n k ++ r).take k = put n k := List.take_left' (put_len n k)
theorem drop_put (n : Int) (k : Nat) (r : List Int) : (put n k ++ r).drop k = r := List.drop_left' (put_len n k)
theorem tk_put (n : Int) (k : Nat) (r : List Int) (h0 : 0 ≤ n) (h1 : n < 256 ^ k) : tk k (put n k ++ r) = some (n, r) := by
  unfold tk
  rw [if_pos (by rw [List.length_append, put_len]; omega), take_put, drop_put, be_put, Int.emod_eq_of_lt h0 h1]
theorem tks_put (n : Int) (k : Nat) (r : List Int) (h : sgn k (n % 256 ^ k) = n) : tks k (put n k ++ r) = some (n, r) := by
  unfold tks
  rw [if_pos (by rw [List.length_append, put_len]; omega), take_put, drop_put, be_put, h]
theorem sgn_back1 (n : Int) (h0 : -128 ≤ n) (h1 : n ≤ 127) : sgn 1 (n % 256 ^ 1) = n := by
  have e0 : (256 : Int) ^ 1 = 256 := by decide
  have e1 : (2 : Int) ^ (8 * 1 - 1) = 128 := by decide
  have e2 : (2 : Int) ^ (8 * 1) = 256 := by decide
  unfold sgn
  rw [e0, e1, e2]
  split <;> omega
theorem sgn_back2 (n : Int) (h0 : -32768 ≤ n) (h1 : n ≤ 32767) : sgn 2 (n % 256 ^ 2) = n := by
  have e0 : (256 : Int) ^ 2 = 65536 := by decide
  have e1 : (2 : Int) ^ (8 * 2 - 1) = 32768 := by decide
  have e2 : (2 : Int) ^ (8 * 2) = 65536 := by decide
  unfold sgn
  rw [e0, e1, e2]
  split <;> omega
theorem sgn_back4 (n : Int) (h0 : -2147483648 ≤ n) (h1 : n ≤ 2147483647) : sgn 4 (n % 256 ^ 4) = n := by
  have e0 : (256 : Int) ^ 4 = 4294967296 := by decide
  have e1 : (2 : Int) ^ (8 * 4 - 1) = 2147483648 := by decide
  have e2 : (2 : Int) ^ (8 * 4) = 4294967296 := by decide
  unfold sgn
  rw [e0, e1, e2]
  split <;> omega
/-- A place from 0 on, below 8192. -/
def Pl (t : Int) : Prop := 0 ≤ t ∧ t ≤ 8191
theorem tkTo_put (at_ t : Int) (r : List Int) (ha : Pl at_) (ht : Pl t) : tkTo at_ (put (t - at_) 2 ++ r) = some (t, r) := by
  unfold tkTo Pl at *
  rw [tks_put _ _ _ (sgn_back2 _ (by omega) (by omega))]
  simp only [Option.map_some, Option.some.injEq, Prod.mk.injEq, and_true]
  omega
theorem ways_put (at_ : Int) (ha : Pl at_) (r : List Int) : ∀ (ts T K : List Int), (∀ t ∈ ts, Pl t) →
    ways at_ false ts.length T K ((ts.flatMap fun t => put (t - at_) 2) ++ r) = some (T ++ ts, K, r) := by
  intro ts
  induction ts with
  | nil => intro T K _; simp [ways]
  | cons t ts ih =>
    intro T K h
    have h1 := h t (List.mem_cons_self ..)
    simp only [List.length_cons, ways, Bool.false_eq_true, if_false, List.flatMap_cons, List.append_assoc]
    rw [tkTo_put at_ t _ ha h1]
    simp only [Option.bind_some]
    rw [ih _ _ (fun u hu => h u (List.mem_cons_of_mem _ hu))]
    simp
theorem ways_putk (at_ : Int) (ha : Pl at_) (r : List Int) : ∀ (ks ts T K : List Int), ks.length = ts.length → (∀ t ∈ ts, Pl t) → (∀ k ∈ ks, -2147483648 ≤ k ∧ k ≤ 2147483647) →
    ways at_ true ts.length T K (encKeys at_ ks ts ++ r) = some (T ++ ts, K ++ ks, r) := by
  intro ks
  induction ks with
  | nil =>
    intro ts T K hl _ _
    obtain rfl : ts = [] := List.eq_nil_of_length_eq_zero hl.symm
    simp [ways, encKeys]
  | cons k ks ih =>
    intro ts T K hl ht hk
    match ts, hl with
    | t :: ts, hl =>
      have h1 := ht t (List.mem_cons_self ..)
      have h2 := hk k (List.mem_cons_self ..)
      simp only [List.length_cons, ways, if_true, encKeys, List.append_assoc]
      rw [tks_put _ _ _ (sgn_back4 k h2.1 h2.2)]
      simp only [Option.bind_some]
      rw [tkTo_put at_ t _ ha h1]
      simp only [Option.bind_some]
      rw [ih ts _ _ (by simpa using hl) (fun u hu => ht u (List.mem_cons_of_mem _ hu)) (fun u hu => hk u (List.mem_cons_of_mem _ hu))]
      simp

/-! ### What may be -/
theorem inB_iff {n l m : Int} : inB n l m = true ↔ l ≤ n ∧ n ≤ m := by simp [inB]
theorem places_iff {x : Ins} : placesB x = true ↔ ∀ t ∈ x.To, Pl t := by
  unfold placesB oddB Pl
  rw [Bool.not_eq_true', List.any_eq_false]
  simp [inB_iff]
theorem keys_all {ks : List Int} (h : keysB ks = true) : ∀ k ∈ ks, -2147483648 ≤ k ∧ k ≤ 2147483647 := by
  intro k hk
  obtain ⟨i, hi, rfl⟩ := List.getElem_of_mem hk
  unfold keysB at h
  have := List.all_eq_true.1 h i (List.mem_range.2 hi)
  unfold keyB at this
  have h2 := of_decide_eq_true this
  simp only [List.getD, hi, List.getElem?_eq_getElem, Option.getD_some] at h2
  exact ⟨h2.1, h2.2.1⟩
theorem may_iff {x : Ins} : mayB x = true ↔ headB x = true ∧ placesB x = true ∧ waysB x = true ∧ numsB x = true ∧ keysB x.Keys = true := by
  unfold mayB
  simp only [Bool.and_eq_true]
  constructor
  · rintro ⟨⟨⟨a, b, c⟩, d⟩, e⟩; exact ⟨a, b, c, d, e⟩
  · rintro ⟨a, b, c, d, e⟩; exact ⟨⟨⟨a, b, c⟩, d⟩, e⟩
theorem head_iff {x : Ins} : headB x = true ↔ Pl x.At ∧ 0 ≤ x.Op ∧ x.Op ≤ 89 := by
  unfold headB Pl
  rw [decide_eq_true_iff]
  constructor
  · rintro ⟨a, b, c, d⟩; exact ⟨⟨a, b⟩, c, d⟩
  · rintro ⟨⟨a, b⟩, c, d⟩; exact ⟨a, b, c, d⟩

/-- What stands behind the first byte. -/
def tailB (x : Ins) : List Int := (encB x).drop 1
theorem encB_eq (x : Ins) : encB x = (x.Op % 256) :: tailB x := rfl

theorem shp_cases (op : Int) : shp op = 0 ∨ shp op = 1 ∨ shp op = 2 ∨ shp op = 3 ∨ shp op = 4 ∨ shp op = 5 ∨ shp op = 6 ∨ shp op = 7 := by
  unfold shp
  split
  · omega
  split
  · omega
  split
  · omega
  split
  · omega
  split
  · omega
  split
  · omega
  split <;> omega
/-- What was put behind the first byte is taken off so. -/
theorem body_tail (x : Ins) (h : mayB x = true) (r : List Int) : body x.At x.Op (tailB x ++ r) = some (x, r) := by
  obtain ⟨hh, hp, hw, hn, hk⟩ := may_iff.1 h
  obtain ⟨ha, _, _⟩ := head_iff.1 hh
  have hpl := places_iff.1 hp
  have hks := keys_all hk
  clear h hh hp hk
  obtain ⟨At, Op, N, M, To, Keys⟩ := x
  simp only [waysB, numsB, tailB, encB, body, List.drop_succ_cons, List.drop_zero] at *
  have p1 : (256 : Int) ^ 1 = 256 := by decide
  have p2 : (256 : Int) ^ 2 = 65536 := by decide
  rcases shp_cases Op with hs | hs | hs | hs | hs | hs | hs | hs
  · simp only [hs, Int.reduceEq, if_false, or_self, decide_eq_true_eq, List.nil_append] at hw hn ⊢
    obtain ⟨hw1, hw2⟩ := hw
    obtain ⟨rfl, rfl⟩ := hn
    obtain rfl := List.eq_nil_of_length_eq_zero hw1
    obtain rfl := List.eq_nil_of_length_eq_zero hw2
    rfl
  · simp only [hs, Int.reduceEq, if_false, if_true, decide_eq_true_eq] at hw hn ⊢
    obtain ⟨hw1, hw2⟩ := hw
    obtain ⟨rfl, hn1, hn2⟩ := hn
    obtain rfl := List.eq_nil_of_length_eq_zero hw1
    obtain rfl := List.eq_nil_of_length_eq_zero hw2
    rw [tk_put _ _ _ hn1 (by omega)]
    rfl
  · simp only [hs, Int.reduceEq, if_false, if_true, true_or, decide_eq_true_eq] at hw hn ⊢
    obtain ⟨hw1, hw2⟩ := hw
    obtain ⟨rfl, hn1, hn2⟩ := hn
    obtain rfl := List.eq_nil_of_length_eq_zero hw1
    obtain rfl := List.eq_nil_of_length_eq_zero hw2
    rw [tks_put _ _ _ (sgn_back2 _ hn1 hn2)]
    rfl
  · simp only [hs, Int.reduceEq, if_false, if_true, or_true, decide_eq_true_eq] at hw hn ⊢
    obtain ⟨hw1, hw2⟩ := hw
    obtain ⟨rfl, hn1, hn2⟩ := hn
    obtain rfl := List.eq_nil_of_length_eq_zero hw1
    obtain rfl := List.eq_nil_of_length_eq_zero hw2
    rw [tk_put _ _ _ hn1 (by omega)]
    rfl
  · simp only [hs, Int.reduceEq, if_false, if_true, or_self, decide_eq_true_eq] at hw hn ⊢
    obtain ⟨hw1, hw2⟩ := hw
    obtain ⟨rfl, rfl⟩ := hn
    obtain ⟨t, rfl⟩ := List.length_eq_one_iff.1 hw1
    obtain rfl := List.eq_nil_of_length_eq_zero hw2
    simp only [List.getD_cons_zero]
    rw [tkTo_put At t r ha (hpl t (by simp))]
    rfl
  · simp only [hs, Int.reduceEq, if_false, if_true, or_self, decide_eq_true_eq, List.append_assoc] at hw hn ⊢
    obtain ⟨hw1, hw2⟩ := hw
    obtain ⟨hn1, hn2, hn3, hn4⟩ := hn
    obtain rfl := List.eq_nil_of_length_eq_zero hw1
    obtain rfl := List.eq_nil_of_length_eq_zero hw2
    rw [tk_put _ _ _ hn1 (by omega)]
    simp only [Option.bind_some]
    rw [tks_put _ _ _ (sgn_back1 _ hn3 hn4)]
    rfl
  · simp only [hs, Int.reduceEq, if_false, if_true, or_self, decide_eq_true_eq, List.append_assoc] at hw hn ⊢
    obtain ⟨hw1, hw2, hw3⟩ := hw
    obtain ⟨rfl, hn1, hn2⟩ := hn
    obtain rfl := List.eq_nil_of_length_eq_zero hw3
    obtain ⟨t, ts, rfl⟩ : ∃ t ts, To = t :: ts := by
      cases To with
      | nil => simp at hw1
      | cons t ts => exact ⟨t, ts, rfl⟩
    simp only [List.getD_cons_zero, List.drop_succ_cons, List.drop_zero, List.length_cons] at *
    rw [tkTo_put At t _ ha (hpl t (by simp))]
    simp only [Option.bind_some]
    rw [tks_put _ _ _ (sgn_back4 N hn1 (by omega))]
    simp only [Option.bind_some]
    rw [tk_put _ _ _ (by omega) (by omega)]
    simp only [Option.bind_some]
    have e : (((ts.length + 1 : Nat) : Int) - 1).toNat = ts.length := by omega
    rw [e, ways_put At ha r ts _ _ (fun u hu => hpl u (List.mem_cons_of_mem _ hu))]
    rfl
  · simp only [hs, Int.reduceEq, if_false, if_true, or_self, decide_eq_true_eq, List.append_assoc] at hw hn ⊢
    obtain ⟨hw1, hw2, hw3⟩ := hw
    obtain ⟨rfl, rfl⟩ := hn
    match To, hw1 with
    | t :: ts, hw1 =>
      simp only [List.getD_cons_zero, List.drop_succ_cons, List.drop_zero, List.length_cons] at *
      rw [tkTo_put At t _ ha (hpl t (by simp))]
      simp only [Option.bind_some]
      rw [tk_put _ _ _ (by omega) (by omega)]
      simp only [Option.bind_some]
      have e : ((Keys.length : Nat) : Int).toNat = ts.length := by omega
      rw [e, ways_putk At ha r Keys ts _ _ (by omega) (fun u hu => hpl u (List.mem_cons_of_mem _ hu)) hks]
      rfl
end Go.Proofs.YtjmfdmipdglccaaDoor
