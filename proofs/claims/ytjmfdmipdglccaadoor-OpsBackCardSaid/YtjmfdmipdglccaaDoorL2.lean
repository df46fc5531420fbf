/- Plain laws: what was decoded is encoded so; cut bytes are too short; an instruction moved has the same bytes. -/
import Derived.Test.YtjmfdmipdglccaaDoorL1
namespace Go.Proofs.YtjmfdmipdglccaaDoor

/-! ### More bytes behind change nothing -/
theorem tk_more {k : Nat} {xs : List Int} {p : Int × List Int} (h : tk k xs = some p) (r : List Int) : tk k (xs ++ r) = some (p.1, p.2 ++ r) := by
  obtain ⟨h1, rfl⟩ := tk_len h
  unfold tk
  rw [if_pos (by rw [List.length_append]; omega), List.take_append_of_le_length h1, List.drop_append_of_le_length h1]
theorem tks_more {k : Nat} {xs : List Int} {p : Int × List Int} (h : tks k xs = some p) (r : List Int) : tks k (xs ++ r) = some (p.1, p.2 ++ r) := by
  obtain ⟨h1, rfl⟩ := tks_len h
  unfold tks
  rw [if_pos (by rw [List.length_append]; omega), List.take_append_of_le_length h1, List.drop_append_of_le_length h1]
theorem tkTo_more {at_ : Int} {xs : List Int} {p : Int × List Int} (h : tkTo at_ xs = some p) (r : List Int) : tkTo at_ (xs ++ r) = some (p.1, p.2 ++ r) := by
  unfold tkTo at *
  obtain ⟨q, hq, rfl⟩ := Option.map_eq_some_iff.1 h
  rw [tks_more hq]
  rfl
theorem ways_more (at_ : Int) (keys : Bool) (r : List Int) : ∀ (n : Nat) (T K xs : List Int) (p : List Int × List Int × List Int), ways at_ keys n T K xs = some p →
    ways at_ keys n T K (xs ++ r) = some (p.1, p.2.1, p.2.2 ++ r) := by
  intro n
  induction n with
  | zero =>
    intro T K xs p h
    simp only [ways, Option.some.injEq] at h ⊢
    subst h
    rfl
  | succ n ih =>
    intro T K xs p h
    cases keys with
    | false =>
      simp only [ways, Bool.false_eq_true, if_false, Option.bind_eq_some_iff] at h
      obtain ⟨q, hq, h⟩ := h
      simp only [ways, Bool.false_eq_true, if_false]
      rw [tkTo_more hq]
      exact ih _ _ _ _ h
    | true =>
      simp only [ways, if_true, Option.bind_eq_some_iff] at h
      obtain ⟨q, hq, s, hs, h⟩ := h
      simp only [ways, if_true]
      rw [tks_more hq]
      simp only [Option.bind_some]
      rw [tkTo_more hs]
      exact ih _ _ _ _ h
theorem body_more {at_ op : Int} {xs : List Int} {x : Ins} {l : List Int} (h : body at_ op xs = some (x, l)) (r : List Int) : body at_ op (xs ++ r) = some (x, l ++ r) := by
  unfold body at h ⊢
  split at h
  · rename_i hs
    rw [if_pos hs]
    obtain ⟨p, hp, e⟩ := Option.map_eq_some_iff.1 h
    cases e
    rw [tk_more hp]; rfl
  rename_i hs; rw [if_neg hs]; clear hs
  split at h
  · rename_i hs
    rw [if_pos hs]
    obtain ⟨p, hp, e⟩ := Option.map_eq_some_iff.1 h
    cases e
    rw [tks_more hp]; rfl
  rename_i hs; rw [if_neg hs]; clear hs
  split at h
  · rename_i hs
    rw [if_pos hs]
    obtain ⟨p, hp, e⟩ := Option.map_eq_some_iff.1 h
    cases e
    rw [tk_more hp]; rfl
  rename_i hs; rw [if_neg hs]; clear hs
  split at h
  · rename_i hs
    rw [if_pos hs]
    obtain ⟨p, hp, e⟩ := Option.map_eq_some_iff.1 h
    cases e
    rw [tkTo_more hp]; rfl
  rename_i hs; rw [if_neg hs]; clear hs
  split at h
  · rename_i hs
    rw [if_pos hs]
    obtain ⟨p, hp, h⟩ := Option.bind_eq_some_iff.1 h
    obtain ⟨q, hq, e⟩ := Option.map_eq_some_iff.1 h
    cases e
    rw [tk_more hp]
    simp only [Option.bind_some]
    rw [tks_more hq]; rfl
  rename_i hs; rw [if_neg hs]; clear hs
  split at h
  · rename_i hs
    rw [if_pos hs]
    obtain ⟨p, hp, h⟩ := Option.bind_eq_some_iff.1 h
    obtain ⟨q, hq, h⟩ := Option.bind_eq_some_iff.1 h
    obtain ⟨s, hs, e⟩ := Option.map_eq_some_iff.1 h
    obtain ⟨u, hu, hs⟩ := Option.bind_eq_some_iff.1 hs
    cases e
    rw [tkTo_more hp]
    simp only [Option.bind_some]
    rw [tks_more hq]
    simp only [Option.bind_some]
    rw [tk_more hu]
    simp only [Option.bind_some]
    rw [ways_more _ _ _ _ _ _ _ _ hs]; rfl
  rename_i hs; rw [if_neg hs]; clear hs
  split at h
  · rename_i hs
    rw [if_pos hs]
    obtain ⟨p, hp, h⟩ := Option.bind_eq_some_iff.1 h
    obtain ⟨s, hs, e⟩ := Option.map_eq_some_iff.1 h
    obtain ⟨u, hu, hs⟩ := Option.bind_eq_some_iff.1 hs
    cases e
    rw [tkTo_more hp]
    simp only [Option.bind_some]
    rw [tk_more hu]
    simp only [Option.bind_some]
    rw [ways_more _ _ _ _ _ _ _ _ hs]; rfl
  · rename_i hs
    rw [if_neg hs]
    cases h
    rfl

/-! ### What was taken off is put so -/
theorem sgn_emod (k : Nat) (hk : k = 1 ∨ k = 2 ∨ k = 4) (n : Int) : sgn k n % 256 ^ k = n % 256 ^ k := by
  rcases hk with rfl | rfl | rfl
  · have e0 : (256 : Int) ^ 1 = 256 := by decide
    have e1 : (2 : Int) ^ (8 * 1 - 1) = 128 := by decide
    have e2 : (2 : Int) ^ (8 * 1) = 256 := by decide
    unfold sgn
    rw [e0, e1, e2]
    split <;> omega
  · have e0 : (256 : Int) ^ 2 = 65536 := by decide
    have e1 : (2 : Int) ^ (8 * 2 - 1) = 32768 := by decide
    have e2 : (2 : Int) ^ (8 * 2) = 65536 := by decide
    unfold sgn
    rw [e0, e1, e2]
    split <;> omega
  · have e0 : (256 : Int) ^ 4 = 4294967296 := by decide
    have e1 : (2 : Int) ^ (8 * 4 - 1) = 2147483648 := by decide
    have e2 : (2 : Int) ^ (8 * 4) = 4294967296 := by decide
    unfold sgn
    rw [e0, e1, e2]
    split <;> omega
theorem put_be_take {xs : List Int} (h : Byt xs) {k : Nat} (hk : k ≤ xs.length) : put (be (xs.take k)) k = xs.take k := by
  have := put_be (xs.take k) (h.take k)
  rwa [List.length_take, Nat.min_eq_left hk] at this
theorem tk_back {k : Nat} {xs : List Int} {p : Int × List Int} (hB : Byt xs) (h : tk k xs = some p) : xs = put p.1 k ++ p.2 ∧ Byt p.2 ∧ 0 ≤ p.1 ∧ p.1 < 256 ^ k := by
  obtain ⟨h1, rfl⟩ := tk_len h
  exact ⟨by rw [put_be_take hB h1, List.take_append_drop], hB.drop k, be_take_ge xs hB k, be_take_lt xs hB k⟩
theorem tks_back {k : Nat} (hk : k = 1 ∨ k = 2 ∨ k = 4) {xs : List Int} {p : Int × List Int} (hB : Byt xs) (h : tks k xs = some p) : xs = put p.1 k ++ p.2 ∧ Byt p.2 := by
  obtain ⟨h1, rfl⟩ := tks_len h
  refine ⟨?_, hB.drop k⟩
  have e : put (sgn k (be (xs.take k))) k = put (be (xs.take k)) k := put_congr _ _ _ (sgn_emod k hk _)
  rw [e, put_be_take hB h1, List.take_append_drop]
theorem tkTo_back {at_ : Int} {xs : List Int} {p : Int × List Int} (hB : Byt xs) (h : tkTo at_ xs = some p) : xs = put (p.1 - at_) 2 ++ p.2 ∧ Byt p.2 := by
  unfold tkTo at h
  obtain ⟨q, hq, rfl⟩ := Option.map_eq_some_iff.1 h
  have e : at_ + q.1 - at_ = q.1 := by omega
  simp only [e]
  exact tks_back (.inr (.inl rfl)) hB hq
theorem ways_back (at_ : Int) : ∀ (n : Nat) (T K xs : List Int) (p : List Int × List Int × List Int), Byt xs → ways at_ false n T K xs = some p →
    ∃ ts, ts.length = n ∧ p.1 = T ++ ts ∧ p.2.1 = K ∧ xs = (ts.flatMap fun t => put (t - at_) 2) ++ p.2.2 ∧ Byt p.2.2 := by
  intro n
  induction n with
  | zero =>
    intro T K xs p hB h
    simp only [ways, Option.some.injEq] at h
    subst h
    exact ⟨[], rfl, by simp, rfl, by simp, hB⟩
  | succ n ih =>
    intro T K xs p hB h
    simp only [ways, Bool.false_eq_true, if_false, Option.bind_eq_some_iff] at h
    obtain ⟨q, hq, h⟩ := h
    obtain ⟨h1, h2⟩ := tkTo_back hB hq
    obtain ⟨ts, e1, e2, e3, e4, e5⟩ := ih _ _ _ _ h2 h
    refine ⟨q.1 :: ts, by simp [e1], by simp [e2], e3, ?_, e5⟩
    rw [List.flatMap_cons, List.append_assoc, ← e4]
    exact h1
theorem ways_backk (at_ : Int) : ∀ (n : Nat) (T K xs : List Int) (p : List Int × List Int × List Int), Byt xs → ways at_ true n T K xs = some p →
    ∃ ts ks, ts.length = n ∧ ks.length = n ∧ p.1 = T ++ ts ∧ p.2.1 = K ++ ks ∧ xs = encKeys at_ ks ts ++ p.2.2 ∧ Byt p.2.2 := by
  intro n
  induction n with
  | zero =>
    intro T K xs p hB h
    simp only [ways, Option.some.injEq] at h
    subst h
    exact ⟨[], [], rfl, rfl, by simp, by simp, by simp [encKeys], hB⟩
  | succ n ih =>
    intro T K xs p hB h
    simp only [ways, if_true, Option.bind_eq_some_iff] at h
    obtain ⟨q, hq, s, hs, h⟩ := h
    obtain ⟨h1, h2⟩ := tks_back (.inr (.inr rfl)) hB hq
    obtain ⟨h3, h4⟩ := tkTo_back h2 hs
    obtain ⟨ts, ks, e1, e2, e3, e4, e5, e6⟩ := ih _ _ _ _ h4 h
    refine ⟨s.1 :: ts, q.1 :: ks, by simp [e1], by simp [e2], by simp [e3], by simp [e4], ?_, e6⟩
    rw [encKeys, List.append_assoc, List.append_assoc, ← e5, ← h3]
    exact h1
theorem body_back {at_ op : Int} {xs : List Int} {x : Ins} {l : List Int} (hB : Byt xs) (h : body at_ op xs = some (x, l)) : xs = tailB x ++ l ∧ x.At = at_ ∧ x.Op = op := by
  obtain ⟨_, _, _, g1, g2⟩ := body_len hB h
  refine ⟨?_, g1, g2⟩
  simp only [tailB, encB, List.drop_succ_cons, List.drop_zero]
  rw [g2]
  clear g1 g2
  unfold body at h
  split at h
  · rename_i hs
    simp only [hs, Int.reduceEq, if_false, if_true, or_self]
    obtain ⟨p, hp, e⟩ := Option.map_eq_some_iff.1 h
    cases e
    exact (tk_back hB hp).1
  split at h
  · rename_i hs
    simp only [hs, Int.reduceEq, if_false, if_true, true_or]
    obtain ⟨p, hp, e⟩ := Option.map_eq_some_iff.1 h
    cases e
    exact (tks_back (.inr (.inl rfl)) hB hp).1
  split at h
  · rename_i hs
    simp only [hs, Int.reduceEq, if_false, if_true, or_true]
    obtain ⟨p, hp, e⟩ := Option.map_eq_some_iff.1 h
    cases e
    exact (tk_back hB hp).1
  split at h
  · rename_i hs
    simp only [hs, Int.reduceEq, if_false, if_true, or_self]
    obtain ⟨p, hp, e⟩ := Option.map_eq_some_iff.1 h
    cases e
    exact (tkTo_back hB hp).1
  split at h
  · rename_i hs
    simp only [hs, Int.reduceEq, if_false, if_true, or_self]
    obtain ⟨p, hp, h⟩ := Option.bind_eq_some_iff.1 h
    obtain ⟨q, hq, e⟩ := Option.map_eq_some_iff.1 h
    cases e
    obtain ⟨h1, h2, _⟩ := tk_back hB hp
    obtain ⟨h3, h4⟩ := tks_back (.inl rfl) h2 hq
    rw [List.append_assoc, ← h3]
    exact h1
  split at h
  · rename_i hs
    simp only [hs, Int.reduceEq, if_false, if_true, or_self]
    obtain ⟨p, hp, h⟩ := Option.bind_eq_some_iff.1 h
    obtain ⟨q, hq, h⟩ := Option.bind_eq_some_iff.1 h
    obtain ⟨s, hs, e⟩ := Option.map_eq_some_iff.1 h
    obtain ⟨u, hu, hs⟩ := Option.bind_eq_some_iff.1 hs
    cases e
    obtain ⟨h1, h2⟩ := tkTo_back hB hp
    obtain ⟨h3, h4⟩ := tks_back (.inr (.inr rfl)) h2 hq
    obtain ⟨h5, h6, h7, h8⟩ := tk_back h4 hu
    obtain ⟨ts, e1, e2, e3, e4, e5⟩ := ways_back _ _ _ _ _ _ h6 hs
    simp only [e2, List.cons_append, List.nil_append, List.getD_cons_zero, List.drop_succ_cons, List.drop_zero, List.length_cons, List.append_assoc]
    have e : (((ts.length + 1 : Nat) : Int) - 1) = u.1 := by omega
    rw [e, ← e4, ← h5, ← h3]
    exact h1
  split at h
  · rename_i hs
    simp only [hs, Int.reduceEq, if_false, if_true, or_self]
    obtain ⟨p, hp, h⟩ := Option.bind_eq_some_iff.1 h
    obtain ⟨s, hs, e⟩ := Option.map_eq_some_iff.1 h
    obtain ⟨u, hu, hs⟩ := Option.bind_eq_some_iff.1 hs
    cases e
    obtain ⟨h1, h2⟩ := tkTo_back hB hp
    obtain ⟨h5, h6, h7, h8⟩ := tk_back h2 hu
    obtain ⟨ts, ks, e1, e2, e3, e4, e5, e6⟩ := ways_backk _ _ _ _ _ _ h6 hs
    simp only [e3, e4, List.cons_append, List.nil_append, List.getD_cons_zero, List.drop_succ_cons, List.drop_zero, List.append_assoc]
    have e : ((ks.length : Nat) : Int) = u.1 := by omega
    rw [e, ← e5, ← h5]
    exact h1
  · cases h
    simp [*]

/-! ### The laws -/
theorem getD_right (p q : List Int) : (p ++ q).getD p.length 0 = q.getD 0 0 := by
  simp only [List.getD]
  rw [List.getElem?_append_right (Nat.le_refl _), Nat.sub_self]
/-- What was encoded is decoded as it was, wherever it stands. -/
theorem dec_enc (x : Ins) (h : mayB x = true) (p r : List Int) (hp : (p.length : Int) = x.At) : dec (p ++ encB x ++ r) x.At = (x, x.At + ((encB x).length : Int), 0) := by
  obtain ⟨hh, _⟩ := may_iff.1 h
  obtain ⟨⟨ha, ha'⟩, ho, ho'⟩ := head_iff.1 hh
  have hl : (p ++ encB x ++ r).length = p.length + (1 + (tailB x).length) + r.length := by simp [encB_eq]; omega
  have hop : x.Op = (p ++ encB x ++ r).getD p.length 0 := by
    rw [encB_eq, List.append_assoc, getD_right]
    simp only [List.cons_append, List.getD_cons_zero]
    omega
  have hd : (p ++ encB x ++ r).drop (p.length + 1) = tailB x ++ r := by
    rw [encB_eq, List.append_assoc, ← List.drop_drop, List.drop_left]
    rfl
  rw [← hp, dec_of (by omega) (by omega) hop ho', hd, hp, body_tail x h r]
  have he : (encB x).length = 1 + (tailB x).length := by rw [encB_eq, List.length_cons]; omega
  simp only [h, if_true]
  rw [hl, he]
  congr 2
  omega
/-- What could be decoded is encoded so. -/
theorem enc_dec {bs : List Int} (hB : Byt bs) {k : Int} {x : Ins} {n : Int} (h : dec bs k = (x, n, 0)) :
    mayB x = true ∧ 0 ≤ k ∧ k < n ∧ n ≤ bs.length ∧ encB x = (bs.drop k.toNat).take (n - k).toNat := by
  unfold dec at h
  split at h
  · cases h
  rename_i hr
  split at h
  · cases h
  rename_i ho
  have hk : k.toNat < bs.length := by omega
  have hb := byte_at bs k.toNat hB hk
  split at h
  · cases h
  · rename_i y l hy
    split at h
    · rename_i hm
      injection h with e1 e2
      injection e2 with e2 _
      subst e1
      have hk1 : k.toNat + 1 ≤ bs.length := hk
      obtain ⟨g1, g2, g3⟩ := body_back (hB.drop _) hy
      have hl : bs.length - (k.toNat + 1) = (tailB y).length + l.length := by
        rw [← List.length_append, ← g1, List.length_drop]
      refine ⟨hm, by omega, by omega, by omega, ?_⟩
      have e3 : (n - k).toNat = (tailB y).length + 1 := by omega
      have e4 : bs.drop k.toNat = bs.getD k.toNat 0 :: bs.drop (k.toNat + 1) := by
        rw [List.drop_eq_getElem_cons hk]
        simp [List.getD, hk]
      rw [e3, e4, g1, encB_eq, List.take_succ_cons, List.take_left, g3]
      congr 1
      omega
    · cases h
/-- Cut bytes end too early. -/
theorem dec_cut (x : Ins) (h : mayB x = true) (p : List Int) (hp : (p.length : Int) = x.At) (i : Nat) (h1 : 1 ≤ i) (h2 : i < (encB x).length) : dec (p ++ (encB x).take i) x.At = (Ins.zero, 0, 3) := by
  obtain ⟨hh, _⟩ := may_iff.1 h
  obtain ⟨⟨ha, ha'⟩, ho, ho'⟩ := head_iff.1 hh
  obtain ⟨j, rfl⟩ : ∃ j, i = j + 1 := ⟨i - 1, by omega⟩
  rw [encB_eq, List.length_cons] at h2
  have hl : (p ++ (encB x).take (j + 1)).length = p.length + (1 + j) := by
    rw [encB_eq, List.take_succ_cons, List.length_append, List.length_cons, List.length_take]
    omega
  have hop : x.Op = (p ++ (encB x).take (j + 1)).getD p.length 0 := by
    rw [encB_eq, List.take_succ_cons, getD_right]
    simp only [List.getD_cons_zero]
    omega
  have hd : (p ++ (encB x).take (j + 1)).drop (p.length + 1) = (tailB x).take j := by
    rw [encB_eq, List.take_succ_cons, ← List.drop_drop, List.drop_left]
    rfl
  rw [← hp, dec_of (by omega) (by omega) hop ho', hd, hp]
  cases hb : body x.At x.Op ((tailB x).take j) with
  | none => rfl
  | some q =>
    exfalso
    have hm := body_more (l := q.2) hb ((tailB x).drop j)
    rw [List.take_append_drop] at hm
    have ht := body_tail x h []
    rw [List.append_nil, hm] at ht
    have e := congrArg (fun q => (q.getD (Ins.zero, [])).2.length) ht
    simp at e
    omega

/-- An instruction moved, with all to which it goes. -/
def movedI (x : Ins) (d : Int) : Ins := { x with At := x.At + d, To := x.To.map (· + d) }
theorem may_moved (x : Ins) (h : mayB x = true) (d : Int) : mayB (movedI x d) = (inB (x.At + d) 0 8191 && (x.To.map (· + d)).all fun t => inB t 0 8191) := by
  obtain ⟨hh, hp, hw, hn, hk⟩ := may_iff.1 h
  obtain ⟨_, ho, ho'⟩ := head_iff.1 hh
  rw [Bool.eq_iff_iff, may_iff, head_iff, places_iff, Bool.and_eq_true, inB_iff, List.all_eq_true]
  have hw' : waysB (movedI x d) = true := by
    unfold waysB movedI at *
    simpa only [List.length_map] using hw
  have hn' : numsB (movedI x d) = true := by
    unfold numsB movedI at *
    simpa only [List.length_map] using hn
  constructor
  · rintro ⟨⟨a, _⟩, b, _⟩
    exact ⟨a, fun t ht => inB_iff.2 (b t ht)⟩
  · rintro ⟨a, b⟩
    exact ⟨⟨a, ho, ho'⟩, fun t ht => inB_iff.1 (b t ht), hw', hn', hk⟩
theorem encKeys_moved (at_ d : Int) : ∀ ks ts : List Int, encKeys (at_ + d) ks (ts.map (· + d)) = encKeys at_ ks ts
  | [], _ => by simp [encKeys]
  | _ :: _, [] => by simp [encKeys]
  | k :: ks, t :: ts => by
    have e : t + d - (at_ + d) = t - at_ := by omega
    simp only [List.map_cons, encKeys, e, encKeys_moved at_ d ks ts]
theorem flat_moved (at_ d : Int) (ts : List Int) : ((ts.map (· + d)).flatMap fun t => put (t - (at_ + d)) 2) = ts.flatMap fun t => put (t - at_) 2 := by
  induction ts with
  | nil => rfl
  | cons t ts ih =>
    have e : t + d - (at_ + d) = t - at_ := by omega
    simp only [List.map_cons, List.flatMap_cons, e, ih]
theorem encB_moved (x : Ins) (h : mayB x = true) (d : Int) : encB (movedI x d) = encB x := by
  obtain ⟨_, _, hw, _, _⟩ := may_iff.1 h
  obtain ⟨At, Op, N, M, To, Keys⟩ := x
  have hto : ∀ n : Nat, 1 ≤ n → To.length = n → (To.map (· + d)).getD 0 0 - (At + d) = To.getD 0 0 - At := by
    intro n hn hl
    cases To with
    | nil => simp at hl; omega
    | cons t ts => simp; omega
  simp only [encB, movedI, waysB] at *
  rcases shp_cases Op with hs | hs | hs | hs | hs | hs | hs | hs
  · simp only [hs, Int.reduceEq, if_false, or_self]
  · simp only [hs, Int.reduceEq, if_true]
  · simp only [hs, Int.reduceEq, if_false, if_true, true_or]
  · simp only [hs, Int.reduceEq, if_false, if_true, or_true]
  · simp only [hs, Int.reduceEq, if_false, if_true, or_self, decide_eq_true_eq] at hw ⊢
    rw [hto 1 (by omega) hw.1]
  · simp only [hs, Int.reduceEq, if_false, if_true, or_self]
  · simp only [hs, Int.reduceEq, if_false, if_true, or_self, decide_eq_true_eq] at hw ⊢
    rw [hto To.length (by omega) rfl, List.length_map, ← List.map_drop, flat_moved]
  · simp only [hs, Int.reduceEq, if_false, if_true, or_self, decide_eq_true_eq] at hw ⊢
    rw [hto To.length (by omega) rfl, ← List.map_drop, encKeys_moved]
end Go.Proofs.YtjmfdmipdglccaaDoor
