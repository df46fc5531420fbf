/- Plain facts on decoding. -/
import Derived.Test.YtjmfdmipdglccaaDoorM
namespace Go.Proofs.YtjmfdmipdglccaaDoor

theorem tk_len {size : Nat} {xs : List Int} {p : Int × List Int} (h : tk size xs = some p) : size ≤ xs.length ∧ p = (be (xs.take size), xs.drop size) := by
  unfold tk at h
  split at h
  · rename_i hl
    exact ⟨hl, (Option.some.inj h).symm⟩
  · cases h
theorem tks_len {size : Nat} {xs : List Int} {p : Int × List Int} (h : tks size xs = some p) : size ≤ xs.length ∧ p = (sgn size (be (xs.take size)), xs.drop size) := by
  unfold tks at h
  split at h
  · rename_i hl
    exact ⟨hl, (Option.some.inj h).symm⟩
  · cases h
theorem tkTo_len {at_ : Int} {xs : List Int} {p : Int × List Int} (h : tkTo at_ xs = some p) : 2 ≤ xs.length ∧ p = (at_ + sgn 2 (be (xs.take 2)), xs.drop 2) := by
  unfold tkTo at h
  obtain ⟨q, hq, rfl⟩ := Option.map_eq_some_iff.1 h
  obtain ⟨h1, rfl⟩ := tks_len hq
  exact ⟨h1, rfl⟩
theorem ways_len (at_ : Int) (keys : Bool) : ∀ (n : Nat) (T K xs : List Int) (p : List Int × List Int × List Int), ways at_ keys n T K xs = some p →
    p.1.length = T.length + n ∧ p.2.1.length = K.length + (if keys then n else 0) ∧ p.2.2.length ≤ xs.length := by
  intro n
  induction n with
  | zero =>
    intro T K xs p h
    simp only [ways, Option.some.injEq] at h
    subst h
    simp
  | succ n ih =>
    intro T K xs p h
    cases keys with
    | false =>
      simp only [ways, Bool.false_eq_true, if_false, Option.bind_eq_some_iff] at h
      obtain ⟨q, hq, h⟩ := h
      obtain ⟨_, rfl⟩ := tkTo_len hq
      have := ih _ _ _ _ h
      simp at this ⊢
      omega
    | true =>
      simp only [ways, if_true, Option.bind_eq_some_iff] at h
      obtain ⟨q, hq, r, hr, h⟩ := h
      obtain ⟨_, rfl⟩ := tks_len hq
      obtain ⟨_, rfl⟩ := tkTo_len hr
      have := ih _ _ _ _ h
      simp at this ⊢
      omega
theorem count_le {xs : List Int} (h : Byt xs) : (be (xs.take 2)).toNat ≤ 65535 := by
  have h0 := be_take_ge xs h 2
  have h1 := be_take_lt xs h 2
  have e : (256 : Int) ^ 2 = 65536 := by decide
  rw [e] at h1
  omega
theorem body_len {at_ op : Int} {xs : List Int} {x : Ins} {l : List Int} (hB : Byt xs) (h : body at_ op xs = some (x, l)) :
    x.To.length ≤ 65537 ∧ x.Keys.length ≤ 65537 ∧ l.length ≤ xs.length ∧ x.At = at_ ∧ x.Op = op := by
  unfold body at h
  split at h
  · obtain ⟨p, hp, e⟩ := Option.map_eq_some_iff.1 h
    obtain ⟨_, rfl⟩ := tk_len hp
    cases e
    simp
  split at h
  · obtain ⟨p, hp, e⟩ := Option.map_eq_some_iff.1 h
    obtain ⟨_, rfl⟩ := tks_len hp
    cases e
    simp
  split at h
  · obtain ⟨p, hp, e⟩ := Option.map_eq_some_iff.1 h
    obtain ⟨_, rfl⟩ := tk_len hp
    cases e
    simp
  split at h
  · obtain ⟨p, hp, e⟩ := Option.map_eq_some_iff.1 h
    obtain ⟨_, rfl⟩ := tkTo_len hp
    cases e
    simp
  split at h
  · obtain ⟨p, hp, h⟩ := Option.bind_eq_some_iff.1 h
    obtain ⟨q, hq, e⟩ := Option.map_eq_some_iff.1 h
    obtain ⟨_, rfl⟩ := tk_len hp
    obtain ⟨_, rfl⟩ := tks_len hq
    cases e
    simp
  split at h
  · obtain ⟨p, hp, h⟩ := Option.bind_eq_some_iff.1 h
    obtain ⟨q, hq, h⟩ := Option.bind_eq_some_iff.1 h
    obtain ⟨s, hs, e⟩ := Option.map_eq_some_iff.1 h
    obtain ⟨r, hr, hs⟩ := Option.bind_eq_some_iff.1 hs
    obtain ⟨_, rfl⟩ := tkTo_len hp
    obtain ⟨_, rfl⟩ := tks_len hq
    obtain ⟨_, rfl⟩ := tk_len hr
    have h1 := ways_len _ _ _ _ _ _ _ hs
    have h2 := count_le ((hB.drop 2).drop 4)
    cases e
    simp only [List.length_cons, List.length_nil, Bool.false_eq_true, if_false, List.length_drop, and_true] at h1 h2 ⊢
    omega
  split at h
  · obtain ⟨p, hp, h⟩ := Option.bind_eq_some_iff.1 h
    obtain ⟨s, hs, e⟩ := Option.map_eq_some_iff.1 h
    obtain ⟨r, hr, hs⟩ := Option.bind_eq_some_iff.1 hs
    obtain ⟨_, rfl⟩ := tkTo_len hp
    obtain ⟨_, rfl⟩ := tk_len hr
    have h1 := ways_len _ _ _ _ _ _ _ hs
    have h2 := count_le (hB.drop 2)
    cases e
    simp only [List.length_cons, List.length_nil, if_true, List.length_drop, and_true] at h1 h2 ⊢
    omega
  · cases h
    simp
theorem body_6 {at_ op : Int} {xs : List Int} (hs : shp op = 6) : body at_ op xs = (tkTo at_ xs).bind fun p => (tks 4 p.2).bind fun q =>
    ((tk 2 q.2).bind fun r => ways at_ false r.1.toNat [p.1] [] r.2).map fun s => (⟨at_, op, q.1, 0, s.1, s.2.1⟩, s.2.2) := by
  unfold body
  rw [if_neg (by omega), if_neg (by omega), if_neg (by omega), if_neg (by omega), if_neg (by omega), if_pos hs]
theorem body_7 {at_ op : Int} {xs : List Int} (hs : shp op = 7) : body at_ op xs = (tkTo at_ xs).bind fun p =>
    ((tk 2 p.2).bind fun r => ways at_ true r.1.toNat [p.1] [] r.2).map fun s => (⟨at_, op, 0, 0, s.1, s.2.1⟩, s.2.2) := by
  unfold body
  rw [if_neg (by omega), if_neg (by omega), if_neg (by omega), if_neg (by omega), if_neg (by omega), if_neg (by omega), if_pos hs]
/-- What dec says, by what stands behind the first byte. -/
theorem dec_of {bs : List Int} {k : Nat} (hk : k < bs.length) (hk2 : k < 8192) {op : Int} (hop : op = bs.getD k 0) (ho : op ≤ 89) :
    dec bs k = match body k op (bs.drop (k + 1)) with
      | none => (Ins.zero, 0, 3)
      | some (x, left) => if mayB x then (x, (bs.length : Int) - left.length, 0) else (Ins.zero, 0, 4) := by
  unfold dec
  rw [if_neg (by omega), Int.toNat_natCast, ← hop, if_neg (by omega)]
  rfl
theorem dec_range {bs : List Int} {at_ : Int} (h : at_ < 0 ∨ (bs.length : Int) ≤ at_ ∨ 8192 ≤ at_) : dec bs at_ = (Ins.zero, 0, 9) := by
  unfold dec
  rw [if_pos h]
theorem dec_op {bs : List Int} {k : Nat} (hk : k < bs.length) (hk2 : k < 8192) (ho : 89 < bs.getD k 0) : dec bs k = (Ins.zero, 0, 60) := by
  unfold dec
  rw [if_neg (by omega), Int.toNat_natCast, if_pos ho]
end Go.Proofs.YtjmfdmipdglccaaDoor
