/- The plain model of the instructions' bytes: no program in sight. -/
import Derived.Laws.BitsAllLaws
import Derived.Laws.Bits64
namespace Go.Proofs.YtjmfdmipdglccaaDoor

/-! ### Numbers as bytes, the highest first -/
def be (xs : List Int) : Int := xs.foldl (fun a x => a * 256 + x) 0
theorem be_snoc (xs : List Int) (x : Int) : be (xs ++ [x]) = be xs * 256 + x := by simp [be]
theorem be_take_succ (xs : List Int) (k : Nat) (h : k < xs.length) : be (xs.take (k + 1)) = be (xs.take k) * 256 + xs.getD k 0 := by
  rw [List.take_succ_eq_append_getElem h, be_snoc]; simp [List.getD, h]
def Byt (xs : List Int) : Prop := ∀ x ∈ xs, 0 ≤ x ∧ x < 256
theorem Byt.drop {xs : List Int} (h : Byt xs) (k : Nat) : Byt (xs.drop k) := fun x hx => h x (List.mem_of_mem_drop hx)
theorem Byt.take {xs : List Int} (h : Byt xs) (k : Nat) : Byt (xs.take k) := fun x hx => h x (List.mem_of_mem_take hx)
theorem byte_at (xs : List Int) (k : Nat) (hx : Byt xs) (h : k < xs.length) : 0 ≤ xs.getD k 0 ∧ xs.getD k 0 < 256 := by
  have : xs.getD k 0 = xs[k] := by simp [List.getD, h]
  rw [this]
  exact hx _ (List.getElem_mem h)
theorem be_take_ge (xs : List Int) (hx : Byt xs) (k : Nat) : 0 ≤ be (xs.take k) := by
  induction k with
  | zero => simp [be]
  | succ k ih =>
    by_cases h : k < xs.length
    · rw [be_take_succ xs k h]
      have := byte_at xs k hx h
      omega
    · rw [List.take_of_length_le (by omega)]
      rwa [List.take_of_length_le (by omega)] at ih
theorem be_take_lt (xs : List Int) (hx : Byt xs) (k : Nat) : be (xs.take k) < 256 ^ k := by
  induction k with
  | zero => simp [be]
  | succ k ih =>
    by_cases h : k < xs.length
    · rw [be_take_succ xs k h, Int.pow_succ]
      have := byte_at xs k hx h
      omega
    · rw [List.take_of_length_le (by omega)]
      rw [List.take_of_length_le (by omega)] at ih
      have h1 : (0 : Int) < 256 ^ k := Int.pow_pos (by decide)
      rw [Int.pow_succ]
      omega
theorem pow_le3 (k : Nat) (hk : k ≤ 3) : (256 : Int) ^ k ≤ 16777216 := by
  match k, hk with
  | 0, _ => decide
  | 1, _ => decide
  | 2, _ => decide
  | 3, _ => decide
theorem be_take_lt3 (xs : List Int) (hx : Byt xs) (k : Nat) (hk : k ≤ 3) : be (xs.take k) < 16777216 := Int.lt_of_lt_of_le (be_take_lt xs hx k) (pow_le3 k hk)
theorem or_join (y x : Int) (h0 : 0 ≤ y) (h1 : y < 16777216) (h2 : 0 ≤ x) (h3 : x < 256) : bits .or .u64 (y * 256) x = y * 256 + x := by
  obtain ⟨a, rfl⟩ := Int.eq_ofNat_of_zero_le h0
  obtain ⟨b, rfl⟩ := Int.eq_ofNat_of_zero_le h2
  have e : ((a : Int) * 256) = ((a * 256 : Nat) : Int) := by omega
  rw [e, u64_or_nat _ _ (by omega) (by omega), nat_join 8 _ _ (by omega) (by omega)]
  omega

/-- A number of so many bytes, below 0, too. -/
def sgn (size : Nat) (n : Int) : Int := if 2 ^ (8 * size - 1) ≤ n then n - 2 ^ (8 * size) else n

/-! ### Instructions -/
structure Ins where
  At : Int
  Op : Int
  N : Int
  M : Int
  To : List Int
  Keys : List Int
def Ins.zero : Ins := ⟨0, 0, 0, 0, [], []⟩

def shp (op : Int) : Int :=
  if 5 ≤ op ∧ op ≤ 10 then 1
  else if op = 1 ∨ op = 2 then 2
  else if op = 3 ∨ (61 ≤ op ∧ op ≤ 65) ∨ op = 68 ∨ op = 76 ∨ op = 77 ∨ (79 ≤ op ∧ op ≤ 82) then 3
  else if 42 ≤ op ∧ op ≤ 58 then 4
  else if op = 11 then 5
  else if op = 59 then 6
  else if op = 60 then 7
  else 0
def endsB (op : Int) : Bool := (decide (58 ≤ op) && decide (op ≤ 60)) || decide (op = 78) || (decide (83 ≤ op) && decide (op ≤ 86))

def inB (n l m : Int) : Bool := decide (l ≤ n) && decide (n ≤ m)
theorem inB_true {n l m : Int} (h : l ≤ n) (h2 : n ≤ m) : inB n l m = true := by simp [inB, h, h2]
theorem inB_false {n l m : Int} (h : ¬ (l ≤ n ∧ n ≤ m)) : inB n l m = false := by
  rw [Bool.eq_false_iff]
  intro e
  simp [inB] at e
  exact h e
/-- A place to which none may go. -/
def oddB (t : Int) : Bool := !(inB t 0 8191)
def placesB (x : Ins) : Bool := !(x.To.any oddB)
def waysB (x : Ins) : Bool :=
  if shp x.Op = 4 then decide (x.To.length = 1 ∧ x.Keys.length = 0)
  else if shp x.Op = 6 then decide (2 ≤ x.To.length ∧ x.To.length ≤ 1001 ∧ x.Keys.length = 0)
  else if shp x.Op = 7 then decide (1 ≤ x.To.length ∧ x.To.length ≤ 1001 ∧ x.Keys.length + 1 = x.To.length)
  else decide (x.To.length = 0 ∧ x.Keys.length = 0)
def numsB (x : Ins) : Bool :=
  if shp x.Op = 1 then decide (x.M = 0 ∧ 0 ≤ x.N ∧ x.N ≤ 255)
  else if shp x.Op = 2 then decide (x.M = 0 ∧ -32768 ≤ x.N ∧ x.N ≤ 32767)
  else if shp x.Op = 3 then decide (x.M = 0 ∧ 0 ≤ x.N ∧ x.N ≤ 65535)
  else if shp x.Op = 5 then decide (0 ≤ x.N ∧ x.N ≤ 255 ∧ -128 ≤ x.M ∧ x.M ≤ 127)
  else if shp x.Op = 6 then decide (x.M = 0 ∧ -2147483648 ≤ x.N ∧ x.N ≤ 2147483649 - (x.To.length : Int))
  else decide (x.N = 0 ∧ x.M = 0)
/-- Keys rise, and are ints. -/
def keyB (ks : List Int) (i : Nat) : Bool := decide (-2147483648 ≤ ks.getD i 0 ∧ ks.getD i 0 ≤ 2147483647 ∧ (0 < i → ks.getD (i - 1) 0 < ks.getD i 0))
def keysB (ks : List Int) : Bool := (List.range ks.length).all (keyB ks)
theorem keysB_true {ks : List Int} (h : ∀ i, i < ks.length → keyB ks i = true) : keysB ks = true := by
  unfold keysB
  rw [List.all_eq_true]
  intro i hi
  exact h i (List.mem_range.1 hi)
theorem keysB_false {ks : List Int} (i : Nat) (hi : i < ks.length) (h : keyB ks i = false) : keysB ks = false := by
  unfold keysB
  rw [List.all_eq_false]
  exact ⟨i, List.mem_range.2 hi, by simp [h]⟩
def headB (x : Ins) : Bool := decide (0 ≤ x.At ∧ x.At ≤ 8191 ∧ 0 ≤ x.Op ∧ x.Op ≤ 89)
def mayB (x : Ins) : Bool := headB x && (placesB x && waysB x) && numsB x && keysB x.Keys

/-! ### Decoding -/
/-- A number taken off, plain or signed. -/
def tk (size : Nat) (xs : List Int) : Option (Int × List Int) := if size ≤ xs.length then some (be (xs.take size), xs.drop size) else none
def tks (size : Nat) (xs : List Int) : Option (Int × List Int) := if size ≤ xs.length then some (sgn size (be (xs.take size)), xs.drop size) else none
def tkTo (at_ : Int) (xs : List Int) : Option (Int × List Int) := (tks 2 xs).map fun p => (at_ + p.1, p.2)
/-- The other places of a switch, and its keys. -/
def ways (at_ : Int) (keys : Bool) : Nat → List Int → List Int → List Int → Option (List Int × List Int × List Int)
  | 0, T, K, xs => some (T, K, xs)
  | n + 1, T, K, xs =>
    if keys then (tks 4 xs).bind fun p => (tkTo at_ p.2).bind fun q => ways at_ keys n (T ++ [q.1]) (K ++ [p.1]) q.2
    else (tkTo at_ xs).bind fun q => ways at_ keys n (T ++ [q.1]) K q.2
/-- What stands behind the first byte. -/
def body (at_ op : Int) (xs : List Int) : Option (Ins × List Int) :=
  if shp op = 1 then (tk 1 xs).map fun p => (⟨at_, op, p.1, 0, [], []⟩, p.2)
  else if shp op = 2 then (tks 2 xs).map fun p => (⟨at_, op, p.1, 0, [], []⟩, p.2)
  else if shp op = 3 then (tk 2 xs).map fun p => (⟨at_, op, p.1, 0, [], []⟩, p.2)
  else if shp op = 4 then (tkTo at_ xs).map fun p => (⟨at_, op, 0, 0, [p.1], []⟩, p.2)
  else if shp op = 5 then (tk 1 xs).bind fun p => (tks 1 p.2).map fun q => (⟨at_, op, p.1, q.1, [], []⟩, q.2)
  else if shp op = 6 then (tkTo at_ xs).bind fun p => (tks 4 p.2).bind fun q =>
    ((tk 2 q.2).bind fun r => ways at_ false r.1.toNat [p.1] [] r.2).map fun s => (⟨at_, op, q.1, 0, s.1, s.2.1⟩, s.2.2)
  else if shp op = 7 then (tkTo at_ xs).bind fun p =>
    ((tk 2 p.2).bind fun r => ways at_ true r.1.toNat [p.1] [] r.2).map fun s => (⟨at_, op, 0, 0, s.1, s.2.1⟩, s.2.2)
  else some (⟨at_, op, 0, 0, [], []⟩, xs)
/-- The instruction at a byte, where the next one begins, or what is wrong. -/
def dec (bs : List Int) (at_ : Int) : Ins × Int × Int :=
  if at_ < 0 ∨ (bs.length : Int) ≤ at_ ∨ 8192 ≤ at_ then (Ins.zero, 0, 9)
  else if 89 < bs.getD at_.toNat 0 then (Ins.zero, 0, 60)
  else match body at_ (bs.getD at_.toNat 0) (bs.drop (at_.toNat + 1)) with
    | none => (Ins.zero, 0, 3)
    | some (x, left) => if mayB x then (x, (bs.length : Int) - left.length, 0) else (Ins.zero, 0, 4)

/-! ### Encoding -/
def put (n : Int) : Nat → List Int
  | 0 => []
  | size + 1 => (n / 256 ^ size) % 256 :: put n size
def encKeys (at_ : Int) : List Int → List Int → List Int
  | k :: ks, t :: ts => put k 4 ++ put (t - at_) 2 ++ encKeys at_ ks ts
  | _, _ => []
def encB (x : Ins) : List Int :=
  (x.Op % 256) :: (
    if shp x.Op = 1 then put x.N 1
    else if shp x.Op = 2 ∨ shp x.Op = 3 then put x.N 2
    else if shp x.Op = 4 then put (x.To.getD 0 0 - x.At) 2
    else if shp x.Op = 5 then put x.N 1 ++ put x.M 1
    else if shp x.Op = 6 then put (x.To.getD 0 0 - x.At) 2 ++ put x.N 4 ++ put ((x.To.length : Int) - 1) 2 ++ (x.To.drop 1).flatMap fun t => put (t - x.At) 2
    else if shp x.Op = 7 then put (x.To.getD 0 0 - x.At) 2 ++ put x.Keys.length 2 ++ encKeys x.At x.Keys (x.To.drop 1)
    else [])
def enc (x : Ins) : List Int × Int := if mayB x then (encB x, 0) else ([], 2)
end Go.Proofs.YtjmfdmipdglccaaDoor
