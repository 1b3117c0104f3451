/-
  The plain functions of layer 1: numbers in bytes, the sum, the exclusive or, bits. No program in sight.
-/
import Derived.WalkKit
namespace Go.Proofs.Ytikfbhepnnbdoaa
set_option linter.all false

/-- the number that stands in bytes, the lowest one first -/
def leNum : List UInt8 → Nat
  | [] => 0
  | b :: r => b.toNat + 256 * leNum r

/-- so many bytes of a number -/
def leBytes (x : Nat) : Nat → List UInt8
  | 0 => []
  | n + 1 => UInt8.ofNat (x % 256) :: leBytes (x / 256) n

theorem leBytes_len (n : Nat) : ∀ x, (leBytes x n).length = n := by
  induction n with
  | zero => intro x; rfl
  | succ n ih => intro x; simp [leBytes, ih]
theorem leBytes_get (n : Nat) : ∀ x i (h : i < (leBytes x n).length), (leBytes x n)[i].toNat = x / 256 ^ i % 256 := by
  induction n with
  | zero => intro x i h; simp [leBytes] at h
  | succ n ih =>
    intro x i h
    cases i with
    | zero => simp [leBytes]
    | succ i =>
      simp only [leBytes, List.getElem_cons_succ]
      rw [ih, Nat.div_div_eq_div_mul, Nat.pow_succ, Nat.mul_comm]
theorem leNum_leBytes (n : Nat) : ∀ x, leNum (leBytes x n) = x % 256 ^ n := by
  induction n with
  | zero => intro x; simp [leBytes, leNum, Nat.mod_one]
  | succ n ih =>
    intro x
    simp only [leBytes, leNum, ih]
    rw [Nat.pow_succ, Nat.mul_comm (256 ^ n) 256, Nat.mod_mul]
    have : (UInt8.ofNat (x % 256)).toNat = x % 256 := by simp
    omega
theorem leNum_lt (bs : List UInt8) : leNum bs < 256 ^ bs.length := by
  induction bs with
  | nil => simp [leNum]
  | cons b r ih =>
    simp only [leNum, List.length_cons, Nat.pow_succ]
    have := b.toNat_lt
    omega
theorem leNum_snoc (bs : List UInt8) (b : UInt8) : leNum (bs ++ [b]) = leNum bs + 256 ^ bs.length * b.toNat := by
  induction bs with
  | nil => simp [leNum]
  | cons c r ih =>
    simp only [List.cons_append, leNum, ih, List.length_cons, Nat.pow_succ]
    rw [Nat.mul_add, Nat.mul_comm (256 ^ r.length) 256, Nat.mul_assoc]
    omega

theorem leBytes_snoc (k : Nat) : ∀ x, leBytes x (k + 1) = leBytes x k ++ [UInt8.ofNat (x / 256 ^ k % 256)] := by
  induction k with
  | zero => intro x; simp [leBytes]
  | succ k ih =>
    intro x
    rw [leBytes, ih (x / 256)]
    simp only [leBytes, List.cons_append, Nat.div_div_eq_div_mul]
    rw [Nat.pow_succ, Nat.mul_comm 256 (256 ^ k)]
theorem pow8 (k : Nat) : 2 ^ (8 * k) = 256 ^ k := by rw [Nat.pow_mul]
/-- the bytes that stand already, and noughts -/
def part (bs : List UInt8) (k n : Nat) : List UInt8 := bs.take k ++ List.replicate (n - k) 0
theorem part_zero (bs : List UInt8) (n : Nat) : part bs 0 n = List.replicate n 0 := by simp [part]
theorem part_all (bs : List UInt8) (n : Nat) (h : bs.length = n) : part bs n n = bs := by simp [part, List.take_of_length_le, h]
theorem part_len (bs : List UInt8) (k n : Nat) (h : bs.length = n) (hk : k ≤ n) : (part bs k n).length = n := by
  simp [part]; omega
theorem part_set (bs : List UInt8) (k n : Nat) (h : bs.length = n) (hk : k < n) : (part bs k n).set k (bs[k]'(by omega)) = part bs (k + 1) n := by
  unfold part
  have e : n - k = (n - (k + 1)) + 1 := by omega
  rw [e, List.replicate_succ, List.set_append_right _ _ (by rw [List.length_take]; omega), List.take_succ_eq_append_getElem (by omega), List.append_assoc]
  have e2 : k - (bs.take k).length = 0 := by rw [List.length_take]; omega
  rw [e2]
  rfl
theorem leBytes_at (x k n : Nat) (h : k < (leBytes x n).length) : (leBytes x n)[k] = UInt8.ofNat (x / 256 ^ k % 256) := by
  apply UInt8.toNat_inj.1
  rw [leBytes_get]
  simp

/-- the sum, a nibble at a time -/
def crcT : List Nat := [0, 274646895, 549293790, 820201905, 1098587580, 1361435347, 1640403810, 1905808397, 2197175160, 2460548119, 2722870694, 2987750089, 3280807620, 3553878443, 3811616794, 4084100981]
def nib (c : Nat) : Nat := crcT.getD (c % 16) 0 ^^^ (c / 16)
def crcB (c : Nat) (b : UInt8) : Nat := nib (nib (c ^^^ b.toNat))
def crcL (c : Nat) (bs : List UInt8) : Nat := bs.foldl crcB c
def crc (seed : Nat) (bs : List UInt8) : Nat := 4294967295 - crcL (4294967295 - seed) bs

theorem crcT_lt (j : Nat) : crcT.getD j 0 < 4294967296 := by
  by_cases h : j < 16
  · have : ∀ j, j < 16 → crcT.getD j 0 < 4294967296 := by decide
    exact this j h
  · have e : crcT[j]? = none := List.getElem?_eq_none (by simp [crcT]; omega)
    simp [List.getD, e]
theorem xor_lt32 {a b : Nat} (ha : a < 4294967296) (hb : b < 4294967296) : a ^^^ b < 4294967296 := Nat.xor_lt_two_pow (n := 32) ha hb
theorem nib_lt (c : Nat) (h : c < 4294967296) : nib c < 4294967296 := xor_lt32 (crcT_lt _) (by omega)
theorem crcB_lt (c : Nat) (b : UInt8) (h : c < 4294967296) : crcB c b < 4294967296 :=
  nib_lt _ (nib_lt _ (xor_lt32 h (by have := b.toNat_lt; omega)))
theorem crcL_lt (bs : List UInt8) : ∀ c, c < 4294967296 → crcL c bs < 4294967296 := by
  induction bs with
  | nil => intro c h; exact h
  | cons b r ih => intro c h; exact ih _ (crcB_lt c b h)
theorem crc_lt (seed : Nat) (bs : List UInt8) : crc seed bs < 4294967296 := by unfold crc; omega
theorem crcL_snoc (c : Nat) (bs : List UInt8) (k : Nat) (h : k < bs.length) : crcL c (bs.take (k + 1)) = crcB (crcL c (bs.take k)) bs[k] := by
  rw [List.take_succ_eq_append_getElem h]
  unfold crcL
  rw [List.foldl_append]
  rfl

/-- is a bit set? -/
def bitN (b i : Nat) : Bool := b / 2 ^ i % 2 == 1
def hasB (bs : List UInt8) (i : Nat) : Bool := bitN (bs.getD (i / 8) 0).toNat (i % 8)
def hasI (bs : List UInt8) (i : Int) : Bool := decide (0 ≤ i) && hasB bs i.toNat
theorem hasB_out (bs : List UInt8) (i : Nat) (h : bs.length ≤ i / 8) : hasB bs i = false := by
  have e : bs[i / 8]? = none := List.getElem?_eq_none h
  simp [hasB, bitN, List.getD, e]

/-- a byte of which one bit is set, or not -/
def clrN (b k : Nat) : Nat := b &&& (255 - 2 ^ k)
def setN (b k : Nat) (on : Bool) : Nat := if on then clrN b k ||| 2 ^ k else clrN b k
def setB (b : UInt8) (k : Nat) (on : Bool) : UInt8 := UInt8.ofNat (setN b.toNat k on)
def withB (bs : List UInt8) (i : Nat) (on : Bool) : List UInt8 := bs.set (i / 8) (setB (bs.getD (i / 8) 0) (i % 8) on)
theorem clrN_lt (b k : Nat) (hb : b < 256) : clrN b k < 256 := Nat.lt_of_le_of_lt Nat.and_le_left hb
theorem setN_lt (b k : Nat) (on : Bool) (hb : b < 256) (hk : k < 8) : setN b k on < 256 := by
  unfold setN
  split
  · exact Nat.or_lt_two_pow (n := 8) (clrN_lt b k hb) (Nat.pow_lt_pow_right (by omega) hk)
  · exact clrN_lt b k hb

/-- the first place, of so many from one on, at which f says no -/
def freeFrom (f : Nat → Bool) : Nat → Nat → Option Nat
  | _, 0 => none
  | s, k + 1 => if f s then freeFrom f (s + 1) k else some s
/-- at how many of the first places f says yes -/
def countTo (f : Nat → Bool) : Nat → Nat
  | 0 => 0
  | k + 1 => countTo f k + (if f k then 1 else 0)
theorem countTo_le (f : Nat → Bool) : ∀ k, countTo f k ≤ k
  | 0 => Nat.le_refl _
  | k + 1 => by have := countTo_le f k; simp only [countTo]; split <;> omega
def stopAt (n : Int) (L : Nat) : Nat := (min n (8 * (L : Int))).toNat
def freeI (bs : List UInt8) (o n : Int) : Option Nat := freeFrom (hasB bs) (max o 0).toNat (stopAt n bs.length - (max o 0).toNat)
def countI (bs : List UInt8) (n : Int) : Nat := countTo (hasB bs) (stopAt n bs.length)

/-! the sum is one to one in each byte, and goes on -/
theorem crcT_top : ∀ j, j < 16 → crcT.getD j 0 / 268435456 = j := by decide
theorem nib_top (c : Nat) (h : c < 4294967296) : nib c / 268435456 = c % 16 := by
  have e : (268435456 : Nat) = 2 ^ 28 := by decide
  unfold nib
  rw [e, Nat.xor_div_two_pow]
  have h1 : c / 16 / 2 ^ 28 = 0 := by
    rw [← e]; omega
  rw [h1, Nat.xor_zero, ← e]
  exact crcT_top _ (by omega)
theorem xor_cancel {a b c : Nat} (h : a ^^^ b = a ^^^ c) : b = c := by
  have := congrArg (a ^^^ ·) h
  simpa [← Nat.xor_assoc] using this
theorem nib_inj {c d : Nat} (hc : c < 4294967296) (hd : d < 4294967296) (h : nib c = nib d) : c = d := by
  have h1 : c % 16 = d % 16 := by rw [← nib_top c hc, ← nib_top d hd, h]
  unfold nib at h
  rw [h1] at h
  have h2 := xor_cancel h
  omega
theorem crcB_inj_seed {c d : Nat} {b : UInt8} (hc : c < 4294967296) (hd : d < 4294967296) (h : crcB c b = crcB d b) : c = d := by
  have hb := b.toNat_lt
  have h1 := nib_inj (nib_lt _ (xor_lt32 hc (by omega))) (nib_lt _ (xor_lt32 hd (by omega))) h
  have h2 := nib_inj (xor_lt32 hc (by omega)) (xor_lt32 hd (by omega)) h1
  rw [Nat.xor_comm c, Nat.xor_comm d] at h2
  exact xor_cancel h2
theorem crcB_inj_byte {c : Nat} {a b : UInt8} (hc : c < 4294967296) (h : crcB c a = crcB c b) : a = b := by
  have ha := a.toNat_lt
  have hb := b.toNat_lt
  have h1 := nib_inj (nib_lt _ (xor_lt32 hc (by omega))) (nib_lt _ (xor_lt32 hc (by omega))) h
  have h2 := nib_inj (xor_lt32 hc (by omega)) (xor_lt32 hc (by omega)) h1
  exact UInt8.toNat_inj.1 (xor_cancel h2)
theorem crcL_inj (bs : List UInt8) : ∀ {c d : Nat}, c < 4294967296 → d < 4294967296 → crcL c bs = crcL d bs → c = d := by
  induction bs with
  | nil => intro c d _ _ h; exact h
  | cons b r ih => intro c d hc hd h; exact crcB_inj_seed hc hd (ih (crcB_lt c b hc) (crcB_lt d b hd) h)
theorem crcL_app (bs cs : List UInt8) (c : Nat) : crcL c (bs ++ cs) = crcL (crcL c bs) cs := by
  unfold crcL; rw [List.foldl_append]
theorem crcL_turned (bs : List UInt8) (i : Nat) (hi : i < bs.length) (x : UInt8) (hx : x ≠ bs[i]) (c : Nat) (hc : c < 4294967296) : crcL c bs ≠ crcL c (bs.set i x) := by
  have e1 : bs = bs.take i ++ bs[i] :: bs.drop (i + 1) := by
    conv => lhs; rw [← List.take_append_drop i bs, List.drop_eq_getElem_cons hi]
  have e2 : bs.set i x = bs.take i ++ x :: bs.drop (i + 1) := List.set_eq_take_append_cons_drop.trans (by rw [if_pos hi])
  intro h
  rw [e2] at h
  rw [e1, crcL_app] at h
  have e3 : (bs.take i ++ bs[i] :: bs.drop (i + 1)).take i = bs.take i := by rw [← e1]
  have e4 : (bs.take i ++ bs[i] :: bs.drop (i + 1)).drop (i + 1) = bs.drop (i + 1) := by rw [← e1]
  rw [e3, e4, crcL_app] at h
  have hl := crcL_lt (bs.take i) c hc
  exact hx (crcB_inj_byte hl (crcL_inj (bs.drop (i + 1)) (crcB_lt _ _ hl) (crcB_lt _ _ hl) h)).symm
theorem crc_turned (bs : List UInt8) (i : Nat) (hi : i < bs.length) (x : UInt8) (hx : x ≠ bs[i]) (seed : Nat) : crc seed bs ≠ crc seed (bs.set i x) := by
  unfold crc
  have h := crcL_turned bs i hi x hx (4294967295 - seed) (by omega)
  have h1 := crcL_lt bs (4294967295 - seed) (by omega)
  have h2 := crcL_lt (bs.set i x) (4294967295 - seed) (by omega)
  omega
theorem crc_app (seed : Nat) (hs : seed < 4294967296) (bs cs : List UInt8) : crc seed (bs ++ cs) = crc (crc seed bs) cs := by
  have h1 := crcL_lt bs (4294967295 - seed) (by omega)
  unfold crc
  rw [crcL_app]
  congr 2
  omega
theorem crc_nil (seed : Nat) (hs : seed < 4294967296) : crc seed [] = seed := by
  show 4294967295 - (4294967295 - seed) = seed
  omega
end Go.Proofs.Ytikfbhepnnbdoaa
