/- CRC-32C over numbers: bit by bit, and by a table; the mask. No program in sight. -/
import Derived.Laws.BitsAllLaws
import Derived.Laws.BitsLemmas
import Derived.IntWalk
namespace Go.Proofs.Ytonhhbebpcaaeaa

def poly : Nat := 2197175160
/-- One bit. -/
def step1 (r : Nat) : Nat := (r / 2) ^^^ (if r % 2 = 1 then poly else 0)
def stepN : Nat → Nat → Nat
  | 0, r => r
  | k + 1, r => stepN k (step1 r)
/-- A register, further by bytes. -/
def crcFold (r : Nat) : List UInt8 → Nat
  | [] => r
  | x :: xs => crcFold (stepN 8 (r ^^^ x.toNat)) xs
def crc (xs : List UInt8) : Nat := crcFold 4294967295 xs ^^^ 4294967295
def maskOf (s : Nat) : Nat := ((s / 32768 ||| s * 131072 % 4294967296) + 2726488792) % 4294967296

theorem step1_lt {r : Nat} (h : r < 4294967296) : step1 r < 4294967296 := by
  unfold step1
  refine Nat.xor_lt_two_pow (n := 32) (by omega) ?_
  split
  · decide
  · omega
theorem stepN_lt (k : Nat) : ∀ {r : Nat}, r < 4294967296 → stepN k r < 4294967296 := by
  induction k with
  | zero => intro r h; exact h
  | succ k ih => intro r h; exact ih (step1_lt h)
theorem xorb_lt {r : Nat} (x : UInt8) (h : r < 4294967296) : r ^^^ x.toNat < 4294967296 :=
  Nat.xor_lt_two_pow (n := 32) (by omega) (by have := x.toNat_lt; omega)
theorem crcFold_lt (xs : List UInt8) : ∀ {r : Nat}, r < 4294967296 → crcFold r xs < 4294967296 := by
  induction xs with
  | nil => intro r h; exact h
  | cons x xs ih => intro r h; exact ih (stepN_lt 8 (xorb_lt x h))
theorem crc_lt (xs : List UInt8) : crc xs < 4294967296 := Nat.xor_lt_two_pow (n := 32) (crcFold_lt xs (by omega)) (by omega)
theorem maskOf_lt (s : Nat) : maskOf s < 4294967296 := Nat.mod_lt _ (by omega)

theorem crcFold_drop (xs : List UInt8) (k : Nat) (h : k < xs.length) (r : Nat) : crcFold r (xs.drop k) = crcFold (stepN 8 (r ^^^ (xs.getD k 0).toNat)) (xs.drop (k + 1)) := by
  rw [List.drop_eq_getElem_cons h]
  simp [crcFold, List.getD, h]

/- xor and halves -/
theorem xor_half (a b : Nat) : (a ^^^ b) / 2 = (a / 2) ^^^ (b / 2) := by
  apply Nat.eq_of_testBit_eq
  intro i
  simp [Nat.testBit_div_two]
theorem xor_mod2 (a b : Nat) : (a ^^^ b) % 2 = (a % 2 + b % 2) % 2 := by
  have h := Nat.testBit_xor a b 0
  simp only [Nat.testBit_zero] at h
  rcases Nat.mod_two_eq_zero_or_one a with ha | ha <;> rcases Nat.mod_two_eq_zero_or_one b with hb | hb <;> rcases Nat.mod_two_eq_zero_or_one (a ^^^ b) with hc | hc <;> simp_all
/-- A step is linear. -/
theorem step1_xor (a b : Nat) : step1 (a ^^^ b) = step1 a ^^^ step1 b := by
  unfold step1
  rw [xor_half, xor_mod2]
  have e1 : ∀ p q r s : Nat, (p ^^^ q) ^^^ (r ^^^ s) = (p ^^^ r) ^^^ (q ^^^ s) := by
    intro p q r s
    rw [Nat.xor_assoc, Nat.xor_assoc, ← Nat.xor_assoc q r s, Nat.xor_comm q r, Nat.xor_assoc r q s]
  rcases Nat.mod_two_eq_zero_or_one a with ha | ha <;> rcases Nat.mod_two_eq_zero_or_one b with hb | hb <;> simp only [ha, hb]
  · simp
  · rw [e1 (a / 2)]; simp
  · rw [e1 (a / 2)]; simp
  · rw [e1 (a / 2)]; simp
theorem stepN_xor (k : Nat) : ∀ a b, stepN k (a ^^^ b) = stepN k a ^^^ stepN k b := by
  induction k with
  | zero => intro a b; rfl
  | succ k ih => intro a b; show stepN k (step1 (a ^^^ b)) = _; rw [step1_xor, ih]; rfl
/-- Bits that lie high are shifted alone. -/
theorem stepN_high (k : Nat) : ∀ h, stepN k (h * 2 ^ k) = h := by
  induction k with
  | zero => intro h; simp [stepN]
  | succ k ih =>
    intro h
    show stepN k (step1 (h * 2 ^ (k + 1))) = h
    have e : step1 (h * 2 ^ (k + 1)) = h * 2 ^ k := by
      have e2 : h * 2 ^ (k + 1) = 2 * (h * 2 ^ k) := by rw [Nat.pow_succ]; rw [Nat.mul_comm 2, Nat.mul_assoc]
      unfold step1
      rw [e2, if_neg (by omega), Nat.mul_div_cancel_left _ (by omega)]
      simp
    rw [e, ih]
theorem split256 (r : Nat) : r = (r / 256 * 256) ^^^ (r % 256) := by
  apply Nat.eq_of_testBit_eq
  intro i
  rw [show (256 : Nat) = 2 ^ 8 from rfl, Nat.testBit_xor, Nat.testBit_mul_two_pow, Nat.testBit_mod_two_pow, Nat.testBit_div_two_pow]
  by_cases h : i < 8
  · have h8 : decide (8 ≤ i) = false := by simp; omega
    simp [h, h8]
  · simp [h, (by omega : 8 ≤ i), (by omega : i - 8 + 8 = i)]
/-- **The table's step is the eight bits'.** -/
theorem stepN_table (r : Nat) : stepN 8 r = (r / 256) ^^^ stepN 8 (r % 256) := by
  conv => lhs; rw [split256 r, stepN_xor]
  rw [show (r / 256 * 256 : Nat) = r / 256 * 2 ^ 8 from rfl, stepN_high]
theorem xor_div256 (r x : Nat) (hx : x < 256) : (r ^^^ x) / 256 = r / 256 := by
  rw [show (256 : Nat) = 2 ^ 8 from rfl, ← Nat.shiftRight_eq_div_pow, ← Nat.shiftRight_eq_div_pow]
  apply Nat.eq_of_testBit_eq
  intro i
  rw [Nat.testBit_shiftRight, Nat.testBit_shiftRight, Nat.testBit_xor, Nat.testBit_lt_two_pow (x := x) (i := 8 + i) (Nat.lt_of_lt_of_le hx (by rw [show (256 : Nat) = 2 ^ 8 from rfl]; exact Nat.pow_le_pow_right (by omega) (by omega)))]
  simp
theorem xor_mod256 (r x : Nat) (hx : x < 256) : (r ^^^ x) % 256 = (r % 256) ^^^ x := by
  rw [show (256 : Nat) = 2 ^ 8 from rfl, Nat.xor_mod_two_pow, Nat.mod_eq_of_lt (a := x) (by simpa using hx)]
theorem stepN_byte (r x : Nat) (hx : x < 256) : stepN 8 (r ^^^ x) = (r / 256) ^^^ stepN 8 ((r % 256) ^^^ x) := by
  rw [stepN_table, xor_div256 r x hx, xor_mod256 r x hx]

/- the model's spelling -/
theorem and1 {r : Nat} (h : r < 4294967296) : bits .and .u32 (r : Int) 1 = ((r % 2 : Nat) : Int) := by
  have := u32_and_nat r 1 h (by omega)
  rw [show ((1 : Nat) : Int) = 1 from rfl] at this
  rw [this, Nat.and_one_is_mod]
/-- 'r>>1 ^ poly&-(r&1)'. -/
theorem model_step {r : Nat} (h : r < 4294967296) : bits .xor .u32 ((r : Int) / 2) (bits .and .u32 2197175160 (IntKind.u32.wrap (-(bits .and .u32 (r : Int) 1)))) = ((step1 r : Nat) : Int) := by
  rw [and1 h]
  have e2 : ((r : Int) / 2) = ((r / 2 : Nat) : Int) := by omega
  unfold step1
  rcases Nat.mod_two_eq_zero_or_one r with h0 | h0
  · rw [h0, if_neg (by omega), e2]
    have e3 : bits .and .u32 2197175160 (IntKind.u32.wrap (-((0 : Nat) : Int))) = ((0 : Nat) : Int) := by decide +kernel
    rw [e3]
    exact u32_xor_nat (r / 2) 0 (by omega) (by omega)
  · rw [h0, if_pos rfl, e2]
    have e3 : bits .and .u32 2197175160 (IntKind.u32.wrap (-((1 : Nat) : Int))) = ((poly : Nat) : Int) := by decide +kernel
    rw [e3]
    exact u32_xor_nat (r / 2) poly (by omega) (by decide)
theorem model_step' {r : Nat} (h : r < 4294967296) : bits .xor .u32 ((r : Int) / 2) (bits .and .u32 2197175160 (-(bits .and .u32 (r : Int) 1) % 4294967296)) = ((step1 r : Nat) : Int) := by
  rw [← IntKind.wrap_u32']
  exact model_step h
theorem rot_val {s : Nat} (h : s < 4294967296) : bits .or .u32 ((s : Int) * 131072 % 4294967296) ((s : Int) / 32768) = ((s / 32768 ||| s * 131072 % 4294967296 : Nat) : Int) := by
  have e1 : (s : Int) / 32768 = ((s / 32768 : Nat) : Int) := by omega
  have e2 : (s : Int) * 131072 % 4294967296 = ((s * 131072 % 4294967296 : Nat) : Int) := by omega
  rw [e1, e2, u32_or_nat _ _ (by omega) (by omega), Nat.or_comm]
theorem table_val (s x : Nat) (hx : x < 256) : bits .xor .u8 ((s : Int) % 256) (x : Int) = (((s % 256) ^^^ x : Nat) : Int) := by
  rw [show (s : Int) % 256 = ((s % 256 : Nat) : Int) by omega]
  exact u8_xor_nat _ _ (by omega) hx
theorem step1_odd {r : Nat} (h : r < 4294967296) (h1 : r % 2 = 1) : bits .xor .u32 ((r : Int) / 2) 2197175160 = ((step1 r : Nat) : Int) := by
  have e2 : ((r : Int) / 2) = ((r / 2 : Nat) : Int) := by omega
  unfold step1
  rw [if_pos h1, e2]
  exact u32_xor_nat (r / 2) poly (by omega) (by decide)
theorem step1_even {r : Nat} (h1 : r % 2 = 0) : ((r : Int) / 2) = ((step1 r : Nat) : Int) := by
  unfold step1
  rw [if_neg (by omega)]
  simp
theorem flip32 {r : Nat} (h : r < 4294967296) : bits .xor .u32 IntKind.u32.max (r : Int) = ((r ^^^ 4294967295 : Nat) : Int) := by
  rw [show IntKind.u32.max = ((4294967295 : Nat) : Int) by decide, u32_xor_nat 4294967295 r (by omega) h, Nat.xor_comm]
theorem mask_val {s : Nat} (h : s < 4294967296) : (bits .or .u32 ((s : Int) / 32768) ((s : Int) * 131072 % 4294967296) + 2726488792) % 4294967296 = ((maskOf s : Nat) : Int) := by
  have e1 : (s : Int) / 32768 = ((s / 32768 : Nat) : Int) := by omega
  have e2 : (s : Int) * 131072 % 4294967296 = ((s * 131072 % 4294967296 : Nat) : Int) := by omega
  rw [e1, e2, u32_or_nat _ _ (by omega) (by omega)]
  unfold maskOf
  omega
end Go.Proofs.Ytonhhbebpcaaeaa
