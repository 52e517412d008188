/- Masks, bits and prefixes of 32-bit numbers, in plain arithmetic. -/
import Derived.Test.YtebioeboegmhlaaDoorWMore
import Derived.Laws.BitsLemmas
import Derived.Lib.ItoaNum
namespace Go.Proofs.YtebioeboegmhlaaDoor.X
open Go.RowKit Go.Proofs.YtebioeboegmhlaaDoorW.PrintWords Go.Proofs.YtebioeboegmhlaaDoorW.PrintMore

theorem nat_and_mask (a j : Nat) (hj : j ≤ 32) (ha : a < 2 ^ 32) : a &&& (2 ^ 32 - 2 ^ j) = a / 2 ^ j * 2 ^ j := by
  have e : 2 ^ 32 - 2 ^ j = (2 ^ (32 - j) - 1) <<< j := by
    rw [Nat.shiftLeft_eq, Nat.sub_mul, ← Nat.pow_add, Nat.sub_add_cancel hj, Nat.one_mul]
  rw [e, ← Nat.shiftRight_eq_div_pow, ← Nat.shiftLeft_eq]
  apply Nat.eq_of_testBit_eq
  intro i
  simp only [Nat.testBit_and, Nat.testBit_shiftLeft, Nat.testBit_shiftRight, Nat.testBit_two_pow_sub_one]
  by_cases h : j ≤ i
  · have e2 : j + (i - j) = i := by omega
    rw [e2]
    by_cases h2 : i < 32
    · have h3 : i - j < 32 - j := by omega
      simp [h, h3]
    · have : a.testBit i = false := Nat.testBit_lt_two_pow (Nat.lt_of_lt_of_le ha (Nat.pow_le_pow_right (by decide) (by omega)))
      simp [this]
  · simp [h]

theorem ofInt_nat (a : Nat) (ha : a < 2 ^ 32) : (BitVec.ofInt 32 (a : Int)).toNat = a := by
  rw [BitVec.ofInt_natCast, BitVec.toNat_ofNat]
  exact Nat.mod_eq_of_lt ha

theorem wrap_nat (a : Nat) (ha : a < 2 ^ 32) : IntKind.u32.wrap (a : Int) = a := by
  rw [IntKind.wrap_u32]
  have : (2 : Nat) ^ 32 = 4294967296 := by decide
  omega

theorem bits_and_mask (a j : Nat) (hj : j ≤ 32) (ha : a < 2 ^ 32) : Go.bits .and .u32 (a : Int) (((2 ^ 32 - 2 ^ j : Nat)) : Int) = ((a / 2 ^ j * 2 ^ j : Nat) : Int) := by
  have hp : 0 < 2 ^ j := Nat.two_pow_pos j
  have hlt : 2 ^ 32 - 2 ^ j < 2 ^ 32 := by omega
  unfold Go.bits
  show IntKind.u32.wrap (((BitVec.ofInt 32 (a : Int) &&& BitVec.ofInt 32 ((2 ^ 32 - 2 ^ j : Nat) : Int)).toNat : Nat) : Int) = _
  rw [BitVec.toNat_and, ofInt_nat a ha, ofInt_nat _ hlt, nat_and_mask a j hj ha]
  exact wrap_nat _ (Nat.lt_of_le_of_lt (Nat.div_mul_le_self _ _) ha)

theorem bits_andNot_mask (a j : Nat) (hj : j ≤ 32) (ha : a < 2 ^ 32) : Go.bits .andNot .u32 (a : Int) (((2 ^ 32 - 2 ^ j : Nat)) : Int) = ((a % 2 ^ j : Nat) : Int) := by
  have hp : 0 < 2 ^ j := Nat.two_pow_pos j
  have hj2 : 2 ^ j ≤ 2 ^ 32 := Nat.pow_le_pow_right (by decide) hj
  have hlt : 2 ^ 32 - 2 ^ j < 2 ^ 32 := by omega
  unfold Go.bits
  show IntKind.u32.wrap (((BitVec.ofInt 32 (a : Int) &&& ~~~BitVec.ofInt 32 ((2 ^ 32 - 2 ^ j : Nat) : Int)).toNat : Nat) : Int) = _
  rw [BitVec.toNat_and, ofInt_nat a ha, BitVec.toNat_not, ofInt_nat _ hlt]
  have e : 2 ^ 32 - 1 - (2 ^ 32 - 2 ^ j) = 2 ^ j - 1 := by omega
  rw [e, Nat.and_two_pow_sub_one_eq_mod]
  exact wrap_nat _ (Nat.lt_of_lt_of_le (Nat.mod_lt _ hp) hj2)

theorem bits_xor_nat (a b : Nat) (ha : a < 2 ^ 32) (hb : b < 2 ^ 32) : Go.bits .xor .u32 (a : Int) (b : Int) = ((a ^^^ b : Nat) : Int) := by
  unfold Go.bits
  show IntKind.u32.wrap (((BitVec.ofInt 32 (a : Int) ^^^ BitVec.ofInt 32 (b : Int)).toNat : Nat) : Int) = _
  rw [BitVec.toNat_xor, ofInt_nat a ha, ofInt_nat b hb]
  exact wrap_nat _ (Nat.xor_lt_two_pow ha hb)

theorem bits_and_low (x i : Nat) (hi : i ≤ 32) (hx : x < 2 ^ 32) : Go.bits .and .u32 (x : Int) ((2 ^ i - 1 : Nat) : Int) = ((x % 2 ^ i : Nat) : Int) := by
  have hp : 0 < 2 ^ i := Nat.two_pow_pos i
  have hj2 : 2 ^ i ≤ 2 ^ 32 := Nat.pow_le_pow_right (by decide) hi
  unfold Go.bits
  show IntKind.u32.wrap (((BitVec.ofInt 32 (x : Int) &&& BitVec.ofInt 32 ((2 ^ i - 1 : Nat) : Int)).toNat : Nat) : Int) = _
  rw [BitVec.toNat_and, ofInt_nat x hx, ofInt_nat _ (by omega), Nat.and_two_pow_sub_one_eq_mod]
  exact wrap_nat _ (Nat.lt_of_lt_of_le (Nat.mod_lt _ hp) hj2)

theorem bits_or_low (x y i : Nat) (hi : i ≤ 32) (hx : x < 2 ^ 32) (hd : x % 2 ^ i = 0) (hy : y < 2 ^ i) : Go.bits .or .u32 (x : Int) (y : Int) = ((x + y : Nat) : Int) := by
  have hj2 : 2 ^ i ≤ 2 ^ 32 := Nat.pow_le_pow_right (by decide) hi
  have hw : ∀ n : Int, 0 ≤ n → n < 2 ^ 32 → IntKind.u32.wrap n = n := by
    intro n h0 h1
    rw [IntKind.wrap_u32]
    have e : (2 : Int) ^ 32 = 4294967296 := by decide
    omega
  have hy2 : y < 2 ^ 32 := Nat.lt_of_lt_of_le hy hj2
  have h := Go.bits_join .u32 32 (by decide) hw i (x : Int) (y : Int) (by omega) (by exact_mod_cast hd) (by exact_mod_cast hx) (by omega) (by exact_mod_cast hy) (by exact_mod_cast hy2)
  rw [h]
  simp

theorem mask_val (j : Nat) (hj : j ≤ 32) : (IntKind.u64.wrap (4294967295 * 2 ^ j)) % 4294967296 = ((2 ^ 32 - 2 ^ j : Nat) : Int) := by
  have h : ∀ j : Fin 33, (IntKind.u64.wrap (4294967295 * 2 ^ j.val)) % 4294967296 = ((2 ^ 32 - 2 ^ j.val : Nat) : Int) := by decide
  exact h ⟨j, by omega⟩

theorem xor_zero {a b : Nat} (h : a ^^^ b = 0) : a = b := by
  apply Nat.eq_of_testBit_eq
  intro i
  have := congrArg (fun n => Nat.testBit n i) h
  simpa using this
theorem xor_div (a b j : Nat) : (a ^^^ b) < 2 ^ j ↔ a / 2 ^ j = b / 2 ^ j := by
  rw [← Nat.shiftRight_eq_div_pow, ← Nat.shiftRight_eq_div_pow]
  constructor
  · intro h
    have : (a ^^^ b) >>> j = 0 := by rw [Nat.shiftRight_eq_div_pow]; exact Nat.div_eq_of_lt h
    rw [Nat.shiftRight_xor_distrib] at this
    exact xor_zero this
  · intro h
    have : (a ^^^ b) >>> j = 0 := by rw [Nat.shiftRight_xor_distrib, h, Nat.xor_self]
    rw [Nat.shiftRight_eq_div_pow] at this
    rcases Nat.div_eq_zero_iff.1 this with h0 | h0
    · exact absurd h0 (by have := Nat.two_pow_pos j; omega)
    · exact h0

theorem bitLen_lt (x k : Nat) (hk : k ≤ 64) (hx : x < 2 ^ 64) : x < 2 ^ k ↔ Lib.bitLen x ≤ k := by
  constructor
  · exact Lib.bitLen_le x k hk
  · intro h
    by_cases h0 : x = 0
    · subst h0; exact Nat.two_pow_pos k
    · have := (Lib.bitLenAux_bounds 64 x hx h0).2.2
      exact Nat.lt_of_lt_of_le this (Nat.pow_le_pow_right (by decide) h)

end Go.Proofs.YtebioeboegmhlaaDoor.X
