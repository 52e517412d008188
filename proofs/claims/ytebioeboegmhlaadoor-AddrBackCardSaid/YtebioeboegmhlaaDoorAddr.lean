/- What the functions on prefixes come to, in plain arithmetic: the program's and the reference's. -/
import Derived.Test.YtebioeboegmhlaaDoorBits
import Derived.Test.YtebioeboegmhlaaDoorXx3
import Derived.Test.YtebioeboegmhlaaDoorXx7
import Derived.Test.YtebioeboegmhlaaDoorXx8
import Derived.Test.YtebioeboegmhlaaDoorXx10
import Derived.Test.YtebioeboegmhlaaDoorXx12
set_option linter.unusedVariables false
namespace Go.Proofs.YtebioeboegmhlaaDoor.X
open Go.RowKit Go.Proofs.YtebioeboegmhlaaDoorW.PrintWords Go.Proofs.YtebioeboegmhlaaDoorW.PrintMore

def U32 (a : Int) : Prop := 0 ≤ a ∧ a < 4294967296
def I64 (a : Int) : Prop := -9223372036854775808 ≤ a ∧ a ≤ 9223372036854775807
theorem U32.of {a : Int} (h : (Lit.int .u32 a).wf = true) : U32 a := by
  have := h
  simp [Lit.wf, IntKind.min, IntKind.max, IntKind.bits, IntKind.signed] at this
  unfold U32; omega
theorem I64.of {a : Int} (h : (Lit.int .i64 a).wf = true) : I64 a := by
  have := h
  simp [Lit.wf, IntKind.min, IntKind.max, IntKind.bits, IntKind.signed] at this
  unfold I64; omega
theorem U32.nat {a : Int} (h : U32 a) : ∃ n : Nat, a = n ∧ n < 2 ^ 32 := by
  obtain ⟨n, rfl⟩ := Int.eq_ofNat_of_zero_le h.1
  exact ⟨n, rfl, by have := h.2; have e : (2 : Nat) ^ 32 = 4294967296 := by decide
                    omega⟩

/-- The weight of a prefix's last bit. -/
def PW (n : Int) : Nat := 2 ^ (32 - n.toNat)
theorem PW_pos (n : Int) : 0 < PW n := Nat.two_pow_pos _
theorem PW_le (n : Int) : PW n ≤ 4294967296 := by
  have : PW n ≤ 2 ^ 32 := Nat.pow_le_pow_right (by decide) (by omega)
  have e : (2 : Nat) ^ 32 = 4294967296 := by decide
  omega

def mayB (A N : Int) : Bool := decide (0 ≤ N) && decide (N ≤ 32) && decide (A % (PW N : Int) = 0)
def hasB (A N a : Int) : Bool := mayB A N && decide (a / (PW N : Int) = A / (PW N : Int))
def covB (pA pN qA qN : Int) : Bool := mayB qA qN && decide (pN ≤ qN) && hasB pA pN qA
def cutA (A N : Int) : Int := A / (PW N : Int) * (PW N : Int)
def lzB (pA qA : Int) : Int := 32 - (Lib.bitLen (pA.toNat ^^^ qA.toNat) : Int)
def comB (pA pN qA qN : Int) : Int := mn (mn pN qN) (lzB pA qA)
def bitB (a i : Int) : Int := if i < 0 ∨ 31 < i then 0 else a / 2 ^ (31 - i).toNat % 2

theorem mayB_iff {A N : Int} : mayB A N = true ↔ 0 ≤ N ∧ N ≤ 32 ∧ A % (PW N : Int) = 0 := by
  unfold mayB
  simp only [Bool.and_eq_true, decide_eq_true_eq]
  omega

theorem Mask_all (n : Int) : addr_Mask.f n = some ((2 ^ 32 - PW n : Nat) : Int) := by
  unfold addr_Mask.f
  have e3 : (32 - mn (mx n 0) 32).toNat = 32 - n.toNat := by unfold mn mx; (repeat' split) <;> omega
  rw [e3, mask_val (32 - n.toNat) (by omega)]
  rfl
theorem Mask_f (n : Int) (h0 : 0 ≤ n) (h1 : n ≤ 32) : addr_Mask.f n = some ((2 ^ 32 - PW n : Nat) : Int) := Mask_all n

theorem isLong_f (n : Int) : addr_isLong.f n = some (decide (0 ≤ n) && decide (n ≤ 32)) := by
  unfold addr_isLong.f
  by_cases h : n ≥ 0
  · rw [if_pos h]; simp [h]
  · rw [if_neg h]; simp; omega

theorem May_f (A N : Int) (hA : U32 A) : addr_May.f A N = some (mayB A N) := by
  unfold addr_May.f mayB
  rw [isLong_f]
  simp only [Option.bind_some]
  by_cases h : 0 ≤ N ∧ N ≤ 32
  · have e : (decide (0 ≤ N) && decide (N ≤ 32)) = true := by simp [h.1, h.2]
    rw [if_pos e, e, Mask_f N h.1 h.2]
    simp only [Option.bind_some, Bool.true_and]
    obtain ⟨a, rfl, ha⟩ := hA.nat
    rw [show ((2 ^ 32 - PW N : Nat) : Int) = ((2 ^ 32 - 2 ^ (32 - N.toNat) : Nat) : Int) from rfl, bits_andNot_mask a _ (by omega) ha]
    congr 1
  · have e : (decide (0 ≤ N) && decide (N ≤ 32)) = false := by simp; omega
    rw [if_neg (by rw [e]; decide), e]
    simp

theorem cut_nat (a : Nat) (N : Int) : cutA (a : Int) N = ((a / 2 ^ (32 - N.toNat) * 2 ^ (32 - N.toNat) : Nat) : Int) := by
  unfold cutA PW; simp

theorem and_mask_f (a : Nat) (N : Int) (h0 : 0 ≤ N) (h1 : N ≤ 32) (ha : a < 2 ^ 32) : Go.bits .and .u32 (a : Int) ((2 ^ 32 - PW N : Nat) : Int) = cutA (a : Int) N := by
  rw [cut_nat]
  exact bits_and_mask a _ (by omega) ha

theorem cut_eq {A N a : Int} (hm : A % (PW N : Int) = 0) : (cutA a N = A) ↔ (a / (PW N : Int) = A / (PW N : Int)) := by
  have hp : (0 : Int) < (PW N : Int) := by have := PW_pos N; omega
  have hA : A / (PW N : Int) * (PW N : Int) = A := Int.ediv_mul_cancel (Int.dvd_of_emod_eq_zero hm)
  unfold cutA
  constructor
  · intro h
    rw [← hA] at h
    exact Int.eq_of_mul_eq_mul_right (by omega) h
  · intro h
    rw [h, hA]

theorem Has_f (A N a : Int) (hA : U32 A) (ha : U32 a) : addr_Has.f A N a = some (hasB A N a) := by
  unfold addr_Has.f hasB
  rw [May_f A N hA]
  simp only [Option.bind_some]
  cases hm : mayB A N with
  | false => simp
  | true =>
    obtain ⟨h0, h1, h2⟩ := mayB_iff.1 hm
    rw [if_pos rfl, Mask_f N h0 h1]
    simp only [Option.bind_some, Bool.true_and]
    obtain ⟨b, rfl, hb⟩ := ha.nat
    rw [and_mask_f b N h0 h1 hb]
    congr 1
    rw [Bool.eq_iff_iff]
    simp only [beq_iff_eq, decide_eq_true_eq]
    exact cut_eq h2

theorem Covers_f (pA pN qA qN : Int) (hp : U32 pA) (hq : U32 qA) : addr_Covers.f pA pN qA qN = some (covB pA pN qA qN) := by
  unfold addr_Covers.f covB
  rw [May_f qA qN hq]
  simp only [Option.bind_some]
  cases mayB qA qN with
  | false => simp
  | true =>
    rw [if_pos rfl]
    by_cases h : pN ≤ qN
    · rw [if_pos h, Has_f pA pN qA hp hq]; simp [h]
    · rw [if_neg h]; simp [h]

theorem cut_U32 {a N : Int} (h : U32 a) : U32 (cutA a N) := by
  have hp : (0 : Int) < (PW N : Int) := by have := PW_pos N; omega
  unfold U32 cutA at *
  have h1 := Int.ediv_mul_le a (b := (PW N : Int)) (by omega)
  have h2 : 0 ≤ a / (PW N : Int) := Int.ediv_nonneg h.1 (by omega)
  have h3 : 0 ≤ a / (PW N : Int) * (PW N : Int) := Int.mul_nonneg h2 (by omega)
  omega

theorem Of_f (a n : Int) (ha : U32 a) : addr_Of.f a n = some (if 0 ≤ n ∧ n ≤ 32 then (cutA a n, n, 0) else (0, 0, 1)) := by
  unfold addr_Of.f
  rw [isLong_f]
  simp only [Option.bind_some]
  by_cases h : 0 ≤ n ∧ n ≤ 32
  · have e : (decide (0 ≤ n) && decide (n ≤ 32)) = true := by simp [h.1, h.2]
    rw [if_pos e, if_pos h, Mask_f n h.1 h.2]
    simp only [Option.bind_some]
    obtain ⟨b, rfl, hb⟩ := ha.nat
    rw [and_mask_f b n h.1 h.2 hb]
  · have e : ¬ (decide (0 ≤ n) && decide (n ≤ 32)) = true := by simp; omega
    rw [if_neg e, if_neg h]

theorem lz_f (p q : Nat) (hp : p < 2 ^ 32) (hq : q < 2 ^ 32) : bits_LeadingZeros32.f (Go.bits .xor .u32 (p : Int) (q : Int)) = some (lzB p q) := by
  rw [bits_xor_nat p q hp hq]
  unfold bits_LeadingZeros32.f lzB
  have := Nat.xor_lt_two_pow hp hq
  have e : (2 : Nat) ^ 32 = 4294967296 := by decide
  rw [if_pos (by omega)]
  simp
theorem lz_range (p q : Nat) (hp : p < 2 ^ 32) (hq : q < 2 ^ 32) : 0 ≤ lzB p q ∧ lzB p q ≤ 32 := by
  unfold lzB
  have := Lib.bitLen_le _ 32 (by decide) (Nat.xor_lt_two_pow hp hq)
  simp
  omega
/-- How many bits two addresses begin with alike. -/
theorem lz_iff (p q : Nat) (hp : p < 2 ^ 32) (hq : q < 2 ^ 32) (n : Int) (h0 : 0 ≤ n) (h1 : n ≤ 32) : n ≤ lzB p q ↔ (p : Int) / (PW n : Int) = (q : Int) / (PW n : Int) := by
  unfold lzB PW
  have h := bitLen_lt (p ^^^ q) (32 - n.toNat) (by omega) (Nat.lt_trans (Nat.xor_lt_two_pow hp hq) (by decide))
  have hx := xor_div p q (32 - n.toNat)
  rw [← Int.natCast_ediv, ← Int.natCast_ediv]
  have e : ((p / 2 ^ (32 - n.toNat) : Nat) : Int) = ((q / 2 ^ (32 - n.toNat) : Nat) : Int) ↔ p / 2 ^ (32 - n.toNat) = q / 2 ^ (32 - n.toNat) := by omega
  rw [e, ← hx, h]
  simp only [Int.toNat_natCast]
  omega

theorem Common_f (k : Nat) (pA pN qA qN : Int) (hp : U32 pA) (hq : U32 qA) : addr_Common.f (k + 1) pA pN qA qN = some (if (mayB pA pN && mayB qA qN) = true then (cutA pA (comB pA pN qA qN), comB pA pN qA qN) else (0, 0)) := by
  unfold addr_Common.f
  rw [May_f pA pN hp, May_f qA qN hq]
  simp only [Option.bind_some]
  cases h1 : mayB pA pN with
  | false => simp [addr_Common.j0]
  | true =>
    rw [if_pos rfl]
    cases h2 : mayB qA qN with
    | false => simp [addr_Common.j0]
    | true =>
      simp only [addr_Common.j0, Bool.not_true, Bool.false_eq_true, if_false, Bool.and_self, if_true]
      obtain ⟨p, rfl, hp'⟩ := hp.nat
      obtain ⟨q, rfl, hq'⟩ := hq.nat
      obtain ⟨a0, a1, _⟩ := mayB_iff.1 h1
      obtain ⟨b0, b1, _⟩ := mayB_iff.1 h2
      have hl := lz_range p q hp' hq'
      rw [lz_f p q hp' hq']
      simp only [Option.bind_some]
      have h0 : 0 ≤ comB p pN q qN := by unfold comB mn; split <;> (try split) <;> omega
      have h32 : comB p pN q qN ≤ 32 := by unfold comB mn; split <;> (try split) <;> omega
      show (addr_Mask.f (comB p pN q qN)).bind _ = _
      rw [Mask_f _ h0 h32]
      simp only [Option.bind_some]
      rw [and_mask_f p _ h0 h32 hp']
      rfl

theorem wrap64_id (x : Int) (h0 : -9223372036854775808 ≤ x) (h1 : x ≤ 9223372036854775807) : wrap64 x = x := by unfold wrap64; omega
theorem u64_id (x : Int) (h0 : 0 ≤ x) (h1 : x ≤ 18446744073709551615) : IntKind.u64.wrap x = x := by rw [IntKind.wrap_u64]; omega

theorem shr_and1 (a : Nat) (ha : a < 2 ^ 32) (j : Int) (h0 : 0 ≤ j) (h1 : j ≤ 31) : wrap64 (Go.bits .and .u32 (shr .u32 (a : Int) j) 1) = (a : Int) / 2 ^ j.toNat % 2 := by
  unfold shr
  have e : min j.toNat IntKind.u32.bits = j.toNat := by show min j.toNat 32 = j.toNat; omega
  rw [e]
  have e2 : (a : Int) / 2 ^ j.toNat = ((a / 2 ^ j.toNat : Nat) : Int) := by simp
  rw [e2]
  have := bits_and_low (a / 2 ^ j.toNat) 1 (by decide) (Nat.lt_of_le_of_lt (Nat.div_le_self _ _) ha)
  simp only [Nat.pow_one, Nat.add_one_sub_one] at this
  rw [show ((1 : Nat) : Int) = 1 from rfl] at this
  rw [this, wrap64_id _ (by omega) (by omega)]
  omega

theorem Bit_f (a i : Int) (ha : U32 a) (hi : I64 i) : addr_Bit.f a i = some (bitB a i) := by
  unfold addr_Bit.f bitB
  unfold I64 at hi
  by_cases h1 : i < 0
  · rw [if_pos h1, if_pos (Or.inl h1)]
  · rw [if_neg h1]
    by_cases h2 : i ≥ 32
    · rw [if_pos h2, if_pos (Or.inr (by omega))]
    · rw [if_neg h2, wrap64_id (31 - i) (by omega) (by omega), if_pos (by omega), if_neg (show ¬ (i < 0 ∨ 31 < i) by omega)]
      obtain ⟨b, rfl, hb⟩ := ha.nat
      rw [shr_and1 b hb _ (by omega) (by omega)]

theorem rBit_f (a i : Int) (ha : U32 a) (hi : I64 i) : crossroadsref03_Bit.f a i = some (bitB a i) := by
  unfold crossroadsref03_Bit.f bitB
  unfold I64 at hi
  by_cases h1 : i < 0
  · rw [if_pos h1, if_pos (Or.inl h1)]
  · rw [if_neg h1]
    by_cases h2 : i > 31
    · rw [if_pos h2, if_pos (Or.inr (by omega))]
    · rw [if_neg h2, wrap64_id (31 - i) (by omega) (by omega), u64_id (31 - i) (by omega) (by omega), if_pos (by omega), if_neg (show ¬ (i < 0 ∨ 31 < i) by omega)]
      obtain ⟨b, rfl, hb⟩ := ha.nat
      rw [shr_and1 b hb _ (by omega) (by omega)]

/-- One bit more. -/
theorem PW_succ (i : Int) (h0 : 0 ≤ i) (h1 : i < 32) : (PW i : Int) = 2 * (PW (i + 1) : Int) := by
  unfold PW
  have e : 32 - i.toNat = (32 - (i + 1).toNat) + 1 := by omega
  rw [e, Nat.pow_succ]
  omega
theorem bitB_in (a i : Int) (h0 : 0 ≤ i) (h1 : i < 32) : bitB a i = a / (PW (i + 1) : Int) % 2 := by
  unfold bitB PW
  rw [if_neg (by omega)]
  have e : (31 - i).toNat = 32 - (i + 1).toNat := by omega
  rw [e]
  simp
theorem div_two (a w : Int) (hw : 0 < w) : a / (2 * w) = a / w / 2 := by
  rw [Int.mul_comm, Int.ediv_ediv_of_nonneg (by omega)]
theorem mod_two (a w : Int) (hw : 0 < w) : a % (2 * w) = 0 ↔ a / w % 2 = 0 ∧ a % w = 0 := by
  have h1 := Int.mul_ediv_add_emod a w
  have h2 := Int.mul_ediv_add_emod a (2 * w)
  have h3 := div_two a w hw
  have h4 := Int.mul_ediv_add_emod (a / w) 2
  have m1 := Int.emod_nonneg a (show w ≠ 0 by omega)
  have m2 := Int.emod_lt_of_pos a hw
  have e : a % (2 * w) = w * (a / w % 2) + a % w := by
    rw [h3] at h2
    have : 2 * w * (a / w / 2) = w * (2 * (a / w / 2)) := by rw [← Int.mul_assoc, Int.mul_comm w 2]
    have h5 : w * (a / w) = w * (2 * (a / w / 2)) + w * (a / w % 2) := by rw [← Int.mul_add, h4]
    omega
  rw [e]
  rcases Int.emod_two_eq (a / w) with h | h
  · rw [h]; simp
  · rw [h]; simp; omega

theorem rMay_l0 (A N : Int) (hA : U32 A) : ∀ (d k : Nat) (i : Int), 0 ≤ i → i ≤ 32 → 32 - i = d → d < k → crossroadsref03_May.l0 k i A N = some (decide (A % (PW i : Int) = 0)) := by
  intro d
  induction d with
  | zero =>
    intro k i h0 h1 hd hk
    obtain ⟨k, rfl⟩ : ∃ m, k = m + 1 := ⟨k - 1, by omega⟩
    obtain rfl : i = 32 := by omega
    simp only [crossroadsref03_May.l0]
    rw [if_neg (by omega)]
    have e : PW 32 = 1 := rfl
    rw [e]
    simp [Int.emod_one]
  | succ d ih =>
    intro k i h0 h1 hd hk
    obtain ⟨k, rfl⟩ : ∃ m, k = m + 1 := ⟨k - 1, by omega⟩
    simp only [crossroadsref03_May.l0]
    have hp := PW_pos (i + 1)
    rw [if_pos (by omega), rBit_f A i hA (by unfold I64; omega)]
    simp only [Option.bind_some]
    rw [bitB_in A i h0 (by omega), wrap64_id _ (by omega) (by omega), ih k (i + 1) (by omega) (by omega) (by omega) (by omega)]
    have hm := mod_two A (PW (i + 1)) (by omega)
    rw [← PW_succ i h0 (by omega)] at hm
    rcases Int.emod_two_eq (A / (PW (i + 1) : Int)) with h | h
    · rw [if_neg (by omega)]
      congr 1
      rw [decide_eq_decide, hm, h]
      simp
    · rw [if_pos h]
      congr 1
      symm
      rw [decide_eq_false_iff_not, hm, h]
      simp

theorem rMay_f (k : Nat) (hk : 40 ≤ k) (A N : Int) (hA : U32 A) : crossroadsref03_May.f k A N = some (mayB A N) := by
  unfold crossroadsref03_May.f mayB
  obtain ⟨k, rfl⟩ : ∃ m, k = m + 1 := ⟨k - 1, by omega⟩
  by_cases h1 : N < 0
  · rw [if_pos h1]
    simp only [crossroadsref03_May.j0, if_true]
    simp; omega
  · rw [if_neg h1]
    simp only [crossroadsref03_May.j0]
    by_cases h2 : N > 32
    · rw [if_pos (by simpa using h2)]
      simp; omega
    · rw [if_neg (by simpa using h2), rMay_l0 A N hA (32 - N).toNat k N (by omega) (by omega) (by omega) (by omega)]
      have e1 : decide (0 ≤ N) = true := decide_eq_true (by omega)
      have e2 : decide (N ≤ 32) = true := decide_eq_true (by omega)
      rw [e1, e2]; rfl

theorem rHas_l0 (A N a : Int) (hA : U32 A) (ha : U32 a) (h0N : 0 ≤ N) (hN : N ≤ 32) : ∀ (d k : Nat) (i : Int), 0 ≤ i → i ≤ N → N - i = d → d < k → a / (PW i : Int) = A / (PW i : Int) →
    crossroadsref03_Has.l0 k a i A N = some (decide (a / (PW N : Int) = A / (PW N : Int))) := by
  intro d
  induction d with
  | zero =>
    intro k i h0 h1 hd hk he
    obtain ⟨k, rfl⟩ : ∃ m, k = m + 1 := ⟨k - 1, by omega⟩
    obtain rfl : i = N := by omega
    simp only [crossroadsref03_Has.l0]
    rw [if_neg (by omega)]
    simp [he]
  | succ d ih =>
    intro k i h0 h1 hd hk he
    obtain ⟨k, rfl⟩ : ∃ m, k = m + 1 := ⟨k - 1, by omega⟩
    simp only [crossroadsref03_Has.l0]
    have hp := PW_pos (i + 1)
    rw [if_pos (by omega), rBit_f A i hA (by unfold I64; omega), rBit_f a i ha (by unfold I64; omega)]
    simp only [Option.bind_some]
    rw [bitB_in A i h0 (by omega), bitB_in a i h0 (by omega), wrap64_id _ (by omega) (by omega)]
    rw [PW_succ i h0 (by omega), div_two _ _ (by omega), div_two _ _ (by omega)] at he
    by_cases h : A / (PW (i + 1) : Int) % 2 = a / (PW (i + 1) : Int) % 2
    · rw [if_pos h]
      exact ih k (i + 1) (by omega) (by omega) (by omega) (by omega) (by omega)
    · rw [if_neg h]
      congr 1
      symm
      rw [decide_eq_false_iff_not]
      intro hq
      apply h
      have hdv : ∀ x : Int, x / (PW (i + 1) : Int) = x / (PW N : Int) / (2 ^ (N - (i + 1)).toNat : Int) := by
        intro x
        rw [Int.ediv_ediv_of_nonneg (by omega)]
        congr 1
        unfold PW
        have e : 32 - (i + 1).toNat = (32 - N.toNat) + (N - (i + 1)).toNat := by omega
        rw [e, Nat.pow_add]
        simp
      rw [hdv A, hdv a, hq]

theorem rHas_f (k : Nat) (hk : 40 ≤ k) (A N a : Int) (hA : U32 A) (ha : U32 a) : crossroadsref03_Has.f k A N a = some (hasB A N a) := by
  unfold crossroadsref03_Has.f hasB
  rw [rMay_f k hk A N hA]
  simp only [Option.bind_some]
  cases hm : mayB A N with
  | false => simp
  | true =>
    obtain ⟨h0, h1, _⟩ := mayB_iff.1 hm
    have e : PW 0 = 4294967296 := rfl
    unfold U32 at hA ha
    rw [if_pos rfl, rHas_l0 A N a hA ha h0 h1 N.toNat k 0 (by omega) (by omega) (by omega) (by omega) (by rw [e]; omega)]
    rfl

theorem rCovers_f (k : Nat) (hk : 40 ≤ k) (pA pN qA qN : Int) (hp : U32 pA) (hq : U32 qA) : crossroadsref03_Covers.f k pA pN qA qN = some (covB pA pN qA qN) := by
  unfold crossroadsref03_Covers.f covB
  rw [rMay_f k hk pA pN hp, rMay_f k hk qA qN hq]
  simp only [Option.bind_some]
  cases h1 : mayB pA pN with
  | false => simp [hasB, h1]
  | true =>
    rw [if_pos rfl]
    cases h2 : mayB qA qN with
    | false => simp
    | true =>
      rw [if_pos rfl]
      by_cases h : qN ≥ pN
      · rw [if_pos h, rHas_f k hk pA pN qA hp hq]; simp [h]
      · rw [if_neg h]; simp; omega

theorem rMask_l0 (n : Int) : ∀ (d k i : Nat), i ≤ 32 → 32 - i = d → d < k →
    crossroadsref03_Mask.l0 k n ((2 ^ i - 2 ^ (i - n.toNat) : Nat) : Int) i = some ((2 ^ 32 - PW n : Nat) : Int) := by
  intro d
  induction d with
  | zero =>
    intro k i h1 hd hk
    obtain ⟨k, rfl⟩ : ∃ m, k = m + 1 := ⟨k - 1, by omega⟩
    obtain rfl : i = 32 := by omega
    simp only [crossroadsref03_Mask.l0]
    rw [if_neg (by omega)]
    rfl
  | succ d ih =>
    intro k i h1 hd hk
    obtain ⟨k, rfl⟩ : ∃ m, k = m + 1 := ⟨k - 1, by omega⟩
    simp only [crossroadsref03_Mask.l0]
    rw [if_pos (by omega), wrap64_id _ (by omega) (by omega)]
    have hlt : 2 ^ i ≤ 2 ^ 31 := Nat.pow_le_pow_right (by decide) (by omega)
    have e31 : (2 : Nat) ^ 31 = 2147483648 := by decide
    have hs : 2 ^ (i + 1) = 2 * 2 ^ i := by rw [Nat.pow_succ]; omega
    have h := ih k (i + 1) (by omega) (by omega) (by omega)
    have hp := Nat.two_pow_pos i
    by_cases hc : (i : Int) < n
    · rw [if_pos hc]
      have e0 : i - n.toNat = 0 := by omega
      have e1 : i + 1 - n.toNat = 0 := by omega
      rw [e1] at h
      rw [e0]
      have e2 : ((((2 ^ i - 2 ^ 0 : Nat) : Int) * 2 % 4294967296 + 1) % 4294967296) = ((2 ^ (i + 1) - 2 ^ 0 : Nat) : Int) := by
        rw [hs]
        generalize 2 ^ i = X at *
        omega
      rw [e2]
      exact h
    · rw [if_neg hc]
      have e1 : i + 1 - n.toNat = (i - n.toNat) + 1 := by omega
      have hs2 : 2 ^ (i - n.toNat + 1) = 2 * 2 ^ (i - n.toNat) := by rw [Nat.pow_succ]; omega
      have hle : 2 ^ (i - n.toNat) ≤ 2 ^ i := Nat.pow_le_pow_right (by decide) (by omega)
      rw [e1] at h
      have e2 : (((2 ^ i - 2 ^ (i - n.toNat) : Nat) : Int) * 2 % 4294967296) = ((2 ^ (i + 1) - 2 ^ (i - n.toNat + 1) : Nat) : Int) := by
        rw [hs, hs2]
        have hp2 := Nat.two_pow_pos (i - n.toNat)
        generalize 2 ^ i = X at *
        generalize 2 ^ (i - n.toNat) = Y at *
        omega
      rw [e2]
      exact h

theorem rMask_f (k : Nat) (hk : 40 ≤ k) (n : Int) : crossroadsref03_Mask.f k n = some ((2 ^ 32 - PW n : Nat) : Int) := by
  unfold crossroadsref03_Mask.f
  have h := rMask_l0 n 32 k 0 (by omega) (by omega) (by omega)
  simpa using h

theorem rOf_f (k : Nat) (hk : 40 ≤ k) (a n : Int) (ha : U32 a) : crossroadsref03_Of.f k a n = some (if 0 ≤ n ∧ n ≤ 32 then (cutA a n, n, 0) else (0, 0, 1)) := by
  unfold crossroadsref03_Of.f
  by_cases h1 : n < 0
  · rw [if_pos h1, if_neg (by omega)]
  · rw [if_neg h1]
    by_cases h2 : n > 32
    · rw [if_pos h2, if_neg (by omega)]
    · rw [if_neg h2, if_pos (by omega), rMask_f k hk]
      simp only [Option.bind_some]
      obtain ⟨b, rfl, hb⟩ := ha.nat
      rw [and_mask_f b n (by omega) (by omega) hb]

theorem PW_inj {m n : Int} (h0 : 0 ≤ m) (h1 : m ≤ 32) (h2 : 0 ≤ n) (h3 : n ≤ 32) (h : PW m = PW n) : m = n := by
  unfold PW at h
  rcases Nat.lt_trichotomy (32 - m.toNat) (32 - n.toNat) with hl | hl | hl
  · have := Nat.pow_lt_pow_right (show 1 < 2 by decide) hl
    omega
  · omega
  · have := Nat.pow_lt_pow_right (show 1 < 2 by decide) hl
    omega
/-- A mask is a mask of one length alone. -/
theorem mask_inj {m n : Int} (h0 : 0 ≤ m) (h1 : m ≤ 32) (h2 : 0 ≤ n) (h3 : n ≤ 32) (h : (2 ^ 32 - PW m : Nat) = 2 ^ 32 - PW n) : m = n := by
  have e : (2 : Nat) ^ 32 = 4294967296 := by decide
  have := PW_le m
  have := PW_le n
  exact PW_inj h0 h1 h2 h3 (by omega)

theorem rLong_l0 (a : Int) : ∀ (d k : Nat) (i : Int), 0 ≤ i → i ≤ 33 → 33 - i = d → d + 40 < k → (∀ n : Int, 0 ≤ n → n < i → ((2 ^ 32 - PW n : Nat) : Int) ≠ a) →
    (∀ n : Int, 0 ≤ n → n ≤ 32 → ((2 ^ 32 - PW n : Nat) : Int) = a → crossroadsref03_Long.l0 k a i = some (n, 0)) ∧ ((∀ n : Int, 0 ≤ n → n ≤ 32 → ((2 ^ 32 - PW n : Nat) : Int) ≠ a) → crossroadsref03_Long.l0 k a i = some (0, 3)) := by
  intro d
  induction d with
  | zero =>
    intro k i h0 h1 hd hk hno
    obtain ⟨k, rfl⟩ : ∃ m, k = m + 1 := ⟨k - 1, by omega⟩
    obtain rfl : i = 33 := by omega
    refine ⟨fun n h2 h3 he => absurd he (hno n h2 (by omega)), fun _ => ?_⟩
    simp only [crossroadsref03_Long.l0]
    rw [if_neg (by omega)]
  | succ d ih =>
    intro k i h0 h1 hd hk hno
    obtain ⟨k, rfl⟩ : ∃ m, k = m + 1 := ⟨k - 1, by omega⟩
    simp only [crossroadsref03_Long.l0]
    rw [if_pos (by omega), rMask_f k (by omega)]
    simp only [Option.bind_some]
    by_cases h : ((2 ^ 32 - PW i : Nat) : Int) = a
    · rw [if_pos h]
      refine ⟨fun n h2 h3 he => ?_, fun hn => absurd h (hn i h0 (by omega))⟩
      have := mask_inj h2 h3 h0 (by omega) (by omega)
      rw [this]
    · rw [if_neg h, wrap64_id _ (by omega) (by omega)]
      refine ih k (i + 1) (by omega) (by omega) (by omega) (by omega) (fun n h2 h3 => ?_)
      by_cases hn : n = i
      · rw [hn]; exact h
      · exact hno n h2 (by omega)

theorem Long_f (a : Int) (ha : U32 a) : (∀ n : Int, 0 ≤ n → n ≤ 32 → ((2 ^ 32 - PW n : Nat) : Int) = a → addr_Long.f a = some (n, 0)) ∧ ((∀ n : Int, 0 ≤ n → n ≤ 32 → ((2 ^ 32 - PW n : Nat) : Int) ≠ a) → addr_Long.f a = some (0, 3)) := by
  obtain ⟨b, rfl, hb⟩ := ha.nat
  have e32 : (2 : Nat) ^ 32 = 4294967296 := by decide
  have emax : IntKind.u32.max = ((4294967295 : Nat) : Int) := rfl
  have hl : bits_LeadingZeros32.f (Go.bits .xor .u32 IntKind.u32.max (b : Int)) = some (lzB (4294967295 : Nat) b) := by
    rw [emax]; exact lz_f 4294967295 b (by omega) hb
  have hr := lz_range 4294967295 b (by omega) hb
  have hL : addr_Long.f (b : Int) = if ((2 ^ 32 - PW (lzB (4294967295 : Nat) b) : Nat) : Int) = (b : Int) then some (lzB (4294967295 : Nat) b, 0) else some (0, 3) := by
    unfold addr_Long.f
    rw [hl]
    simp only [Option.bind_some]
    rw [Mask_all]
    simp only [Option.bind_some]
  rw [hL]
  constructor
  · intro n h0 h1 he
    have hp := PW_pos n
    have hle := PW_le n
    have hn : lzB (4294967295 : Nat) b = n := by
      have hi := fun m h2 h3 => lz_iff 4294967295 b (by omega) hb m h2 h3
      have hbn : (b : Int) = ((2 ^ 32 - PW n : Nat) : Int) := he.symm
      have hbn' : b = 2 ^ 32 - PW n := by omega
      have h1' : n ≤ lzB (4294967295 : Nat) b := by
        rw [hi n h0 h1, hbn']
        unfold PW at *
        have := Nat.sub_mul_div
        rw [← Int.natCast_ediv, ← Int.natCast_ediv]
        congr 1
        generalize hj : 32 - n.toNat = j at *
        have hj' : j ≤ 32 := by omega
        have : ∀ j : Fin 33, 4294967295 / 2 ^ j.val = (2 ^ 32 - 2 ^ j.val) / 2 ^ j.val := by decide
        exact this ⟨j, by omega⟩
      rcases Int.lt_or_le n (lzB (4294967295 : Nat) b) with hlt | hge
      · exfalso
        have h2 := (hi (n + 1) (by omega) (by omega)).1 (by omega)
        rw [hbn'] at h2
        unfold PW at h2
        rw [← Int.natCast_ediv, ← Int.natCast_ediv] at h2
        have h2' : 4294967295 / 2 ^ (32 - (n + 1).toNat) = (2 ^ 32 - 2 ^ (32 - n.toNat)) / 2 ^ (32 - (n + 1).toNat) := by omega
        have hlt32 : n.toNat < 32 := by omega
        have e1 : 32 - n.toNat = (32 - (n + 1).toNat) + 1 := by omega
        rw [e1] at h2'
        generalize hj : 32 - (n + 1).toNat = j at *
        have hj' : j < 32 := by omega
        have : ∀ j : Fin 32, ¬ 4294967295 / 2 ^ j.val = (2 ^ 32 - 2 ^ (j.val + 1)) / 2 ^ j.val := by decide
        exact this ⟨j, hj'⟩ h2'
      · omega
    rw [hn, if_pos he]
  · intro hn
    rw [if_neg (hn _ hr.1 hr.2)]

theorem Long_same (k : Nat) (hk : 80 ≤ k) (a : Int) (ha : U32 a) : ∃ r, addr_Long.f a = some r ∧ crossroadsref03_Long.f k a = some r := by
  have h1 := Long_f a ha
  have h2 := rLong_l0 a 33 k 0 (by omega) (by omega) (by omega) (by omega) (fun n h0 h1 => by omega)
  unfold crossroadsref03_Long.f
  by_cases h : ∃ n : Int, 0 ≤ n ∧ n ≤ 32 ∧ ((2 ^ 32 - PW n : Nat) : Int) = a
  · obtain ⟨n, h3, h4, h5⟩ := h
    exact ⟨_, h1.1 n h3 h4 h5, h2.1 n h3 h4 h5⟩
  · have h' : ∀ n : Int, 0 ≤ n → n ≤ 32 → ((2 ^ 32 - PW n : Nat) : Int) ≠ a := fun n h3 h4 h5 => h ⟨n, h3, h4, h5⟩
    exact ⟨_, h1.2 h', h2.2 h'⟩

end Go.Proofs.YtebioeboegmhlaaDoor.X
