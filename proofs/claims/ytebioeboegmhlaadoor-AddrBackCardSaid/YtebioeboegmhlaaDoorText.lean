/- What a prefix is written as: the program's text and the reference's are one. -/
import Derived.Test.YtebioeboegmhlaaDoorStr
import Derived.Test.YtebioeboegmhlaaDoorAddr
import Derived.Test.YtebioeboegmhlaaDoorXx2
import Derived.Test.YtebioeboegmhlaaDoorXx12
set_option linter.unusedVariables false
set_option linter.unusedSimpArgs false
namespace Go.Proofs.YtebioeboegmhlaaDoor.X
open Go.RowKit Go.Proofs.YtebioeboegmhlaaDoorW.PrintWords Go.Proofs.YtebioeboegmhlaaDoorW.PrintMore

def txt (a b c d : Nat) (n : Int) : List UInt8 := dd a ++ 46 :: (dd b ++ 46 :: (dd c ++ 46 :: (dd d ++ 47 :: Lib.itoa n)))
/-- One of a number's four bytes. -/
def oc (a j : Nat) : Nat := a / 2 ^ j % 256
theorem oc_lt (a j : Nat) : oc a j < 256 := Nat.mod_lt _ (by decide)
def txtOf (A N : Int) : List UInt8 := txt (oc A.toNat 24) (oc A.toNat 16) (oc A.toNat 8) (oc A.toNat 0) N

theorem Itoa_f (n : Int) (h : I64 n) : strconv_Itoa.f n = some (mk (Lib.itoa n)) := by
  unfold strconv_Itoa.f
  unfold I64 at h
  rw [if_pos h]
  rfl

theorem oct_f (a : Nat) (ha : a < 2 ^ 32) (j : Int) (h0 : 0 ≤ j) (h1 : j ≤ 32) : wrap64 (Go.bits .and .u32 (shr .u32 (a : Int) j) 255) = (oc a j.toNat : Int) := by
  unfold shr oc
  have e : min j.toNat IntKind.u32.bits = j.toNat := by show min j.toNat 32 = j.toNat; omega
  rw [e]
  have e2 : (a : Int) / 2 ^ j.toNat = ((a / 2 ^ j.toNat : Nat) : Int) := by simp
  rw [e2]
  have := bits_and_low (a / 2 ^ j.toNat) 8 (by decide) (Nat.lt_of_le_of_lt (Nat.div_le_self _ _) ha)
  rw [show ((2 ^ 8 - 1 : Nat) : Int) = 255 from rfl, show (2 ^ 8 : Nat) = 256 from rfl] at this
  rw [this, wrap64_id _ (by omega) (by omega)]

theorem dd_oct {n : Nat} (h : n < 256) : (dd n).length ≤ 3 := dd_len (by have e : (10 : Nat) ^ 3 = 1000 := by decide
                                                                         omega) (by decide)

theorem Join_f (l : List (List UInt8)) (c : UInt8) (h1 : l.length ≤ 100) (h2 : (Lib.join l [c]).length ≤ 100000) : strings_Join.f (l.map mk) (mk [c]) = some (mk (Lib.join l [c])) := by
  unfold strings_Join.f
  have e : (l.map mk).map (fun x => x.data.toList) = l := by rw [List.map_map]; simp [Function.comp_def]
  rw [e, mk_data, if_pos ⟨by simp; omega, by omega⟩]
  rfl

theorem Text_f (k : Nat) (hk : 10 ≤ k) (A N : Int) (hA : U32 A) (hN : I64 N) : addr_Text.f k A N = some (mk (txtOf A N)) := by
  obtain ⟨k, rfl⟩ : ∃ m, k = m + 5 := ⟨k - 5, by omega⟩
  obtain ⟨a, rfl, ha⟩ := hA.nat
  have e24 : wrap64 ((24 : Int) - 8) = 16 := by unfold wrap64; omega
  have e16 : wrap64 ((16 : Int) - 8) = 8 := by unfold wrap64; omega
  have e8 : wrap64 ((8 : Int) - 8) = 0 := by unfold wrap64; omega
  have e0 : wrap64 ((0 : Int) - 8) = -8 := by unfold wrap64; omega
  have o24 : wrap64 (Go.bits .and .u32 (shr .u32 (a : Int) 24) 255) = (oc a 24 : Int) := oct_f a ha 24 (by omega) (by omega)
  have o16 : wrap64 (Go.bits .and .u32 (shr .u32 (a : Int) 16) 255) = (oc a 16 : Int) := oct_f a ha 16 (by omega) (by omega)
  have o8 : wrap64 (Go.bits .and .u32 (shr .u32 (a : Int) 8) 255) = (oc a 8 : Int) := oct_f a ha 8 (by omega) (by omega)
  have o0 : wrap64 (Go.bits .and .u32 (shr .u32 (a : Int) 0) 255) = (oc a 0 : Int) := oct_f a ha 0 (by omega) (by omega)
  have g1 := oc_lt a 24
  have g2 := oc_lt a 16
  have g3 := oc_lt a 8
  have g4 := oc_lt a 0
  have ht : txtOf (a : Int) N = txt (oc a 24) (oc a 16) (oc a 8) (oc a 0) N := by unfold txtOf; rw [Int.toNat_natCast]
  rw [ht]
  clear ht ha hA
  have hI : ∀ n : Nat, n < 256 → strconv_Itoa.f (n : Int) = some (mk (dd n)) := fun n hn => by
    rw [Itoa_f _ (by unfold I64; omega), itoa_nat]
  generalize oc a 24 = b1 at *
  generalize oc a 16 = b2 at *
  generalize oc a 8 = b3 at *
  generalize oc a 0 = b4 at *
  have q1 := dd_oct g1
  have q2 := dd_oct g2
  have q3 := dd_oct g3
  have q4 := dd_oct g4
  have hj := Join_f [dd b1, dd b2, dd b3, dd b4] 46 (by simp) (by simp [Lib.join, List.intercalate]; omega)
  simp only [List.map_cons, List.map_nil] at hj
  have hl := itoa_len N hN.1 hN.2
  unfold addr_Text.f
  rw [addr_Text.l0, if_pos (by decide), if_pos (by decide), o24, hI _ (by omega), Option.bind_some, if_pos (by simp), e24]
  rw [addr_Text.l0, if_pos (by decide), if_pos (by decide), o16, hI _ (by omega), Option.bind_some, if_pos (by simp), e16]
  rw [addr_Text.l0, if_pos (by decide), if_pos (by decide), o8, hI _ (by omega), Option.bind_some, if_pos (by simp), e8]
  rw [addr_Text.l0, if_pos (by decide), if_pos (by decide), o0, hI _ (by omega), Option.bind_some, if_pos (by simp), e0]
  rw [addr_Text.l0, if_neg (by decide)]
  simp only [List.nil_append, List.cons_append]
  rw [show (⟨#[46]⟩ : ByteArray) = mk [46] from rfl, hj, Option.bind_some, if_pos (by rw [mk_size]; simp [Lib.join, List.intercalate]; omega), Itoa_f N hN, Option.bind_some, show (⟨#[47]⟩ : ByteArray) = mk [47] from rfl, mk_append, mk_append,
    if_pos (by rw [mk_size, mk_size]; simp [Lib.join, List.intercalate]; omega)]
  congr 2
  unfold txt
  simp [Lib.join, List.intercalate]

/-! ### The reference's decimal -/
theorem nums1 (d : Nat) (h : d < 10) : strOfNums [(IntKind.u64.wrap (48 + (d : Int))) % 256] = mk [UInt8.ofNat (48 + d)] := by
  rw [u64_id (48 + (d : Int)) (by omega) (by omega)]
  have e : ((48 + (d : Int)) % 256).toNat = 48 + d := by omega
  unfold strOfNums mk
  simp only [List.map_cons, List.map_nil, e]

theorem dec_l0 (neg : Bool) : ∀ (u k : Nat) (t : List UInt8), u < 2 ^ 64 → (dd u).length < k → t.length + (dd u).length ≤ 1000 →
    crossroadsref03_decimal.l0 k neg (u : Int) (mk (UInt8.ofNat (48 + u % 10) :: t)) = some (mk ((if neg then [45] else []) ++ (dd u ++ t))) := by
  intro u
  induction u using Nat.strongRecOn with
  | _ u ih =>
    intro k t hu hk ht
    obtain ⟨k, rfl⟩ : ∃ m, k = m + 1 := ⟨k - 1, by omega⟩
    simp only [crossroadsref03_decimal.l0]
    by_cases h : u < 10
    · rw [if_neg (by omega)]
      rw [dd_small h, Nat.mod_eq_of_lt h]
      rw [dd_small h] at ht
      cases neg with
      | true =>
        rw [if_pos rfl, if_pos (by rw [mk_size]; simp at ht ⊢; omega), show (⟨#[45]⟩ : ByteArray) = mk [45] from rfl, mk_append]
        rfl
      | false => rfl
    · rw [if_pos (by omega), Option.bind_some]
      have e1 : Int.tdiv (u : Int) 10 = ((u / 10 : Nat) : Int) := by rw [Int.tdiv_eq_ediv_of_nonneg (by omega)]; omega
      have e64 : (2 : Nat) ^ 64 = 18446744073709551616 := by decide
      rw [e1, u64_id ((u / 10 : Nat) : Int) (by omega) (by omega)]
      have e2 : Int.tmod ((u / 10 : Nat) : Int) 10 = ((u / 10 % 10 : Nat) : Int) := by rw [Int.tmod_eq_emod_of_nonneg (by omega)]; omega
      have hb := dd_big h
      rw [hb] at hk ht
      simp only [List.length_append, List.length_singleton] at hk ht
      rw [e2, nums1 _ (by omega), if_pos (by rw [mk_size, mk_size]; simp; omega), mk_append]
      have := ih (u / 10) (by omega) k (UInt8.ofNat (48 + u % 10) :: t) (by omega) (by omega) (by simp; omega)
      rw [hb]
      simpa using this

theorem decimal_f (k : Nat) (hk : 40 ≤ k) (n : Int) (hn : I64 n) : crossroadsref03_decimal.f k n = some (mk (Lib.itoa n)) := by
  unfold I64 at hn
  obtain ⟨k, rfl⟩ : ∃ m, k = m + 1 := ⟨k - 1, by omega⟩
  have e64 : (2 : Nat) ^ 64 = 18446744073709551616 := by decide
  have key : ∀ (neg : Bool) (u : Nat), u < 2 ^ 63 + 1 → crossroadsref03_decimal.j0 (k + 1) neg (u : Int) = some (mk ((if neg then [45] else []) ++ dd u)) := by
    intro neg u hu
    have e63 : (2 : Nat) ^ 63 = 9223372036854775808 := by decide
    have hl := dd_len (n := u) (k := 20) (by omega) (by decide)
    simp only [crossroadsref03_decimal.j0]
    have e2 : Int.tmod (u : Int) 10 = ((u % 10 : Nat) : Int) := by rw [Int.tmod_eq_emod_of_nonneg (by omega)]; omega
    rw [e2, nums1 _ (by omega)]
    have := dec_l0 neg u k [] (by omega) (by omega) (by simp; omega)
    simpa using this
  unfold crossroadsref03_decimal.f
  have e63 : (2 : Nat) ^ 63 = 9223372036854775808 := by decide
  by_cases h : n < 0
  · rw [if_pos h]
    have e1 : IntKind.u64.wrap (-(IntKind.u64.wrap n)) = ((n.natAbs : Nat) : Int) := by
      rw [IntKind.wrap_u64, IntKind.wrap_u64]; omega
    rw [e1, key _ _ (by omega)]
    unfold Lib.itoa
    rw [if_pos h]
    simp [h]
    rfl
  · rw [if_neg h]
    have e1 : IntKind.u64.wrap n = ((n.toNat : Nat) : Int) := by rw [IntKind.wrap_u64]; omega
    rw [e1, key _ _ (by omega)]
    unfold Lib.itoa
    rw [if_neg h]
    simp [h]
    rfl

theorem rText_f (k : Nat) (hk : 60 ≤ k) (A N : Int) (hA : U32 A) (hN : I64 N) : crossroadsref03_Text.f k A N = some (mk (txtOf A N)) := by
  obtain ⟨k, rfl⟩ : ∃ m, k = m + 5 := ⟨k - 5, by omega⟩
  obtain ⟨a, rfl, ha⟩ := hA.nat
  have s0 : IntKind.u64.wrap (wrap64 (24 - wrap64 (8 * 0))) = 24 := by rw [IntKind.wrap_u64]; unfold wrap64; omega
  have s1 : IntKind.u64.wrap (wrap64 (24 - wrap64 (8 * 1))) = 16 := by rw [IntKind.wrap_u64]; unfold wrap64; omega
  have s2 : IntKind.u64.wrap (wrap64 (24 - wrap64 (8 * 2))) = 8 := by rw [IntKind.wrap_u64]; unfold wrap64; omega
  have s3 : IntKind.u64.wrap (wrap64 (24 - wrap64 (8 * 3))) = 0 := by rw [IntKind.wrap_u64]; unfold wrap64; omega
  have w0 : wrap64 ((0 : Int) + 1) = 1 := by unfold wrap64; omega
  have w1 : wrap64 ((1 : Int) + 1) = 2 := by unfold wrap64; omega
  have w2 : wrap64 ((2 : Int) + 1) = 3 := by unfold wrap64; omega
  have w3 : wrap64 ((3 : Int) + 1) = 4 := by unfold wrap64; omega
  have o24 : wrap64 (Go.bits .and .u32 (shr .u32 (a : Int) 24) 255) = (oc a 24 : Int) := oct_f a ha 24 (by omega) (by omega)
  have o16 : wrap64 (Go.bits .and .u32 (shr .u32 (a : Int) 16) 255) = (oc a 16 : Int) := oct_f a ha 16 (by omega) (by omega)
  have o8 : wrap64 (Go.bits .and .u32 (shr .u32 (a : Int) 8) 255) = (oc a 8 : Int) := oct_f a ha 8 (by omega) (by omega)
  have o0 : wrap64 (Go.bits .and .u32 (shr .u32 (a : Int) 0) 255) = (oc a 0 : Int) := oct_f a ha 0 (by omega) (by omega)
  have g1 := oc_lt a 24
  have g2 := oc_lt a 16
  have g3 := oc_lt a 8
  have g4 := oc_lt a 0
  have ht : txtOf (a : Int) N = txt (oc a 24) (oc a 16) (oc a 8) (oc a 0) N := by unfold txtOf; rw [Int.toNat_natCast]
  rw [ht]
  clear ht ha hA
  have hD : ∀ (j n : Nat), 40 ≤ j → n < 256 → crossroadsref03_decimal.f j (n : Int) = some (mk (dd n)) := fun j n hj hn => by
    rw [decimal_f j hj _ (by unfold I64; omega), itoa_nat]
  generalize oc a 24 = b1 at *
  generalize oc a 16 = b2 at *
  generalize oc a 8 = b3 at *
  generalize oc a 0 = b4 at *
  have q1 := dd_oct g1
  have q2 := dd_oct g2
  have q3 := dd_oct g3
  have q4 := dd_oct g4
  have hl := itoa_len N hN.1 hN.2
  unfold crossroadsref03_Text.f
  rw [show (⟨#[]⟩ : ByteArray) = mk [] from rfl]
  -- the first number
  rw [crossroadsref03_Text.l0, if_pos (by decide), if_neg (by decide), s0, if_pos (by decide), o24, hD _ _ (by omega) (by omega), Option.bind_some, if_pos (by rw [mk_size, mk_size]; simp; omega), mk_append, w0]
  -- the second one
  rw [crossroadsref03_Text.l0, if_pos (by decide), if_pos (by decide), if_pos (by rw [mk_size]; simp; omega), s1, if_pos (by decide), o16, hD _ _ (by omega) (by omega), Option.bind_some, show (⟨#[46]⟩ : ByteArray) = mk [46] from rfl, mk_append,
    if_pos (by rw [mk_size, mk_size]; simp; omega), mk_append, w1]
  rw [crossroadsref03_Text.l0, if_pos (by decide), if_pos (by decide), if_pos (by rw [mk_size]; simp; omega), s2, if_pos (by decide), o8, hD _ _ (by omega) (by omega), Option.bind_some, show (⟨#[46]⟩ : ByteArray) = mk [46] from rfl, mk_append,
    if_pos (by rw [mk_size, mk_size]; simp; omega), mk_append, w2]
  rw [crossroadsref03_Text.l0, if_pos (by decide), if_pos (by decide), if_pos (by rw [mk_size]; simp; omega), s3, if_pos (by decide), o0, hD _ _ (by omega) (by omega), Option.bind_some, show (⟨#[46]⟩ : ByteArray) = mk [46] from rfl, mk_append,
    if_pos (by rw [mk_size, mk_size]; simp; omega), mk_append, w3]
  rw [crossroadsref03_Text.l0, if_neg (by decide), if_pos (by rw [mk_size]; simp; omega), decimal_f _ (by omega) N hN, Option.bind_some, show (⟨#[47]⟩ : ByteArray) = mk [47] from rfl, mk_append,
    if_pos (by rw [mk_size, mk_size]; simp; omega), mk_append]
  congr 2
  unfold txt
  simp
end Go.Proofs.YtebioeboegmhlaaDoor.X
