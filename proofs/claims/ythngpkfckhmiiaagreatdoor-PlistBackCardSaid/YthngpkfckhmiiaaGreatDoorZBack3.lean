/- Parts of the proof: Xx14, Addr, Rules, Xx25, Xx26, Xx1, Xx2, Xx28, Lists, Lists2, Lists3, Xx29, LawsL, LawsM, Args. -/
import Derived.Test.YthngpkfckhmiiaaGreatDoorZBack2
import Derived.Deep.Slices
import Derived.ChangeSame
import Derived.WideShapes
import Derived.Lib.SmallJoins
section
namespace Go.Proofs.YthngpkfckhmiiaaGreatDoor.X
open Go.RowKit Go.Proofs.YthngpkfckhmiiaaGreatDoorW.PrintWords Go.Proofs.YthngpkfckhmiiaaGreatDoorW.PrintLast Go.Proofs.YthngpkfckhmiiaaGreatDoorW.PrintMore
attribute [local go_sem] max2_int min2_int max_two min_two max_three min_three max_four min_four   -- for this text's walks alone
set_option linter.unusedVariables false
set_option linter.unusedSimpArgs false
def crossroadslaw07_plain.f (a0_0 : Int) (a0_1 : Bool) (a0_2 : Int) (a0_3 : Int) (a0_4 : Int) (a0_5 : Int) : Option (Int × Bool × Int × Int × Int × Int) := some (a0_0, a0_1, a0_2, a0_3, a0_4, a0_5)
set_option maxHeartbeats 8000000 in
set_option maxRecDepth 100000 in
theorem crossroadslaw07_plain.calls (a0_0 : Int) (a0_1 : Bool) (a0_2 : Int) (a0_3 : Int) (a0_4 : Int) (a0_5 : Int) (r1 : Int) (r2 : Bool) (r3 : Int) (r4 : Int) (r5 : Int) (r6 : Int) (w : World) (h : crossroadslaw07_plain.f a0_0 a0_1 a0_2 a0_3 a0_4 a0_5 = some (r1, r2, r3, r4, r5, r6)) :
  Calls Tryz.prog 13 #[.agg #[.int .i64 a0_0, .bool a0_1, .int .u32 a0_2, .int .i64 a0_3, .int .i64 a0_4, .int .i64 a0_5]] w fun e w' => e = .returned (.agg #[.int .i64 r1, .bool r2, .int .u32 r3, .int .i64 r4, .int .i64 r5, .int .i64 r6]) ∧ Below w.heap.size w w' := by
 have hu26 := Tryz.underlying26
 have hu34 := Tryz.underlying34
 have hu24 := Tryz.underlying24
 have HB := Aside0.mk (Below.refl w.heap.size w)
 have H : (some (a0_0, a0_1, a0_2, a0_3, a0_4, a0_5)) = some (r1, r2, r3, r4, r5, r6) := h
 clear h
 simp only [Option.some.injEq, Prod.mk.injEq] at H
 obtain ⟨rfl, rfl, rfl, rfl, rfl, rfl⟩ := H
 go_enter Tryz.func13, Tryz.ntmps13
 go_wp2_with (first | ((with_reducible refine gate_dst (N := 1) rfl ?_); refine box_event ?hg (N := 1) ?hd (cs := #[.int .i64 a0_0, .bool a0_1, .int .u32 a0_2, .int .i64 a0_3, .int .i64 a0_4, .int .i64 a0_5]) (t := 26) ?hr ?_; (case hd => rfl); (case hg => rfl); (case hr => first | (go_simp; done)); intro gb186 hg w2 hbox hb; have n0_ := Aside0.mk (below_step (by repeat (first | (with_reducible first | exact HB.out))) hb); have n1_ := Aside0.mk (hbox); have n2_ := Aside0.mk ((by rw [hg]; exact (below_size (by repeat (first | (with_reducible first | exact HB.out)))) : w.heap.size ≤ gb186)); have n3_ := Aside0.mk ((by rw [hg]; exact (below_size (by repeat (first | (with_reducible first | exact HB.out)))) : w.heap.size ≤ gb186)); clear HB; have HB := n0_; have BK186 := n1_; have GW186 := n2_; have GE186 := n3_; clear n0_ n1_ n2_ n3_; clear hb hbox hg) | ((with_reducible refine gate_dst (N := 2) rfl ?_); refine box_event ?hg (N := 2) ?hd (cs := #[.int .i64 0, .bool false, .int .u32 0, .int .i64 0, .int .i64 0, .int .i64 0]) (t := 34) ?hr ?_; (case hd => rfl); (case hg => rfl); (case hr => first | (go_simp; done)); intro gb187 hg w3 hbox hb; have n0_ := Aside0.mk (blk_below (g := gb186) (o := .cells #[.int .i64 a0_0, .bool a0_1, .int .u32 a0_2, .int .i64 a0_3, .int .i64 a0_4, .int .i64 a0_5] 26 (0, 0)) (by (with_reducible repeat (fail)); exact BK186.out) hb); have n1_ := Aside0.mk (below_step (by repeat (first | (with_reducible first | exact HB.out))) hb); have n2_ := Aside0.mk (hbox); have n3_ := Aside0.mk ((by rw [hg]; exact (below_size (by repeat (first | (with_reducible first | exact HB.out)))) : w.heap.size ≤ gb187)); have n4_ := Aside0.mk ((by rw [hg]; exact (below_size (by repeat (first | (with_reducible first | exact HB.out)))) : w.heap.size ≤ gb187)); have n5_ := Aside0.mk ((by rw [hg]; exact Nat.ne_of_lt (blk_lt (g := gb186) (o := .cells #[.int .i64 a0_0, .bool a0_1, .int .u32 a0_2, .int .i64 a0_3, .int .i64 a0_4, .int .i64 a0_5] 26 (0, 0)) (by (with_reducible repeat (fail)); exact BK186.out)) : gb186 ≠ gb187)); have n6_ := Aside0.mk ((by rw [hg]; exact Nat.ne_of_gt (blk_lt (g := gb186) (o := .cells #[.int .i64 a0_0, .bool a0_1, .int .u32 a0_2, .int .i64 a0_3, .int .i64 a0_4, .int .i64 a0_5] 26 (0, 0)) (by (with_reducible repeat (fail)); exact BK186.out)) : gb187 ≠ gb186)); clear BK186; clear HB; have BK186 := n0_; have HB := n1_; have BK187 := n2_; have GW187 := n3_; have GE187 := n4_; have NB186_187 := n5_; have NB187_186 := n6_; clear n0_ n1_ n2_ n3_ n4_ n5_ n6_; clear hb hbox hg; have hnb4 := NB186_187.out; have hnc4 := NB187_186.out; have hcz5_0 : w3.cell? ⟨gb186, 0, none⟩ = some (.int .i64 a0_0) := (blk_cell BK186.out 0).trans rfl; have hcz5_1 : w3.cell? ⟨gb186, 1, none⟩ = some (.bool a0_1) := (blk_cell BK186.out 1).trans rfl; have hcz5_2 : w3.cell? ⟨gb186, 2, none⟩ = some (.int .u32 a0_2) := (blk_cell BK186.out 2).trans rfl; have hcz5_3 : w3.cell? ⟨gb186, 3, none⟩ = some (.int .i64 a0_3) := (blk_cell BK186.out 3).trans rfl; have hcz5_4 : w3.cell? ⟨gb186, 4, none⟩ = some (.int .i64 a0_4) := (blk_cell BK186.out 4).trans rfl; have hcz5_5 : w3.cell? ⟨gb186, 5, none⟩ = some (.int .i64 a0_5) := (blk_cell BK186.out 5).trans rfl; have hfz5_0 := blk_frozen BK186.out 0; have hfz5_1 := blk_frozen BK186.out 1; have hfz5_2 := blk_frozen BK186.out 2; have hfz5_3 := blk_frozen BK186.out 3; have hfz5_4 := blk_frozen BK186.out 4; have hfz5_5 := blk_frozen BK186.out 5; have hcz6_0 : w3.cell? ⟨gb187, 0, none⟩ = some (.int .i64 0) := (blk_cell BK187.out 0).trans rfl; have hcz6_1 : w3.cell? ⟨gb187, 1, none⟩ = some (.bool false) := (blk_cell BK187.out 1).trans rfl; have hcz6_2 : w3.cell? ⟨gb187, 2, none⟩ = some (.int .u32 0) := (blk_cell BK187.out 2).trans rfl; have hcz6_3 : w3.cell? ⟨gb187, 3, none⟩ = some (.int .i64 0) := (blk_cell BK187.out 3).trans rfl; have hcz6_4 : w3.cell? ⟨gb187, 4, none⟩ = some (.int .i64 0) := (blk_cell BK187.out 4).trans rfl; have hcz6_5 : w3.cell? ⟨gb187, 5, none⟩ = some (.int .i64 0) := (blk_cell BK187.out 5).trans rfl; have hfz6_0 := blk_frozen BK187.out 0; have hfz6_1 := blk_frozen BK187.out 1; have hfz6_2 := blk_frozen BK187.out 2; have hfz6_3 := blk_frozen BK187.out 3; have hfz6_4 := blk_frozen BK187.out 4; have hfz6_5 := blk_frozen BK187.out 5))
 refine bodyPost_ret (results_cell_row rfl _ _ gb187 34 #[.int .i64 a0_0, .bool a0_1, .int .u32 a0_2, .int .i64 a0_3, .int .i64 a0_4, .int .i64 a0_5] (0, 0) _ rfl (by (with_reducible repeat (fail)); refine blk_put (cs := #[.int .i64 a0_0, .bool a0_1, .int .u32 a0_2, .int .i64 a0_3, .int .i64 a0_4, .int .i64 0]) ?_ 5 _ rfl; (with_reducible repeat (fail)); refine blk_put (cs := #[.int .i64 a0_0, .bool a0_1, .int .u32 a0_2, .int .i64 a0_3, .int .i64 0, .int .i64 0]) ?_ 4 _ rfl; (with_reducible repeat (fail)); refine blk_put (cs := #[.int .i64 a0_0, .bool a0_1, .int .u32 a0_2, .int .i64 0, .int .i64 0, .int .i64 0]) ?_ 3 _ rfl; (with_reducible repeat (fail)); refine blk_put (cs := #[.int .i64 a0_0, .bool a0_1, .int .u32 0, .int .i64 0, .int .i64 0, .int .i64 0]) ?_ 2 _ rfl; (with_reducible repeat (fail)); refine blk_put (cs := #[.int .i64 a0_0, .bool false, .int .u32 0, .int .i64 0, .int .i64 0, .int .i64 0]) ?_ 1 _ rfl; (with_reducible repeat (fail)); refine blk_put (cs := #[.int .i64 0, .bool false, .int .u32 0, .int .i64 0, .int .i64 0, .int .i64 0]) ?_ 0 _ rfl; (with_reducible repeat (fail)); exact BK187.out) Tryz.underlying34 rfl (by kernel_rfl)) rfl ?_
 exact ⟨by first | rfl, by repeat (first | (with_reducible first | exact HB.out | refine below_set ?_ GE187.out))⟩
end Go.Proofs.YthngpkfckhmiiaaGreatDoor.X
end
section
set_option linter.unusedVariables false
namespace Go.Proofs.YthngpkfckhmiiaaGreatDoor.X
open Go.RowKit Go.Proofs.YthngpkfckhmiiaaGreatDoorW.PrintWords Go.Proofs.YthngpkfckhmiiaaGreatDoorW.PrintMore
def U32 (a : Int) : Prop := 0 ≤ a ∧ a < 4294967296
def I64 (a : Int) : Prop := -9223372036854775808 ≤ a ∧ a ≤ 9223372036854775807
theorem U32.of {a : Int} (h : (Lit.int .u32 a).wf = true) : U32 a := by
  have := h
  simp [Lit.wf, IntKind.min, IntKind.max, IntKind.bits, IntKind.signed] at this
  unfold U32; omega
theorem I64.of {a : Int} (h : (Lit.int .i64 a).wf = true) : I64 a := by
  have := h
  simp [Lit.wf, IntKind.min, IntKind.max, IntKind.bits, IntKind.signed] at this
  unfold I64; omega
theorem U32.nat {a : Int} (h : U32 a) : ∃ n : Nat, a = n ∧ n < 2 ^ 32 := by
  obtain ⟨n, rfl⟩ := Int.eq_ofNat_of_zero_le h.1
  exact ⟨n, rfl, by have := h.2; have e : (2 : Nat) ^ 32 = 4294967296 := by decide
                    omega⟩
def PW (n : Int) : Nat := 2 ^ (32 - n.toNat)
theorem PW_pos (n : Int) : 0 < PW n := Nat.two_pow_pos _
def mayB (A N : Int) : Bool := decide (0 ≤ N) && decide (N ≤ 32) && decide (A % (PW N : Int) = 0)
def hasB (A N a : Int) : Bool := mayB A N && decide (a / (PW N : Int) = A / (PW N : Int))
def covB (pA pN qA qN : Int) : Bool := mayB qA qN && decide (pN ≤ qN) && hasB pA pN qA
def cutA (A N : Int) : Int := A / (PW N : Int) * (PW N : Int)
def bitB (a i : Int) : Int := if i < 0 ∨ 31 < i then 0 else a / 2 ^ (31 - i).toNat % 2
theorem mayB_iff {A N : Int} : mayB A N = true ↔ 0 ≤ N ∧ N ≤ 32 ∧ A % (PW N : Int) = 0 := by
  unfold mayB
  simp only [Bool.and_eq_true, decide_eq_true_eq]
  omega
theorem Mask_all (n : Int) : addr_Mask.f n = some ((2 ^ 32 - PW n : Nat) : Int) := by
  unfold addr_Mask.f
  have e3 : (32 - mn (mx n 0) 32).toNat = 32 - n.toNat := by unfold mn mx; (repeat' split) <;> omega
  rw [e3, mask_val (32 - n.toNat) (by omega)]
  rfl
theorem Mask_f (n : Int) (h0 : 0 ≤ n) (h1 : n ≤ 32) : addr_Mask.f n = some ((2 ^ 32 - PW n : Nat) : Int) := Mask_all n
theorem isLong_f (n : Int) : addr_isLong.f n = some (decide (0 ≤ n) && decide (n ≤ 32)) := by
  unfold addr_isLong.f
  by_cases h : n ≥ 0
  · rw [if_pos h]; simp [h]
  · rw [if_neg h]; simp; omega
theorem May_f (A N : Int) (hA : U32 A) : addr_May.f A N = some (mayB A N) := by
  unfold addr_May.f mayB
  rw [isLong_f]
  simp only [Option.bind_some]
  by_cases h : 0 ≤ N ∧ N ≤ 32
  · have e : (decide (0 ≤ N) && decide (N ≤ 32)) = true := by simp [h.1, h.2]
    rw [if_pos e, e, Mask_f N h.1 h.2]
    simp only [Option.bind_some, Bool.true_and]
    obtain ⟨a, rfl, ha⟩ := hA.nat
    rw [show ((2 ^ 32 - PW N : Nat) : Int) = ((2 ^ 32 - 2 ^ (32 - N.toNat) : Nat) : Int) from rfl, bits_andNot_mask a _ (by omega) ha]
    congr 1
  · have e : (decide (0 ≤ N) && decide (N ≤ 32)) = false := by simp; omega
    rw [if_neg (by rw [e]; decide), e]
    simp
theorem cut_nat (a : Nat) (N : Int) : cutA (a : Int) N = ((a / 2 ^ (32 - N.toNat) * 2 ^ (32 - N.toNat) : Nat) : Int) := by
  unfold cutA PW; simp
theorem and_mask_f (a : Nat) (N : Int) (h0 : 0 ≤ N) (h1 : N ≤ 32) (ha : a < 2 ^ 32) : Go.bits .and .u32 (a : Int) ((2 ^ 32 - PW N : Nat) : Int) = cutA (a : Int) N := by
  rw [cut_nat]
  exact bits_and_mask a _ (by omega) ha
theorem cut_eq {A N a : Int} (hm : A % (PW N : Int) = 0) : (cutA a N = A) ↔ (a / (PW N : Int) = A / (PW N : Int)) := by
  have hp : (0 : Int) < (PW N : Int) := by have := PW_pos N; omega
  have hA : A / (PW N : Int) * (PW N : Int) = A := Int.ediv_mul_cancel (Int.dvd_of_emod_eq_zero hm)
  unfold cutA
  constructor
  · intro h
    rw [← hA] at h
    exact Int.eq_of_mul_eq_mul_right (by omega) h
  · intro h
    rw [h, hA]
theorem Has_f (A N a : Int) (hA : U32 A) (ha : U32 a) : addr_Has.f A N a = some (hasB A N a) := by
  unfold addr_Has.f hasB
  rw [May_f A N hA]
  simp only [Option.bind_some]
  cases hm : mayB A N with
  | false => simp
  | true =>
    obtain ⟨h0, h1, h2⟩ := mayB_iff.1 hm
    rw [if_pos rfl, Mask_f N h0 h1]
    simp only [Option.bind_some, Bool.true_and]
    obtain ⟨b, rfl, hb⟩ := ha.nat
    rw [and_mask_f b N h0 h1 hb]
    congr 1
    rw [Bool.eq_iff_iff]
    simp only [beq_iff_eq, decide_eq_true_eq]
    exact cut_eq h2
theorem Covers_f (pA pN qA qN : Int) (hp : U32 pA) (hq : U32 qA) : addr_Covers.f pA pN qA qN = some (covB pA pN qA qN) := by
  unfold addr_Covers.f covB
  rw [May_f qA qN hq]
  simp only [Option.bind_some]
  cases mayB qA qN with
  | false => simp
  | true =>
    rw [if_pos rfl]
    by_cases h : pN ≤ qN
    · rw [if_pos h, Has_f pA pN qA hp hq]; simp [h]
    · rw [if_neg h]; simp [h]
theorem wrap64_id (x : Int) (h0 : -9223372036854775808 ≤ x) (h1 : x ≤ 9223372036854775807) : wrap64 x = x := by unfold wrap64; omega
theorem u64_id (x : Int) (h0 : 0 ≤ x) (h1 : x ≤ 18446744073709551615) : IntKind.u64.wrap x = x := by rw [IntKind.wrap_u64]; omega
theorem shr_and1 (a : Nat) (ha : a < 2 ^ 32) (j : Int) (h0 : 0 ≤ j) (h1 : j ≤ 31) : wrap64 (Go.bits .and .u32 (shr .u32 (a : Int) j) 1) = (a : Int) / 2 ^ j.toNat % 2 := by
  unfold shr
  have e : min j.toNat IntKind.u32.bits = j.toNat := by show min j.toNat 32 = j.toNat; omega
  rw [e]
  have e2 : (a : Int) / 2 ^ j.toNat = ((a / 2 ^ j.toNat : Nat) : Int) := by simp
  rw [e2]
  have := bits_and_low (a / 2 ^ j.toNat) 1 (by decide) (Nat.lt_of_le_of_lt (Nat.div_le_self _ _) ha)
  simp only [Nat.pow_one, Nat.add_one_sub_one] at this
  rw [show ((1 : Nat) : Int) = 1 from rfl] at this
  rw [this, wrap64_id _ (by omega) (by omega)]
  omega
theorem rBit_f (a i : Int) (ha : U32 a) (hi : I64 i) : crossroadsref03_Bit.f a i = some (bitB a i) := by
  unfold crossroadsref03_Bit.f bitB
  unfold I64 at hi
  by_cases h1 : i < 0
  · rw [if_pos h1, if_pos (Or.inl h1)]
  · rw [if_neg h1]
    by_cases h2 : i > 31
    · rw [if_pos h2, if_pos (Or.inr (by omega))]
    · rw [if_neg h2, wrap64_id (31 - i) (by omega) (by omega), u64_id (31 - i) (by omega) (by omega), if_pos (by omega), if_neg (show ¬ (i < 0 ∨ 31 < i) by omega)]
      obtain ⟨b, rfl, hb⟩ := ha.nat
      rw [shr_and1 b hb _ (by omega) (by omega)]
theorem PW_succ (i : Int) (h0 : 0 ≤ i) (h1 : i < 32) : (PW i : Int) = 2 * (PW (i + 1) : Int) := by
  unfold PW
  have e : 32 - i.toNat = (32 - (i + 1).toNat) + 1 := by omega
  rw [e, Nat.pow_succ]
  omega
theorem bitB_in (a i : Int) (h0 : 0 ≤ i) (h1 : i < 32) : bitB a i = a / (PW (i + 1) : Int) % 2 := by
  unfold bitB PW
  rw [if_neg (by omega)]
  have e : (31 - i).toNat = 32 - (i + 1).toNat := by omega
  rw [e]
  simp
theorem div_two (a w : Int) (hw : 0 < w) : a / (2 * w) = a / w / 2 := by
  rw [Int.mul_comm, Int.ediv_ediv_of_nonneg (by omega)]
theorem mod_two (a w : Int) (hw : 0 < w) : a % (2 * w) = 0 ↔ a / w % 2 = 0 ∧ a % w = 0 := by
  have h1 := Int.mul_ediv_add_emod a w
  have h2 := Int.mul_ediv_add_emod a (2 * w)
  have h3 := div_two a w hw
  have h4 := Int.mul_ediv_add_emod (a / w) 2
  have m1 := Int.emod_nonneg a (show w ≠ 0 by omega)
  have m2 := Int.emod_lt_of_pos a hw
  have e : a % (2 * w) = w * (a / w % 2) + a % w := by
    rw [h3] at h2
    have : 2 * w * (a / w / 2) = w * (2 * (a / w / 2)) := by rw [← Int.mul_assoc, Int.mul_comm w 2]
    have h5 : w * (a / w) = w * (2 * (a / w / 2)) + w * (a / w % 2) := by rw [← Int.mul_add, h4]
    omega
  rw [e]
  rcases Int.emod_two_eq (a / w) with h | h
  · rw [h]; simp
  · rw [h]; simp; omega
theorem rMay_l0 (A N : Int) (hA : U32 A) : ∀ (d k : Nat) (i : Int), 0 ≤ i → i ≤ 32 → 32 - i = d → d < k → crossroadsref03_May.l0 k i A N = some (decide (A % (PW i : Int) = 0)) := by
  intro d
  induction d with
  | zero =>
    intro k i h0 h1 hd hk
    obtain ⟨k, rfl⟩ : ∃ m, k = m + 1 := ⟨k - 1, by omega⟩
    obtain rfl : i = 32 := by omega
    simp only [crossroadsref03_May.l0]
    rw [if_neg (by omega)]
    have e : PW 32 = 1 := rfl
    rw [e]
    simp [Int.emod_one]
  | succ d ih =>
    intro k i h0 h1 hd hk
    obtain ⟨k, rfl⟩ : ∃ m, k = m + 1 := ⟨k - 1, by omega⟩
    simp only [crossroadsref03_May.l0]
    have hp := PW_pos (i + 1)
    rw [if_pos (by omega), rBit_f A i hA (by unfold I64; omega)]
    simp only [Option.bind_some]
    rw [bitB_in A i h0 (by omega), wrap64_id _ (by omega) (by omega), ih k (i + 1) (by omega) (by omega) (by omega) (by omega)]
    have hm := mod_two A (PW (i + 1)) (by omega)
    rw [← PW_succ i h0 (by omega)] at hm
    rcases Int.emod_two_eq (A / (PW (i + 1) : Int)) with h | h
    · rw [if_neg (by omega)]
      congr 1
      rw [decide_eq_decide, hm, h]
      simp
    · rw [if_pos h]
      congr 1
      symm
      rw [decide_eq_false_iff_not, hm, h]
      simp
theorem rMay_f (k : Nat) (hk : 40 ≤ k) (A N : Int) (hA : U32 A) : crossroadsref03_May.f k A N = some (mayB A N) := by
  unfold crossroadsref03_May.f mayB
  obtain ⟨k, rfl⟩ : ∃ m, k = m + 1 := ⟨k - 1, by omega⟩
  by_cases h1 : N < 0
  · rw [if_pos h1]
    simp only [crossroadsref03_May.j0, if_true]
    simp; omega
  · rw [if_neg h1]
    simp only [crossroadsref03_May.j0]
    by_cases h2 : N > 32
    · rw [if_pos (by simpa using h2)]
      simp; omega
    · rw [if_neg (by simpa using h2), rMay_l0 A N hA (32 - N).toNat k N (by omega) (by omega) (by omega) (by omega)]
      have e1 : decide (0 ≤ N) = true := decide_eq_true (by omega)
      have e2 : decide (N ≤ 32) = true := decide_eq_true (by omega)
      rw [e1, e2]; rfl
end Go.Proofs.YthngpkfckhmiiaaGreatDoor.X
end
section
set_option linter.unusedVariables false
set_option linter.unusedSimpArgs false
namespace Go.Proofs.YthngpkfckhmiiaaGreatDoor.X
open Go.RowKit Go.Proofs.YthngpkfckhmiiaaGreatDoorW.PrintWords Go.Proofs.YthngpkfckhmiiaaGreatDoorW.PrintMore
theorem up {α : Type} {F : Nat → Option α} (hF : ∀ k, LeO (F k) (F (k + 1))) {k0 k : Nat} (h : k0 ≤ k) {r : α} (hr : F k0 = some r) : F k = some r := by
  obtain ⟨d, rfl⟩ := Nat.exists_eq_add_of_le h
  induction d with
  | zero => exact hr
  | succ d ih => exact hF _ _ (ih (Nat.le_add_right _ _))
def mayR (s A N ge le : Int) : Bool := decide (1 ≤ s) && decide (s ≤ 65535) && mayB A N && (decide (ge = 0) || (decide (N < ge) && decide (ge ≤ 32))) && (decide (le = 0) || (decide (ge ≤ le) && decide (N ≤ le) && decide (le ≤ 32)))
def lowB (N ge le : Int) : Int := if ge = 0 then N else ge
def highB (N ge le : Int) : Int := if le = 0 then (if ge = 0 then N else 32) else le
def meansB (s A N ge le qA qN : Int) : Bool := mayR s A N ge le && covB A N qA qN && decide (lowB N ge le ≤ qN) && decide (qN ≤ highB N ge le)
theorem mx_le (a b c : Int) : c ≥ mx a b ↔ a ≤ c ∧ b ≤ c := by
  unfold mx
  split <;> omega
theorem bounds_p (k : Nat) (hk : 1 ≤ k) (s : Int) (p : Bool) (A N ge le : Int) : plist_Rule_bounds.f k s p A N ge le = some (lowB N ge le, highB N ge le) := by
  obtain ⟨k, rfl⟩ : ∃ m, k = m + 1 := ⟨k - 1, by omega⟩
  unfold plist_Rule_bounds.f lowB highB
  simp only [plist_Rule_bounds.j0]
  by_cases h1 : ge = 0 <;> by_cases h2 : le = 0 <;> simp [h1, h2]
theorem May_p (s : Int) (p : Bool) (A N ge le : Int) (hA : U32 A) : plist_May.f s p A N ge le = some (mayR s A N ge le) := by
  unfold plist_May.f mayR
  rw [May_f A N hA]
  by_cases h1 : s < 1
  · rw [if_pos h1, decide_eq_false (show ¬ 1 ≤ s by omega)]; simp
  rw [if_neg h1, decide_eq_true (show 1 ≤ s by omega)]
  by_cases h2 : s > 65535
  · rw [if_pos h2, decide_eq_false (show ¬ s ≤ 65535 by omega)]; simp
  rw [if_neg h2, decide_eq_true (show s ≤ 65535 by omega)]
  cases hm : mayB A N
  · simp
  simp only [Option.bind_some, Bool.true_and, if_true, mx_le]
  by_cases h3 : ge = 0
  · rw [if_pos h3]
    by_cases h4 : le = 0
    · rw [if_pos h4]; simp [h3, h4]
    · rw [if_neg h4]
      by_cases h5 : ge ≤ le ∧ N ≤ le
      · rw [if_pos h5]; simp [h3, h4, h5.1, h5.2]; omega
      · rw [if_neg h5]; simp [h3, h4]; omega
  · rw [if_neg h3]
    by_cases h6 : ge > N
    · rw [if_pos h6]
      by_cases h4 : le = 0
      · rw [if_pos h4]
        by_cases h7 : ge ≤ 32
        · rw [if_pos h7]; simp [h3, h4, h7, show N < ge from h6]
        · rw [if_neg h7]; simp [h3, h4, h7]
      · rw [if_neg h4]
        by_cases h5 : ge ≤ le ∧ N ≤ le
        · rw [if_pos h5]
          by_cases h7 : ge ≤ 32
          · rw [if_pos h7]; simp [h3, h4, h5.1, h5.2, h7, show N < ge from h6]
          · rw [if_neg h7]; simp [h3, h7]
        · rw [if_neg h5]
          have : (decide (ge ≤ le) && decide (N ≤ le)) = false := by
            rw [Bool.and_eq_false_iff]
            by_cases h8 : ge ≤ le
            · exact .inr (decide_eq_false fun h => h5 ⟨h8, h⟩)
            · exact .inl (decide_eq_false h8)
          split <;> simp [h4, this]
    · rw [if_neg h6]
      have : decide (N < ge) = false := decide_eq_false (by omega)
      by_cases h4 : le = 0
      · rw [if_pos h4]; simp [h3, this]
      · rw [if_neg h4]
        split <;> simp [h3, this]
theorem rMay_p (k : Nat) (hk : 45 ≤ k) (s : Int) (p : Bool) (A N ge le : Int) (hA : U32 A) : crossroadsref07_May.f k s p A N ge le = some (mayR s A N ge le) := by
  have hm := rMay_f k (by omega) A N hA
  obtain ⟨k, rfl⟩ : ∃ m, k = m + 1 := ⟨k - 1, by omega⟩
  unfold crossroadsref07_May.f mayR
  rw [hm]
  simp only [crossroadsref07_May.j0, Option.bind_some]
  by_cases h1 : s < 1
  · rw [if_pos h1, decide_eq_false (show ¬ 1 ≤ s by omega)]; simp
  rw [if_neg h1, decide_eq_true (show 1 ≤ s by omega)]
  by_cases h2 : s > 65535
  · rw [if_pos h2, decide_eq_false (show ¬ s ≤ 65535 by omega)]; simp
  rw [if_neg h2, decide_eq_true (show s ≤ 65535 by omega)]
  cases hmb : mayB A N
  · simp
  simp only [Bool.not_true, Bool.true_and, Bool.false_eq_true, if_false]
  by_cases h3 : ge = 0
  · rw [if_pos h3]
    by_cases h4 : le = 0
    · rw [if_pos h4]; simp [h3, h4]
    · rw [if_neg h4]
      by_cases h5 : le ≥ ge
      · rw [if_pos h5]
        by_cases h6 : le ≥ N
        · rw [if_pos h6]; simp [h3, h4, show N ≤ le from h6]; omega
        · rw [if_neg h6]; simp [h3, h4, show ¬ N ≤ le from h6]
      · rw [if_neg h5]; simp [h3, h4]; omega
  · rw [if_neg h3]
    by_cases h6 : ge ≤ N
    · rw [if_pos h6]; simp [h3, show ¬ N < ge by omega]
    rw [if_neg h6]
    by_cases h7 : ge > 32
    · rw [if_pos h7]; simp [h3, show ¬ ge ≤ 32 by omega]
    rw [if_neg h7]
    by_cases h4 : le = 0
    · rw [if_pos h4]; simp [h3, h4]; omega
    · rw [if_neg h4]
      have e1 : decide (N < ge) = true := decide_eq_true (by omega)
      have e2 : decide (ge ≤ 32) = true := decide_eq_true (by omega)
      by_cases h5 : le ≥ ge
      · rw [if_pos h5]
        by_cases h8 : le ≥ N
        · rw [if_pos h8]; simp [h3, h4, e1, e2, show ge ≤ le from h5, show N ≤ le from h8]
        · rw [if_neg h8]; simp [h3, h4, show ¬ N ≤ le from h8]
      · rw [if_neg h5]; simp [h3, h4, show ¬ ge ≤ le from h5]
theorem Means_p (k : Nat) (hk : 1 ≤ k) (s : Int) (p : Bool) (A N ge le qA qN : Int) (hA : U32 A) (hq : U32 qA) : plist_Means.f k s p A N ge le qA qN = some (meansB s A N ge le qA qN) := by
  unfold plist_Means.f meansB
  rw [bounds_p k hk, May_p s p A N ge le hA, Covers_f A N qA qN hA hq]
  simp only [Option.bind_some]
  cases mayR s A N ge le <;> cases covB A N qA qN <;> simp
  by_cases h : lowB N ge le ≤ qN <;> simp [h]
end Go.Proofs.YthngpkfckhmiiaaGreatDoor.X
end
section
namespace Go.Proofs.YthngpkfckhmiiaaGreatDoor.X
open Go.RowKit Go.Proofs.YthngpkfckhmiiaaGreatDoorW.PrintWords Go.Proofs.YthngpkfckhmiiaaGreatDoorW.PrintLast Go.Proofs.YthngpkfckhmiiaaGreatDoorW.PrintMore
attribute [local go_sem] max2_int min2_int max_two min_two max_three min_three max_four min_four   -- for this text's walks alone
set_option linter.unusedVariables false
set_option linter.unusedSimpArgs false
def crossroadsref07_MayAll.l0 : Nat → List (S34) → Int → Option (Bool)
 | 0, _, _ => none
 | k + 1, x0, x3 => if x3 < (x0.length : Int) then (if 0 ≤ x3 then ((crossroadsref07_May.f k ((rd_T34 x0 x3).f0) ((rd_T34 x0 x3).f1) ((rd_T34 x0 x3).f2.f0) ((rd_T34 x0 x3).f2.f1) ((rd_T34 x0 x3).f3) ((rd_T34 x0 x3).f4)).bind fun t315 => (if t315 = true then (if x3 > 0 then (if 0 ≤ (wrap64 (x3 - 1)) then (if (wrap64 (x3 - 1)) < (x0.length : Int) then (if ((rd_T34 x0 x3).f0) ≤ ((rd_T34 x0 (wrap64 (x3 - 1))).f0) then (some false) else (crossroadsref07_MayAll.l0 k x0 (wrap64 (x3 + 1)))) else (none)) else (none)) else (crossroadsref07_MayAll.l0 k x0 (wrap64 (x3 + 1)))) else (some false))) else (none)) else (some true)
def crossroadsref07_MayAll.f (k : Nat) (l0 : List (S34)) : Option (Bool) := crossroadsref07_MayAll.l0 k l0 0
def crossroadsref07_MayAll.T4 : Bool × List (List Nat × List Nat) := (true, [([], []), ([], []), ([0, 1], [0, 1]), ([2], [2]), ([3], [3]), ([4], [4]), ([5, 4], [5]), ([6], [6]), ([7, 6], [6, 7]), ([8, 6, 6], [6, 8]), ([9], [9]), ([9], [9]), ([10, 11, 9], [9, 10, 11]), ([12, 9], [9, 12]), ([13, 9], [9, 13]), ([9], [9]), ([9], [9]), ([16, 9], [9, 16]), ([15, 17, 9], [9, 15, 17]), ([18, 9], [9, 18]), ([19, 9], [9, 19]), ([14, 20, 9], [9, 14, 20]), ([9, 21, 6], [6, 9, 21]), ([6, 22], [6, 22])])
def crossroadsref07_MayAll.B4 : List Nat := [0, 0, 3, 7, 15, 31, 63, 127, 255, 511, 1023, 1023, 4095, 8191, 16383, 1023, 1023, 66559, 230399, 492543, 1016831, 2097151, 4194303, 8388607]
theorem crossroadsref07_MayAll.tab4 : rtab .any (opsOf Tryz.f18 4) = crossroadsref07_MayAll.T4 := by kernel_rfl
theorem crossroadsref07_MayAll.bits4 : waitsOk crossroadsref07_MayAll.T4.2 crossroadsref07_MayAll.B4 = true := by kernel_rfl
set_option maxHeartbeats 8000000 in
set_option maxRecDepth 100000 in
theorem crossroadsref07_MayAll.calls (k : Nat) (A0 : Option Addr) (c0 : Nat) (l0 : List (S34)) (r : Bool) (w : World) (hr0 : Kd.C k34 w A0 l0.length l0) (hc0 : l0.length ≤ c0) (h : crossroadsref07_MayAll.f k l0 = some r) :
  Calls Tryz.prog 18 #[.slice A0 l0.length c0] w fun e w' => e = .returned (.bool r) ∧ Below w.heap.size w w' := by
 have hu34 := Tryz.underlying34
 have HR0 := Aside0.mk hr0
 have HC0 := Aside0.mk hc0
 clear hr0 hc0
 have HB := Aside0.mk (Below.refl w.heap.size w)
 have H : (crossroadsref07_MayAll.l0 k l0 0) = some r := h
 clear h
 have H' := Aside0.mk H
 clear H
 go_enter Tryz.func18, Tryz.ntmps18
 go_wp2
 go_loopg [3] k (fun kq v3 w' => ∃ (x3_1 : Int), v3 = .int .i64 x3_1 ∧ Aside0 (crossroadsref07_MayAll.l0 kq l0 x3_1 = some r) ∧ Aside0 (kq ≤ k) ∧ Aside0 (Below w.heap.size w w'))
 case atStart => exact ⟨(0), (by first | rfl), H', ⟨Nat.le_refl _⟩, ⟨by repeat (first | (with_reducible first | exact HB.out))⟩⟩
 case round =>
  clear H'
  try clear c1
  obtain ⟨x3_1, rfl, HA, HK1, HB⟩ := hrel
  cases gk with
  | zero => exact absurd HA.out (by simp [crossroadsref07_MayAll.l0])
  | succ k1 =>
   have H := HA.out
   clear HA
   simp only [crossroadsref07_MayAll.l0] at H
   by_cases c2 : x3_1 < (l0.length : Int)
   ·rw [if_pos c2] at H
    have c2b0 : decide (x3_1 < (l0.length : Int)) = true := decide_eq_true c2
    clear c2
    by_cases c3 : 0 ≤ x3_1
    ·rw [if_pos c3] at H
     have c3b0 : decide (0 ≤ x3_1) = true := decide_eq_true c3
     clear c3
     replace H := Option.bind_eq_some_iff.mp H
     obtain ⟨t315, A40, H⟩ := H
     replace H : (if t315 = true then (if x3_1 > 0 then (if 0 ≤ (wrap64 (x3_1 - 1)) then (if (wrap64 (x3_1 - 1)) < (l0.length : Int) then (if ((rd_T34 l0 x3_1).f0) ≤ ((rd_T34 l0 (wrap64 (x3_1 - 1))).f0) then (some false) else (crossroadsref07_MayAll.l0 k1 l0 (wrap64 (x3_1 + 1)))) else (none)) else (none)) else (crossroadsref07_MayAll.l0 k1 l0 (wrap64 (x3_1 + 1)))) else (some false)) = some r := H
     have A4 := Aside0.mk A40
     clear A40
     by_cases c5 : t315 = true
     ·subst c5
      have H1 : (if x3_1 > 0 then (if 0 ≤ (wrap64 (x3_1 - 1)) then (if (wrap64 (x3_1 - 1)) < (l0.length : Int) then (if ((rd_T34 l0 x3_1).f0) ≤ ((rd_T34 l0 (wrap64 (x3_1 - 1))).f0) then (some false) else (crossroadsref07_MayAll.l0 k1 l0 (wrap64 (x3_1 + 1)))) else (none)) else (none)) else (crossroadsref07_MayAll.l0 k1 l0 (wrap64 (x3_1 + 1)))) = some r := by rw [if_pos rfl] at H; exact H
      clear H
      have H := H1
      clear H1
      by_cases c6 : x3_1 > 0
      ·rw [if_pos c6] at H
       have c6b0 : decide (0 < x3_1) = true := decide_eq_true c6
       clear c6
       obtain ⟨ji7, hji7⟩ : ∃ j_ : Int, (wrap64 (x3_1 - 1)) = j_ := ⟨_, rfl⟩
       replace H : (if 0 ≤ (ji7) then (if (ji7) < (l0.length : Int) then (if ((rd_T34 l0 x3_1).f0) ≤ ((rd_T34 l0 (ji7)).f0) then (some false) else (crossroadsref07_MayAll.l0 k1 l0 (wrap64 (x3_1 + 1)))) else (none)) else (none)) = some r := by first | (rw [hji7] at H; exact H)
       (try rw [hji7] at A4)
       have hji7w : (IntKind.i64.wrap (x3_1 - 1)) = ji7 := (i64_w _).trans hji7
       by_cases c8 : 0 ≤ (ji7)
       ·rw [if_pos c8] at H
        have c8b0 : decide (0 ≤ (ji7)) = true := decide_eq_true c8
        clear c8
        by_cases c9 : (ji7) < (l0.length : Int)
        ·rw [if_pos c9] at H
         have c9b0 : decide ((ji7) < (l0.length : Int)) = true := decide_eq_true c9
         clear c9
         by_cases c10 : ((rd_T34 l0 x3_1).f0) ≤ ((rd_T34 l0 (ji7)).f0)
         ·rw [if_pos c10] at H
          have c10b0 : decide (((rd_T34 l0 x3_1).f0) ≤ ((rd_T34 l0 (ji7)).f0)) = true := decide_eq_true c10
          clear c10
          obtain rfl := Option.some.inj H
          try go_wp2
          have n0_ := Aside0.mk (below_drew1 HB.out)
          clear HB
          have HB := n0_
          clear n0_
          have p314 : 0 ≤ (x3_1 : Int) := of_decide_eq_true (by first | (with_reducible assumption))
          have q314 : x3_1 < (l0.length : Int) := of_decide_eq_true (by first | (with_reducible assumption))
          obtain ⟨ad314, e314, hx314_0, hx314_1, hx314_2, hx314_3, hx314_4, hx314_5⟩ := at_T34 HR0.out x3_1 p314 q314
          have hw314_5 := hx314_5
          have hw314_4 := hx314_4
          have hw314_3 := hx314_3
          have hw314_2 := hx314_2
          have hw314_1 := hx314_1
          have hw314_0 := hx314_0
          cases e314
          replace hx314_0 := (HB.out.cell (World.block_lt_of_cell? w _ hx314_0)).trans hx314_0
          replace hx314_1 := (HB.out.cell (World.block_lt_of_cell? w _ hx314_1)).trans hx314_1
          replace hx314_2 := (HB.out.cell (World.block_lt_of_cell? w _ hx314_2)).trans hx314_2
          replace hx314_3 := (HB.out.cell (World.block_lt_of_cell? w _ hx314_3)).trans hx314_3
          replace hx314_4 := (HB.out.cell (World.block_lt_of_cell? w _ hx314_4)).trans hx314_4
          replace hx314_5 := (HB.out.cell (World.block_lt_of_cell? w _ hx314_5)).trans hx314_5
          replace p314 := eq_true p314
          replace q314 := eq_true q314
          have p316 : 0 ≤ (x3_1 : Int) := of_decide_eq_true (by first | (with_reducible assumption))
          have q316 : x3_1 < (l0.length : Int) := of_decide_eq_true (by first | (with_reducible assumption))
          obtain ⟨ad316, e316, hx316_0, hx316_1, hx316_2, hx316_3, hx316_4, hx316_5⟩ := at_T34 HR0.out x3_1 p316 q316
          have hw316_5 := hx316_5
          have hw316_4 := hx316_4
          have hw316_3 := hx316_3
          have hw316_2 := hx316_2
          have hw316_1 := hx316_1
          have hw316_0 := hx316_0
          obtain rfl : ad314 = ad316 := (by injection e316)
          replace hx316_0 := (HB.out.cell (World.block_lt_of_cell? w _ hx316_0)).trans hx316_0
          replace hx316_1 := (HB.out.cell (World.block_lt_of_cell? w _ hx316_1)).trans hx316_1
          replace hx316_2 := (HB.out.cell (World.block_lt_of_cell? w _ hx316_2)).trans hx316_2
          replace hx316_3 := (HB.out.cell (World.block_lt_of_cell? w _ hx316_3)).trans hx316_3
          replace hx316_4 := (HB.out.cell (World.block_lt_of_cell? w _ hx316_4)).trans hx316_4
          replace hx316_5 := (HB.out.cell (World.block_lt_of_cell? w _ hx316_5)).trans hx316_5
          replace p316 := eq_true p316
          replace q316 := eq_true q316
          have p317 : 0 ≤ ((ji7) : Int) := of_decide_eq_true (by first | (with_reducible assumption))
          have q317 : (ji7) < (l0.length : Int) := of_decide_eq_true (by first | (with_reducible assumption))
          obtain ⟨ad317, e317, hx317_0, hx317_1, hx317_2, hx317_3, hx317_4, hx317_5⟩ := at_T34 HR0.out (ji7) p317 q317
          have hw317_5 := hx317_5
          have hw317_4 := hx317_4
          have hw317_3 := hx317_3
          have hw317_2 := hx317_2
          have hw317_1 := hx317_1
          have hw317_0 := hx317_0
          obtain rfl : ad314 = ad317 := (by injection e317)
          replace hx317_0 := (HB.out.cell (World.block_lt_of_cell? w _ hx317_0)).trans hx317_0
          replace hx317_1 := (HB.out.cell (World.block_lt_of_cell? w _ hx317_1)).trans hx317_1
          replace hx317_2 := (HB.out.cell (World.block_lt_of_cell? w _ hx317_2)).trans hx317_2
          replace hx317_3 := (HB.out.cell (World.block_lt_of_cell? w _ hx317_3)).trans hx317_3
          replace hx317_4 := (HB.out.cell (World.block_lt_of_cell? w _ hx317_4)).trans hx317_4
          replace hx317_5 := (HB.out.cell (World.block_lt_of_cell? w _ hx317_5)).trans hx317_5
          replace p317 := eq_true p317
          replace q317 := eq_true q317
          refine start_ (n := 24) (S := fun w' => w'.cell? (ad314.add ((x3_1).toNat * 6)) = some (.int .i64 ((rd_T34 l0 x3_1).f0)) ∧ w'.cell? ⟨(ad314.add ((x3_1).toNat * 6)).block, (ad314.add ((x3_1).toNat * 6)).off + 1, none⟩ = some (.bool ((rd_T34 l0 x3_1).f1)) ∧ w'.cell? ⟨(ad314.add ((x3_1).toNat * 6)).block, (ad314.add ((x3_1).toNat * 6)).off + 2, none⟩ = some (.int .u32 ((rd_T34 l0 x3_1).f2.f0)) ∧ w'.cell? ⟨(ad314.add ((x3_1).toNat * 6)).block, (ad314.add ((x3_1).toNat * 6)).off + 3, none⟩ = some (.int .i64 ((rd_T34 l0 x3_1).f2.f1)) ∧ w'.cell? ⟨(ad314.add ((x3_1).toNat * 6)).block, (ad314.add ((x3_1).toNat * 6)).off + 4, none⟩ = some (.int .i64 ((rd_T34 l0 x3_1).f3)) ∧ w'.cell? ⟨(ad314.add ((x3_1).toNat * 6)).block, (ad314.add ((x3_1).toNat * 6)).off + 5, none⟩ = some (.int .i64 ((rd_T34 l0 x3_1).f4)) ∧ w'.cell? (ad314.add ((x3_1).toNat * 6)) = some (.int .i64 ((rd_T34 l0 x3_1).f0)) ∧ w'.cell? ⟨(ad314.add ((x3_1).toNat * 6)).block, (ad314.add ((x3_1).toNat * 6)).off + 1, none⟩ = some (.bool ((rd_T34 l0 x3_1).f1)) ∧ w'.cell? ⟨(ad314.add ((x3_1).toNat * 6)).block, (ad314.add ((x3_1).toNat * 6)).off + 2, none⟩ = some (.int .u32 ((rd_T34 l0 x3_1).f2.f0)) ∧ w'.cell? ⟨(ad314.add ((x3_1).toNat * 6)).block, (ad314.add ((x3_1).toNat * 6)).off + 3, none⟩ = some (.int .i64 ((rd_T34 l0 x3_1).f2.f1)) ∧ w'.cell? ⟨(ad314.add ((x3_1).toNat * 6)).block, (ad314.add ((x3_1).toNat * 6)).off + 4, none⟩ = some (.int .i64 ((rd_T34 l0 x3_1).f3)) ∧ w'.cell? ⟨(ad314.add ((x3_1).toNat * 6)).block, (ad314.add ((x3_1).toNat * 6)).off + 5, none⟩ = some (.int .i64 ((rd_T34 l0 x3_1).f4)) ∧ w'.cell? (ad314.add (((ji7)).toNat * 6)) = some (.int .i64 ((rd_T34 l0 (ji7)).f0)) ∧ w'.cell? ⟨(ad314.add (((ji7)).toNat * 6)).block, (ad314.add (((ji7)).toNat * 6)).off + 1, none⟩ = some (.bool ((rd_T34 l0 (ji7)).f1)) ∧ w'.cell? ⟨(ad314.add (((ji7)).toNat * 6)).block, (ad314.add (((ji7)).toNat * 6)).off + 2, none⟩ = some (.int .u32 ((rd_T34 l0 (ji7)).f2.f0)) ∧ w'.cell? ⟨(ad314.add (((ji7)).toNat * 6)).block, (ad314.add (((ji7)).toNat * 6)).off + 3, none⟩ = some (.int .i64 ((rd_T34 l0 (ji7)).f2.f1)) ∧ w'.cell? ⟨(ad314.add (((ji7)).toNat * 6)).block, (ad314.add (((ji7)).toNat * 6)).off + 4, none⟩ = some (.int .i64 ((rd_T34 l0 (ji7)).f3)) ∧ w'.cell? ⟨(ad314.add (((ji7)).toNat * 6)).block, (ad314.add (((ji7)).toNat * 6)).off + 5, none⟩ = some (.int .i64 ((rd_T34 l0 (ji7)).f4))) (ds := []) #[false, false, false, false, false, false, false, false, false, false, false, false, false, false, false, false, false, false, false, false, false, false, false, false] (by kernel_rfl) rfl rfl ⟨((HB.out.cell (World.block_lt_of_cell? w _ hw314_0)).trans hw314_0), ((HB.out.cell (World.block_lt_of_cell? w _ hw314_1)).trans hw314_1), ((HB.out.cell (World.block_lt_of_cell? w _ hw314_2)).trans hw314_2), ((HB.out.cell (World.block_lt_of_cell? w _ hw314_3)).trans hw314_3), ((HB.out.cell (World.block_lt_of_cell? w _ hw314_4)).trans hw314_4), ((HB.out.cell (World.block_lt_of_cell? w _ hw314_5)).trans hw314_5), ((HB.out.cell (World.block_lt_of_cell? w _ hw316_0)).trans hw316_0), ((HB.out.cell (World.block_lt_of_cell? w _ hw316_1)).trans hw316_1), ((HB.out.cell (World.block_lt_of_cell? w _ hw316_2)).trans hw316_2), ((HB.out.cell (World.block_lt_of_cell? w _ hw316_3)).trans hw316_3), ((HB.out.cell (World.block_lt_of_cell? w _ hw316_4)).trans hw316_4), ((HB.out.cell (World.block_lt_of_cell? w _ hw316_5)).trans hw316_5), ((HB.out.cell (World.block_lt_of_cell? w _ hw317_0)).trans hw317_0), ((HB.out.cell (World.block_lt_of_cell? w _ hw317_1)).trans hw317_1), ((HB.out.cell (World.block_lt_of_cell? w _ hw317_2)).trans hw317_2), ((HB.out.cell (World.block_lt_of_cell? w _ hw317_3)).trans hw317_3), ((HB.out.cell (World.block_lt_of_cell? w _ hw317_4)).trans hw317_4), ((HB.out.cell (World.block_lt_of_cell? w _ hw317_5)).trans hw317_5)⟩ (fun hHeld => ?_); refine with_tabW crossroadsref07_MayAll.tab4 crossroadsref07_MayAll.bits4 (fun HT_ HW_ => ?_)
          generalize wr.drew = w11 at HB hx314_0 hx314_1 hx314_2 hx314_3 hx314_4 hx314_5 hx316_0 hx316_1 hx316_2 hx316_3 hx316_4 hx316_5 hx317_0 hx317_1 hx317_2 hx317_3 hx317_4 hx317_5 hHeld ⊢
          refine pure_ (i := 0) (N := some 10) (v := ?_) (a' := ?_) #[true, false, false, false, false, false, false, false, false, false, false, false, false, false, false, false, false, false, false, false, false, false, false, false] rfl rfl (any_of HT_.out (by kernel_rfl)) (fun _ _ _ h => h) (Or.inl ⟨by rfl, ?_⟩) ?_ ?_
          rotate_left
          ·intro w'
           go_simp
           with_reducible rfl
          rotate_left
          ·simp only [Act.put, List.setIfInBounds_toArray, List.set_cons_zero, List.set_cons_succ, i64_w, i32_w]
           rfl
          refine pure_ (i := 1) (N := some 11) (v := ?_) (a' := ?_) #[true, true, false, false, false, false, false, false, false, false, false, false, false, false, false, false, false, false, false, false, false, false, false, false] rfl rfl (any_of HT_.out (by kernel_rfl)) (fun _ _ _ h => h) (Or.inl ⟨by rfl, ?_⟩) ?_ ?_
          rotate_left
          ·intro w'
           go_simp
           with_reducible rfl
          rotate_left
          ·simp only [Act.put, List.setIfInBounds_toArray, List.set_cons_zero, List.set_cons_succ, i64_w, i32_w]
           rfl
          refine pure_ (i := 2) (N := some 12) (v := ?_) (a' := ?_) #[true, true, true, false, false, false, false, false, false, false, false, false, false, false, false, false, false, false, false, false, false, false, false, false] rfl rfl (any_of HT_.out (by kernel_rfl)) (fun _ _ _ h => h) (Or.inl ⟨by rfl, ?_⟩) ?_ ?_
          rotate_left
          ·intro w'
           go_simp
           with_reducible rfl
          rotate_left
          ·simp only [Act.put, List.setIfInBounds_toArray, List.set_cons_zero, List.set_cons_succ, i64_w, i32_w]
           rfl
          refine take_ (i := 3) (N := some 13) (v := ?_) (a' := ?_) #[true, true, true, true, false, false, false, false, false, false, false, false, false, false, false, false, false, false, false, false, false, false, false, false] rfl rfl (take_ofW HT_.out HW_.out (by kernel_rfl)) (fun _ _ _ h => h) (Or.inl ⟨by rfl, ?_⟩) hHeld ?_ ?_
          rotate_left
          ·rintro w' ⟨s0, s1, s2, s3, s4, s5, s6, s7, s8, s9, s10, s11, s12, s13, s14, s15, s16, s17⟩
           go_simp
           with_reducible rfl
          rotate_left
          ·simp only [Act.put, List.setIfInBounds_toArray, List.set_cons_zero, List.set_cons_succ, i64_w, i32_w]
           rfl
          refine one_ (i := 4) (N := some 14) #[true, true, true, true, true, false, false, false, false, false, false, false, false, false, false, false, false, false, false, false, false, false, false, false] rfl rfl (one_of HT_.out (by kernel_rfl)) (by decide) (fun K hK => ?_)
          refine goes_ Tryz.func12 (by kernel_rfl) rfl #[.agg #[.int .i64 ((rd_T34 l0 x3_1).f0), .bool ((rd_T34 l0 x3_1).f1), .int .u32 ((rd_T34 l0 x3_1).f2.f0), .int .i64 ((rd_T34 l0 x3_1).f2.f1), .int .i64 ((rd_T34 l0 x3_1).f3), .int .i64 ((rd_T34 l0 x3_1).f4)]] (by rfl) rfl rfl (by (try simp only [List.map_toArray, List.map_cons, List.map_nil]); first | rfl) ?_
          with_reducible refine (crossroadsref07_May.calls k1 ((rd_T34 l0 x3_1).f0) ((rd_T34 l0 x3_1).f1) ((rd_T34 l0 x3_1).f2.f0) ((rd_T34 l0 x3_1).f2.f1) ((rd_T34 l0 x3_1).f3) ((rd_T34 l0 x3_1).f4) true _ A4.out).mono ?_
          rintro e w12 ⟨rfl, hb⟩
          refine ⟨_, rfl, ?_⟩
          have n0_ := Aside0.mk (below_step (by repeat (first | (with_reducible first | exact HB.out))) hb)
          clear HB
          have HB := n0_
          clear n0_
          (try clear hb)
          (try clear hb2)
          (try clear hk)
          (try clear hi)
          refine hK.out _ _ ⟨((HB.out.cell (World.block_lt_of_cell? w _ hw314_0)).trans hw314_0), ((HB.out.cell (World.block_lt_of_cell? w _ hw314_1)).trans hw314_1), ((HB.out.cell (World.block_lt_of_cell? w _ hw314_2)).trans hw314_2), ((HB.out.cell (World.block_lt_of_cell? w _ hw314_3)).trans hw314_3), ((HB.out.cell (World.block_lt_of_cell? w _ hw314_4)).trans hw314_4), ((HB.out.cell (World.block_lt_of_cell? w _ hw314_5)).trans hw314_5), ((HB.out.cell (World.block_lt_of_cell? w _ hw316_0)).trans hw316_0), ((HB.out.cell (World.block_lt_of_cell? w _ hw316_1)).trans hw316_1), ((HB.out.cell (World.block_lt_of_cell? w _ hw316_2)).trans hw316_2), ((HB.out.cell (World.block_lt_of_cell? w _ hw316_3)).trans hw316_3), ((HB.out.cell (World.block_lt_of_cell? w _ hw316_4)).trans hw316_4), ((HB.out.cell (World.block_lt_of_cell? w _ hw316_5)).trans hw316_5), ((HB.out.cell (World.block_lt_of_cell? w _ hw317_0)).trans hw317_0), ((HB.out.cell (World.block_lt_of_cell? w _ hw317_1)).trans hw317_1), ((HB.out.cell (World.block_lt_of_cell? w _ hw317_2)).trans hw317_2), ((HB.out.cell (World.block_lt_of_cell? w _ hw317_3)).trans hw317_3), ((HB.out.cell (World.block_lt_of_cell? w _ hw317_4)).trans hw317_4), ((HB.out.cell (World.block_lt_of_cell? w _ hw317_5)).trans hw317_5)⟩ (fun hHeld => ?_)
          clear hK K
          refine norm_ (a' := ?_) ?_ ?_
          rotate_left
          ·show Act.put _ (some 14) _ = _
           simp only [Act.put, List.setIfInBounds_toArray, List.set_cons_zero, List.set_cons_succ, i64_w, i32_w]
           rfl
          refine pure_ (i := 5) (N := some 15) (v := ?_) (a' := ?_) #[true, true, true, true, true, true, false, false, false, false, false, false, false, false, false, false, false, false, false, false, false, false, false, false] rfl rfl (any_of HT_.out (by kernel_rfl)) (fun _ _ _ h => h) (Or.inl ⟨by rfl, ?_⟩) ?_ ?_
          rotate_left
          ·intro w'
           go_simp
           with_reducible rfl
          rotate_left
          ·simp only [Act.put, List.setIfInBounds_toArray, List.set_cons_zero, List.set_cons_succ, i64_w, i32_w]
           rfl
          refine pure_ (i := 6) (N := some 16) (v := ?_) (a' := ?_) #[true, true, true, true, true, true, true, false, false, false, false, false, false, false, false, false, false, false, false, false, false, false, false, false] rfl rfl (any_of HT_.out (by kernel_rfl)) (fun _ _ _ h => h) (Or.inl ⟨by rfl, ?_⟩) ?_ ?_
          rotate_left
          ·intro w'
           go_simp
           with_reducible rfl
          rotate_left
          ·simp only [Act.put, List.setIfInBounds_toArray, List.set_cons_zero, List.set_cons_succ, i64_w, i32_w]
           rfl
          refine pure_ (i := 7) (N := some 17) (v := ?_) (a' := ?_) #[true, true, true, true, true, true, true, true, false, false, false, false, false, false, false, false, false, false, false, false, false, false, false, false] rfl rfl (any_of HT_.out (by kernel_rfl)) (fun _ _ _ h => h) (Or.inl ⟨by rfl, ?_⟩) ?_ ?_
          rotate_left
          ·intro w'
           go_simp
           with_reducible rfl
          rotate_left
          ·simp only [Act.put, List.setIfInBounds_toArray, List.set_cons_zero, List.set_cons_succ, i64_w, i32_w]
           rfl
          refine pure_ (i := 8) (N := some 18) (v := ?_) (a' := ?_) #[true, true, true, true, true, true, true, true, true, false, false, false, false, false, false, false, false, false, false, false, false, false, false, false] rfl rfl (any_of HT_.out (by kernel_rfl)) (fun _ _ _ h => h) (Or.inl ⟨by rfl, ?_⟩) ?_ ?_
          rotate_left
          ·intro w'
           go_simp
           with_reducible rfl
          rotate_left
          ·simp only [Act.put, List.setIfInBounds_toArray, List.set_cons_zero, List.set_cons_succ, i64_w, i32_w]
           rfl
          refine pure_ (i := 9) (N := some 19) (v := ?_) (a' := ?_) #[true, true, true, true, true, true, true, true, true, true, false, false, false, false, false, false, false, false, false, false, false, false, false, false] rfl rfl (any_of HT_.out (by kernel_rfl)) (fun _ _ _ h => h) (Or.inl ⟨by rfl, ?_⟩) ?_ ?_
          rotate_left
          ·intro w'
           go_simp
           with_reducible rfl
          rotate_left
          ·simp only [Act.put, List.setIfInBounds_toArray, List.set_cons_zero, List.set_cons_succ, i64_w, i32_w]
           rfl
          refine pure_ (i := 10) (N := some 20) (v := ?_) (a' := ?_) #[true, true, true, true, true, true, true, true, true, true, true, false, false, false, false, false, false, false, false, false, false, false, false, false] rfl rfl (any_of HT_.out (by kernel_rfl)) (fun _ _ _ h => h) (Or.inl ⟨by rfl, ?_⟩) ?_ ?_
          rotate_left
          ·intro w'
           go_simp
           with_reducible rfl
          rotate_left
          ·simp only [Act.put, List.setIfInBounds_toArray, List.set_cons_zero, List.set_cons_succ, i64_w, i32_w]
           rfl
          refine pure_ (i := 11) (N := some 21) (v := ?_) (a' := ?_) #[true, true, true, true, true, true, true, true, true, true, true, true, false, false, false, false, false, false, false, false, false, false, false, false] rfl rfl (any_of HT_.out (by kernel_rfl)) (fun _ _ _ h => h) (Or.inl ⟨by rfl, ?_⟩) ?_ ?_
          rotate_left
          ·intro w'
           go_simp
           with_reducible rfl
          rotate_left
          ·simp only [Act.put, List.setIfInBounds_toArray, List.set_cons_zero, List.set_cons_succ, i64_w, i32_w]
           rfl
          refine pure_ (i := 12) (N := some 22) (v := ?_) (a' := ?_) #[true, true, true, true, true, true, true, true, true, true, true, true, true, false, false, false, false, false, false, false, false, false, false, false] rfl rfl (any_of HT_.out (by kernel_rfl)) (fun _ _ _ h => h) (Or.inl ⟨by rfl, ?_⟩) ?_ ?_
          rotate_left
          ·intro w'
           go_simp
           with_reducible rfl
          rotate_left
          ·simp only [Act.put, List.setIfInBounds_toArray, List.set_cons_zero, List.set_cons_succ, i64_w, i32_w]
           rfl
          refine pure_ (i := 13) (N := some 23) (v := ?_) (a' := ?_) #[true, true, true, true, true, true, true, true, true, true, true, true, true, true, false, false, false, false, false, false, false, false, false, false] rfl rfl (any_of HT_.out (by kernel_rfl)) (fun _ _ _ h => h) (Or.inl ⟨by rfl, ?_⟩) ?_ ?_
          rotate_left
          ·intro w'
           go_simp
           with_reducible rfl
          rotate_left
          ·simp only [Act.put, List.setIfInBounds_toArray, List.set_cons_zero, List.set_cons_succ, i64_w, i32_w]
           rfl
          refine pure_ (i := 15) (N := some 25) (v := ?_) (a' := ?_) #[true, true, true, true, true, true, true, true, true, true, true, true, true, true, false, true, false, false, false, false, false, false, false, false] rfl rfl (any_of HT_.out (by kernel_rfl)) (fun _ _ _ h => h) (Or.inl ⟨by rfl, ?_⟩) ?_ ?_
          rotate_left
          ·intro w'
           go_simp
           with_reducible rfl
          rotate_left
          ·simp only [Act.put, List.setIfInBounds_toArray, List.set_cons_zero, List.set_cons_succ, i64_w, i32_w]
           rfl
          refine pure_ (i := 16) (N := some 26) (v := ?_) (a' := ?_) #[true, true, true, true, true, true, true, true, true, true, true, true, true, true, false, true, true, false, false, false, false, false, false, false] rfl rfl (any_of HT_.out (by kernel_rfl)) (fun _ _ _ h => h) (Or.inl ⟨by rfl, ?_⟩) ?_ ?_
          rotate_left
          ·intro w'
           go_simp
           with_reducible rfl
          rotate_left
          ·simp only [Act.put, List.setIfInBounds_toArray, List.set_cons_zero, List.set_cons_succ, i64_w, i32_w]
           rfl
          refine pure_ (i := 17) (N := some 27) (v := ?_) (a' := ?_) #[true, true, true, true, true, true, true, true, true, true, true, true, true, true, false, true, true, true, false, false, false, false, false, false] rfl rfl (any_of HT_.out (by kernel_rfl)) (fun _ _ _ h => h) (Or.inl ⟨by rfl, ?_⟩) ?_ ?_
          rotate_left
          ·intro w'
           go_simp
           with_reducible rfl
          rotate_left
          ·simp only [Act.put, List.setIfInBounds_toArray, List.set_cons_zero, List.set_cons_succ, i64_w, i32_w]
           rfl
          refine pure_ (i := 18) (N := some 28) (v := ?_) (a' := ?_) #[true, true, true, true, true, true, true, true, true, true, true, true, true, true, false, true, true, true, true, false, false, false, false, false] rfl rfl (any_of HT_.out (by kernel_rfl)) (fun _ _ _ h => h) (Or.inl ⟨by rfl, ?_⟩) ?_ ?_
          rotate_left
          ·intro w'
           go_simp
           with_reducible rfl
          rotate_left
          ·simp only [Act.put, List.setIfInBounds_toArray, List.set_cons_zero, List.set_cons_succ, i64_w, i32_w]
           rfl
          refine pure_ (i := 19) (N := some 29) (v := ?_) (a' := ?_) #[true, true, true, true, true, true, true, true, true, true, true, true, true, true, false, true, true, true, true, true, false, false, false, false] rfl rfl (any_of HT_.out (by kernel_rfl)) (fun _ _ _ h => h) (Or.inl ⟨by rfl, ?_⟩) ?_ ?_
          rotate_left
          ·intro w'
           go_simp
           with_reducible rfl
          rotate_left
          ·simp only [Act.put, List.setIfInBounds_toArray, List.set_cons_zero, List.set_cons_succ, i64_w, i32_w]
           rfl
          refine take_ (i := 14) (N := some 24) (v := ?_) (a' := ?_) #[true, true, true, true, true, true, true, true, true, true, true, true, true, true, true, true, true, true, true, true, false, false, false, false] rfl rfl (take_ofW HT_.out HW_.out (by kernel_rfl)) (fun _ _ _ h => h) (Or.inl ⟨by rfl, ?_⟩) hHeld ?_ ?_
          rotate_left
          ·rintro w' ⟨s0, s1, s2, s3, s4, s5, s6, s7, s8, s9, s10, s11, s12, s13, s14, s15, s16, s17⟩
           go_simp
           with_reducible rfl
          rotate_left
          ·simp only [Act.put, List.setIfInBounds_toArray, List.set_cons_zero, List.set_cons_succ, i64_w, i32_w]
           rfl
          refine take_ (i := 20) (N := some 30) (v := ?_) (a' := ?_) #[true, true, true, true, true, true, true, true, true, true, true, true, true, true, true, true, true, true, true, true, true, false, false, false] rfl rfl (take_ofW HT_.out HW_.out (by kernel_rfl)) (fun _ _ _ h => h) (Or.inl ⟨by rfl, ?_⟩) hHeld ?_ ?_
          rotate_left
          ·rintro w' ⟨s0, s1, s2, s3, s4, s5, s6, s7, s8, s9, s10, s11, s12, s13, s14, s15, s16, s17⟩
           go_simp
           with_reducible rfl
          rotate_left
          ·simp only [Act.put, List.setIfInBounds_toArray, List.set_cons_zero, List.set_cons_succ, i64_w, i32_w]
           rfl
          refine pure_ (i := 21) (N := some 31) (v := ?_) (a' := ?_) #[true, true, true, true, true, true, true, true, true, true, true, true, true, true, true, true, true, true, true, true, true, true, false, false] rfl rfl (any_of HT_.out (by kernel_rfl)) (fun _ _ _ h => h) (Or.inl ⟨by rfl, ?_⟩) ?_ ?_
          rotate_left
          ·intro w'
           go_simp
           with_reducible rfl
          rotate_left
          ·simp only [Act.put, List.setIfInBounds_toArray, List.set_cons_zero, List.set_cons_succ, i64_w, i32_w]
           rfl
          refine pure_ (i := 22) (N := some 32) (v := ?_) (a' := ?_) #[true, true, true, true, true, true, true, true, true, true, true, true, true, true, true, true, true, true, true, true, true, true, true, false] rfl rfl (any_of HT_.out (by kernel_rfl)) (fun _ _ _ h => h) (Or.inl ⟨by rfl, ?_⟩) ?_ ?_
          rotate_left
          ·intro w'
           go_simp
           with_reducible rfl
          rotate_left
          ·simp only [Act.put, List.setIfInBounds_toArray, List.set_cons_zero, List.set_cons_succ, i64_w, i32_w]
           rfl
          refine pure_ (i := 23) (N := some 33) (v := ?_) (a' := ?_) #[true, true, true, true, true, true, true, true, true, true, true, true, true, true, true, true, true, true, true, true, true, true, true, true] rfl rfl (any_of HT_.out (by kernel_rfl)) (fun _ _ _ h => h) (Or.inl ⟨by rfl, ?_⟩) ?_ ?_
          rotate_left
          ·intro w'
           go_simp
           with_reducible rfl
          rotate_left
          ·simp only [Act.put, List.setIfInBounds_toArray, List.set_cons_zero, List.set_cons_succ, i64_w, i32_w]
           rfl
          refine done_ (done_of HT_.out (by kernel_rfl)) ?_
          try go_wp2
          go_ret
          exact ⟨by first | rfl, by repeat (first | (with_reducible first | exact HB.out))⟩
         ·rw [if_neg c10] at H
          have c10b0 : decide (((rd_T34 l0 x3_1).f0) ≤ ((rd_T34 l0 (ji7)).f0)) = false := decide_eq_false c10
          clear c10
          have H' := Aside0.mk H
          clear H
          try go_wp2
          have n0_ := Aside0.mk (below_drew1 HB.out)
          clear HB
          have HB := n0_
          clear n0_
          have p314 : 0 ≤ (x3_1 : Int) := of_decide_eq_true (by first | (with_reducible assumption))
          have q314 : x3_1 < (l0.length : Int) := of_decide_eq_true (by first | (with_reducible assumption))
          obtain ⟨ad314, e314, hx314_0, hx314_1, hx314_2, hx314_3, hx314_4, hx314_5⟩ := at_T34 HR0.out x3_1 p314 q314
          have hw314_5 := hx314_5
          have hw314_4 := hx314_4
          have hw314_3 := hx314_3
          have hw314_2 := hx314_2
          have hw314_1 := hx314_1
          have hw314_0 := hx314_0
          cases e314
          replace hx314_0 := (HB.out.cell (World.block_lt_of_cell? w _ hx314_0)).trans hx314_0
          replace hx314_1 := (HB.out.cell (World.block_lt_of_cell? w _ hx314_1)).trans hx314_1
          replace hx314_2 := (HB.out.cell (World.block_lt_of_cell? w _ hx314_2)).trans hx314_2
          replace hx314_3 := (HB.out.cell (World.block_lt_of_cell? w _ hx314_3)).trans hx314_3
          replace hx314_4 := (HB.out.cell (World.block_lt_of_cell? w _ hx314_4)).trans hx314_4
          replace hx314_5 := (HB.out.cell (World.block_lt_of_cell? w _ hx314_5)).trans hx314_5
          replace p314 := eq_true p314
          replace q314 := eq_true q314
          have p316 : 0 ≤ (x3_1 : Int) := of_decide_eq_true (by first | (with_reducible assumption))
          have q316 : x3_1 < (l0.length : Int) := of_decide_eq_true (by first | (with_reducible assumption))
          obtain ⟨ad316, e316, hx316_0, hx316_1, hx316_2, hx316_3, hx316_4, hx316_5⟩ := at_T34 HR0.out x3_1 p316 q316
          have hw316_5 := hx316_5
          have hw316_4 := hx316_4
          have hw316_3 := hx316_3
          have hw316_2 := hx316_2
          have hw316_1 := hx316_1
          have hw316_0 := hx316_0
          obtain rfl : ad314 = ad316 := (by injection e316)
          replace hx316_0 := (HB.out.cell (World.block_lt_of_cell? w _ hx316_0)).trans hx316_0
          replace hx316_1 := (HB.out.cell (World.block_lt_of_cell? w _ hx316_1)).trans hx316_1
          replace hx316_2 := (HB.out.cell (World.block_lt_of_cell? w _ hx316_2)).trans hx316_2
          replace hx316_3 := (HB.out.cell (World.block_lt_of_cell? w _ hx316_3)).trans hx316_3
          replace hx316_4 := (HB.out.cell (World.block_lt_of_cell? w _ hx316_4)).trans hx316_4
          replace hx316_5 := (HB.out.cell (World.block_lt_of_cell? w _ hx316_5)).trans hx316_5
          replace p316 := eq_true p316
          replace q316 := eq_true q316
          have p317 : 0 ≤ ((ji7) : Int) := of_decide_eq_true (by first | (with_reducible assumption))
          have q317 : (ji7) < (l0.length : Int) := of_decide_eq_true (by first | (with_reducible assumption))
          obtain ⟨ad317, e317, hx317_0, hx317_1, hx317_2, hx317_3, hx317_4, hx317_5⟩ := at_T34 HR0.out (ji7) p317 q317
          have hw317_5 := hx317_5
          have hw317_4 := hx317_4
          have hw317_3 := hx317_3
          have hw317_2 := hx317_2
          have hw317_1 := hx317_1
          have hw317_0 := hx317_0
          obtain rfl : ad314 = ad317 := (by injection e317)
          replace hx317_0 := (HB.out.cell (World.block_lt_of_cell? w _ hx317_0)).trans hx317_0
          replace hx317_1 := (HB.out.cell (World.block_lt_of_cell? w _ hx317_1)).trans hx317_1
          replace hx317_2 := (HB.out.cell (World.block_lt_of_cell? w _ hx317_2)).trans hx317_2
          replace hx317_3 := (HB.out.cell (World.block_lt_of_cell? w _ hx317_3)).trans hx317_3
          replace hx317_4 := (HB.out.cell (World.block_lt_of_cell? w _ hx317_4)).trans hx317_4
          replace hx317_5 := (HB.out.cell (World.block_lt_of_cell? w _ hx317_5)).trans hx317_5
          replace p317 := eq_true p317
          replace q317 := eq_true q317
          refine start_ (n := 24) (S := fun w' => w'.cell? (ad314.add ((x3_1).toNat * 6)) = some (.int .i64 ((rd_T34 l0 x3_1).f0)) ∧ w'.cell? ⟨(ad314.add ((x3_1).toNat * 6)).block, (ad314.add ((x3_1).toNat * 6)).off + 1, none⟩ = some (.bool ((rd_T34 l0 x3_1).f1)) ∧ w'.cell? ⟨(ad314.add ((x3_1).toNat * 6)).block, (ad314.add ((x3_1).toNat * 6)).off + 2, none⟩ = some (.int .u32 ((rd_T34 l0 x3_1).f2.f0)) ∧ w'.cell? ⟨(ad314.add ((x3_1).toNat * 6)).block, (ad314.add ((x3_1).toNat * 6)).off + 3, none⟩ = some (.int .i64 ((rd_T34 l0 x3_1).f2.f1)) ∧ w'.cell? ⟨(ad314.add ((x3_1).toNat * 6)).block, (ad314.add ((x3_1).toNat * 6)).off + 4, none⟩ = some (.int .i64 ((rd_T34 l0 x3_1).f3)) ∧ w'.cell? ⟨(ad314.add ((x3_1).toNat * 6)).block, (ad314.add ((x3_1).toNat * 6)).off + 5, none⟩ = some (.int .i64 ((rd_T34 l0 x3_1).f4)) ∧ w'.cell? (ad314.add ((x3_1).toNat * 6)) = some (.int .i64 ((rd_T34 l0 x3_1).f0)) ∧ w'.cell? ⟨(ad314.add ((x3_1).toNat * 6)).block, (ad314.add ((x3_1).toNat * 6)).off + 1, none⟩ = some (.bool ((rd_T34 l0 x3_1).f1)) ∧ w'.cell? ⟨(ad314.add ((x3_1).toNat * 6)).block, (ad314.add ((x3_1).toNat * 6)).off + 2, none⟩ = some (.int .u32 ((rd_T34 l0 x3_1).f2.f0)) ∧ w'.cell? ⟨(ad314.add ((x3_1).toNat * 6)).block, (ad314.add ((x3_1).toNat * 6)).off + 3, none⟩ = some (.int .i64 ((rd_T34 l0 x3_1).f2.f1)) ∧ w'.cell? ⟨(ad314.add ((x3_1).toNat * 6)).block, (ad314.add ((x3_1).toNat * 6)).off + 4, none⟩ = some (.int .i64 ((rd_T34 l0 x3_1).f3)) ∧ w'.cell? ⟨(ad314.add ((x3_1).toNat * 6)).block, (ad314.add ((x3_1).toNat * 6)).off + 5, none⟩ = some (.int .i64 ((rd_T34 l0 x3_1).f4)) ∧ w'.cell? (ad314.add (((ji7)).toNat * 6)) = some (.int .i64 ((rd_T34 l0 (ji7)).f0)) ∧ w'.cell? ⟨(ad314.add (((ji7)).toNat * 6)).block, (ad314.add (((ji7)).toNat * 6)).off + 1, none⟩ = some (.bool ((rd_T34 l0 (ji7)).f1)) ∧ w'.cell? ⟨(ad314.add (((ji7)).toNat * 6)).block, (ad314.add (((ji7)).toNat * 6)).off + 2, none⟩ = some (.int .u32 ((rd_T34 l0 (ji7)).f2.f0)) ∧ w'.cell? ⟨(ad314.add (((ji7)).toNat * 6)).block, (ad314.add (((ji7)).toNat * 6)).off + 3, none⟩ = some (.int .i64 ((rd_T34 l0 (ji7)).f2.f1)) ∧ w'.cell? ⟨(ad314.add (((ji7)).toNat * 6)).block, (ad314.add (((ji7)).toNat * 6)).off + 4, none⟩ = some (.int .i64 ((rd_T34 l0 (ji7)).f3)) ∧ w'.cell? ⟨(ad314.add (((ji7)).toNat * 6)).block, (ad314.add (((ji7)).toNat * 6)).off + 5, none⟩ = some (.int .i64 ((rd_T34 l0 (ji7)).f4))) (ds := []) #[false, false, false, false, false, false, false, false, false, false, false, false, false, false, false, false, false, false, false, false, false, false, false, false] (by kernel_rfl) rfl rfl ⟨((HB.out.cell (World.block_lt_of_cell? w _ hw314_0)).trans hw314_0), ((HB.out.cell (World.block_lt_of_cell? w _ hw314_1)).trans hw314_1), ((HB.out.cell (World.block_lt_of_cell? w _ hw314_2)).trans hw314_2), ((HB.out.cell (World.block_lt_of_cell? w _ hw314_3)).trans hw314_3), ((HB.out.cell (World.block_lt_of_cell? w _ hw314_4)).trans hw314_4), ((HB.out.cell (World.block_lt_of_cell? w _ hw314_5)).trans hw314_5), ((HB.out.cell (World.block_lt_of_cell? w _ hw316_0)).trans hw316_0), ((HB.out.cell (World.block_lt_of_cell? w _ hw316_1)).trans hw316_1), ((HB.out.cell (World.block_lt_of_cell? w _ hw316_2)).trans hw316_2), ((HB.out.cell (World.block_lt_of_cell? w _ hw316_3)).trans hw316_3), ((HB.out.cell (World.block_lt_of_cell? w _ hw316_4)).trans hw316_4), ((HB.out.cell (World.block_lt_of_cell? w _ hw316_5)).trans hw316_5), ((HB.out.cell (World.block_lt_of_cell? w _ hw317_0)).trans hw317_0), ((HB.out.cell (World.block_lt_of_cell? w _ hw317_1)).trans hw317_1), ((HB.out.cell (World.block_lt_of_cell? w _ hw317_2)).trans hw317_2), ((HB.out.cell (World.block_lt_of_cell? w _ hw317_3)).trans hw317_3), ((HB.out.cell (World.block_lt_of_cell? w _ hw317_4)).trans hw317_4), ((HB.out.cell (World.block_lt_of_cell? w _ hw317_5)).trans hw317_5)⟩ (fun hHeld => ?_); refine with_tabW crossroadsref07_MayAll.tab4 crossroadsref07_MayAll.bits4 (fun HT_ HW_ => ?_)
          generalize wr.drew = w13 at HB hx314_0 hx314_1 hx314_2 hx314_3 hx314_4 hx314_5 hx316_0 hx316_1 hx316_2 hx316_3 hx316_4 hx316_5 hx317_0 hx317_1 hx317_2 hx317_3 hx317_4 hx317_5 hHeld ⊢
          refine pure_ (i := 0) (N := some 10) (v := ?_) (a' := ?_) #[true, false, false, false, false, false, false, false, false, false, false, false, false, false, false, false, false, false, false, false, false, false, false, false] rfl rfl (any_of HT_.out (by kernel_rfl)) (fun _ _ _ h => h) (Or.inl ⟨by rfl, ?_⟩) ?_ ?_
          rotate_left
          ·intro w'
           go_simp
           with_reducible rfl
          rotate_left
          ·simp only [Act.put, List.setIfInBounds_toArray, List.set_cons_zero, List.set_cons_succ, i64_w, i32_w]
           rfl
          refine pure_ (i := 1) (N := some 11) (v := ?_) (a' := ?_) #[true, true, false, false, false, false, false, false, false, false, false, false, false, false, false, false, false, false, false, false, false, false, false, false] rfl rfl (any_of HT_.out (by kernel_rfl)) (fun _ _ _ h => h) (Or.inl ⟨by rfl, ?_⟩) ?_ ?_
          rotate_left
          ·intro w'
           go_simp
           with_reducible rfl
          rotate_left
          ·simp only [Act.put, List.setIfInBounds_toArray, List.set_cons_zero, List.set_cons_succ, i64_w, i32_w]
           rfl
          refine pure_ (i := 2) (N := some 12) (v := ?_) (a' := ?_) #[true, true, true, false, false, false, false, false, false, false, false, false, false, false, false, false, false, false, false, false, false, false, false, false] rfl rfl (any_of HT_.out (by kernel_rfl)) (fun _ _ _ h => h) (Or.inl ⟨by rfl, ?_⟩) ?_ ?_
          rotate_left
          ·intro w'
           go_simp
           with_reducible rfl
          rotate_left
          ·simp only [Act.put, List.setIfInBounds_toArray, List.set_cons_zero, List.set_cons_succ, i64_w, i32_w]
           rfl
          refine take_ (i := 3) (N := some 13) (v := ?_) (a' := ?_) #[true, true, true, true, false, false, false, false, false, false, false, false, false, false, false, false, false, false, false, false, false, false, false, false] rfl rfl (take_ofW HT_.out HW_.out (by kernel_rfl)) (fun _ _ _ h => h) (Or.inl ⟨by rfl, ?_⟩) hHeld ?_ ?_
          rotate_left
          ·rintro w' ⟨s0, s1, s2, s3, s4, s5, s6, s7, s8, s9, s10, s11, s12, s13, s14, s15, s16, s17⟩
           go_simp
           with_reducible rfl
          rotate_left
          ·simp only [Act.put, List.setIfInBounds_toArray, List.set_cons_zero, List.set_cons_succ, i64_w, i32_w]
           rfl
          refine one_ (i := 4) (N := some 14) #[true, true, true, true, true, false, false, false, false, false, false, false, false, false, false, false, false, false, false, false, false, false, false, false] rfl rfl (one_of HT_.out (by kernel_rfl)) (by decide) (fun K hK => ?_)
          refine goes_ Tryz.func12 (by kernel_rfl) rfl #[.agg #[.int .i64 ((rd_T34 l0 x3_1).f0), .bool ((rd_T34 l0 x3_1).f1), .int .u32 ((rd_T34 l0 x3_1).f2.f0), .int .i64 ((rd_T34 l0 x3_1).f2.f1), .int .i64 ((rd_T34 l0 x3_1).f3), .int .i64 ((rd_T34 l0 x3_1).f4)]] (by rfl) rfl rfl (by (try simp only [List.map_toArray, List.map_cons, List.map_nil]); first | rfl) ?_
          with_reducible refine (crossroadsref07_May.calls k1 ((rd_T34 l0 x3_1).f0) ((rd_T34 l0 x3_1).f1) ((rd_T34 l0 x3_1).f2.f0) ((rd_T34 l0 x3_1).f2.f1) ((rd_T34 l0 x3_1).f3) ((rd_T34 l0 x3_1).f4) true _ A4.out).mono ?_
          rintro e w14 ⟨rfl, hb⟩
          refine ⟨_, rfl, ?_⟩
          have n0_ := Aside0.mk (below_step (by repeat (first | (with_reducible first | exact HB.out))) hb)
          clear HB
          have HB := n0_
          clear n0_
          (try clear hb)
          (try clear hb2)
          (try clear hk)
          (try clear hi)
          refine hK.out _ _ ⟨((HB.out.cell (World.block_lt_of_cell? w _ hw314_0)).trans hw314_0), ((HB.out.cell (World.block_lt_of_cell? w _ hw314_1)).trans hw314_1), ((HB.out.cell (World.block_lt_of_cell? w _ hw314_2)).trans hw314_2), ((HB.out.cell (World.block_lt_of_cell? w _ hw314_3)).trans hw314_3), ((HB.out.cell (World.block_lt_of_cell? w _ hw314_4)).trans hw314_4), ((HB.out.cell (World.block_lt_of_cell? w _ hw314_5)).trans hw314_5), ((HB.out.cell (World.block_lt_of_cell? w _ hw316_0)).trans hw316_0), ((HB.out.cell (World.block_lt_of_cell? w _ hw316_1)).trans hw316_1), ((HB.out.cell (World.block_lt_of_cell? w _ hw316_2)).trans hw316_2), ((HB.out.cell (World.block_lt_of_cell? w _ hw316_3)).trans hw316_3), ((HB.out.cell (World.block_lt_of_cell? w _ hw316_4)).trans hw316_4), ((HB.out.cell (World.block_lt_of_cell? w _ hw316_5)).trans hw316_5), ((HB.out.cell (World.block_lt_of_cell? w _ hw317_0)).trans hw317_0), ((HB.out.cell (World.block_lt_of_cell? w _ hw317_1)).trans hw317_1), ((HB.out.cell (World.block_lt_of_cell? w _ hw317_2)).trans hw317_2), ((HB.out.cell (World.block_lt_of_cell? w _ hw317_3)).trans hw317_3), ((HB.out.cell (World.block_lt_of_cell? w _ hw317_4)).trans hw317_4), ((HB.out.cell (World.block_lt_of_cell? w _ hw317_5)).trans hw317_5)⟩ (fun hHeld => ?_)
          clear hK K
          refine norm_ (a' := ?_) ?_ ?_
          rotate_left
          ·show Act.put _ (some 14) _ = _
           simp only [Act.put, List.setIfInBounds_toArray, List.set_cons_zero, List.set_cons_succ, i64_w, i32_w]
           rfl
          refine pure_ (i := 5) (N := some 15) (v := ?_) (a' := ?_) #[true, true, true, true, true, true, false, false, false, false, false, false, false, false, false, false, false, false, false, false, false, false, false, false] rfl rfl (any_of HT_.out (by kernel_rfl)) (fun _ _ _ h => h) (Or.inl ⟨by rfl, ?_⟩) ?_ ?_
          rotate_left
          ·intro w'
           go_simp
           with_reducible rfl
          rotate_left
          ·simp only [Act.put, List.setIfInBounds_toArray, List.set_cons_zero, List.set_cons_succ, i64_w, i32_w]
           rfl
          refine pure_ (i := 6) (N := some 16) (v := ?_) (a' := ?_) #[true, true, true, true, true, true, true, false, false, false, false, false, false, false, false, false, false, false, false, false, false, false, false, false] rfl rfl (any_of HT_.out (by kernel_rfl)) (fun _ _ _ h => h) (Or.inl ⟨by rfl, ?_⟩) ?_ ?_
          rotate_left
          ·intro w'
           go_simp
           with_reducible rfl
          rotate_left
          ·simp only [Act.put, List.setIfInBounds_toArray, List.set_cons_zero, List.set_cons_succ, i64_w, i32_w]
           rfl
          refine pure_ (i := 7) (N := some 17) (v := ?_) (a' := ?_) #[true, true, true, true, true, true, true, true, false, false, false, false, false, false, false, false, false, false, false, false, false, false, false, false] rfl rfl (any_of HT_.out (by kernel_rfl)) (fun _ _ _ h => h) (Or.inl ⟨by rfl, ?_⟩) ?_ ?_
          rotate_left
          ·intro w'
           go_simp
           with_reducible rfl
          rotate_left
          ·simp only [Act.put, List.setIfInBounds_toArray, List.set_cons_zero, List.set_cons_succ, i64_w, i32_w]
           rfl
          refine pure_ (i := 8) (N := some 18) (v := ?_) (a' := ?_) #[true, true, true, true, true, true, true, true, true, false, false, false, false, false, false, false, false, false, false, false, false, false, false, false] rfl rfl (any_of HT_.out (by kernel_rfl)) (fun _ _ _ h => h) (Or.inl ⟨by rfl, ?_⟩) ?_ ?_
          rotate_left
          ·intro w'
           go_simp
           with_reducible rfl
          rotate_left
          ·simp only [Act.put, List.setIfInBounds_toArray, List.set_cons_zero, List.set_cons_succ, i64_w, i32_w]
           rfl
          refine pure_ (i := 9) (N := some 19) (v := ?_) (a' := ?_) #[true, true, true, true, true, true, true, true, true, true, false, false, false, false, false, false, false, false, false, false, false, false, false, false] rfl rfl (any_of HT_.out (by kernel_rfl)) (fun _ _ _ h => h) (Or.inl ⟨by rfl, ?_⟩) ?_ ?_
          rotate_left
          ·intro w'
           go_simp
           with_reducible rfl
          rotate_left
          ·simp only [Act.put, List.setIfInBounds_toArray, List.set_cons_zero, List.set_cons_succ, i64_w, i32_w]
           rfl
          refine pure_ (i := 10) (N := some 20) (v := ?_) (a' := ?_) #[true, true, true, true, true, true, true, true, true, true, true, false, false, false, false, false, false, false, false, false, false, false, false, false] rfl rfl (any_of HT_.out (by kernel_rfl)) (fun _ _ _ h => h) (Or.inl ⟨by rfl, ?_⟩) ?_ ?_
          rotate_left
          ·intro w'
           go_simp
           with_reducible rfl
          rotate_left
          ·simp only [Act.put, List.setIfInBounds_toArray, List.set_cons_zero, List.set_cons_succ, i64_w, i32_w]
           rfl
          refine pure_ (i := 11) (N := some 21) (v := ?_) (a' := ?_) #[true, true, true, true, true, true, true, true, true, true, true, true, false, false, false, false, false, false, false, false, false, false, false, false] rfl rfl (any_of HT_.out (by kernel_rfl)) (fun _ _ _ h => h) (Or.inl ⟨by rfl, ?_⟩) ?_ ?_
          rotate_left
          ·intro w'
           go_simp
           with_reducible rfl
          rotate_left
          ·simp only [Act.put, List.setIfInBounds_toArray, List.set_cons_zero, List.set_cons_succ, i64_w, i32_w]
           rfl
          refine pure_ (i := 12) (N := some 22) (v := ?_) (a' := ?_) #[true, true, true, true, true, true, true, true, true, true, true, true, true, false, false, false, false, false, false, false, false, false, false, false] rfl rfl (any_of HT_.out (by kernel_rfl)) (fun _ _ _ h => h) (Or.inl ⟨by rfl, ?_⟩) ?_ ?_
          rotate_left
          ·intro w'
           go_simp
           with_reducible rfl
          rotate_left
          ·simp only [Act.put, List.setIfInBounds_toArray, List.set_cons_zero, List.set_cons_succ, i64_w, i32_w]
           rfl
          refine pure_ (i := 13) (N := some 23) (v := ?_) (a' := ?_) #[true, true, true, true, true, true, true, true, true, true, true, true, true, true, false, false, false, false, false, false, false, false, false, false] rfl rfl (any_of HT_.out (by kernel_rfl)) (fun _ _ _ h => h) (Or.inl ⟨by rfl, ?_⟩) ?_ ?_
          rotate_left
          ·intro w'
           go_simp
           with_reducible rfl
          rotate_left
          ·simp only [Act.put, List.setIfInBounds_toArray, List.set_cons_zero, List.set_cons_succ, i64_w, i32_w]
           rfl
          refine pure_ (i := 15) (N := some 25) (v := ?_) (a' := ?_) #[true, true, true, true, true, true, true, true, true, true, true, true, true, true, false, true, false, false, false, false, false, false, false, false] rfl rfl (any_of HT_.out (by kernel_rfl)) (fun _ _ _ h => h) (Or.inl ⟨by rfl, ?_⟩) ?_ ?_
          rotate_left
          ·intro w'
           go_simp
           with_reducible rfl
          rotate_left
          ·simp only [Act.put, List.setIfInBounds_toArray, List.set_cons_zero, List.set_cons_succ, i64_w, i32_w]
           rfl
          refine pure_ (i := 16) (N := some 26) (v := ?_) (a' := ?_) #[true, true, true, true, true, true, true, true, true, true, true, true, true, true, false, true, true, false, false, false, false, false, false, false] rfl rfl (any_of HT_.out (by kernel_rfl)) (fun _ _ _ h => h) (Or.inl ⟨by rfl, ?_⟩) ?_ ?_
          rotate_left
          ·intro w'
           go_simp
           with_reducible rfl
          rotate_left
          ·simp only [Act.put, List.setIfInBounds_toArray, List.set_cons_zero, List.set_cons_succ, i64_w, i32_w]
           rfl
          refine pure_ (i := 17) (N := some 27) (v := ?_) (a' := ?_) #[true, true, true, true, true, true, true, true, true, true, true, true, true, true, false, true, true, true, false, false, false, false, false, false] rfl rfl (any_of HT_.out (by kernel_rfl)) (fun _ _ _ h => h) (Or.inl ⟨by rfl, ?_⟩) ?_ ?_
          rotate_left
          ·intro w'
           go_simp
           with_reducible rfl
          rotate_left
          ·simp only [Act.put, List.setIfInBounds_toArray, List.set_cons_zero, List.set_cons_succ, i64_w, i32_w]
           rfl
          refine pure_ (i := 18) (N := some 28) (v := ?_) (a' := ?_) #[true, true, true, true, true, true, true, true, true, true, true, true, true, true, false, true, true, true, true, false, false, false, false, false] rfl rfl (any_of HT_.out (by kernel_rfl)) (fun _ _ _ h => h) (Or.inl ⟨by rfl, ?_⟩) ?_ ?_
          rotate_left
          ·intro w'
           go_simp
           with_reducible rfl
          rotate_left
          ·simp only [Act.put, List.setIfInBounds_toArray, List.set_cons_zero, List.set_cons_succ, i64_w, i32_w]
           rfl
          refine pure_ (i := 19) (N := some 29) (v := ?_) (a' := ?_) #[true, true, true, true, true, true, true, true, true, true, true, true, true, true, false, true, true, true, true, true, false, false, false, false] rfl rfl (any_of HT_.out (by kernel_rfl)) (fun _ _ _ h => h) (Or.inl ⟨by rfl, ?_⟩) ?_ ?_
          rotate_left
          ·intro w'
           go_simp
           with_reducible rfl
          rotate_left
          ·simp only [Act.put, List.setIfInBounds_toArray, List.set_cons_zero, List.set_cons_succ, i64_w, i32_w]
           rfl
          refine take_ (i := 14) (N := some 24) (v := ?_) (a' := ?_) #[true, true, true, true, true, true, true, true, true, true, true, true, true, true, true, true, true, true, true, true, false, false, false, false] rfl rfl (take_ofW HT_.out HW_.out (by kernel_rfl)) (fun _ _ _ h => h) (Or.inl ⟨by rfl, ?_⟩) hHeld ?_ ?_
          rotate_left
          ·rintro w' ⟨s0, s1, s2, s3, s4, s5, s6, s7, s8, s9, s10, s11, s12, s13, s14, s15, s16, s17⟩
           go_simp
           with_reducible rfl
          rotate_left
          ·simp only [Act.put, List.setIfInBounds_toArray, List.set_cons_zero, List.set_cons_succ, i64_w, i32_w]
           rfl
          refine take_ (i := 20) (N := some 30) (v := ?_) (a' := ?_) #[true, true, true, true, true, true, true, true, true, true, true, true, true, true, true, true, true, true, true, true, true, false, false, false] rfl rfl (take_ofW HT_.out HW_.out (by kernel_rfl)) (fun _ _ _ h => h) (Or.inl ⟨by rfl, ?_⟩) hHeld ?_ ?_
          rotate_left
          ·rintro w' ⟨s0, s1, s2, s3, s4, s5, s6, s7, s8, s9, s10, s11, s12, s13, s14, s15, s16, s17⟩
           go_simp
           with_reducible rfl
          rotate_left
          ·simp only [Act.put, List.setIfInBounds_toArray, List.set_cons_zero, List.set_cons_succ, i64_w, i32_w]
           rfl
          refine pure_ (i := 21) (N := some 31) (v := ?_) (a' := ?_) #[true, true, true, true, true, true, true, true, true, true, true, true, true, true, true, true, true, true, true, true, true, true, false, false] rfl rfl (any_of HT_.out (by kernel_rfl)) (fun _ _ _ h => h) (Or.inl ⟨by rfl, ?_⟩) ?_ ?_
          rotate_left
          ·intro w'
           go_simp
           with_reducible rfl
          rotate_left
          ·simp only [Act.put, List.setIfInBounds_toArray, List.set_cons_zero, List.set_cons_succ, i64_w, i32_w]
           rfl
          refine pure_ (i := 22) (N := some 32) (v := ?_) (a' := ?_) #[true, true, true, true, true, true, true, true, true, true, true, true, true, true, true, true, true, true, true, true, true, true, true, false] rfl rfl (any_of HT_.out (by kernel_rfl)) (fun _ _ _ h => h) (Or.inl ⟨by rfl, ?_⟩) ?_ ?_
          rotate_left
          ·intro w'
           go_simp
           with_reducible rfl
          rotate_left
          ·simp only [Act.put, List.setIfInBounds_toArray, List.set_cons_zero, List.set_cons_succ, i64_w, i32_w]
           rfl
          refine pure_ (i := 23) (N := some 33) (v := ?_) (a' := ?_) #[true, true, true, true, true, true, true, true, true, true, true, true, true, true, true, true, true, true, true, true, true, true, true, true] rfl rfl (any_of HT_.out (by kernel_rfl)) (fun _ _ _ h => h) (Or.inl ⟨by rfl, ?_⟩) ?_ ?_
          rotate_left
          ·intro w'
           go_simp
           with_reducible rfl
          rotate_left
          ·simp only [Act.put, List.setIfInBounds_toArray, List.set_cons_zero, List.set_cons_succ, i64_w, i32_w]
           rfl
          refine done_ (done_of HT_.out (by kernel_rfl)) ?_
          try go_wp2
          go_roundg k1
          case measure => have := HK1.out; omega
          case rel => exact ⟨(wrap64 (x3_1 + 1)), (by first | rfl), H', ⟨by have := HK1.out; omega⟩, ⟨by repeat (first | (with_reducible first | exact HB.out))⟩⟩
        ·rw [if_neg c9] at H
         exact absurd H (by simp)
       ·rw [if_neg c8] at H
        exact absurd H (by simp)
      ·rw [if_neg c6] at H
       have c6b0 : decide (0 < x3_1) = false := decide_eq_false c6
       clear c6
       have H' := Aside0.mk H
       clear H
       try go_wp2
       have n0_ := Aside0.mk (below_drew1 HB.out)
       clear HB
       have HB := n0_
       clear n0_
       have p314 : 0 ≤ (x3_1 : Int) := of_decide_eq_true (by first | (with_reducible assumption))
       have q314 : x3_1 < (l0.length : Int) := of_decide_eq_true (by first | (with_reducible assumption))
       obtain ⟨ad314, e314, hx314_0, hx314_1, hx314_2, hx314_3, hx314_4, hx314_5⟩ := at_T34 HR0.out x3_1 p314 q314
       have hw314_5 := hx314_5
       have hw314_4 := hx314_4
       have hw314_3 := hx314_3
       have hw314_2 := hx314_2
       have hw314_1 := hx314_1
       have hw314_0 := hx314_0
       cases e314
       replace hx314_0 := (HB.out.cell (World.block_lt_of_cell? w _ hx314_0)).trans hx314_0
       replace hx314_1 := (HB.out.cell (World.block_lt_of_cell? w _ hx314_1)).trans hx314_1
       replace hx314_2 := (HB.out.cell (World.block_lt_of_cell? w _ hx314_2)).trans hx314_2
       replace hx314_3 := (HB.out.cell (World.block_lt_of_cell? w _ hx314_3)).trans hx314_3
       replace hx314_4 := (HB.out.cell (World.block_lt_of_cell? w _ hx314_4)).trans hx314_4
       replace hx314_5 := (HB.out.cell (World.block_lt_of_cell? w _ hx314_5)).trans hx314_5
       replace p314 := eq_true p314
       replace q314 := eq_true q314
       refine start_ (n := 24) (S := fun w' => w'.cell? (ad314.add ((x3_1).toNat * 6)) = some (.int .i64 ((rd_T34 l0 x3_1).f0)) ∧ w'.cell? ⟨(ad314.add ((x3_1).toNat * 6)).block, (ad314.add ((x3_1).toNat * 6)).off + 1, none⟩ = some (.bool ((rd_T34 l0 x3_1).f1)) ∧ w'.cell? ⟨(ad314.add ((x3_1).toNat * 6)).block, (ad314.add ((x3_1).toNat * 6)).off + 2, none⟩ = some (.int .u32 ((rd_T34 l0 x3_1).f2.f0)) ∧ w'.cell? ⟨(ad314.add ((x3_1).toNat * 6)).block, (ad314.add ((x3_1).toNat * 6)).off + 3, none⟩ = some (.int .i64 ((rd_T34 l0 x3_1).f2.f1)) ∧ w'.cell? ⟨(ad314.add ((x3_1).toNat * 6)).block, (ad314.add ((x3_1).toNat * 6)).off + 4, none⟩ = some (.int .i64 ((rd_T34 l0 x3_1).f3)) ∧ w'.cell? ⟨(ad314.add ((x3_1).toNat * 6)).block, (ad314.add ((x3_1).toNat * 6)).off + 5, none⟩ = some (.int .i64 ((rd_T34 l0 x3_1).f4))) (ds := []) #[false, false, false, false, false, false, false, false, false, false, false, false, false, false, false, false, false, false, false, false, false, false, false, false] (by kernel_rfl) rfl rfl ⟨((HB.out.cell (World.block_lt_of_cell? w _ hw314_0)).trans hw314_0), ((HB.out.cell (World.block_lt_of_cell? w _ hw314_1)).trans hw314_1), ((HB.out.cell (World.block_lt_of_cell? w _ hw314_2)).trans hw314_2), ((HB.out.cell (World.block_lt_of_cell? w _ hw314_3)).trans hw314_3), ((HB.out.cell (World.block_lt_of_cell? w _ hw314_4)).trans hw314_4), ((HB.out.cell (World.block_lt_of_cell? w _ hw314_5)).trans hw314_5)⟩ (fun hHeld => ?_); refine with_tabW crossroadsref07_MayAll.tab4 crossroadsref07_MayAll.bits4 (fun HT_ HW_ => ?_)
       generalize wr.drew = w15 at HB hx314_0 hx314_1 hx314_2 hx314_3 hx314_4 hx314_5 hHeld ⊢
       refine pure_ (i := 0) (N := some 10) (v := ?_) (a' := ?_) #[true, false, false, false, false, false, false, false, false, false, false, false, false, false, false, false, false, false, false, false, false, false, false, false] rfl rfl (any_of HT_.out (by kernel_rfl)) (fun _ _ _ h => h) (Or.inl ⟨by rfl, ?_⟩) ?_ ?_
       rotate_left
       ·intro w'
        go_simp
        with_reducible rfl
       rotate_left
       ·simp only [Act.put, List.setIfInBounds_toArray, List.set_cons_zero, List.set_cons_succ, i64_w, i32_w]
        rfl
       refine pure_ (i := 1) (N := some 11) (v := ?_) (a' := ?_) #[true, true, false, false, false, false, false, false, false, false, false, false, false, false, false, false, false, false, false, false, false, false, false, false] rfl rfl (any_of HT_.out (by kernel_rfl)) (fun _ _ _ h => h) (Or.inl ⟨by rfl, ?_⟩) ?_ ?_
       rotate_left
       ·intro w'
        go_simp
        with_reducible rfl
       rotate_left
       ·simp only [Act.put, List.setIfInBounds_toArray, List.set_cons_zero, List.set_cons_succ, i64_w, i32_w]
        rfl
       refine pure_ (i := 2) (N := some 12) (v := ?_) (a' := ?_) #[true, true, true, false, false, false, false, false, false, false, false, false, false, false, false, false, false, false, false, false, false, false, false, false] rfl rfl (any_of HT_.out (by kernel_rfl)) (fun _ _ _ h => h) (Or.inl ⟨by rfl, ?_⟩) ?_ ?_
       rotate_left
       ·intro w'
        go_simp
        with_reducible rfl
       rotate_left
       ·simp only [Act.put, List.setIfInBounds_toArray, List.set_cons_zero, List.set_cons_succ, i64_w, i32_w]
        rfl
       refine take_ (i := 3) (N := some 13) (v := ?_) (a' := ?_) #[true, true, true, true, false, false, false, false, false, false, false, false, false, false, false, false, false, false, false, false, false, false, false, false] rfl rfl (take_ofW HT_.out HW_.out (by kernel_rfl)) (fun _ _ _ h => h) (Or.inl ⟨by rfl, ?_⟩) hHeld ?_ ?_
       rotate_left
       ·rintro w' ⟨s0, s1, s2, s3, s4, s5⟩
        go_simp
        with_reducible rfl
       rotate_left
       ·simp only [Act.put, List.setIfInBounds_toArray, List.set_cons_zero, List.set_cons_succ, i64_w, i32_w]
        rfl
       refine one_ (i := 4) (N := some 14) #[true, true, true, true, true, false, false, false, false, false, false, false, false, false, false, false, false, false, false, false, false, false, false, false] rfl rfl (one_of HT_.out (by kernel_rfl)) (by decide) (fun K hK => ?_)
       refine goes_ Tryz.func12 (by kernel_rfl) rfl #[.agg #[.int .i64 ((rd_T34 l0 x3_1).f0), .bool ((rd_T34 l0 x3_1).f1), .int .u32 ((rd_T34 l0 x3_1).f2.f0), .int .i64 ((rd_T34 l0 x3_1).f2.f1), .int .i64 ((rd_T34 l0 x3_1).f3), .int .i64 ((rd_T34 l0 x3_1).f4)]] (by rfl) rfl rfl (by (try simp only [List.map_toArray, List.map_cons, List.map_nil]); first | rfl) ?_
       with_reducible refine (crossroadsref07_May.calls k1 ((rd_T34 l0 x3_1).f0) ((rd_T34 l0 x3_1).f1) ((rd_T34 l0 x3_1).f2.f0) ((rd_T34 l0 x3_1).f2.f1) ((rd_T34 l0 x3_1).f3) ((rd_T34 l0 x3_1).f4) true _ A4.out).mono ?_
       rintro e w16 ⟨rfl, hb⟩
       refine ⟨_, rfl, ?_⟩
       have n0_ := Aside0.mk (below_step (by repeat (first | (with_reducible first | exact HB.out))) hb)
       clear HB
       have HB := n0_
       clear n0_
       (try clear hb)
       (try clear hb2)
       (try clear hk)
       (try clear hi)
       refine hK.out _ _ ⟨((HB.out.cell (World.block_lt_of_cell? w _ hw314_0)).trans hw314_0), ((HB.out.cell (World.block_lt_of_cell? w _ hw314_1)).trans hw314_1), ((HB.out.cell (World.block_lt_of_cell? w _ hw314_2)).trans hw314_2), ((HB.out.cell (World.block_lt_of_cell? w _ hw314_3)).trans hw314_3), ((HB.out.cell (World.block_lt_of_cell? w _ hw314_4)).trans hw314_4), ((HB.out.cell (World.block_lt_of_cell? w _ hw314_5)).trans hw314_5)⟩ (fun hHeld => ?_)
       clear hK K
       refine norm_ (a' := ?_) ?_ ?_
       rotate_left
       ·show Act.put _ (some 14) _ = _
        simp only [Act.put, List.setIfInBounds_toArray, List.set_cons_zero, List.set_cons_succ, i64_w, i32_w]
        rfl
       refine pure_ (i := 5) (N := some 15) (v := ?_) (a' := ?_) #[true, true, true, true, true, true, false, false, false, false, false, false, false, false, false, false, false, false, false, false, false, false, false, false] rfl rfl (any_of HT_.out (by kernel_rfl)) (fun _ _ _ h => h) (Or.inl ⟨by rfl, ?_⟩) ?_ ?_
       rotate_left
       ·intro w'
        go_simp
        with_reducible rfl
       rotate_left
       ·simp only [Act.put, List.setIfInBounds_toArray, List.set_cons_zero, List.set_cons_succ, i64_w, i32_w]
        rfl
       refine pure_ (i := 6) (N := some 16) (v := ?_) (a' := ?_) #[true, true, true, true, true, true, true, false, false, false, false, false, false, false, false, false, false, false, false, false, false, false, false, false] rfl rfl (any_of HT_.out (by kernel_rfl)) (fun _ _ _ h => h) (Or.inl ⟨by rfl, ?_⟩) ?_ ?_
       rotate_left
       ·intro w'
        go_simp
        with_reducible rfl
       rotate_left
       ·simp only [Act.put, List.setIfInBounds_toArray, List.set_cons_zero, List.set_cons_succ, i64_w, i32_w]
        rfl
       refine pure_ (i := 7) (N := some 17) (v := ?_) (a' := ?_) #[true, true, true, true, true, true, true, true, false, false, false, false, false, false, false, false, false, false, false, false, false, false, false, false] rfl rfl (any_of HT_.out (by kernel_rfl)) (fun _ _ _ h => h) (Or.inl ⟨by rfl, ?_⟩) ?_ ?_
       rotate_left
       ·intro w'
        go_simp
        with_reducible rfl
       rotate_left
       ·simp only [Act.put, List.setIfInBounds_toArray, List.set_cons_zero, List.set_cons_succ, i64_w, i32_w]
        rfl
       refine pure_ (i := 8) (N := some 18) (v := ?_) (a' := ?_) #[true, true, true, true, true, true, true, true, true, false, false, false, false, false, false, false, false, false, false, false, false, false, false, false] rfl rfl (any_of HT_.out (by kernel_rfl)) (fun _ _ _ h => h) (Or.inl ⟨by rfl, ?_⟩) ?_ ?_
       rotate_left
       ·intro w'
        go_simp
        with_reducible rfl
       rotate_left
       ·simp only [Act.put, List.setIfInBounds_toArray, List.set_cons_zero, List.set_cons_succ, i64_w, i32_w]
        rfl
       refine pure_ (i := 9) (N := some 19) (v := ?_) (a' := ?_) #[true, true, true, true, true, true, true, true, true, true, false, false, false, false, false, false, false, false, false, false, false, false, false, false] rfl rfl (any_of HT_.out (by kernel_rfl)) (fun _ _ _ h => h) (Or.inl ⟨by rfl, ?_⟩) ?_ ?_
       rotate_left
       ·intro w'
        go_simp
        with_reducible rfl
       rotate_left
       ·simp only [Act.put, List.setIfInBounds_toArray, List.set_cons_zero, List.set_cons_succ, i64_w, i32_w]
        rfl
       refine pure_ (i := 10) (N := some 20) (v := undef) (a' := ?_) #[true, true, true, true, true, true, true, true, true, true, true, false, false, false, false, false, false, false, false, false, false, false, false, false] rfl rfl (any_of HT_.out (by kernel_rfl)) (fun _ _ _ h => h) (Or.inr ⟨by rfl, rfl⟩) ?_ ?_
       rotate_left
       ·simp only [Act.put, List.setIfInBounds_toArray, List.set_cons_zero, List.set_cons_succ, i64_w, i32_w]
        rfl
       refine pure_ (i := 11) (N := some 21) (v := undef) (a' := ?_) #[true, true, true, true, true, true, true, true, true, true, true, true, false, false, false, false, false, false, false, false, false, false, false, false] rfl rfl (any_of HT_.out (by kernel_rfl)) (fun _ _ _ h => h) (Or.inr ⟨by rfl, rfl⟩) ?_ ?_
       rotate_left
       ·simp only [Act.put, List.setIfInBounds_toArray, List.set_cons_zero, List.set_cons_succ, i64_w, i32_w]
        rfl
       refine pure_ (i := 12) (N := some 22) (v := undef) (a' := ?_) #[true, true, true, true, true, true, true, true, true, true, true, true, true, false, false, false, false, false, false, false, false, false, false, false] rfl rfl (any_of HT_.out (by kernel_rfl)) (fun _ _ _ h => h) (Or.inr ⟨by rfl, rfl⟩) ?_ ?_
       rotate_left
       ·simp only [Act.put, List.setIfInBounds_toArray, List.set_cons_zero, List.set_cons_succ, i64_w, i32_w]
        rfl
       refine pure_ (i := 13) (N := some 23) (v := undef) (a' := ?_) #[true, true, true, true, true, true, true, true, true, true, true, true, true, true, false, false, false, false, false, false, false, false, false, false] rfl rfl (any_of HT_.out (by kernel_rfl)) (fun _ _ _ h => h) (Or.inr ⟨by rfl, rfl⟩) ?_ ?_
       rotate_left
       ·simp only [Act.put, List.setIfInBounds_toArray, List.set_cons_zero, List.set_cons_succ, i64_w, i32_w]
        rfl
       refine pure_ (i := 14) (N := some 24) (v := undef) (a' := ?_) #[true, true, true, true, true, true, true, true, true, true, true, true, true, true, true, false, false, false, false, false, false, false, false, false] rfl rfl (any_of HT_.out (by kernel_rfl)) (fun _ _ _ h => h) (Or.inr ⟨by rfl, rfl⟩) ?_ ?_
       rotate_left
       ·simp only [Act.put, List.setIfInBounds_toArray, List.set_cons_zero, List.set_cons_succ, i64_w, i32_w]
        rfl
       refine pure_ (i := 15) (N := some 25) (v := undef) (a' := ?_) #[true, true, true, true, true, true, true, true, true, true, true, true, true, true, true, true, false, false, false, false, false, false, false, false] rfl rfl (any_of HT_.out (by kernel_rfl)) (fun _ _ _ h => h) (Or.inr ⟨by rfl, rfl⟩) ?_ ?_
       rotate_left
       ·simp only [Act.put, List.setIfInBounds_toArray, List.set_cons_zero, List.set_cons_succ, i64_w, i32_w]
        rfl
       refine pure_ (i := 16) (N := some 26) (v := undef) (a' := ?_) #[true, true, true, true, true, true, true, true, true, true, true, true, true, true, true, true, true, false, false, false, false, false, false, false] rfl rfl (any_of HT_.out (by kernel_rfl)) (fun _ _ _ h => h) (Or.inr ⟨by rfl, rfl⟩) ?_ ?_
       rotate_left
       ·simp only [Act.put, List.setIfInBounds_toArray, List.set_cons_zero, List.set_cons_succ, i64_w, i32_w]
        rfl
       refine pure_ (i := 17) (N := some 27) (v := undef) (a' := ?_) #[true, true, true, true, true, true, true, true, true, true, true, true, true, true, true, true, true, true, false, false, false, false, false, false] rfl rfl (any_of HT_.out (by kernel_rfl)) (fun _ _ _ h => h) (Or.inr ⟨by rfl, rfl⟩) ?_ ?_
       rotate_left
       ·simp only [Act.put, List.setIfInBounds_toArray, List.set_cons_zero, List.set_cons_succ, i64_w, i32_w]
        rfl
       refine pure_ (i := 18) (N := some 28) (v := undef) (a' := ?_) #[true, true, true, true, true, true, true, true, true, true, true, true, true, true, true, true, true, true, true, false, false, false, false, false] rfl rfl (any_of HT_.out (by kernel_rfl)) (fun _ _ _ h => h) (Or.inr ⟨by rfl, rfl⟩) ?_ ?_
       rotate_left
       ·simp only [Act.put, List.setIfInBounds_toArray, List.set_cons_zero, List.set_cons_succ, i64_w, i32_w]
        rfl
       refine pure_ (i := 19) (N := some 29) (v := undef) (a' := ?_) #[true, true, true, true, true, true, true, true, true, true, true, true, true, true, true, true, true, true, true, true, false, false, false, false] rfl rfl (any_of HT_.out (by kernel_rfl)) (fun _ _ _ h => h) (Or.inr ⟨by rfl, rfl⟩) ?_ ?_
       rotate_left
       ·simp only [Act.put, List.setIfInBounds_toArray, List.set_cons_zero, List.set_cons_succ, i64_w, i32_w]
        rfl
       refine pure_ (i := 20) (N := some 30) (v := undef) (a' := ?_) #[true, true, true, true, true, true, true, true, true, true, true, true, true, true, true, true, true, true, true, true, true, false, false, false] rfl rfl (any_of HT_.out (by kernel_rfl)) (fun _ _ _ h => h) (Or.inr ⟨by rfl, rfl⟩) ?_ ?_
       rotate_left
       ·simp only [Act.put, List.setIfInBounds_toArray, List.set_cons_zero, List.set_cons_succ, i64_w, i32_w]
        rfl
       refine pure_ (i := 21) (N := some 31) (v := undef) (a' := ?_) #[true, true, true, true, true, true, true, true, true, true, true, true, true, true, true, true, true, true, true, true, true, true, false, false] rfl rfl (any_of HT_.out (by kernel_rfl)) (fun _ _ _ h => h) (Or.inr ⟨by rfl, rfl⟩) ?_ ?_
       rotate_left
       ·simp only [Act.put, List.setIfInBounds_toArray, List.set_cons_zero, List.set_cons_succ, i64_w, i32_w]
        rfl
       refine pure_ (i := 22) (N := some 32) (v := ?_) (a' := ?_) #[true, true, true, true, true, true, true, true, true, true, true, true, true, true, true, true, true, true, true, true, true, true, true, false] rfl rfl (any_of HT_.out (by kernel_rfl)) (fun _ _ _ h => h) (Or.inl ⟨by rfl, ?_⟩) ?_ ?_
       rotate_left
       ·intro w'
        go_simp
        with_reducible rfl
       rotate_left
       ·simp only [Act.put, List.setIfInBounds_toArray, List.set_cons_zero, List.set_cons_succ, i64_w, i32_w]
        rfl
       refine pure_ (i := 23) (N := some 33) (v := ?_) (a' := ?_) #[true, true, true, true, true, true, true, true, true, true, true, true, true, true, true, true, true, true, true, true, true, true, true, true] rfl rfl (any_of HT_.out (by kernel_rfl)) (fun _ _ _ h => h) (Or.inl ⟨by rfl, ?_⟩) ?_ ?_
       rotate_left
       ·intro w'
        go_simp
        with_reducible rfl
       rotate_left
       ·simp only [Act.put, List.setIfInBounds_toArray, List.set_cons_zero, List.set_cons_succ, i64_w, i32_w]
        rfl
       refine done_ (done_of HT_.out (by kernel_rfl)) ?_
       try go_wp2
       go_roundg k1
       case measure => have := HK1.out; omega
       case rel => exact ⟨(wrap64 (x3_1 + 1)), (by first | rfl), H', ⟨by have := HK1.out; omega⟩, ⟨by repeat (first | (with_reducible first | exact HB.out))⟩⟩
     ·replace c5 := Bool.eq_false_iff.mpr c5
      subst c5
      have H1 : (some false) = some r := by rw [if_neg (show ¬ (false = true) by decide)] at H; exact H
      clear H
      have H := H1
      clear H1
      obtain rfl := Option.some.inj H
      try go_wp2
      have n0_ := Aside0.mk (below_drew1 HB.out)
      clear HB
      have HB := n0_
      clear n0_
      have p314 : 0 ≤ (x3_1 : Int) := of_decide_eq_true (by first | (with_reducible assumption))
      have q314 : x3_1 < (l0.length : Int) := of_decide_eq_true (by first | (with_reducible assumption))
      obtain ⟨ad314, e314, hx314_0, hx314_1, hx314_2, hx314_3, hx314_4, hx314_5⟩ := at_T34 HR0.out x3_1 p314 q314
      have hw314_5 := hx314_5
      have hw314_4 := hx314_4
      have hw314_3 := hx314_3
      have hw314_2 := hx314_2
      have hw314_1 := hx314_1
      have hw314_0 := hx314_0
      cases e314
      replace hx314_0 := (HB.out.cell (World.block_lt_of_cell? w _ hx314_0)).trans hx314_0
      replace hx314_1 := (HB.out.cell (World.block_lt_of_cell? w _ hx314_1)).trans hx314_1
      replace hx314_2 := (HB.out.cell (World.block_lt_of_cell? w _ hx314_2)).trans hx314_2
      replace hx314_3 := (HB.out.cell (World.block_lt_of_cell? w _ hx314_3)).trans hx314_3
      replace hx314_4 := (HB.out.cell (World.block_lt_of_cell? w _ hx314_4)).trans hx314_4
      replace hx314_5 := (HB.out.cell (World.block_lt_of_cell? w _ hx314_5)).trans hx314_5
      replace p314 := eq_true p314
      replace q314 := eq_true q314
      refine start_ (n := 24) (S := fun w' => w'.cell? (ad314.add ((x3_1).toNat * 6)) = some (.int .i64 ((rd_T34 l0 x3_1).f0)) ∧ w'.cell? ⟨(ad314.add ((x3_1).toNat * 6)).block, (ad314.add ((x3_1).toNat * 6)).off + 1, none⟩ = some (.bool ((rd_T34 l0 x3_1).f1)) ∧ w'.cell? ⟨(ad314.add ((x3_1).toNat * 6)).block, (ad314.add ((x3_1).toNat * 6)).off + 2, none⟩ = some (.int .u32 ((rd_T34 l0 x3_1).f2.f0)) ∧ w'.cell? ⟨(ad314.add ((x3_1).toNat * 6)).block, (ad314.add ((x3_1).toNat * 6)).off + 3, none⟩ = some (.int .i64 ((rd_T34 l0 x3_1).f2.f1)) ∧ w'.cell? ⟨(ad314.add ((x3_1).toNat * 6)).block, (ad314.add ((x3_1).toNat * 6)).off + 4, none⟩ = some (.int .i64 ((rd_T34 l0 x3_1).f3)) ∧ w'.cell? ⟨(ad314.add ((x3_1).toNat * 6)).block, (ad314.add ((x3_1).toNat * 6)).off + 5, none⟩ = some (.int .i64 ((rd_T34 l0 x3_1).f4))) (ds := []) #[false, false, false, false, false, false, false, false, false, false, false, false, false, false, false, false, false, false, false, false, false, false, false, false] (by kernel_rfl) rfl rfl ⟨((HB.out.cell (World.block_lt_of_cell? w _ hw314_0)).trans hw314_0), ((HB.out.cell (World.block_lt_of_cell? w _ hw314_1)).trans hw314_1), ((HB.out.cell (World.block_lt_of_cell? w _ hw314_2)).trans hw314_2), ((HB.out.cell (World.block_lt_of_cell? w _ hw314_3)).trans hw314_3), ((HB.out.cell (World.block_lt_of_cell? w _ hw314_4)).trans hw314_4), ((HB.out.cell (World.block_lt_of_cell? w _ hw314_5)).trans hw314_5)⟩ (fun hHeld => ?_); refine with_tabW crossroadsref07_MayAll.tab4 crossroadsref07_MayAll.bits4 (fun HT_ HW_ => ?_)
      generalize wr.drew = w17 at HB hx314_0 hx314_1 hx314_2 hx314_3 hx314_4 hx314_5 hHeld ⊢
      refine pure_ (i := 0) (N := some 10) (v := ?_) (a' := ?_) #[true, false, false, false, false, false, false, false, false, false, false, false, false, false, false, false, false, false, false, false, false, false, false, false] rfl rfl (any_of HT_.out (by kernel_rfl)) (fun _ _ _ h => h) (Or.inl ⟨by rfl, ?_⟩) ?_ ?_
      rotate_left
      ·intro w'
       go_simp
       with_reducible rfl
      rotate_left
      ·simp only [Act.put, List.setIfInBounds_toArray, List.set_cons_zero, List.set_cons_succ, i64_w, i32_w]
       rfl
      refine pure_ (i := 1) (N := some 11) (v := ?_) (a' := ?_) #[true, true, false, false, false, false, false, false, false, false, false, false, false, false, false, false, false, false, false, false, false, false, false, false] rfl rfl (any_of HT_.out (by kernel_rfl)) (fun _ _ _ h => h) (Or.inl ⟨by rfl, ?_⟩) ?_ ?_
      rotate_left
      ·intro w'
       go_simp
       with_reducible rfl
      rotate_left
      ·simp only [Act.put, List.setIfInBounds_toArray, List.set_cons_zero, List.set_cons_succ, i64_w, i32_w]
       rfl
      refine pure_ (i := 2) (N := some 12) (v := ?_) (a' := ?_) #[true, true, true, false, false, false, false, false, false, false, false, false, false, false, false, false, false, false, false, false, false, false, false, false] rfl rfl (any_of HT_.out (by kernel_rfl)) (fun _ _ _ h => h) (Or.inl ⟨by rfl, ?_⟩) ?_ ?_
      rotate_left
      ·intro w'
       go_simp
       with_reducible rfl
      rotate_left
      ·simp only [Act.put, List.setIfInBounds_toArray, List.set_cons_zero, List.set_cons_succ, i64_w, i32_w]
       rfl
      refine take_ (i := 3) (N := some 13) (v := ?_) (a' := ?_) #[true, true, true, true, false, false, false, false, false, false, false, false, false, false, false, false, false, false, false, false, false, false, false, false] rfl rfl (take_ofW HT_.out HW_.out (by kernel_rfl)) (fun _ _ _ h => h) (Or.inl ⟨by rfl, ?_⟩) hHeld ?_ ?_
      rotate_left
      ·rintro w' ⟨s0, s1, s2, s3, s4, s5⟩
       go_simp
       with_reducible rfl
      rotate_left
      ·simp only [Act.put, List.setIfInBounds_toArray, List.set_cons_zero, List.set_cons_succ, i64_w, i32_w]
       rfl
      refine one_ (i := 4) (N := some 14) #[true, true, true, true, true, false, false, false, false, false, false, false, false, false, false, false, false, false, false, false, false, false, false, false] rfl rfl (one_of HT_.out (by kernel_rfl)) (by decide) (fun K hK => ?_)
      refine goes_ Tryz.func12 (by kernel_rfl) rfl #[.agg #[.int .i64 ((rd_T34 l0 x3_1).f0), .bool ((rd_T34 l0 x3_1).f1), .int .u32 ((rd_T34 l0 x3_1).f2.f0), .int .i64 ((rd_T34 l0 x3_1).f2.f1), .int .i64 ((rd_T34 l0 x3_1).f3), .int .i64 ((rd_T34 l0 x3_1).f4)]] (by rfl) rfl rfl (by (try simp only [List.map_toArray, List.map_cons, List.map_nil]); first | rfl) ?_
      with_reducible refine (crossroadsref07_May.calls k1 ((rd_T34 l0 x3_1).f0) ((rd_T34 l0 x3_1).f1) ((rd_T34 l0 x3_1).f2.f0) ((rd_T34 l0 x3_1).f2.f1) ((rd_T34 l0 x3_1).f3) ((rd_T34 l0 x3_1).f4) false _ A4.out).mono ?_
      rintro e w18 ⟨rfl, hb⟩
      refine ⟨_, rfl, ?_⟩
      have n0_ := Aside0.mk (below_step (by repeat (first | (with_reducible first | exact HB.out))) hb)
      clear HB
      have HB := n0_
      clear n0_
      (try clear hb)
      (try clear hb2)
      (try clear hk)
      (try clear hi)
      refine hK.out _ _ ⟨((HB.out.cell (World.block_lt_of_cell? w _ hw314_0)).trans hw314_0), ((HB.out.cell (World.block_lt_of_cell? w _ hw314_1)).trans hw314_1), ((HB.out.cell (World.block_lt_of_cell? w _ hw314_2)).trans hw314_2), ((HB.out.cell (World.block_lt_of_cell? w _ hw314_3)).trans hw314_3), ((HB.out.cell (World.block_lt_of_cell? w _ hw314_4)).trans hw314_4), ((HB.out.cell (World.block_lt_of_cell? w _ hw314_5)).trans hw314_5)⟩ (fun hHeld => ?_)
      clear hK K
      refine norm_ (a' := ?_) ?_ ?_
      rotate_left
      ·show Act.put _ (some 14) _ = _
       simp only [Act.put, List.setIfInBounds_toArray, List.set_cons_zero, List.set_cons_succ, i64_w, i32_w]
       rfl
      refine pure_ (i := 5) (N := some 15) (v := ?_) (a' := ?_) #[true, true, true, true, true, true, false, false, false, false, false, false, false, false, false, false, false, false, false, false, false, false, false, false] rfl rfl (any_of HT_.out (by kernel_rfl)) (fun _ _ _ h => h) (Or.inl ⟨by rfl, ?_⟩) ?_ ?_
      rotate_left
      ·intro w'
       go_simp
       with_reducible rfl
      rotate_left
      ·simp only [Act.put, List.setIfInBounds_toArray, List.set_cons_zero, List.set_cons_succ, i64_w, i32_w]
       rfl
      refine pure_ (i := 6) (N := some 16) (v := ?_) (a' := ?_) #[true, true, true, true, true, true, true, false, false, false, false, false, false, false, false, false, false, false, false, false, false, false, false, false] rfl rfl (any_of HT_.out (by kernel_rfl)) (fun _ _ _ h => h) (Or.inl ⟨by rfl, ?_⟩) ?_ ?_
      rotate_left
      ·intro w'
       go_simp
       with_reducible rfl
      rotate_left
      ·simp only [Act.put, List.setIfInBounds_toArray, List.set_cons_zero, List.set_cons_succ, i64_w, i32_w]
       rfl
      refine pure_ (i := 7) (N := some 17) (v := undef) (a' := ?_) #[true, true, true, true, true, true, true, true, false, false, false, false, false, false, false, false, false, false, false, false, false, false, false, false] rfl rfl (any_of HT_.out (by kernel_rfl)) (fun _ _ _ h => h) (Or.inr ⟨by rfl, rfl⟩) ?_ ?_
      rotate_left
      ·simp only [Act.put, List.setIfInBounds_toArray, List.set_cons_zero, List.set_cons_succ, i64_w, i32_w]
       rfl
      refine pure_ (i := 8) (N := some 18) (v := undef) (a' := ?_) #[true, true, true, true, true, true, true, true, true, false, false, false, false, false, false, false, false, false, false, false, false, false, false, false] rfl rfl (any_of HT_.out (by kernel_rfl)) (fun _ _ _ h => h) (Or.inr ⟨by rfl, rfl⟩) ?_ ?_
      rotate_left
      ·simp only [Act.put, List.setIfInBounds_toArray, List.set_cons_zero, List.set_cons_succ, i64_w, i32_w]
       rfl
      refine pure_ (i := 9) (N := some 19) (v := undef) (a' := ?_) #[true, true, true, true, true, true, true, true, true, true, false, false, false, false, false, false, false, false, false, false, false, false, false, false] rfl rfl (any_of HT_.out (by kernel_rfl)) (fun _ _ _ h => h) (Or.inr ⟨by rfl, rfl⟩) ?_ ?_
      rotate_left
      ·simp only [Act.put, List.setIfInBounds_toArray, List.set_cons_zero, List.set_cons_succ, i64_w, i32_w]
       rfl
      refine pure_ (i := 10) (N := some 20) (v := undef) (a' := ?_) #[true, true, true, true, true, true, true, true, true, true, true, false, false, false, false, false, false, false, false, false, false, false, false, false] rfl rfl (any_of HT_.out (by kernel_rfl)) (fun _ _ _ h => h) (Or.inr ⟨by rfl, rfl⟩) ?_ ?_
      rotate_left
      ·simp only [Act.put, List.setIfInBounds_toArray, List.set_cons_zero, List.set_cons_succ, i64_w, i32_w]
       rfl
      refine pure_ (i := 11) (N := some 21) (v := undef) (a' := ?_) #[true, true, true, true, true, true, true, true, true, true, true, true, false, false, false, false, false, false, false, false, false, false, false, false] rfl rfl (any_of HT_.out (by kernel_rfl)) (fun _ _ _ h => h) (Or.inr ⟨by rfl, rfl⟩) ?_ ?_
      rotate_left
      ·simp only [Act.put, List.setIfInBounds_toArray, List.set_cons_zero, List.set_cons_succ, i64_w, i32_w]
       rfl
      refine pure_ (i := 12) (N := some 22) (v := undef) (a' := ?_) #[true, true, true, true, true, true, true, true, true, true, true, true, true, false, false, false, false, false, false, false, false, false, false, false] rfl rfl (any_of HT_.out (by kernel_rfl)) (fun _ _ _ h => h) (Or.inr ⟨by rfl, rfl⟩) ?_ ?_
      rotate_left
      ·simp only [Act.put, List.setIfInBounds_toArray, List.set_cons_zero, List.set_cons_succ, i64_w, i32_w]
       rfl
      refine pure_ (i := 13) (N := some 23) (v := undef) (a' := ?_) #[true, true, true, true, true, true, true, true, true, true, true, true, true, true, false, false, false, false, false, false, false, false, false, false] rfl rfl (any_of HT_.out (by kernel_rfl)) (fun _ _ _ h => h) (Or.inr ⟨by rfl, rfl⟩) ?_ ?_
      rotate_left
      ·simp only [Act.put, List.setIfInBounds_toArray, List.set_cons_zero, List.set_cons_succ, i64_w, i32_w]
       rfl
      refine pure_ (i := 14) (N := some 24) (v := undef) (a' := ?_) #[true, true, true, true, true, true, true, true, true, true, true, true, true, true, true, false, false, false, false, false, false, false, false, false] rfl rfl (any_of HT_.out (by kernel_rfl)) (fun _ _ _ h => h) (Or.inr ⟨by rfl, rfl⟩) ?_ ?_
      rotate_left
      ·simp only [Act.put, List.setIfInBounds_toArray, List.set_cons_zero, List.set_cons_succ, i64_w, i32_w]
       rfl
      refine pure_ (i := 15) (N := some 25) (v := undef) (a' := ?_) #[true, true, true, true, true, true, true, true, true, true, true, true, true, true, true, true, false, false, false, false, false, false, false, false] rfl rfl (any_of HT_.out (by kernel_rfl)) (fun _ _ _ h => h) (Or.inr ⟨by rfl, rfl⟩) ?_ ?_
      rotate_left
      ·simp only [Act.put, List.setIfInBounds_toArray, List.set_cons_zero, List.set_cons_succ, i64_w, i32_w]
       rfl
      refine pure_ (i := 16) (N := some 26) (v := undef) (a' := ?_) #[true, true, true, true, true, true, true, true, true, true, true, true, true, true, true, true, true, false, false, false, false, false, false, false] rfl rfl (any_of HT_.out (by kernel_rfl)) (fun _ _ _ h => h) (Or.inr ⟨by rfl, rfl⟩) ?_ ?_
      rotate_left
      ·simp only [Act.put, List.setIfInBounds_toArray, List.set_cons_zero, List.set_cons_succ, i64_w, i32_w]
       rfl
      refine pure_ (i := 17) (N := some 27) (v := undef) (a' := ?_) #[true, true, true, true, true, true, true, true, true, true, true, true, true, true, true, true, true, true, false, false, false, false, false, false] rfl rfl (any_of HT_.out (by kernel_rfl)) (fun _ _ _ h => h) (Or.inr ⟨by rfl, rfl⟩) ?_ ?_
      rotate_left
      ·simp only [Act.put, List.setIfInBounds_toArray, List.set_cons_zero, List.set_cons_succ, i64_w, i32_w]
       rfl
      refine pure_ (i := 18) (N := some 28) (v := undef) (a' := ?_) #[true, true, true, true, true, true, true, true, true, true, true, true, true, true, true, true, true, true, true, false, false, false, false, false] rfl rfl (any_of HT_.out (by kernel_rfl)) (fun _ _ _ h => h) (Or.inr ⟨by rfl, rfl⟩) ?_ ?_
      rotate_left
      ·simp only [Act.put, List.setIfInBounds_toArray, List.set_cons_zero, List.set_cons_succ, i64_w, i32_w]
       rfl
      refine pure_ (i := 19) (N := some 29) (v := undef) (a' := ?_) #[true, true, true, true, true, true, true, true, true, true, true, true, true, true, true, true, true, true, true, true, false, false, false, false] rfl rfl (any_of HT_.out (by kernel_rfl)) (fun _ _ _ h => h) (Or.inr ⟨by rfl, rfl⟩) ?_ ?_
      rotate_left
      ·simp only [Act.put, List.setIfInBounds_toArray, List.set_cons_zero, List.set_cons_succ, i64_w, i32_w]
       rfl
      refine pure_ (i := 20) (N := some 30) (v := undef) (a' := ?_) #[true, true, true, true, true, true, true, true, true, true, true, true, true, true, true, true, true, true, true, true, true, false, false, false] rfl rfl (any_of HT_.out (by kernel_rfl)) (fun _ _ _ h => h) (Or.inr ⟨by rfl, rfl⟩) ?_ ?_
      rotate_left
      ·simp only [Act.put, List.setIfInBounds_toArray, List.set_cons_zero, List.set_cons_succ, i64_w, i32_w]
       rfl
      refine pure_ (i := 21) (N := some 31) (v := undef) (a' := ?_) #[true, true, true, true, true, true, true, true, true, true, true, true, true, true, true, true, true, true, true, true, true, true, false, false] rfl rfl (any_of HT_.out (by kernel_rfl)) (fun _ _ _ h => h) (Or.inr ⟨by rfl, rfl⟩) ?_ ?_
      rotate_left
      ·simp only [Act.put, List.setIfInBounds_toArray, List.set_cons_zero, List.set_cons_succ, i64_w, i32_w]
       rfl
      refine pure_ (i := 22) (N := some 32) (v := undef) (a' := ?_) #[true, true, true, true, true, true, true, true, true, true, true, true, true, true, true, true, true, true, true, true, true, true, true, false] rfl rfl (any_of HT_.out (by kernel_rfl)) (fun _ _ _ h => h) (Or.inr ⟨by rfl, rfl⟩) ?_ ?_
      rotate_left
      ·simp only [Act.put, List.setIfInBounds_toArray, List.set_cons_zero, List.set_cons_succ, i64_w, i32_w]
       rfl
      refine pure_ (i := 23) (N := some 33) (v := ?_) (a' := ?_) #[true, true, true, true, true, true, true, true, true, true, true, true, true, true, true, true, true, true, true, true, true, true, true, true] rfl rfl (any_of HT_.out (by kernel_rfl)) (fun _ _ _ h => h) (Or.inl ⟨by rfl, ?_⟩) ?_ ?_
      rotate_left
      ·intro w'
       go_simp
       with_reducible rfl
      rotate_left
      ·simp only [Act.put, List.setIfInBounds_toArray, List.set_cons_zero, List.set_cons_succ, i64_w, i32_w]
       rfl
      refine done_ (done_of HT_.out (by kernel_rfl)) ?_
      try go_wp2
      go_ret
      exact ⟨by first | rfl, by repeat (first | (with_reducible first | exact HB.out))⟩
    ·rw [if_neg c3] at H
     exact absurd H (by simp)
   ·rw [if_neg c2] at H
    have c2b0 : decide (x3_1 < (l0.length : Int)) = false := decide_eq_false c2
    clear c2
    obtain rfl := Option.some.inj H
    go_wp2
    go_ret
    exact ⟨by first | rfl, by repeat (first | (with_reducible first | exact HB.out))⟩
end Go.Proofs.YthngpkfckhmiiaaGreatDoor.X
end
section
namespace Go.Proofs.YthngpkfckhmiiaaGreatDoor.X
open Go.RowKit Go.Proofs.YthngpkfckhmiiaaGreatDoorW.PrintWords Go.Proofs.YthngpkfckhmiiaaGreatDoorW.PrintLast Go.Proofs.YthngpkfckhmiiaaGreatDoorW.PrintMore
attribute [local go_sem] max2_int min2_int max_two min_two max_three min_three max_four min_four   -- for this text's walks alone
set_option linter.unusedVariables false
set_option linter.unusedSimpArgs false
def crossroadslaw07_rows.l0 : Nat → List (S26) → List (S34) → Int → Option ((List (S34)))
 | 0, _, _, _ => none
 | k + 1, x0, x3, x4 => if x4 < (x0.length : Int) then (if 0 ≤ x4 then ((crossroadslaw07_plain.f ((rd_T26 x0 x4).f0) ((rd_T26 x0 x4).f1) ((rd_T26 x0 x4).f2.f0) ((rd_T26 x0 x4).f2.f1) ((rd_T26 x0 x4).f3) ((rd_T26 x0 x4).f4)).bind fun bt322 => (if x3.length < 2932031007402 then (crossroadslaw07_rows.l0 k x0 (x3 ++ [(⟨bt322.1, bt322.2.1, (⟨bt322.2.2.1, bt322.2.2.2.1⟩ : S24), bt322.2.2.2.2.1, bt322.2.2.2.2.2⟩ : S34)]) (wrap64 (x4 + 1))) else (none))) else (none)) else (some x3)
def crossroadslaw07_rows.f (k : Nat) (l0 : List (S26)) : Option ((List (S34))) := crossroadslaw07_rows.l0 k l0 (([] : List (S34))) 0
set_option maxHeartbeats 8000000 in
set_option maxRecDepth 100000 in
theorem crossroadslaw07_rows.calls (k : Nat) (A0 : Option Addr) (c0 : Nat) (l0 : List (S26)) (r : List (S34)) (w : World) (hr0 : Kd.C k26 w A0 l0.length l0) (hc0 : l0.length ≤ c0) (h : crossroadslaw07_rows.f k l0 = some r) :
  Calls Tryz.prog 19 #[.slice A0 l0.length c0] w fun e w' => ∃ v0_ : Value, e = .returned (v0_) ∧ Kd.R k34 34 w' w.heap.size (fun _ => True) v0_ r ∧ Below w.heap.size w w' := by
 have hu26 := Tryz.underlying26
 have HR0 := Aside0.mk hr0
 have HC0 := Aside0.mk hc0
 clear hr0 hc0
 have HB := Aside0.mk (Below.refl w.heap.size w)
 have H : (crossroadslaw07_rows.l0 k l0 (([] : List (S34))) 0) = some r := h
 clear h
 obtain ⟨y318, hy318⟩ : ∃ y_ : List (S34), y_ = (([] : List (S34))) := ⟨_, rfl⟩
 replace H : (crossroadslaw07_rows.l0 k l0 y318 0) = some r := by first | (rw [hy318]; with_reducible exact H)
 have Ny318 := Aside0.mk hy318
 clear hy318
 have H' := Aside0.mk H
 clear H
 go_enter Tryz.func19, Tryz.ntmps19
 go_wp2_with (first | ((with_reducible refine gate_dst (N := 5) rfl ?_); refine Kd.R_lit k34 _ 34 ?hg (N := 5) ?hd (xs := ([] : List (S34))) (inner := []) (ok := fun _ => True) (okp := fun _ => True) ?hr ?hp (fun _ hk => hk) trivial (Below.refl _ _) (Nat.le_refl _) (by simp) ?_; (case hd => rfl); (case hg => rfl); (case hr => first | (go_simp; done)); (case hp => exact (Reps.none _ _)); intro v319 w2 ho3 hb hg_ hnew_; clear hg_ hnew_; (first | rw [← Ny318.out] at ho3); have n0_ := Aside0.mk (Kd.R_lower ho3 (below_size (by repeat (first | (with_reducible first | exact HB.out))))); have n1_ := Aside0.mk (below_step (by repeat (first | (with_reducible first | exact HB.out))) hb); clear HB; have HO320 := n0_; have HB := n1_; clear n0_ n1_; clear hb ho3))
 go_loopg [3, 4] k (fun kq v3 v4 w' => ∃ (x3_1 : List (S34)) (x4_1 : Int), v4 = .int .i64 x4_1 ∧ Aside0 (crossroadslaw07_rows.l0 kq l0 x3_1 x4_1 = some r) ∧ Aside0 (kq ≤ k) ∧ Aside0 (Kd.R k34 34 w' w.heap.size (fun _ => True) v3 x3_1) ∧ Aside0 (Below w.heap.size w w'))
 case atStart => exact ⟨(y318), (0), (by first | rfl), H', ⟨Nat.le_refl _⟩, ⟨by (with_reducible repeat (fail)); exact HO320.out⟩, ⟨by repeat (first | (with_reducible first | exact HB.out))⟩⟩
 case round =>
  clear H'
  try clear c1
  try clear p2
  obtain ⟨x3_1, x4_1, rfl, HA, HK1, HO_3, HB⟩ := hrel
  cases gk with
  | zero => exact absurd HA.out (by simp [crossroadslaw07_rows.l0])
  | succ k1 =>
   have H := HA.out
   clear HA
   simp only [crossroadslaw07_rows.l0] at H
   by_cases c4 : x4_1 < (l0.length : Int)
   ·rw [if_pos c4] at H
    have c4b0 : decide (x4_1 < (l0.length : Int)) = true := decide_eq_true c4
    clear c4
    by_cases c5 : 0 ≤ x4_1
    ·rw [if_pos c5] at H
     have c5b0 : decide (0 ≤ x4_1) = true := decide_eq_true c5
     clear c5
     replace H := Option.bind_eq_some_iff.mp H
     obtain ⟨⟨t322, t323, t324, t325, t326, t327⟩, A60, H⟩ := H
     replace H : (if x3_1.length < 2932031007402 then (crossroadslaw07_rows.l0 k1 l0 (x3_1 ++ [(⟨t322, t323, (⟨t324, t325⟩ : S24), t326, t327⟩ : S34)]) (wrap64 (x4_1 + 1))) else (none)) = some r := H
     have A6 := Aside0.mk A60
     clear A60
     by_cases c7 : x3_1.length < 2932031007402
     ·rw [if_pos c7] at H
      have LMc7 := Aside0.mk c7
      clear c7
      obtain ⟨y328, hy328⟩ : ∃ y_ : List (S34), y_ = (x3_1 ++ [(⟨t322, t323, (⟨t324, t325⟩ : S24), t326, t327⟩ : S34)]) := ⟨_, rfl⟩
      replace H : (crossroadslaw07_rows.l0 k1 l0 y328 (wrap64 (x4_1 + 1))) = some r := by first | (rw [hy328]; with_reducible exact H)
      have Ny328 := Aside0.mk hy328
      clear hy328
      have H' := Aside0.mk H
      clear H
      have p321 : 0 ≤ (x4_1 : Int) := of_decide_eq_true (by first | (with_reducible assumption))
      have q321 : x4_1 < (l0.length : Int) := of_decide_eq_true (by first | (with_reducible assumption))
      obtain ⟨ad321, e321, hx321_0, hx321_1, hx321_2, hx321_3, hx321_4, hx321_5⟩ := at_T26 HR0.out x4_1 p321 q321
      cases e321
      replace hx321_0 := (HB.out.cell (World.block_lt_of_cell? w _ hx321_0)).trans hx321_0
      replace hx321_1 := (HB.out.cell (World.block_lt_of_cell? w _ hx321_1)).trans hx321_1
      replace hx321_2 := (HB.out.cell (World.block_lt_of_cell? w _ hx321_2)).trans hx321_2
      replace hx321_3 := (HB.out.cell (World.block_lt_of_cell? w _ hx321_3)).trans hx321_3
      replace hx321_4 := (HB.out.cell (World.block_lt_of_cell? w _ hx321_4)).trans hx321_4
      replace hx321_5 := (HB.out.cell (World.block_lt_of_cell? w _ hx321_5)).trans hx321_5
      replace p321 := eq_true p321
      replace q321 := eq_true q321
      go_wp2_with (first | ((with_reducible refine gate_callee (f := 13) rfl ?_); refine goesL_ (some 17) rfl rfl Tryz.func13 (by kernel_rfl) rfl #[.agg #[.int .i64 ((rd_T26 l0 x4_1).f0), .bool ((rd_T26 l0 x4_1).f1), .int .u32 ((rd_T26 l0 x4_1).f2.f0), .int .i64 ((rd_T26 l0 x4_1).f2.f1), .int .i64 ((rd_T26 l0 x4_1).f3), .int .i64 ((rd_T26 l0 x4_1).f4)]] rfl (by (try simp only [List.map_toArray, List.map_cons, List.map_nil]); first | rfl) ?_; (with_reducible refine (crossroadslaw07_plain.calls ((rd_T26 l0 x4_1).f0) ((rd_T26 l0 x4_1).f1) ((rd_T26 l0 x4_1).f2.f0) ((rd_T26 l0 x4_1).f2.f1) ((rd_T26 l0 x4_1).f3) ((rd_T26 l0 x4_1).f4) t322 t323 t324 t325 t326 t327 _ A6.out).mono ?_); rintro e w8 ⟨rfl, hb⟩; refine ⟨_, rfl, ?_⟩; have n0_ := Aside0.mk (Kd.R_below (by (with_reducible repeat (fail)); exact HO_3.out) hb); have n1_ := Aside0.mk (below_step (by repeat (first | (with_reducible first | exact HB.out))) hb); clear HO_3; clear HB; have HO_3 := n0_; have HB := n1_; clear n0_ n1_; (try clear hb); (try clear hb2); (try clear hk); (try clear hi)) | ((with_reducible refine gate_builtin (b := .append) (xs := #[.tmp 12, .tmp 18]) rfl ?_); at_builtin; refine Kd.R_append k34 (w0 := w) w.heap.size rfl (.tmp 12) (.tmp 18) 44 34 (.agg #[(.int .i64 0), (.bool false), (.int .u32 0), (.int .i64 0), (.int .i64 0), (.int .i64 0)]) 48 rfl Tryz.underlying44 info34 rfl (by decide) (by omega) u3 x3_1 (⟨t322, t323, (⟨t324, t325⟩ : S24), t326, t327⟩ : S34) [.int .i64 t322, .bool t323, .int .u32 t324, .int .i64 t325, .int .i64 t326, .int .i64 t327] (fun _ => True) (fun _ => False) rfl rfl ?aP (fun _ hk => hk.elim) ?aF ?aO ?aB ?aS ?aL ?_; (case aP => exact k34_mkM _ _ _ (⟨t322, t323, (⟨t324, t325⟩ : S24), t326, t327⟩ : S34)); (case aB => exact (by repeat (first | (with_reducible first | exact HB.out)))); (case aF => exact (fun _ _ => trivial)); (case aO => exact (by (with_reducible repeat (fail)); exact HO_3.out)); (case aS => exact (below_size (by repeat (first | (with_reducible first | exact HB.out))))); (case aL => have := LMc7.out; omega); intro v329 w9 ho hb hg hat; rw [← Ny328.out] at ho; have n0_ := Aside0.mk (hb); have n1_ := Aside0.mk (ho); clear HB; clear HO_3; have HB := n0_; have HO330 := n1_; clear n0_ n1_; clear ho hb hg hat))
      go_roundg k1
      case measure => have := HK1.out; omega
      case rel => exact ⟨(y328), (wrap64 (x4_1 + 1)), (by first | rfl), H', ⟨by have := HK1.out; omega⟩, ⟨by (with_reducible repeat (fail)); exact HO330.out⟩, ⟨by repeat (first | (with_reducible first | exact HB.out))⟩⟩
     ·rw [if_neg c7] at H
      exact absurd H (by simp)
    ·rw [if_neg c5] at H
     exact absurd H (by simp)
   ·rw [if_neg c4] at H
    have c4b0 : decide (x4_1 < (l0.length : Int)) = false := decide_eq_false c4
    clear c4
    obtain rfl := Option.some.inj H
    go_wp2
    go_ret
    exact ⟨_, by first | rfl, by (with_reducible repeat (fail)); exact HO_3.out, by repeat (first | (with_reducible first | exact HB.out))⟩
end Go.Proofs.YthngpkfckhmiiaaGreatDoor.X
end
section
namespace Go.Proofs.YthngpkfckhmiiaaGreatDoor.X
open Go.RowKit Go.Proofs.YthngpkfckhmiiaaGreatDoorW.PrintWords Go.Proofs.YthngpkfckhmiiaaGreatDoorW.PrintLast Go.Proofs.YthngpkfckhmiiaaGreatDoorW.PrintMore
attribute [local go_sem] max2_int min2_int max_two min_two max_three min_three max_four min_four   -- for this text's walks alone
set_option linter.unusedVariables false
set_option linter.unusedSimpArgs false
theorem eqA24 (d : Nat) (w : World) (x0 y0 : Int) (x1 y1 : Int) :
  (Op.equalIn (d + 2) 24 (.agg #[.int .u32 x0, .int .i64 x1]) (.agg #[.int .u32 y0, .int .i64 y1])).run Tryz.prog w = .ok (x0 == y0 && (x1 == y1)) w := by
 refine eqA_of Tryz.underlying24 (by kernel_rfl) ?_
 refine eqf_cons (by rfl) (by go_simp; rfl) (by go_simp; rfl) (by go_simp) ?_
 exact eqf_last (by rfl) (by go_simp; rfl) (by go_simp; rfl) (by go_simp)
end Go.Proofs.YthngpkfckhmiiaaGreatDoor.X
end
section
namespace Go.Proofs.YthngpkfckhmiiaaGreatDoor.X
open Go.RowKit Go.Proofs.YthngpkfckhmiiaaGreatDoorW.PrintWords Go.Proofs.YthngpkfckhmiiaaGreatDoorW.PrintLast Go.Proofs.YthngpkfckhmiiaaGreatDoorW.PrintMore
attribute [local go_sem] max2_int min2_int max_two min_two max_three min_three max_four min_four   -- for this text's walks alone
set_option linter.unusedVariables false
set_option linter.unusedSimpArgs false
theorem eqA34 (d : Nat) (w : World) (x0 y0 : Int) (x1 y1 : Bool) (x2 y2 : Int) (x3 y3 : Int) (x4 y4 : Int) (x5 y5 : Int) :
  (Op.equalIn (d + 3) 34 (.agg #[.int .i64 x0, .bool x1, .int .u32 x2, .int .i64 x3, .int .i64 x4, .int .i64 x5]) (.agg #[.int .i64 y0, .bool y1, .int .u32 y2, .int .i64 y3, .int .i64 y4, .int .i64 y5])).run Tryz.prog w = .ok (x0 == y0 && (x1 == y1 && ((x2 == y2 && (x3 == y3)) && (x4 == y4 && (x5 == y5))))) w := by
 refine eqA_of Tryz.underlying34 (by kernel_rfl) ?_
 refine eqf_cons (by rfl) (by go_simp; rfl) (by go_simp; rfl) (by go_simp) ?_
 refine eqf_cons (by rfl) (by go_simp; rfl) (by go_simp; rfl) (by go_simp) ?_
 refine eqf_cons (by rfl) (by go_simp) (by go_simp) (eqA24 (d + 0) w _ _ _ _) ?_
 refine eqf_cons (by rfl) (by go_simp; rfl) (by go_simp; rfl) (by go_simp) ?_
 exact eqf_last (by rfl) (by go_simp; rfl) (by go_simp; rfl) (by go_simp)
end Go.Proofs.YthngpkfckhmiiaaGreatDoor.X
end
section
namespace Go.Proofs.YthngpkfckhmiiaaGreatDoor.X
open Go.RowKit Go.Proofs.YthngpkfckhmiiaaGreatDoorW.PrintWords Go.Proofs.YthngpkfckhmiiaaGreatDoorW.PrintLast Go.Proofs.YthngpkfckhmiiaaGreatDoorW.PrintMore
attribute [local go_sem] max2_int min2_int max_two min_two max_three min_three max_four min_four   -- for this text's walks alone
set_option linter.unusedVariables false
set_option linter.unusedSimpArgs false
attribute [local go_sem high] eqA34
def crossroadsref07_Same.l0 : Nat → List (S34) → List (S34) → Int → Option (Bool)
 | 0, _, _, _ => none
 | k + 1, x0, x1, x5 => if x5 < (x0.length : Int) then (if 0 ≤ x5 then (if x5 < (x1.length : Int) then (if (!(((rd_T34 x0 x5).f0) == ((rd_T34 x1 x5).f0)) || (!(((rd_T34 x0 x5).f1) == ((rd_T34 x1 x5).f1)) || ((!(((rd_T34 x0 x5).f2.f0) == ((rd_T34 x1 x5).f2.f0)) || (!(((rd_T34 x0 x5).f2.f1) == ((rd_T34 x1 x5).f2.f1)))) || (!(((rd_T34 x0 x5).f3) == ((rd_T34 x1 x5).f3)) || (!(((rd_T34 x0 x5).f4) == ((rd_T34 x1 x5).f4))))))) = true then (some false) else (crossroadsref07_Same.l0 k x0 x1 (wrap64 (x5 + 1)))) else (none)) else (none)) else (some true)
def crossroadsref07_Same.f (k : Nat) (l0 : List (S34)) (l1 : List (S34)) : Option (Bool) := if (l0.length : Int) = (l1.length : Int) then (crossroadsref07_Same.l0 k l0 l1 0) else (some false)
set_option maxHeartbeats 8000000 in
set_option maxRecDepth 100000 in
theorem crossroadsref07_Same.calls (k : Nat) (A0 : Option Addr) (c0 : Nat) (l0 : List (S34)) (A1 : Option Addr) (c1 : Nat) (l1 : List (S34)) (r : Bool) (w : World) (hr0 : Kd.C k34 w A0 l0.length l0) (hc0 : l0.length ≤ c0) (hr1 : Kd.C k34 w A1 l1.length l1) (hc1 : l1.length ≤ c1) (h : crossroadsref07_Same.f k l0 l1 = some r) :
  Calls Tryz.prog 24 #[.slice A0 l0.length c0, .slice A1 l1.length c1] w fun e w' => e = .returned (.bool r) ∧ Drawn0 w w' := by
 have hu34 := Tryz.underlying34
 have HR0 := Aside0.mk hr0
 have HC0 := Aside0.mk hc0
 clear hr0 hc0
 have HR1 := Aside0.mk hr1
 have HC1 := Aside0.mk hc1
 clear hr1 hc1
 have H : (if (l0.length : Int) = (l1.length : Int) then (crossroadsref07_Same.l0 k l0 l1 0) else (some false)) = some r := h
 clear h
 by_cases c3 : (l0.length : Int) = (l1.length : Int)
 ·rw [if_pos c3] at H
  have c3b0 : ((l0.length : Int) == (l1.length : Int)) = true := beq_iff_eq.mpr c3
  have c3b1 : ((l0.length : Int) != (l1.length : Int)) = false := bne_eq_false_iff_eq.mpr c3
  have c3b2 : (l0.length == l1.length) = true := by first | simpa using c3 | (simp at c3 ⊢; omega)
  clear c3
  have H' := Aside0.mk H
  clear H
  go_enter Tryz.func24, Tryz.ntmps24
  go_wp2
  repeat (go_quiet (fail); try go_wp2)
  go_loopg [5] k (fun kq v5 w' => ∃ (x5_1 : Int), v5 = .int .i64 x5_1 ∧ Aside0 (crossroadsref07_Same.l0 kq l0 l1 x5_1 = some r) ∧ Aside0 (kq ≤ k) ∧ Drawn0 w w')
  case atStart => exact ⟨(0), (by first | rfl | (simp; done) | (simp [*]; done) | (congr 1; omega) | (simp; omega)), H', ⟨Nat.le_refl _⟩, by repeat (first | exact Drawn0.refl _ | apply Drawn0.step)⟩
  case round =>
   clear H'
   try clear c1
   try clear c2
   try clear p2
   try clear c3
   try clear c3b0
   try clear c3b1
   try clear c3b2
   obtain ⟨x5_1, rfl, HA, HK1, ⟨m1, rfl⟩⟩ := hrel
   cases gk with
   | zero => exact absurd HA.out (by simp [crossroadsref07_Same.l0])
   | succ k1 =>
    have H := HA.out
    clear HA
    simp only [crossroadsref07_Same.l0] at H
    by_cases c4 : x5_1 < (l0.length : Int)
    ·rw [if_pos c4] at H
     have c4b0 : decide (x5_1 < (l0.length : Int)) = true := decide_eq_true c4
     clear c4
     by_cases c5 : 0 ≤ x5_1
     ·rw [if_pos c5] at H
      have c5b0 : decide (0 ≤ x5_1) = true := decide_eq_true c5
      clear c5
      by_cases c6 : x5_1 < (l1.length : Int)
      ·rw [if_pos c6] at H
       have c6b0 : decide (x5_1 < (l1.length : Int)) = true := decide_eq_true c6
       clear c6
       by_cases c7 : (!(((rd_T34 l0 x5_1).f0) == ((rd_T34 l1 x5_1).f0)) || (!(((rd_T34 l0 x5_1).f1) == ((rd_T34 l1 x5_1).f1)) || ((!(((rd_T34 l0 x5_1).f2.f0) == ((rd_T34 l1 x5_1).f2.f0)) || (!(((rd_T34 l0 x5_1).f2.f1) == ((rd_T34 l1 x5_1).f2.f1)))) || (!(((rd_T34 l0 x5_1).f3) == ((rd_T34 l1 x5_1).f3)) || (!(((rd_T34 l0 x5_1).f4) == ((rd_T34 l1 x5_1).f4))))))) = true
       ·rw [if_pos c7] at H
        have c7b0 : (!(((rd_T34 l0 x5_1).f0) == ((rd_T34 l1 x5_1).f0)) || (!(((rd_T34 l0 x5_1).f1) == ((rd_T34 l1 x5_1).f1)) || ((!(((rd_T34 l0 x5_1).f2.f0) == ((rd_T34 l1 x5_1).f2.f0)) || (!(((rd_T34 l0 x5_1).f2.f1) == ((rd_T34 l1 x5_1).f2.f1)))) || (!(((rd_T34 l0 x5_1).f3) == ((rd_T34 l1 x5_1).f3)) || (!(((rd_T34 l0 x5_1).f4) == ((rd_T34 l1 x5_1).f4))))))) = true := c7
        clear c7
        obtain rfl := Option.some.inj H
        have p356 : 0 ≤ (x5_1 : Int) := of_decide_eq_true (by first | (with_reducible assumption) | assumption)
        have q356 : x5_1 < (l0.length : Int) := of_decide_eq_true (by first | (with_reducible assumption) | assumption)
        obtain ⟨ad356, e356, hx356_0, hx356_1, hx356_2, hx356_3, hx356_4, hx356_5⟩ := at_T34 HR0.out x5_1 p356 q356
        cases e356
        replace p356 := eq_true p356
        replace q356 := eq_true q356
        have p357 : 0 ≤ (x5_1 : Int) := of_decide_eq_true (by first | (with_reducible assumption) | assumption)
        have q357 : x5_1 < (l1.length : Int) := of_decide_eq_true (by first | (with_reducible assumption) | assumption)
        obtain ⟨ad357, e357, hx357_0, hx357_1, hx357_2, hx357_3, hx357_4, hx357_5⟩ := at_T34 HR1.out x5_1 p357 q357
        cases e357
        replace p357 := eq_true p357
        replace q357 := eq_true q357
        go_wp2
        repeat (go_quiet (fail); try go_wp2)
        go_ret
        exact ⟨by first | rfl | (simp; done) | (simp [*]; done) | (congr 1; omega) | (simp; omega), by repeat (first | exact Drawn0.refl _ | apply Drawn0.step)⟩
       ·rw [if_neg c7] at H
        have c7b0 : (!(((rd_T34 l0 x5_1).f0) == ((rd_T34 l1 x5_1).f0)) || (!(((rd_T34 l0 x5_1).f1) == ((rd_T34 l1 x5_1).f1)) || ((!(((rd_T34 l0 x5_1).f2.f0) == ((rd_T34 l1 x5_1).f2.f0)) || (!(((rd_T34 l0 x5_1).f2.f1) == ((rd_T34 l1 x5_1).f2.f1)))) || (!(((rd_T34 l0 x5_1).f3) == ((rd_T34 l1 x5_1).f3)) || (!(((rd_T34 l0 x5_1).f4) == ((rd_T34 l1 x5_1).f4))))))) = false := by simpa using c7
        clear c7
        have H' := Aside0.mk H
        clear H
        have p356 : 0 ≤ (x5_1 : Int) := of_decide_eq_true (by first | (with_reducible assumption) | assumption)
        have q356 : x5_1 < (l0.length : Int) := of_decide_eq_true (by first | (with_reducible assumption) | assumption)
        obtain ⟨ad356, e356, hx356_0, hx356_1, hx356_2, hx356_3, hx356_4, hx356_5⟩ := at_T34 HR0.out x5_1 p356 q356
        cases e356
        replace p356 := eq_true p356
        replace q356 := eq_true q356
        have p357 : 0 ≤ (x5_1 : Int) := of_decide_eq_true (by first | (with_reducible assumption) | assumption)
        have q357 : x5_1 < (l1.length : Int) := of_decide_eq_true (by first | (with_reducible assumption) | assumption)
        obtain ⟨ad357, e357, hx357_0, hx357_1, hx357_2, hx357_3, hx357_4, hx357_5⟩ := at_T34 HR1.out x5_1 p357 q357
        cases e357
        replace p357 := eq_true p357
        replace q357 := eq_true q357
        go_wp2
        repeat (go_quiet (fail); try go_wp2)
        go_roundg k1
        case measure => have := HK1.out; omega
        case rel => exact ⟨(wrap64 (x5_1 + 1)), (by first | rfl | (simp; done) | (simp [*]; done) | (congr 1; omega) | (simp; omega)), H', ⟨by have := HK1.out; omega⟩, by repeat (first | exact Drawn0.refl _ | apply Drawn0.step)⟩
      ·rw [if_neg c6] at H
       exact absurd H (by simp)
     ·rw [if_neg c5] at H
      exact absurd H (by simp)
    ·rw [if_neg c4] at H
     have c4b0 : decide (x5_1 < (l0.length : Int)) = false := decide_eq_false c4
     clear c4
     obtain rfl := Option.some.inj H
     go_wp2
     repeat (go_quiet (fail); try go_wp2)
     go_ret
     exact ⟨by first | rfl | (simp; done) | (simp [*]; done) | (congr 1; omega) | (simp; omega), by repeat (first | exact Drawn0.refl _ | apply Drawn0.step)⟩
 ·rw [if_neg c3] at H
  have c3b0 : ((l0.length : Int) == (l1.length : Int)) = false := beq_eq_false_iff_ne.mpr c3
  have c3b1 : ((l0.length : Int) != (l1.length : Int)) = true := bne_iff_ne.mpr c3
  have c3b2 : (l0.length == l1.length) = false := by first | simpa using c3 | (simp at c3 ⊢; omega)
  obtain rfl := Option.some.inj H
  go_enter Tryz.func24, Tryz.ntmps24
  go_wp2
  repeat (go_quiet (fail); try go_wp2)
  go_ret
  exact ⟨by first | rfl | (simp; done) | (simp [*]; done) | (congr 1; omega) | (simp; omega), by repeat (first | exact Drawn0.refl _ | apply Drawn0.step)⟩
end Go.Proofs.YthngpkfckhmiiaaGreatDoor.X
end
section
set_option linter.unusedVariables false
set_option linter.unusedSimpArgs false
namespace Go.Proofs.YthngpkfckhmiiaaGreatDoor.X
open Go.RowKit Go.Proofs.YthngpkfckhmiiaaGreatDoorW.PrintWords Go.Proofs.YthngpkfckhmiiaaGreatDoorW.PrintMore
def conv (x : S26) : S34 := ⟨x.f0, x.f1, x.f2, x.f3, x.f4⟩
def mayS (x : S26) : Bool := mayR x.f0 x.f2.f0 x.f2.f1 x.f3 x.f4
def may34 (x : S34) : Bool := mayR x.f0 x.f2.f0 x.f2.f1 x.f3 x.f4
def meansS (x : S26) (A N : Int) : Bool := meansB x.f0 x.f2.f0 x.f2.f1 x.f3 x.f4 A N
def WFl (l : List S26) : Prop := ∀ x ∈ l, U32 x.f2.f0
theorem wrapS (n : Nat) (h : n ≤ 1000000) : wrap64 ((n : Int) + 1) = ((n + 1 : Nat) : Int) := by
  rw [wrap64_id _ (by omega) (by omega)]
  omega
theorem wrapP (n : Nat) (h : n ≤ 1000000) : wrap64 (((n + 1 : Nat) : Int) - 1) = (n : Int) := by
  rw [wrap64_id _ (by omega) (by omega)]
  omega
theorem rd34_nat (xs : List S34) (i : Nat) (h : i < xs.length) : rd_T34 xs (i : Int) = xs[i] := by
  unfold rd_T34
  rw [List.getD_eq_getElem?_getD]
  simp [h]
theorem rd26_nat (xs : List S26) (i : Nat) (h : i < xs.length) : rd_T26 xs (i : Int) = xs[i] := by
  unfold rd_T26
  rw [List.getD_eq_getElem?_getD]
  simp [h]
theorem rows_l0 (l : List S26) (hl : l.length ≤ 1000) : ∀ (d k i : Nat) (acc : List S34), i ≤ l.length → l.length - i = d → d < k → acc.length ≤ 1000000 - d →
    crossroadslaw07_rows.l0 k l acc (i : Int) = some (acc ++ (l.drop i).map conv) := by
  intro d
  induction d with
  | zero =>
    intro k i acc hi hd hk ha
    obtain ⟨k, rfl⟩ : ∃ m, k = m + 1 := ⟨k - 1, by omega⟩
    obtain rfl : i = l.length := by omega
    simp only [crossroadslaw07_rows.l0]
    rw [if_neg (by omega)]
    simp
  | succ d ih =>
    intro k i acc hi hd hk ha
    obtain ⟨k, rfl⟩ : ∃ m, k = m + 1 := ⟨k - 1, by omega⟩
    have hlt : i < l.length := by omega
    simp only [crossroadslaw07_rows.l0]
    rw [if_pos (by omega), if_pos (by omega), rd26_nat l i hlt, wrapS i (by omega)]
    simp only [crossroadslaw07_plain.f, Option.bind_some]
    rw [if_pos (by omega), ih k (i + 1) _ (by omega) (by omega) (by omega) (by simp only [List.length_append, List.length_singleton]; omega), List.drop_eq_getElem_cons hlt, List.map_cons, List.append_assoc]
    rfl
theorem rows_f (k : Nat) (l : List S26) (hl : l.length ≤ 1000) (hk : 1001 ≤ k) : crossroadslaw07_rows.f k l = some (l.map conv) := by
  unfold crossroadslaw07_rows.f
  have := rows_l0 l hl l.length k 0 [] (by omega) (by omega) (by omega) (by simp)
  simpa using this
def chainB : Option S34 → List S34 → Bool
  | _, [] => true
  | none, x :: r => may34 x && chainB (some x) r
  | some p, x :: r => may34 x && decide (p.f0 < x.f0) && chainB (some x) r
theorem MayAll_l0 (l : List S34) (hl : l.length ≤ 1000) (hU : ∀ x ∈ l, U32 x.f2.f0) : ∀ (d k i : Nat), i ≤ l.length → l.length - i = d → d + 50 < k →
    crossroadsref07_MayAll.l0 k l (i : Int) = some (chainB (if i = 0 then none else l[i - 1]?) (l.drop i)) := by
  intro d
  induction d with
  | zero =>
    intro k i hi hd hk
    obtain ⟨k, rfl⟩ : ∃ m, k = m + 1 := ⟨k - 1, by omega⟩
    obtain rfl : i = l.length := by omega
    simp only [crossroadsref07_MayAll.l0]
    rw [if_neg (by omega)]
    simp [chainB]
  | succ d ih =>
    intro k i hi hd hk
    obtain ⟨k, rfl⟩ : ∃ m, k = m + 1 := ⟨k - 1, by omega⟩
    have hlt : i < l.length := by omega
    have hx := hU l[i] (List.getElem_mem hlt)
    have e2 : l[i + 1 - 1]? = some l[i] := by simp [hlt]
    simp only [crossroadsref07_MayAll.l0]
    rw [if_pos (by omega), if_pos (by omega), rd34_nat l i hlt, rMay_p k (by omega) _ _ _ _ _ _ hx, List.drop_eq_getElem_cons hlt]
    simp only [Option.bind_some]
    cases hm : mayR l[i].f0 l[i].f2.f0 l[i].f2.f1 l[i].f3 l[i].f4
    · have : may34 l[i] = false := hm
      cases i with
      | zero => simp [chainB, this]
      | succ i =>
        have e3 : l[i + 1 - 1]? = some l[i] := by simp
        rw [if_neg (show ¬ (i + 1 = 0) by omega), e3]
        simp [chainB, this]
    · have hm' : may34 l[i] = true := hm
      rw [if_pos rfl]
      cases i with
      | zero =>
        rw [if_neg (by omega), wrapS 0 (by omega), ih k (0 + 1) (by omega) (by omega) (by omega)]
        rw [if_neg (by omega), e2]
        simp [chainB, hm']
      | succ i =>
        have e3 : l[i + 1 - 1]? = some l[i] := by simp
        rw [if_pos (by omega), wrapP i (by omega), if_pos (by omega), if_pos (by omega), rd34_nat l i (by omega)]
        rw [if_neg (show ¬ (i + 1 = 0) by omega), e3]
        simp only [chainB, hm', Bool.true_and]
        by_cases hle : l[i + 1].f0 ≤ l[i].f0
        · rw [if_pos hle, decide_eq_false (by omega)]
          simp
        · rw [if_neg hle, decide_eq_true (by omega), wrapS (i + 1) (by omega), ih k (i + 1 + 1) (by omega) (by omega) (by omega)]
          rw [if_neg (by omega), e2]
          simp
theorem MayAll_f (k : Nat) (l : List S34) (hl : l.length ≤ 1000) (hU : ∀ x ∈ l, U32 x.f2.f0) (hk : 1051 ≤ k) : crossroadsref07_MayAll.f k l = some (chainB none l) := by
  unfold crossroadsref07_MayAll.f
  have := MayAll_l0 l hl hU l.length k 0 (by omega) (by omega) (by omega)
  simpa using this
theorem chain_some (p : S34) (l : List S34) (h : chainB (some p) l = true) : (∀ x ∈ l, may34 x = true ∧ p.f0 < x.f0) ∧ l.Pairwise (fun a b => a.f0 < b.f0) := by
  induction l generalizing p with
  | nil => exact ⟨fun x hx => by simp at hx, List.Pairwise.nil⟩
  | cons a r ih =>
    simp only [chainB, Bool.and_eq_true, decide_eq_true_eq] at h
    obtain ⟨⟨h1, h2⟩, h3⟩ := h
    obtain ⟨h4, h5⟩ := ih a h3
    refine ⟨fun x hx => ?_, List.pairwise_cons.2 ⟨fun x hx => (h4 x hx).2, h5⟩⟩
    rcases List.mem_cons.1 hx with rfl | hx
    · exact ⟨h1, h2⟩
    · exact ⟨(h4 x hx).1, by have := (h4 x hx).2; omega⟩
theorem chain_none (l : List S34) (h : chainB none l = true) : (∀ x ∈ l, may34 x = true) ∧ l.Pairwise (fun a b => a.f0 < b.f0) := by
  cases l with
  | nil => exact ⟨fun x hx => by simp at hx, List.Pairwise.nil⟩
  | cons a r =>
    simp only [chainB, Bool.and_eq_true] at h
    obtain ⟨h4, h5⟩ := chain_some a r h.2
    refine ⟨fun x hx => ?_, List.pairwise_cons.2 ⟨fun x hx => (h4 x hx).2, h5⟩⟩
    rcases List.mem_cons.1 hx with rfl | hx
    · exact h.1
    · exact (h4 x hx).1
theorem mayR_seq {s A N ge le : Int} (h : mayR s A N ge le = true) : 1 ≤ s ∧ s ≤ 65535 := by
  unfold mayR at h
  simp only [Bool.and_eq_true, decide_eq_true_eq] at h
  exact ⟨h.1.1.1.1, h.1.1.1.2⟩
structure Good (l : List S26) : Prop where
  may : ∀ x ∈ l, mayS x = true
  asc : l.Pairwise (fun a b => a.f0 < b.f0)
theorem good_of {l : List S26} (h : chainB none (l.map conv) = true) : Good l := by
  obtain ⟨h1, h2⟩ := chain_none _ h
  refine ⟨fun x hx => h1 (conv x) (List.mem_map_of_mem hx), ?_⟩
  rw [List.pairwise_map] at h2
  exact h2
theorem Good.seqs {l : List S26} (h : Good l) : seqs l = true := by
  unfold X.seqs
  simp only [Bool.and_eq_true, List.all_eq_true, decide_eq_true_eq]
  exact ⟨fun x hx => mayR_seq (h.may x hx), h.asc⟩
theorem Same_l0 (l : List S34) (hl : l.length ≤ 1000) : ∀ (d k i : Nat), i ≤ l.length → l.length - i = d → d < k → crossroadsref07_Same.l0 k l l (i : Int) = some true := by
  intro d
  induction d with
  | zero =>
    intro k i hi hd hk
    obtain ⟨k, rfl⟩ : ∃ m, k = m + 1 := ⟨k - 1, by omega⟩
    obtain rfl : i = l.length := by omega
    simp only [crossroadsref07_Same.l0]
    rw [if_neg (by omega)]
  | succ d ih =>
    intro k i hi hd hk
    obtain ⟨k, rfl⟩ : ∃ m, k = m + 1 := ⟨k - 1, by omega⟩
    simp only [crossroadsref07_Same.l0]
    rw [if_pos (by omega), if_pos (by omega), if_pos (by omega), wrapS i (by omega)]
    simp only [beq_self_eq_true, Bool.not_true, Bool.or_self, Bool.false_eq_true, if_false]
    exact ih k (i + 1) (by omega) (by omega) (by omega)
theorem Same_f (k : Nat) (l : List S34) (hl : l.length ≤ 1000) (hk : 1001 ≤ k) : crossroadsref07_Same.f k l l = some true := by
  unfold crossroadsref07_Same.f
  rw [if_pos rfl]
  exact Same_l0 l hl l.length k 0 (by omega) (by omega) (by omega)
theorem means1_p (x : S26) (A N : Int) (hx : U32 x.f2.f0) (hA : U32 A) : means1 x A N = some (meansS x A N) := Means_p 1 (by omega) _ _ _ _ _ _ _ _ hx hA
theorem find_congr' {α : Type} {p q : α → Bool} {l : List α} (h : ∀ x ∈ l, p x = q x) : l.find? p = l.find? q := by
  induction l with
  | nil => rfl
  | cons a r ih =>
    rw [List.find?_cons, List.find?_cons, h a (by simp), ih fun x hx => h x (by simp [hx])]
def evalB (l : List S26) (A N : Int) : Bool × Int := match l.find? (fun x => meansS x A N) with | none => (false, 0) | some x => (x.f1, x.f0)
theorem Eval_p (l : List S26) (A N : Int) (hl : l.length ≤ 1000) (hU : WFl l) (hA : U32 A) : plist_Eval.f l A N = some (evalB l A N) := by
  unfold plist_Eval.f evalB
  rw [if_pos ⟨by omega, List.all_eq_true.2 fun x hx => by rw [means1_p x A N (hU x hx) hA]; rfl⟩]
  rw [find_congr' (p := fun x => (means1 x A N).getD false) (q := fun x => meansS x A N) (fun x hx => by rw [means1_p x A N (hU x hx) hA]; rfl)]
  cases l.find? (fun x => meansS x A N) <;> rfl
end Go.Proofs.YthngpkfckhmiiaaGreatDoor.X
end
section
set_option linter.unusedVariables false
set_option linter.unusedSimpArgs false
namespace Go.Proofs.YthngpkfckhmiiaaGreatDoor.X
open Go.RowKit Go.Proofs.YthngpkfckhmiiaaGreatDoorW.PrintWords Go.Proofs.YthngpkfckhmiiaaGreatDoorW.PrintMore
theorem U34 {l : List S26} (h : WFl l) : ∀ x ∈ l.map conv, U32 x.f2.f0 := by
  intro x hx
  obtain ⟨y, hy, rfl⟩ := List.mem_map.1 hx
  exact h y hy
theorem Drop_split (a b : List S26) (x : S26) (s : Int) (hl : (a ++ x :: b).length ≤ 1000000) (ha : ∀ y ∈ a, y.f0 ≠ s) (hx : x.f0 = s) : plist_Drop.f (a ++ x :: b) s = some (a ++ b, 0) := by
  have e : (a ++ x :: b).findIdx? (fun y => y.f0 == s) = some a.length := by
    rw [List.findIdx?_append, List.findIdx?_eq_none_iff.2 (by intro y hy; simpa using ha y hy)]
    simp [List.findIdx?_cons, hx]
  unfold plist_Drop.f
  rw [if_pos hl, e]
  simp [List.eraseIdx_append_of_length_le]
def insP (l : List S26) (x : S26) : List S26 := l.take (l.countP fun y => decide (y.f0 < x.f0)) ++ x :: l.drop (l.countP fun y => decide (y.f0 < x.f0))
theorem insP_len (l : List S26) (x : S26) : (insP l x).length = l.length + 1 := by
  have : (l.countP fun y => decide (y.f0 < x.f0)) ≤ l.length := List.countP_le_length
  unfold insP
  simp only [List.length_append, List.length_cons, List.length_take, List.length_drop]
  omega
theorem Add_p (l : List S26) (hl : l.length ≤ 1000) (g : Good l) (x : S26) (hU : U32 x.f2.f0) :
    plist_Add.f l x.f0 x.f1 x.f2.f0 x.f2.f1 x.f3 x.f4 = some (if mayS x = false then ([], 1) else if (l.any fun y => y.f0 == x.f0) = true then ([], 7) else if 200 ≤ l.length then ([], 8) else (insP l x, 0)) := by
  unfold plist_Add.f
  rw [May_p _ _ _ _ _ _ hU]
  simp only [Option.bind_some]
  rw [show mayR x.f0 x.f2.f0 x.f2.f1 x.f3 x.f4 = mayS x from rfl]
  cases hm : mayS x
  · simp
  rw [if_neg (show ¬ (true = false) by simp), if_neg (show ¬ (true = false) by simp), if_pos ⟨by omega, g.seqs, mayR_seq hm⟩]
  split
  · rfl
  split <;> rfl
end Go.Proofs.YthngpkfckhmiiaaGreatDoor.X
end
section
set_option linter.unusedVariables false
set_option linter.unusedSimpArgs false
namespace Go.Proofs.YthngpkfckhmiiaaGreatDoor.X
open Go.RowKit Go.Proofs.YthngpkfckhmiiaaGreatDoorW.PrintWords Go.Proofs.YthngpkfckhmiiaaGreatDoorW.PrintMore
instance : Inhabited S34 := ⟨⟨0, false, ⟨0, 0⟩, 0, 0⟩⟩
end Go.Proofs.YthngpkfckhmiiaaGreatDoor.X
end
section
namespace Go.Proofs.YthngpkfckhmiiaaGreatDoor.X
open Go.RowKit Go.Proofs.YthngpkfckhmiiaaGreatDoorW.PrintWords Go.Proofs.YthngpkfckhmiiaaGreatDoorW.PrintLast Go.Proofs.YthngpkfckhmiiaaGreatDoorW.PrintMore
attribute [local go_sem] max2_int min2_int max_two min_two max_three min_three max_four min_four   -- for this text's walks alone
set_option linter.unusedVariables false
set_option linter.unusedSimpArgs false
mutual
def crossroadslaw07_PlistBack.j0 : Nat → List (S26) → Bool → Int → Bool → Int → Int → Int → Int → Int → Int → Option (Bool)
  | 0, _, _, _, _, _, _, _, _, _, _ => none
  | k + 1, x0, x25, x359000, x359001, x359002, x359003, x359004, x359005, x360000, x360001 => if x25 = true then ((crossroadslaw07_alive.f k).bind fun t364 => (some t364)) else ((plist_Add.f x0 x359000 x359001 x359002 x359003 x359004 x359005).bind fun bt365 => (if bt365.2 = 0 then ((plist_Drop.f bt365.1 x359000).bind fun bt369 => (if bt369.2 = 0 then (if (bt365.1.length : Int) = (wrap64 ((x0.length : Int) + 1)) then ((crossroadslaw07_rows.f k bt369.1).bind fun t373 => ((crossroadslaw07_rows.f k x0).bind fun t376 => ((crossroadsref07_Same.f k t373 t376).bind fun t379 => (if t379 = true then (crossroadslaw07_PlistBack.j1 k x0 x360000 x360001) else (none))))) else (none)) else (none))) else (crossroadslaw07_PlistBack.j1 k x0 x360000 x360001)))
def crossroadslaw07_PlistBack.j1 : Nat → List (S26) → Int → Int → Option (Bool)
  | 0, _, _, _ => none
  | k + 1, x0, x360000, x360001 => (plist_Add.f x0 65535 true 0 0 0 32).bind fun bt380 => ((plist_Eval.f x0 x360000 x360001).bind fun bt384 => ((plist_Eval.f bt380.1 x360000 x360001).bind fun bt386 => (if bt380.2 = 0 then (if x360001 < 0 then (crossroadslaw07_PlistBack.j2 k bt384.1 bt384.2 bt386.1 bt386.2 true) else (if x360001 > 32 then (crossroadslaw07_PlistBack.j2 k bt384.1 bt384.2 bt386.1 bt386.2 true) else ((plist_Means.f k 1 false 0 0 0 32 x360000 x360001).bind fun t388 => (crossroadslaw07_PlistBack.j2 k bt384.1 bt384.2 bt386.1 bt386.2 (!t388))))) else (crossroadslaw07_PlistBack.j2 k bt384.1 bt384.2 bt386.1 bt386.2 true))))
def crossroadslaw07_PlistBack.j2 : Nat → Bool → Int → Bool → Int → Bool → Option (Bool)
  | 0, _, _, _, _, _ => none
  | k + 1, x13, x14, x15, x16, x95 => if x95 = true then ((crossroadslaw07_alive.f k).bind fun t389 => (some t389)) else ((crossroadslaw07_alive.f k).bind fun t390 => (if t390 = true then (if x14 = 0 then (if x15 = true then (some (x16 == 65535)) else (none)) else (if (x15 == x13) = true then (if x16 = x14 then (some true) else (none)) else (none))) else (none)))
end
def crossroadslaw07_PlistBack.f (k : Nat) (l0 : List (S26)) (a1_0 : Int) (a1_1 : Bool) (a1_2 : Int) (a1_3 : Int) (a1_4 : Int) (a1_5 : Int) (a2_0 : Int) (a2_1 : Int) : Option (Bool) := if (l0.length : Int) > 150 then (crossroadslaw07_PlistBack.j0 k l0 true a1_0 a1_1 a1_2 a1_3 a1_4 a1_5 a2_0 a2_1) else ((crossroadslaw07_rows.f k l0).bind fun t360 => ((crossroadsref07_MayAll.f k t360).bind fun t363 => (crossroadslaw07_PlistBack.j0 k l0 (!t363) a1_0 a1_1 a1_2 a1_3 a1_4 a1_5 a2_0 a2_1)))
set_option maxHeartbeats 8000000 in
set_option maxRecDepth 100000 in
theorem crossroadslaw07_PlistBack.calls (k : Nat) (A0 : Option Addr) (c0 : Nat) (l0 : List (S26)) (a1_0 : Int) (a1_1 : Bool) (a1_2 : Int) (a1_3 : Int) (a1_4 : Int) (a1_5 : Int) (a2_0 : Int) (a2_1 : Int) (r : Bool) (w : World) (hG : GW w) (hr0 : Kd.C k26 w A0 l0.length l0) (hc0 : l0.length ≤ c0) (h : crossroadslaw07_PlistBack.f k l0 a1_0 a1_1 a1_2 a1_3 a1_4 a1_5 a2_0 a2_1 = some r) :
  Calls Tryz.prog 6 #[.slice A0 l0.length c0, .agg #[.int .i64 a1_0, .bool a1_1, .int .u32 a1_2, .int .i64 a1_3, .int .i64 a1_4, .int .i64 a1_5], .agg #[.int .u32 a2_0, .int .i64 a2_1]] w fun e w' => e = .returned (.bool r) ∧ Below w.heap.size w w' := by
 have hu26 := Tryz.underlying26
 have hu24 := Tryz.underlying24
 have HR0 := Aside0.mk hr0
 have HC0 := Aside0.mk hc0
 clear hr0 hc0
 have HB := Aside0.mk (Below.refl w.heap.size w)
 have H : (if (l0.length : Int) > 150 then (crossroadslaw07_PlistBack.j0 k l0 true a1_0 a1_1 a1_2 a1_3 a1_4 a1_5 a2_0 a2_1) else ((crossroadslaw07_rows.f k l0).bind fun t360 => ((crossroadsref07_MayAll.f k t360).bind fun t363 => (crossroadslaw07_PlistBack.j0 k l0 (!t363) a1_0 a1_1 a1_2 a1_3 a1_4 a1_5 a2_0 a2_1)))) = some r := h
 clear h
 have HC4 := Aside0.mk H
 clear H
 go_enter Tryz.func6, Tryz.ntmps6
 go_upto_region 1 with (first | ((with_reducible refine gate_dst (N := 4) rfl ?_); (try (refine gate_guard (by rfl) ?_; dsimp only)); refine box_event ?hg (N := 4) ?hd (cs := #[.int .i64 a1_0, .bool a1_1, .int .u32 a1_2, .int .i64 a1_3, .int .i64 a1_4, .int .i64 a1_5]) (t := 26) ?hr ?_; (case hd => rfl); (case hg => rfl); (case hr => first | (go_simp; done)); intro gb358 hg w5 hbox hb; have n0_ := Aside0.mk (below_step (by repeat (first | (with_reducible first | exact HB.out))) hb); have n1_ := Aside0.mk (hbox); have n2_ := Aside0.mk ((by rw [hg]; exact (below_size (by repeat (first | (with_reducible first | exact HB.out)))) : w.heap.size ≤ gb358)); have n3_ := Aside0.mk ((by rw [hg]; exact (below_size (by repeat (first | (with_reducible first | exact HB.out)))) : w.heap.size ≤ gb358)); clear HB; have HB := n0_; have BK358 := n1_; have GW358 := n2_; have GE358 := n3_; clear n0_ n1_ n2_ n3_; clear hb hbox hg) | ((with_reducible refine gate_dst (N := 5) rfl ?_); (try (refine gate_guard (by rfl) ?_; dsimp only)); refine box_event ?hg (N := 5) ?hd (cs := #[.int .u32 a2_0, .int .i64 a2_1]) (t := 24) ?hr ?_; (case hd => rfl); (case hg => rfl); (case hr => first | (go_simp; done)); intro gb359 hg w6 hbox hb; have n0_ := Aside0.mk (blk_below (g := gb358) (o := .cells #[.int .i64 a1_0, .bool a1_1, .int .u32 a1_2, .int .i64 a1_3, .int .i64 a1_4, .int .i64 a1_5] 26 (0, 0)) (by (with_reducible repeat (fail)); exact BK358.out) hb); have n1_ := Aside0.mk (below_step (by repeat (first | (with_reducible first | exact HB.out))) hb); have n2_ := Aside0.mk (hbox); have n3_ := Aside0.mk ((by rw [hg]; exact (below_size (by repeat (first | (with_reducible first | exact HB.out)))) : w.heap.size ≤ gb359)); have n4_ := Aside0.mk ((by rw [hg]; exact (below_size (by repeat (first | (with_reducible first | exact HB.out)))) : w.heap.size ≤ gb359)); have n5_ := Aside0.mk ((by rw [hg]; exact Nat.ne_of_lt (blk_lt (g := gb358) (o := .cells #[.int .i64 a1_0, .bool a1_1, .int .u32 a1_2, .int .i64 a1_3, .int .i64 a1_4, .int .i64 a1_5] 26 (0, 0)) (by (with_reducible repeat (fail)); exact BK358.out)) : gb358 ≠ gb359)); have n6_ := Aside0.mk ((by rw [hg]; exact Nat.ne_of_gt (blk_lt (g := gb358) (o := .cells #[.int .i64 a1_0, .bool a1_1, .int .u32 a1_2, .int .i64 a1_3, .int .i64 a1_4, .int .i64 a1_5] 26 (0, 0)) (by (with_reducible repeat (fail)); exact BK358.out)) : gb359 ≠ gb358)); clear BK358; clear HB; have BK358 := n0_; have HB := n1_; have BK359 := n2_; have GW359 := n3_; have GE359 := n4_; have NB358_359 := n5_; have NB359_358 := n6_; clear n0_ n1_ n2_ n3_ n4_ n5_ n6_; clear hb hbox hg))
 (try simp only [Act.put, List.setIfInBounds_toArray, List.set_cons_zero, List.set_cons_succ])
 go_cut [25] (fun v25 wc => ∃ (kq : Nat) (x25_3 : Bool), v25 = .bool x25_3 ∧ Aside0 (crossroadslaw07_PlistBack.j0 kq l0 x25_3 a1_0 a1_1 a1_2 a1_3 a1_4 a1_5 a2_0 a2_1 = some r) ∧ Aside0 (kq ≤ k) ∧ Aside0 (wc.heap[gb358]? = some (.cells #[.int .i64 a1_0, .bool a1_1, .int .u32 a1_2, .int .i64 a1_3, .int .i64 a1_4, .int .i64 a1_5] 26 (0, 0))) ∧ Aside0 (wc.heap[gb359]? = some (.cells #[.int .u32 a2_0, .int .i64 a2_1] 24 (0, 0))) ∧ Aside0 (Below w.heap.size w wc))
 case first =>
  have H := HC4.out
  clear HC4
  by_cases c7 : (l0.length : Int) > 150
  ·rw [if_pos c7] at H
   have c7b0 : decide (150 < (l0.length : Int)) = true := decide_eq_true c7
   have c7b1 : decide (150 < l0.length) = true := decide_eq_true (by omega)
   clear c7
   (first | skip)
   have H' := Aside0.mk H
   clear H
   go_wp2
   go_meet
   case rel => exact ⟨_, (true), (by first | rfl), H', ⟨by first | omega⟩, ⟨by (with_reducible repeat (fail)); exact BK358.out⟩, ⟨by (with_reducible repeat (fail)); exact BK359.out⟩, ⟨by repeat (first | (with_reducible first | exact HB.out))⟩⟩
  ·rw [if_neg c7] at H
   have c7b0 : decide (150 < (l0.length : Int)) = false := decide_eq_false c7
   have c7b1 : decide (150 < l0.length) = false := decide_eq_false (by omega)
   clear c7
   (first | skip)
   replace H := Option.bind_eq_some_iff.mp H
   obtain ⟨t360, A80, H⟩ := H
   replace H : ((crossroadsref07_MayAll.f k t360).bind fun t363 => (crossroadslaw07_PlistBack.j0 k l0 (!t363) a1_0 a1_1 a1_2 a1_3 a1_4 a1_5 a2_0 a2_1)) = some r := H
   have A8 := Aside0.mk A80
   clear A80
   replace H := Option.bind_eq_some_iff.mp H
   obtain ⟨t363, A90, H⟩ := H
   replace H : (crossroadslaw07_PlistBack.j0 k l0 (!t363) a1_0 a1_1 a1_2 a1_3 a1_4 a1_5 a2_0 a2_1) = some r := H
   have A9 := Aside0.mk A90
   clear A90
   have H' := Aside0.mk H
   clear H
   go_wp2_with (first | (go_at_call 19; (with_reducible refine (crossroadslaw07_rows.calls k _ _ l0 t360 _ ?side1 ?side2 A8.out).mono ?_); (case side1 => repeat (first | exact (Kd.C_below HR0.out HB.out))); (case side2 => exact HC0.out); rintro e w10 ⟨v361, rfl, ho0, hb⟩; have n0_ := Aside0.mk (Kd.R_lower ho0 (below_size (by repeat (first | (with_reducible first | exact HB.out))))); have n1_ := Aside0.mk (blk_below (g := gb358) (o := .cells #[.int .i64 a1_0, .bool a1_1, .int .u32 a1_2, .int .i64 a1_3, .int .i64 a1_4, .int .i64 a1_5] 26 (0, 0)) (by (with_reducible repeat (fail)); exact BK358.out) hb); have n2_ := Aside0.mk (blk_below (g := gb359) (o := .cells #[.int .u32 a2_0, .int .i64 a2_1] 24 (0, 0)) (by (with_reducible repeat (fail)); exact BK359.out) hb); have n3_ := Aside0.mk (below_step (by repeat (first | (with_reducible first | exact HB.out))) hb); clear BK358; clear BK359; clear HB; have HO362 := n0_; have BK358 := n1_; have BK359 := n2_; have HB := n3_; clear n0_ n1_ n2_ n3_; (try clear hb); (try clear hb2); (try clear hk); (try clear hi); (try clear ho0); obtain ⟨Ao11, co11, eo11⟩ := Kd.R_slice HO362.out; subst eo11) | (go_at_call 18; (with_reducible refine (crossroadsref07_MayAll.calls k _ _ t360 t363 _ ?side1 ?side2 A9.out).mono ?_); (case side1 => repeat (first | exact (Kd.R_reads' HO362.out).2.2)); (case side2 => exact (Kd.R_reads' HO362.out).2.1); rintro e w12 ⟨rfl, hb⟩; have n0_ := Aside0.mk (Kd.R_below (by (with_reducible repeat (fail)); exact HO362.out) hb); have n1_ := Aside0.mk (blk_below (g := gb358) (o := .cells #[.int .i64 a1_0, .bool a1_1, .int .u32 a1_2, .int .i64 a1_3, .int .i64 a1_4, .int .i64 a1_5] 26 (0, 0)) (by (with_reducible repeat (fail)); exact BK358.out) hb); have n2_ := Aside0.mk (blk_below (g := gb359) (o := .cells #[.int .u32 a2_0, .int .i64 a2_1] 24 (0, 0)) (by (with_reducible repeat (fail)); exact BK359.out) hb); have n3_ := Aside0.mk (below_step (by repeat (first | (with_reducible first | exact HB.out))) hb); clear HO362; clear BK358; clear BK359; clear HB; have HO362 := n0_; have BK358 := n1_; have BK359 := n2_; have HB := n3_; clear n0_ n1_ n2_ n3_; (try clear hb); (try clear hb2); (try clear hk); (try clear hi)))
   go_meet
   case rel => exact ⟨_, (!t363), (by first | rfl), H', ⟨by first | omega⟩, ⟨by (with_reducible repeat (fail)); exact BK358.out⟩, ⟨by (with_reducible repeat (fail)); exact BK359.out⟩, ⟨by repeat (first | (with_reducible first | exact HB.out))⟩⟩
 case rest =>
  clear HC4
  try clear p2
  try clear c6
  try clear c7
  try clear c7b0
  try clear c7b1
  obtain ⟨kq, x25_3, rfl, HA, HJ3, BK358, BK359, HB⟩ := hcut
  cases kq with
  | zero => exact absurd HA.out (by simp [crossroadslaw07_PlistBack.j0])
  | succ kj3 =>
   have H := HA.out
   clear HA
   simp only [crossroadslaw07_PlistBack.j0] at H
   by_cases c13 : x25_3 = true
   ·subst c13
    have H1 : ((crossroadslaw07_alive.f kj3).bind fun t364 => (some t364)) = some r := by rw [if_pos rfl] at H; exact H
    clear H
    have H := H1
    clear H1
    replace H := Option.bind_eq_some_iff.mp H
    obtain ⟨t364, A140, H⟩ := H
    replace H : (some t364) = some r := H
    have A14 := Aside0.mk A140
    clear A140
    obtain rfl := Option.some.inj H
    go_wp2_with (first | ((with_reducible refine gate_callee (f := 11) rfl ?_); refine goesL_ (some 26) rfl rfl Tryz.func11 (by kernel_rfl) rfl #[] rfl (by (try simp only [List.map_toArray, List.map_cons, List.map_nil]); first | done) ?_; (with_reducible refine (crossroadslaw07_alive.calls kj3  t364 _ ?side1 A14.out).mono ?_); (case side1 => exact GW.below hG (by repeat (first | (with_reducible first | exact HB.out)))); rintro e w15 ⟨rfl, hb⟩; refine ⟨_, rfl, ?_⟩; have n0_ := Aside0.mk (blk_below (g := gb358) (o := .cells #[.int .i64 a1_0, .bool a1_1, .int .u32 a1_2, .int .i64 a1_3, .int .i64 a1_4, .int .i64 a1_5] 26 (0, 0)) (by (with_reducible repeat (fail)); exact BK358.out) hb); have n1_ := Aside0.mk (blk_below (g := gb359) (o := .cells #[.int .u32 a2_0, .int .i64 a2_1] 24 (0, 0)) (by (with_reducible repeat (fail)); exact BK359.out) hb); have n2_ := Aside0.mk (below_step (by repeat (first | (with_reducible first | exact HB.out))) hb); clear BK358; clear BK359; clear HB; have BK358 := n0_; have BK359 := n1_; have HB := n2_; clear n0_ n1_ n2_; (try clear hb); (try clear hb2); (try clear hk); (try clear hi)))
    go_ret
    exact ⟨by first | rfl, by repeat (first | (with_reducible first | exact HB.out))⟩
   ·replace c13 := Bool.eq_false_iff.mpr c13
    subst c13
    have H1 : ((plist_Add.f l0 a1_0 a1_1 a1_2 a1_3 a1_4 a1_5).bind fun bt365 => (if bt365.2 = 0 then ((plist_Drop.f bt365.1 a1_0).bind fun bt369 => (if bt369.2 = 0 then (if (bt365.1.length : Int) = (wrap64 ((l0.length : Int) + 1)) then ((crossroadslaw07_rows.f kj3 bt369.1).bind fun t373 => ((crossroadslaw07_rows.f kj3 l0).bind fun t376 => ((crossroadsref07_Same.f kj3 t373 t376).bind fun t379 => (if t379 = true then (crossroadslaw07_PlistBack.j1 kj3 l0 a2_0 a2_1) else (none))))) else (none)) else (none))) else (crossroadslaw07_PlistBack.j1 kj3 l0 a2_0 a2_1))) = some r := by rw [if_neg (show ¬ (false = true) by decide)] at H; exact H
    clear H
    have H := H1
    clear H1
    replace H := Option.bind_eq_some_iff.mp H
    obtain ⟨⟨t365, t368⟩, A160, H⟩ := H
    replace H : (if t368 = 0 then ((plist_Drop.f t365 a1_0).bind fun bt369 => (if bt369.2 = 0 then (if (t365.length : Int) = (wrap64 ((l0.length : Int) + 1)) then ((crossroadslaw07_rows.f kj3 bt369.1).bind fun t373 => ((crossroadslaw07_rows.f kj3 l0).bind fun t376 => ((crossroadsref07_Same.f kj3 t373 t376).bind fun t379 => (if t379 = true then (crossroadslaw07_PlistBack.j1 kj3 l0 a2_0 a2_1) else (none))))) else (none)) else (none))) else (crossroadslaw07_PlistBack.j1 kj3 l0 a2_0 a2_1)) = some r := H
    have A16 := Aside0.mk A160
    clear A160
    have HC17 := Aside0.mk H
    clear H
    have hnb18 := NB358_359.out
    have hnc18 := NB359_358.out
    have hcz19_0 : wc.cell? ⟨gb358, 0, none⟩ = some (.int .i64 a1_0) := (blk_cell BK358.out 0).trans rfl
    have hcz19_1 : wc.cell? ⟨gb358, 1, none⟩ = some (.bool a1_1) := (blk_cell BK358.out 1).trans rfl
    have hcz19_2 : wc.cell? ⟨gb358, 2, none⟩ = some (.int .u32 a1_2) := (blk_cell BK358.out 2).trans rfl
    have hcz19_3 : wc.cell? ⟨gb358, 3, none⟩ = some (.int .i64 a1_3) := (blk_cell BK358.out 3).trans rfl
    have hcz19_4 : wc.cell? ⟨gb358, 4, none⟩ = some (.int .i64 a1_4) := (blk_cell BK358.out 4).trans rfl
    have hcz19_5 : wc.cell? ⟨gb358, 5, none⟩ = some (.int .i64 a1_5) := (blk_cell BK358.out 5).trans rfl
    have hfz19_0 := blk_frozen BK358.out 0
    have hfz19_1 := blk_frozen BK358.out 1
    have hfz19_2 := blk_frozen BK358.out 2
    have hfz19_3 := blk_frozen BK358.out 3
    have hfz19_4 := blk_frozen BK358.out 4
    have hfz19_5 := blk_frozen BK358.out 5
    go_upto_if 34 with (first | ((with_reducible refine gate_callee (f := 23) rfl ?_); refine goesL_ (some 30) rfl rfl Tryz.func23 (by kernel_rfl) rfl #[.slice A0 l0.length c0, .agg #[.int .i64 a1_0, .bool a1_1, .int .u32 a1_2, .int .i64 a1_3, .int .i64 a1_4, .int .i64 a1_5]] rfl (by (try simp only [List.map_toArray, List.map_cons, List.map_nil]); first | rfl) ?_; (with_reducible refine (plist_Add.calls _ _ l0 a1_0 a1_1 a1_2 a1_3 a1_4 a1_5 t365 t368 _ ?side1 ?side2 A16.out).mono ?_); (case side1 => repeat (first | exact (Kd.C_below HR0.out HB.out))); (case side2 => exact HC0.out); rintro e w20 ⟨v366, rfl, ho0, hb⟩; refine ⟨_, rfl, ?_⟩; have n0_ := Aside0.mk (Kd.R_lower (Kd.R_newB ho0 (g := gb358) (o := .cells #[.int .i64 a1_0, .bool a1_1, .int .u32 a1_2, .int .i64 a1_3, .int .i64 a1_4, .int .i64 a1_5] 26 (0, 0)) (by (with_reducible repeat (fail)); exact BK358.out)) (below_size (by repeat (first | (with_reducible first | exact HB.out))))); have n1_ := Aside0.mk (blk_below (g := gb358) (o := .cells #[.int .i64 a1_0, .bool a1_1, .int .u32 a1_2, .int .i64 a1_3, .int .i64 a1_4, .int .i64 a1_5] 26 (0, 0)) (by (with_reducible repeat (fail)); exact BK358.out) hb); have n2_ := Aside0.mk (blk_below (g := gb359) (o := .cells #[.int .u32 a2_0, .int .i64 a2_1] 24 (0, 0)) (by (with_reducible repeat (fail)); exact BK359.out) hb); have n3_ := Aside0.mk (below_step (by repeat (first | (with_reducible first | exact HB.out))) hb); clear BK358; clear BK359; clear HB; have HO367 := n0_; have BK358 := n1_; have BK359 := n2_; have HB := n3_; clear n0_ n1_ n2_ n3_; (try clear hb); (try clear hb2); (try clear hk); (try clear hi); (try clear ho0)))
    (try simp only [Act.put, List.setIfInBounds_toArray, List.set_cons_zero, List.set_cons_succ])
    go_cut [] (fun wc => ∃ (kq : Nat), Aside0 (crossroadslaw07_PlistBack.j1 kq l0 a2_0 a2_1 = some r) ∧ Aside0 (kq ≤ kj3) ∧ Aside0 (wc.heap[gb358]? = some (.cells #[.int .i64 a1_0, .bool a1_1, .int .u32 a1_2, .int .i64 a1_3, .int .i64 a1_4, .int .i64 a1_5] 26 (0, 0))) ∧ Aside0 (wc.heap[gb359]? = some (.cells #[.int .u32 a2_0, .int .i64 a2_1] 24 (0, 0))) ∧ Aside0 (Below w.heap.size w wc))
    case first =>
     have H := HC17.out
     clear HC17
     by_cases c21 : t368 = 0
     ·rw [if_pos c21] at H
      have c21b0 : (t368 == 0) = true := beq_iff_eq.mpr c21
      have c21b1 : (t368 != 0) = false := bne_eq_false_iff_eq.mpr c21
      clear c21
      (first | rw [c21b0])
      replace H := Option.bind_eq_some_iff.mp H
      obtain ⟨⟨t369, t370⟩, A220, H⟩ := H
      replace H : (if t370 = 0 then (if (t365.length : Int) = (wrap64 ((l0.length : Int) + 1)) then ((crossroadslaw07_rows.f kj3 t369).bind fun t373 => ((crossroadslaw07_rows.f kj3 l0).bind fun t376 => ((crossroadsref07_Same.f kj3 t373 t376).bind fun t379 => (if t379 = true then (crossroadslaw07_PlistBack.j1 kj3 l0 a2_0 a2_1) else (none))))) else (none)) else (none)) = some r := H
      have A22 := Aside0.mk A220
      clear A220
      by_cases c23 : t370 = 0
      ·rw [if_pos c23] at H
       have c23b0 : (t370 == 0) = true := beq_iff_eq.mpr c23
       have c23b1 : (t370 != 0) = false := bne_eq_false_iff_eq.mpr c23
       clear c23
       by_cases c24 : (t365.length : Int) = (wrap64 ((l0.length : Int) + 1))
       ·rw [if_pos c24] at H
        have c24b0 : ((t365.length : Int) == (wrap64 ((l0.length : Int) + 1))) = true := beq_iff_eq.mpr c24
        have c24b1 : ((t365.length : Int) != (wrap64 ((l0.length : Int) + 1))) = false := bne_eq_false_iff_eq.mpr c24
        clear c24
        replace H := Option.bind_eq_some_iff.mp H
        obtain ⟨t373, A250, H⟩ := H
        replace H : ((crossroadslaw07_rows.f kj3 l0).bind fun t376 => ((crossroadsref07_Same.f kj3 t373 t376).bind fun t379 => (if t379 = true then (crossroadslaw07_PlistBack.j1 kj3 l0 a2_0 a2_1) else (none)))) = some r := H
        have A25 := Aside0.mk A250
        clear A250
        replace H := Option.bind_eq_some_iff.mp H
        obtain ⟨t376, A260, H⟩ := H
        replace H : ((crossroadsref07_Same.f kj3 t373 t376).bind fun t379 => (if t379 = true then (crossroadslaw07_PlistBack.j1 kj3 l0 a2_0 a2_1) else (none))) = some r := H
        have A26 := Aside0.mk A260
        clear A260
        replace H := Option.bind_eq_some_iff.mp H
        obtain ⟨t379, A270, H⟩ := H
        replace H : (if t379 = true then (crossroadslaw07_PlistBack.j1 kj3 l0 a2_0 a2_1) else (none)) = some r := H
        have A27 := Aside0.mk A270
        clear A270
        by_cases c28 : t379 = true
        ·subst c28
         have H1 : (crossroadslaw07_PlistBack.j1 kj3 l0 a2_0 a2_1) = some r := by rw [if_pos rfl] at H; exact H
         clear H
         have H := H1
         clear H1
         have H' := Aside0.mk H
         clear H
         have hnb29 := NB358_359.out
         have hnc29 := NB359_358.out
         have hcz30_0 : w20.cell? ⟨gb358, 0, none⟩ = some (.int .i64 a1_0) := (blk_cell BK358.out 0).trans rfl
         have hcz30_1 : w20.cell? ⟨gb358, 1, none⟩ = some (.bool a1_1) := (blk_cell BK358.out 1).trans rfl
         have hcz30_2 : w20.cell? ⟨gb358, 2, none⟩ = some (.int .u32 a1_2) := (blk_cell BK358.out 2).trans rfl
         have hcz30_3 : w20.cell? ⟨gb358, 3, none⟩ = some (.int .i64 a1_3) := (blk_cell BK358.out 3).trans rfl
         have hcz30_4 : w20.cell? ⟨gb358, 4, none⟩ = some (.int .i64 a1_4) := (blk_cell BK358.out 4).trans rfl
         have hcz30_5 : w20.cell? ⟨gb358, 5, none⟩ = some (.int .i64 a1_5) := (blk_cell BK358.out 5).trans rfl
         have hfz30_0 := blk_frozen BK358.out 0
         have hfz30_1 := blk_frozen BK358.out 1
         have hfz30_2 := blk_frozen BK358.out 2
         have hfz30_3 := blk_frozen BK358.out 3
         have hfz30_4 := blk_frozen BK358.out 4
         have hfz30_5 := blk_frozen BK358.out 5
         obtain ⟨Ao31, co31, eo31⟩ := Kd.R_slice HO367.out
         subst eo31
         go_wp2_with (first | ((with_reducible refine gate_callee (f := 21) rfl ?_); refine goesL_ (some 39) rfl rfl Tryz.func21 (by kernel_rfl) rfl #[.slice Ao31 t365.length co31, .int .i64 a1_0] rfl (by (try simp only [List.map_toArray, List.map_cons, List.map_nil]); first | rfl) ?_; (with_reducible refine (plist_Drop.calls _ _ t365 a1_0 t369 t370 _ ?side1 ?side2 A22.out).mono ?_); (case side1 => repeat (first | exact (Kd.R_reads' HO367.out).2.2)); (case side2 => exact (Kd.R_reads' HO367.out).2.1); rintro e w32 ⟨v371, rfl, ho0, hb⟩; refine ⟨_, rfl, ?_⟩; have n0_ := Aside0.mk (Kd.R_elder' (by (with_reducible repeat (fail)); exact HO367.out) (Kd.R_base ho0) hb); have n1_ := Aside0.mk (Kd.R_lower (Kd.R_newB (Kd.R_new' ho0 (Kd.R_lt (by (with_reducible repeat (fail)); exact HO367.out))) (g := gb358) (o := .cells #[.int .i64 a1_0, .bool a1_1, .int .u32 a1_2, .int .i64 a1_3, .int .i64 a1_4, .int .i64 a1_5] 26 (0, 0)) (by (with_reducible repeat (fail)); exact BK358.out)) (below_size (by repeat (first | (with_reducible first | exact HB.out))))); have n2_ := Aside0.mk (blk_below (g := gb358) (o := .cells #[.int .i64 a1_0, .bool a1_1, .int .u32 a1_2, .int .i64 a1_3, .int .i64 a1_4, .int .i64 a1_5] 26 (0, 0)) (by (with_reducible repeat (fail)); exact BK358.out) hb); have n3_ := Aside0.mk (blk_below (g := gb359) (o := .cells #[.int .u32 a2_0, .int .i64 a2_1] 24 (0, 0)) (by (with_reducible repeat (fail)); exact BK359.out) hb); have n4_ := Aside0.mk (below_step (by repeat (first | (with_reducible first | exact HB.out))) hb); clear HO367; clear BK358; clear BK359; clear HB; have HO367 := n0_; have HO372 := n1_; have BK358 := n2_; have BK359 := n3_; have HB := n4_; clear n0_ n1_ n2_ n3_ n4_; (try clear hb); (try clear hb2); (try clear hk); (try clear hi); (try clear ho0); obtain ⟨Ao33, co33, eo33⟩ := Kd.R_slice HO372.out; subst eo33) | (go_at_call 19; (with_reducible refine (crossroadslaw07_rows.calls kj3 _ _ t369 t373 _ ?side1 ?side2 A25.out).mono ?_); (case side1 => repeat (first | exact (Kd.R_reads' HO372.out).2.2)); (case side2 => exact (Kd.R_reads' HO372.out).2.1); rintro e w34 ⟨v374, rfl, ho0, hb⟩; have n0_ := Aside0.mk (Kd.R_below (by (with_reducible repeat (fail)); exact HO367.out) hb); have n1_ := Aside0.mk (Kd.R_below (by (with_reducible repeat (fail)); exact HO372.out) hb); have n2_ := Aside0.mk (Kd.R_lower ho0 (below_size (by repeat (first | (with_reducible first | exact HB.out))))); have n3_ := Aside0.mk (blk_below (g := gb358) (o := .cells #[.int .i64 a1_0, .bool a1_1, .int .u32 a1_2, .int .i64 a1_3, .int .i64 a1_4, .int .i64 a1_5] 26 (0, 0)) (by (with_reducible repeat (fail)); exact BK358.out) hb); have n4_ := Aside0.mk (blk_below (g := gb359) (o := .cells #[.int .u32 a2_0, .int .i64 a2_1] 24 (0, 0)) (by (with_reducible repeat (fail)); exact BK359.out) hb); have n5_ := Aside0.mk (below_step (by repeat (first | (with_reducible first | exact HB.out))) hb); clear HO367; clear HO372; clear BK358; clear BK359; clear HB; have HO367 := n0_; have HO372 := n1_; have HO375 := n2_; have BK358 := n3_; have BK359 := n4_; have HB := n5_; clear n0_ n1_ n2_ n3_ n4_ n5_; (try clear hb); (try clear hb2); (try clear hk); (try clear hi); (try clear ho0)) | (go_at_call 19; (with_reducible refine (crossroadslaw07_rows.calls kj3 _ _ l0 t376 _ ?side1 ?side2 A26.out).mono ?_); (case side1 => repeat (first | exact (Kd.C_below HR0.out HB.out))); (case side2 => exact HC0.out); rintro e w35 ⟨v377, rfl, ho0, hb⟩; have n0_ := Aside0.mk (Kd.R_below (by (with_reducible repeat (fail)); exact HO367.out) hb); have n1_ := Aside0.mk (Kd.R_below (by (with_reducible repeat (fail)); exact HO372.out) hb); have n2_ := Aside0.mk (Kd.R_elder' (by (with_reducible repeat (fail)); exact HO375.out) (Kd.R_base ho0) hb); have n3_ := Aside0.mk (Kd.R_lower (Kd.R_new' ho0 (Kd.R_lt (by (with_reducible repeat (fail)); exact HO375.out))) (below_size (by repeat (first | (with_reducible first | exact HB.out))))); have n4_ := Aside0.mk (blk_below (g := gb358) (o := .cells #[.int .i64 a1_0, .bool a1_1, .int .u32 a1_2, .int .i64 a1_3, .int .i64 a1_4, .int .i64 a1_5] 26 (0, 0)) (by (with_reducible repeat (fail)); exact BK358.out) hb); have n5_ := Aside0.mk (blk_below (g := gb359) (o := .cells #[.int .u32 a2_0, .int .i64 a2_1] 24 (0, 0)) (by (with_reducible repeat (fail)); exact BK359.out) hb); have n6_ := Aside0.mk (below_step (by repeat (first | (with_reducible first | exact HB.out))) hb); clear HO367; clear HO372; clear HO375; clear BK358; clear BK359; clear HB; have HO367 := n0_; have HO372 := n1_; have HO375 := n2_; have HO378 := n3_; have BK358 := n4_; have BK359 := n5_; have HB := n6_; clear n0_ n1_ n2_ n3_ n4_ n5_ n6_; (try clear hb); (try clear hb2); (try clear hk); (try clear hi); (try clear ho0); obtain ⟨Ao36, co36, eo36⟩ := Kd.R_slice HO375.out; subst eo36; obtain ⟨Ao37, co37, eo37⟩ := Kd.R_slice HO378.out; subst eo37) | (go_at_call 24; (with_reducible refine (crossroadsref07_Same.calls kj3 _ _ t373 _ _ t376 true _ ?side1 ?side2 ?side3 ?side4 A27.out).mono ?_); (case side1 => repeat (first | exact (Kd.R_reads' HO375.out).2.2)); (case side2 => exact (Kd.R_reads' HO375.out).2.1); (case side3 => repeat (first | exact (Kd.R_reads' HO378.out).2.2)); (case side4 => exact (Kd.R_reads' HO378.out).2.1); rintro e w' ⟨rfl, ⟨nd, rfl⟩⟩))
         go_meet
         case rel => exact ⟨_, H', ⟨by have := HJ3.out; first | omega⟩, ⟨by (with_reducible repeat (first | refine blk_drewN ?_ _)); exact BK358.out⟩, ⟨by (with_reducible repeat (first | refine blk_drewN ?_ _)); exact BK359.out⟩, ⟨by repeat (first | (with_reducible first | exact HB.out | apply pw_below_drewN))⟩⟩
        ·replace c28 := Bool.eq_false_iff.mpr c28
         subst c28
         have H1 : (none) = some r := by rw [if_neg (show ¬ (false = true) by decide)] at H; exact H
         clear H
         have H := H1
         clear H1
         exact absurd H (by simp)
       ·rw [if_neg c24] at H
        exact absurd H (by simp)
      ·rw [if_neg c23] at H
       exact absurd H (by simp)
     ·rw [if_neg c21] at H
      have c21b0 : (t368 == 0) = false := beq_eq_false_iff_ne.mpr c21
      have c21b1 : (t368 != 0) = true := bne_iff_ne.mpr c21
      (first | rw [c21b0])
      have H' := Aside0.mk H
      clear H
      go_wp2
      go_meet
      case rel => exact ⟨_, H', ⟨by have := HJ3.out; first | omega⟩, ⟨by (with_reducible repeat (fail)); exact BK358.out⟩, ⟨by (with_reducible repeat (fail)); exact BK359.out⟩, ⟨by repeat (first | (with_reducible first | exact HB.out))⟩⟩
    case rest =>
     clear HC17
     try clear c1
     try clear c2
     try clear p2
     try clear c6
     try clear p6
     try clear c7
     try clear c7b0
     try clear c7b1
     try clear c11
     try clear c13
     try clear c18
     try clear c21
     try clear c21b0
     try clear c21b1
     try clear c23
     try clear c23b0
     try clear c23b1
     try clear c24
     try clear c24b0
     try clear c24b1
     try clear c28
     try clear c29
     try clear hcz19_0
     try clear hcz19_1
     try clear hcz19_2
     try clear hcz19_3
     try clear hcz19_4
     try clear hcz19_5
     try clear hcz30_0
     try clear hcz30_1
     try clear hcz30_2
     try clear hcz30_3
     try clear hcz30_4
     try clear hcz30_5
     try clear hfz19_0
     try clear hfz19_1
     try clear hfz19_2
     try clear hfz19_3
     try clear hfz19_4
     try clear hfz19_5
     try clear hfz30_0
     try clear hfz30_1
     try clear hfz30_2
     try clear hfz30_3
     try clear hfz30_4
     try clear hfz30_5
     try clear p2
     obtain ⟨kq, HA, HJ16, BK358, BK359, HB⟩ := hcut
     cases kq with
     | zero => exact absurd HA.out (by simp [crossroadslaw07_PlistBack.j1])
     | succ kj16 =>
      have H := HA.out
      clear HA
      simp only [crossroadslaw07_PlistBack.j1] at H
      replace H := Option.bind_eq_some_iff.mp H
      obtain ⟨⟨t380, t383⟩, A380, H⟩ := H
      replace H : ((plist_Eval.f l0 a2_0 a2_1).bind fun bt384 => ((plist_Eval.f t380 a2_0 a2_1).bind fun bt386 => (if t383 = 0 then (if a2_1 < 0 then (crossroadslaw07_PlistBack.j2 kj16 bt384.1 bt384.2 bt386.1 bt386.2 true) else (if a2_1 > 32 then (crossroadslaw07_PlistBack.j2 kj16 bt384.1 bt384.2 bt386.1 bt386.2 true) else ((plist_Means.f kj16 1 false 0 0 0 32 a2_0 a2_1).bind fun t388 => (crossroadslaw07_PlistBack.j2 kj16 bt384.1 bt384.2 bt386.1 bt386.2 (!t388))))) else (crossroadslaw07_PlistBack.j2 kj16 bt384.1 bt384.2 bt386.1 bt386.2 true)))) = some r := H
      have A38 := Aside0.mk A380
      clear A380
      replace H := Option.bind_eq_some_iff.mp H
      obtain ⟨⟨t384, t385⟩, A390, H⟩ := H
      replace H : ((plist_Eval.f t380 a2_0 a2_1).bind fun bt386 => (if t383 = 0 then (if a2_1 < 0 then (crossroadslaw07_PlistBack.j2 kj16 t384 t385 bt386.1 bt386.2 true) else (if a2_1 > 32 then (crossroadslaw07_PlistBack.j2 kj16 t384 t385 bt386.1 bt386.2 true) else ((plist_Means.f kj16 1 false 0 0 0 32 a2_0 a2_1).bind fun t388 => (crossroadslaw07_PlistBack.j2 kj16 t384 t385 bt386.1 bt386.2 (!t388))))) else (crossroadslaw07_PlistBack.j2 kj16 t384 t385 bt386.1 bt386.2 true))) = some r := H
      have A39 := Aside0.mk A390
      clear A390
      replace H := Option.bind_eq_some_iff.mp H
      obtain ⟨⟨t386, t387⟩, A400, H⟩ := H
      replace H : (if t383 = 0 then (if a2_1 < 0 then (crossroadslaw07_PlistBack.j2 kj16 t384 t385 t386 t387 true) else (if a2_1 > 32 then (crossroadslaw07_PlistBack.j2 kj16 t384 t385 t386 t387 true) else ((plist_Means.f kj16 1 false 0 0 0 32 a2_0 a2_1).bind fun t388 => (crossroadslaw07_PlistBack.j2 kj16 t384 t385 t386 t387 (!t388))))) else (crossroadslaw07_PlistBack.j2 kj16 t384 t385 t386 t387 true)) = some r := H
      have A40 := Aside0.mk A400
      clear A400
      have HC41 := Aside0.mk H
      clear H
      go_upto_region 11 with (first | ((with_reducible refine gate_callee (f := 23) rfl ?_); refine goesL_ (some 63) rfl rfl Tryz.func23 (by kernel_rfl) rfl #[.slice A0 l0.length c0, .agg #[.int .i64 65535, .bool true, .int .u32 0, .int .i64 0, .int .i64 0, .int .i64 32]] rfl (by (try simp only [List.map_toArray, List.map_cons, List.map_nil]); first | rfl) ?_; (with_reducible refine (plist_Add.calls _ _ l0 65535 true 0 0 0 32 t380 t383 _ ?side1 ?side2 A38.out).mono ?_); (case side1 => repeat (first | exact (Kd.C_below HR0.out HB.out))); (case side2 => exact HC0.out); rintro e w42 ⟨v381, rfl, ho0, hb⟩; refine ⟨_, rfl, ?_⟩; have n0_ := Aside0.mk (Kd.R_lower (Kd.R_newB ho0 (g := gb358) (o := .cells #[.int .i64 a1_0, .bool a1_1, .int .u32 a1_2, .int .i64 a1_3, .int .i64 a1_4, .int .i64 a1_5] 26 (0, 0)) (by (with_reducible repeat (fail)); exact BK358.out)) (below_size (by repeat (first | (with_reducible first | exact HB.out))))); have n1_ := Aside0.mk (blk_below (g := gb358) (o := .cells #[.int .i64 a1_0, .bool a1_1, .int .u32 a1_2, .int .i64 a1_3, .int .i64 a1_4, .int .i64 a1_5] 26 (0, 0)) (by (with_reducible repeat (fail)); exact BK358.out) hb); have n2_ := Aside0.mk (blk_below (g := gb359) (o := .cells #[.int .u32 a2_0, .int .i64 a2_1] 24 (0, 0)) (by (with_reducible repeat (fail)); exact BK359.out) hb); have n3_ := Aside0.mk (below_step (by repeat (first | (with_reducible first | exact HB.out))) hb); clear BK358; clear BK359; clear HB; have HO382 := n0_; have BK358 := n1_; have BK359 := n2_; have HB := n3_; clear n0_ n1_ n2_ n3_; (try clear hb); (try clear hb2); (try clear hk); (try clear hi); (try clear ho0); have hnb43 := NB359_358.out; have hnc43 := NB358_359.out; have hcz44_0 : w42.cell? ⟨gb359, 0, none⟩ = some (.int .u32 a2_0) := (blk_cell BK359.out 0).trans rfl; have hcz44_1 : w42.cell? ⟨gb359, 1, none⟩ = some (.int .i64 a2_1) := (blk_cell BK359.out 1).trans rfl; have hfz44_0 := blk_frozen BK359.out 0; have hfz44_1 := blk_frozen BK359.out 1) | ((with_reducible refine gate_callee (f := 22) rfl ?_); refine goesL_ (some 69) rfl rfl Tryz.func22 (by kernel_rfl) rfl #[.slice A0 l0.length c0, .agg #[.int .u32 a2_0, .int .i64 a2_1]] rfl (by (try simp only [List.map_toArray, List.map_cons, List.map_nil]); first | rfl) ?_; (with_reducible refine (plist_Eval.calls _ _ l0 a2_0 a2_1 t384 t385 _ ?side1 ?side2 A39.out).mono ?_); (case side1 => repeat (first | exact (Kd.C_below HR0.out HB.out))); (case side2 => exact HC0.out); rintro e w45 ⟨rfl, hb⟩; refine ⟨_, rfl, ?_⟩; have n0_ := Aside0.mk (Kd.R_below (by (with_reducible repeat (fail)); exact HO382.out) hb); have n1_ := Aside0.mk (blk_below (g := gb358) (o := .cells #[.int .i64 a1_0, .bool a1_1, .int .u32 a1_2, .int .i64 a1_3, .int .i64 a1_4, .int .i64 a1_5] 26 (0, 0)) (by (with_reducible repeat (fail)); exact BK358.out) hb); have n2_ := Aside0.mk (blk_below (g := gb359) (o := .cells #[.int .u32 a2_0, .int .i64 a2_1] 24 (0, 0)) (by (with_reducible repeat (fail)); exact BK359.out) hb); have n3_ := Aside0.mk (below_step (by repeat (first | (with_reducible first | exact HB.out))) hb); clear HO382; clear BK358; clear BK359; clear HB; have HO382 := n0_; have BK358 := n1_; have BK359 := n2_; have HB := n3_; clear n0_ n1_ n2_ n3_; (try clear hb); (try clear hb2); (try clear hk); (try clear hi); have hcz46_0 : w45.cell? ⟨gb359, 0, none⟩ = some (.int .u32 a2_0) := (blk_cell BK359.out 0).trans rfl; have hcz46_1 : w45.cell? ⟨gb359, 1, none⟩ = some (.int .i64 a2_1) := (blk_cell BK359.out 1).trans rfl; have hfz46_0 := blk_frozen BK359.out 0; have hfz46_1 := blk_frozen BK359.out 1; obtain ⟨Ao47, co47, eo47⟩ := Kd.R_slice HO382.out; subst eo47) | ((with_reducible refine gate_callee (f := 22) rfl ?_); refine goesL_ (some 75) rfl rfl Tryz.func22 (by kernel_rfl) rfl #[.slice Ao47 t380.length co47, .agg #[.int .u32 a2_0, .int .i64 a2_1]] rfl (by (try simp only [List.map_toArray, List.map_cons, List.map_nil]); first | rfl) ?_; (with_reducible refine (plist_Eval.calls _ _ t380 a2_0 a2_1 t386 t387 _ ?side1 ?side2 A40.out).mono ?_); (case side1 => repeat (first | exact (Kd.R_reads' HO382.out).2.2)); (case side2 => exact (Kd.R_reads' HO382.out).2.1); rintro e w48 ⟨rfl, hb⟩; refine ⟨_, rfl, ?_⟩; have n0_ := Aside0.mk (Kd.R_below (by (with_reducible repeat (fail)); exact HO382.out) hb); have n1_ := Aside0.mk (blk_below (g := gb358) (o := .cells #[.int .i64 a1_0, .bool a1_1, .int .u32 a1_2, .int .i64 a1_3, .int .i64 a1_4, .int .i64 a1_5] 26 (0, 0)) (by (with_reducible repeat (fail)); exact BK358.out) hb); have n2_ := Aside0.mk (blk_below (g := gb359) (o := .cells #[.int .u32 a2_0, .int .i64 a2_1] 24 (0, 0)) (by (with_reducible repeat (fail)); exact BK359.out) hb); have n3_ := Aside0.mk (below_step (by repeat (first | (with_reducible first | exact HB.out))) hb); clear HO382; clear BK358; clear BK359; clear HB; have HO382 := n0_; have BK358 := n1_; have BK359 := n2_; have HB := n3_; clear n0_ n1_ n2_ n3_; (try clear hb); (try clear hb2); (try clear hk); (try clear hi)))
      (try simp only [Act.put, List.setIfInBounds_toArray, List.set_cons_zero, List.set_cons_succ])
      go_cut [95] (fun v95 wc => ∃ (kq : Nat) (x95_40 : Bool), v95 = .bool x95_40 ∧ Aside0 (crossroadslaw07_PlistBack.j2 kq t384 t385 t386 t387 x95_40 = some r) ∧ Aside0 (kq ≤ kj16) ∧ Aside0 (wc.heap[gb358]? = some (.cells #[.int .i64 a1_0, .bool a1_1, .int .u32 a1_2, .int .i64 a1_3, .int .i64 a1_4, .int .i64 a1_5] 26 (0, 0))) ∧ Aside0 (wc.heap[gb359]? = some (.cells #[.int .u32 a2_0, .int .i64 a2_1] 24 (0, 0))) ∧ Aside0 (Below w.heap.size w wc))
      case first =>
       have H := HC41.out
       clear HC41
       by_cases c49 : t383 = 0
       ·rw [if_pos c49] at H
        have c49b0 : (t383 == 0) = true := beq_iff_eq.mpr c49
        have c49b1 : (t383 != 0) = false := bne_eq_false_iff_eq.mpr c49
        clear c49
        (first | skip)
        by_cases c50 : a2_1 < 0
        ·rw [if_pos c50] at H
         have c50b0 : decide (a2_1 < 0) = true := decide_eq_true c50
         clear c50
         have H' := Aside0.mk H
         clear H
         have hnb51 := NB359_358.out
         have hnc51 := NB358_359.out
         have hcz52_0 : w48.cell? ⟨gb359, 0, none⟩ = some (.int .u32 a2_0) := (blk_cell BK359.out 0).trans rfl
         have hcz52_1 : w48.cell? ⟨gb359, 1, none⟩ = some (.int .i64 a2_1) := (blk_cell BK359.out 1).trans rfl
         have hfz52_0 := blk_frozen BK359.out 0
         have hfz52_1 := blk_frozen BK359.out 1
         go_wp2
         go_meet
         case rel => exact ⟨_, (true), (by first | rfl), H', ⟨by have := HJ3.out; have := HJ16.out; first | omega⟩, ⟨by (with_reducible repeat (fail)); exact BK358.out⟩, ⟨by (with_reducible repeat (fail)); exact BK359.out⟩, ⟨by repeat (first | (with_reducible first | exact HB.out))⟩⟩
        ·rw [if_neg c50] at H
         have c50b0 : decide (a2_1 < 0) = false := decide_eq_false c50
         clear c50
         by_cases c53 : a2_1 > 32
         ·rw [if_pos c53] at H
          have c53b0 : decide (32 < a2_1) = true := decide_eq_true c53
          clear c53
          have H' := Aside0.mk H
          clear H
          have hnb54 := NB359_358.out
          have hnc54 := NB358_359.out
          have hcz55_0 : w48.cell? ⟨gb359, 0, none⟩ = some (.int .u32 a2_0) := (blk_cell BK359.out 0).trans rfl
          have hcz55_1 : w48.cell? ⟨gb359, 1, none⟩ = some (.int .i64 a2_1) := (blk_cell BK359.out 1).trans rfl
          have hfz55_0 := blk_frozen BK359.out 0
          have hfz55_1 := blk_frozen BK359.out 1
          go_wp2
          go_meet
          case rel => exact ⟨_, (true), (by first | rfl), H', ⟨by have := HJ3.out; have := HJ16.out; first | omega⟩, ⟨by (with_reducible repeat (fail)); exact BK358.out⟩, ⟨by (with_reducible repeat (fail)); exact BK359.out⟩, ⟨by repeat (first | (with_reducible first | exact HB.out))⟩⟩
         ·rw [if_neg c53] at H
          have c53b0 : decide (32 < a2_1) = false := decide_eq_false c53
          clear c53
          replace H := Option.bind_eq_some_iff.mp H
          obtain ⟨t388, A560, H⟩ := H
          replace H : (crossroadslaw07_PlistBack.j2 kj16 t384 t385 t386 t387 (!t388)) = some r := H
          have A56 := Aside0.mk A560
          clear A560
          have H' := Aside0.mk H
          clear H
          have hnb57 := NB359_358.out
          have hnc57 := NB358_359.out
          have hcz58_0 : w48.cell? ⟨gb359, 0, none⟩ = some (.int .u32 a2_0) := (blk_cell BK359.out 0).trans rfl
          have hcz58_1 : w48.cell? ⟨gb359, 1, none⟩ = some (.int .i64 a2_1) := (blk_cell BK359.out 1).trans rfl
          have hfz58_0 := blk_frozen BK359.out 0
          have hfz58_1 := blk_frozen BK359.out 1
          go_wp2_with (first | (go_at_call 14; (with_reducible refine (plist_Means.calls kj16 1 false 0 0 0 32 a2_0 a2_1 t388 _ A56.out).mono ?_); rintro e w59 ⟨rfl, hb⟩; have n0_ := Aside0.mk (Kd.R_below (by (with_reducible repeat (fail)); exact HO382.out) hb); have n1_ := Aside0.mk (blk_below (g := gb358) (o := .cells #[.int .i64 a1_0, .bool a1_1, .int .u32 a1_2, .int .i64 a1_3, .int .i64 a1_4, .int .i64 a1_5] 26 (0, 0)) (by (with_reducible repeat (fail)); exact BK358.out) hb); have n2_ := Aside0.mk (blk_below (g := gb359) (o := .cells #[.int .u32 a2_0, .int .i64 a2_1] 24 (0, 0)) (by (with_reducible repeat (fail)); exact BK359.out) hb); have n3_ := Aside0.mk (below_step (by repeat (first | (with_reducible first | exact HB.out))) hb); clear HO382; clear BK358; clear BK359; clear HB; have HO382 := n0_; have BK358 := n1_; have BK359 := n2_; have HB := n3_; clear n0_ n1_ n2_ n3_; (try clear hb); (try clear hb2); (try clear hk); (try clear hi)))
          go_meet
          case rel => exact ⟨_, (!t388), (by first | rfl), H', ⟨by have := HJ3.out; have := HJ16.out; first | omega⟩, ⟨by (with_reducible repeat (fail)); exact BK358.out⟩, ⟨by (with_reducible repeat (fail)); exact BK359.out⟩, ⟨by repeat (first | (with_reducible first | exact HB.out))⟩⟩
       ·rw [if_neg c49] at H
        have c49b0 : (t383 == 0) = false := beq_eq_false_iff_ne.mpr c49
        have c49b1 : (t383 != 0) = true := bne_iff_ne.mpr c49
        (first | skip)
        have H' := Aside0.mk H
        clear H
        go_wp2
        go_meet
        case rel => exact ⟨_, (true), (by first | rfl), H', ⟨by have := HJ3.out; have := HJ16.out; first | omega⟩, ⟨by (with_reducible repeat (fail)); exact BK358.out⟩, ⟨by (with_reducible repeat (fail)); exact BK359.out⟩, ⟨by repeat (first | (with_reducible first | exact HB.out))⟩⟩
      case rest =>
       clear HC41
       try clear c1
       try clear c2
       try clear p2
       try clear c4
       try clear c5
       try clear c6
       try clear p6
       try clear c7
       try clear c7b0
       try clear c7b1
       try clear c11
       try clear c13
       try clear c18
       try clear c21
       try clear c21b0
       try clear c21b1
       try clear c22
       try clear c23
       try clear c23b0
       try clear c23b1
       try clear c24
       try clear c24b0
       try clear c24b1
       try clear c28
       try clear c29
       try clear c43
       try clear c49
       try clear c49b0
       try clear c49b1
       try clear c50
       try clear c50b0
       try clear c51
       try clear c53
       try clear c53b0
       try clear c54
       try clear c57
       try clear hcz19_0
       try clear hcz19_1
       try clear hcz19_2
       try clear hcz19_3
       try clear hcz19_4
       try clear hcz19_5
       try clear hcz30_0
       try clear hcz30_1
       try clear hcz30_2
       try clear hcz30_3
       try clear hcz30_4
       try clear hcz30_5
       try clear hcz44_0
       try clear hcz44_1
       try clear hcz46_0
       try clear hcz46_1
       try clear hcz52_0
       try clear hcz52_1
       try clear hcz55_0
       try clear hcz55_1
       try clear hcz58_0
       try clear hcz58_1
       try clear hfz19_0
       try clear hfz19_1
       try clear hfz19_2
       try clear hfz19_3
       try clear hfz19_4
       try clear hfz19_5
       try clear hfz30_0
       try clear hfz30_1
       try clear hfz30_2
       try clear hfz30_3
       try clear hfz30_4
       try clear hfz30_5
       try clear hfz44_0
       try clear hfz44_1
       try clear hfz46_0
       try clear hfz46_1
       try clear hfz52_0
       try clear hfz52_1
       try clear hfz55_0
       try clear hfz55_1
       try clear hfz58_0
       try clear hfz58_1
       try clear p2
       try clear p6
       obtain ⟨kq, x95_40, rfl, HA, HJ40, BK358, BK359, HB⟩ := hcut
       cases kq with
       | zero => exact absurd HA.out (by simp [crossroadslaw07_PlistBack.j2])
       | succ kj40 =>
        have H := HA.out
        clear HA
        simp only [crossroadslaw07_PlistBack.j2] at H
        by_cases c60 : x95_40 = true
        ·subst c60
         have H1 : ((crossroadslaw07_alive.f kj40).bind fun t389 => (some t389)) = some r := by rw [if_pos rfl] at H; exact H
         clear H
         have H := H1
         clear H1
         replace H := Option.bind_eq_some_iff.mp H
         obtain ⟨t389, A610, H⟩ := H
         replace H : (some t389) = some r := H
         have A61 := Aside0.mk A610
         clear A610
         obtain rfl := Option.some.inj H
         go_wp2_with (first | ((with_reducible refine gate_callee (f := 11) rfl ?_); refine goesL_ (some 96) rfl rfl Tryz.func11 (by kernel_rfl) rfl #[] rfl (by (try simp only [List.map_toArray, List.map_cons, List.map_nil]); first | done) ?_; (with_reducible refine (crossroadslaw07_alive.calls kj40  t389 _ ?side1 A61.out).mono ?_); (case side1 => exact GW.below hG (by repeat (first | (with_reducible first | exact HB.out)))); rintro e w62 ⟨rfl, hb⟩; refine ⟨_, rfl, ?_⟩; have n0_ := Aside0.mk (blk_below (g := gb358) (o := .cells #[.int .i64 a1_0, .bool a1_1, .int .u32 a1_2, .int .i64 a1_3, .int .i64 a1_4, .int .i64 a1_5] 26 (0, 0)) (by (with_reducible repeat (fail)); exact BK358.out) hb); have n1_ := Aside0.mk (blk_below (g := gb359) (o := .cells #[.int .u32 a2_0, .int .i64 a2_1] 24 (0, 0)) (by (with_reducible repeat (fail)); exact BK359.out) hb); have n2_ := Aside0.mk (below_step (by repeat (first | (with_reducible first | exact HB.out))) hb); clear BK358; clear BK359; clear HB; have BK358 := n0_; have BK359 := n1_; have HB := n2_; clear n0_ n1_ n2_; (try clear hb); (try clear hb2); (try clear hk); (try clear hi)))
         go_ret
         exact ⟨by first | rfl, by repeat (first | (with_reducible first | exact HB.out))⟩
        ·replace c60 := Bool.eq_false_iff.mpr c60
         subst c60
         have H1 : ((crossroadslaw07_alive.f kj40).bind fun t390 => (if t390 = true then (if t385 = 0 then (if t386 = true then (some (t387 == 65535)) else (none)) else (if (t386 == t384) = true then (if t387 = t385 then (some true) else (none)) else (none))) else (none))) = some r := by rw [if_neg (show ¬ (false = true) by decide)] at H; exact H
         clear H
         have H := H1
         clear H1
         replace H := Option.bind_eq_some_iff.mp H
         obtain ⟨t390, A630, H⟩ := H
         replace H : (if t390 = true then (if t385 = 0 then (if t386 = true then (some (t387 == 65535)) else (none)) else (if (t386 == t384) = true then (if t387 = t385 then (some true) else (none)) else (none))) else (none)) = some r := H
         have A63 := Aside0.mk A630
         clear A630
         by_cases c64 : t390 = true
         ·subst c64
          have H1 : (if t385 = 0 then (if t386 = true then (some (t387 == 65535)) else (none)) else (if (t386 == t384) = true then (if t387 = t385 then (some true) else (none)) else (none))) = some r := by rw [if_pos rfl] at H; exact H
          clear H
          have H := H1
          clear H1
          by_cases c65 : t385 = 0
          ·rw [if_pos c65] at H
           have c65b0 : (t385 == 0) = true := beq_iff_eq.mpr c65
           have c65b1 : (t385 != 0) = false := bne_eq_false_iff_eq.mpr c65
           clear c65
           by_cases c66 : t386 = true
           ·subst c66
            have H1 : (some (t387 == 65535)) = some r := by rw [if_pos rfl] at H; exact H
            clear H
            have H := H1
            clear H1
            obtain rfl := Option.some.inj H
            go_wp2_with (first | ((with_reducible refine gate_callee (f := 11) rfl ?_); refine goesL_ (some 97) rfl rfl Tryz.func11 (by kernel_rfl) rfl #[] rfl (by (try simp only [List.map_toArray, List.map_cons, List.map_nil]); first | done) ?_; (with_reducible refine (crossroadslaw07_alive.calls kj40  true _ ?side1 A63.out).mono ?_); (case side1 => exact GW.below hG (by repeat (first | (with_reducible first | exact HB.out)))); rintro e w67 ⟨rfl, hb⟩; refine ⟨_, rfl, ?_⟩; have n0_ := Aside0.mk (blk_below (g := gb358) (o := .cells #[.int .i64 a1_0, .bool a1_1, .int .u32 a1_2, .int .i64 a1_3, .int .i64 a1_4, .int .i64 a1_5] 26 (0, 0)) (by (with_reducible repeat (fail)); exact BK358.out) hb); have n1_ := Aside0.mk (blk_below (g := gb359) (o := .cells #[.int .u32 a2_0, .int .i64 a2_1] 24 (0, 0)) (by (with_reducible repeat (fail)); exact BK359.out) hb); have n2_ := Aside0.mk (below_step (by repeat (first | (with_reducible first | exact HB.out))) hb); clear BK358; clear BK359; clear HB; have BK358 := n0_; have BK359 := n1_; have HB := n2_; clear n0_ n1_ n2_; (try clear hb); (try clear hb2); (try clear hk); (try clear hi)))
            go_ret
            exact ⟨by first | rfl, by repeat (first | (with_reducible first | exact HB.out))⟩
           ·replace c66 := Bool.eq_false_iff.mpr c66
            subst c66
            have H1 : (none) = some r := by rw [if_neg (show ¬ (false = true) by decide)] at H; exact H
            clear H
            have H := H1
            clear H1
            exact absurd H (by simp)
          ·rw [if_neg c65] at H
           have c65b0 : (t385 == 0) = false := beq_eq_false_iff_ne.mpr c65
           have c65b1 : (t385 != 0) = true := bne_iff_ne.mpr c65
           by_cases c68 : (t386 == t384) = true
           ·rw [if_pos c68] at H
            have c68b0 : (t386 == t384) = true := c68
            (try (have c68b1 : decide (t386 = t384) = true := by simpa using c68))
            (try (have c68b2 : (t386 == t384) = true := by simpa using c68))
            clear c68
            by_cases c69 : t387 = t385
            ·rw [if_pos c69] at H
             have c69b0 : (t387 == t385) = true := beq_iff_eq.mpr c69
             have c69b1 : (t387 != t385) = false := bne_eq_false_iff_eq.mpr c69
             clear c69
             obtain rfl := Option.some.inj H
             go_wp2_with (first | ((with_reducible refine gate_callee (f := 11) rfl ?_); refine goesL_ (some 97) rfl rfl Tryz.func11 (by kernel_rfl) rfl #[] rfl (by (try simp only [List.map_toArray, List.map_cons, List.map_nil]); first | done) ?_; (with_reducible refine (crossroadslaw07_alive.calls kj40  true _ ?side1 A63.out).mono ?_); (case side1 => exact GW.below hG (by repeat (first | (with_reducible first | exact HB.out)))); rintro e w70 ⟨rfl, hb⟩; refine ⟨_, rfl, ?_⟩; have n0_ := Aside0.mk (blk_below (g := gb358) (o := .cells #[.int .i64 a1_0, .bool a1_1, .int .u32 a1_2, .int .i64 a1_3, .int .i64 a1_4, .int .i64 a1_5] 26 (0, 0)) (by (with_reducible repeat (fail)); exact BK358.out) hb); have n1_ := Aside0.mk (blk_below (g := gb359) (o := .cells #[.int .u32 a2_0, .int .i64 a2_1] 24 (0, 0)) (by (with_reducible repeat (fail)); exact BK359.out) hb); have n2_ := Aside0.mk (below_step (by repeat (first | (with_reducible first | exact HB.out))) hb); clear BK358; clear BK359; clear HB; have BK358 := n0_; have BK359 := n1_; have HB := n2_; clear n0_ n1_ n2_; (try clear hb); (try clear hb2); (try clear hk); (try clear hi)))
             go_ret
             exact ⟨by first | rfl, by repeat (first | (with_reducible first | exact HB.out))⟩
            ·rw [if_neg c69] at H
             exact absurd H (by simp)
           ·rw [if_neg c68] at H
            exact absurd H (by simp)
         ·replace c64 := Bool.eq_false_iff.mpr c64
          subst c64
          have H1 : (none) = some r := by rw [if_neg (show ¬ (false = true) by decide)] at H; exact H
          clear H
          have H := H1
          clear H1
          exact absurd H (by simp)
end Go.Proofs.YthngpkfckhmiiaaGreatDoor.X
end
section
set_option linter.unusedVariables false
set_option linter.unusedSimpArgs false
namespace Go.Proofs.YthngpkfckhmiiaaGreatDoor.X
open Go.RowKit Go.Proofs.YthngpkfckhmiiaaGreatDoorW.PrintWords Go.Proofs.YthngpkfckhmiiaaGreatDoorW.PrintMore
theorem alive_p (k : Nat) (hk : 100 ≤ k) : crossroadslaw07_alive.f k = some true := up crossroadslaw07_alive.mono hk (by decide +kernel)
theorem WFl.sub {l m : List S26} (h : WFl l) (s : m.Sublist l) : WFl m := fun x hx => h x (s.subset hx)
theorem insP_back (l : List S26) (x : S26) (hl : l.length ≤ 1000) (hn : ∀ y ∈ l, y.f0 ≠ x.f0) : plist_Drop.f (insP l x) x.f0 = some (l, 0) := by
  have hl' := insP_len l x
  unfold insP at hl' ⊢
  rw [Drop_split _ _ _ _ (by omega) (fun y hy => hn y (List.mem_of_mem_take hy)) rfl, List.take_append_drop]
theorem PlistBack_j2 (k : Nat) (hk : 200 ≤ k) (a : Bool) (s : Int) (b : Bool) (t : Int) (c : Bool) (h : c = false → (s = 0 → b = true ∧ t = 65535) ∧ (s ≠ 0 → b = a ∧ t = s)) : crossroadslaw07_PlistBack.j2 k a s b t c = some true := by
  obtain ⟨k, rfl⟩ : ∃ m, k = m + 1 := ⟨k - 1, by omega⟩
  simp only [crossroadslaw07_PlistBack.j2]
  rw [alive_p k (by omega)]
  cases c
  · obtain ⟨h1, h2⟩ := h rfl
    clear h
    rw [if_neg (by simp)]
    simp only [Option.bind_some]
    rw [if_pos trivial]
    by_cases h : s = 0
    · obtain ⟨rfl, rfl⟩ := h1 h
      rw [if_pos h, if_pos rfl]; rfl
    · obtain ⟨rfl, rfl⟩ := h2 h
      rw [if_neg h, if_pos (by simp), if_pos rfl]
  · rw [if_pos rfl]; rfl
def lastR : S26 := ⟨65535, true, ⟨0, 0⟩, 0, 32⟩
theorem mayS_last : mayS lastR = true := by decide
theorem means_last {A N : Int} (h : meansB 1 0 0 0 32 A N = true) : meansS lastR A N = true := by
  unfold meansS
  unfold meansB at h ⊢
  simp only [Bool.and_eq_true] at h ⊢
  exact ⟨⟨⟨mayS_last, h.1.1.2⟩, h.1.2⟩, h.2⟩
theorem PlistBack_j1 (k : Nat) (hk : 300 ≤ k) (l : List S26) (hl : l.length ≤ 999) (g : Good l) (hU : WFl l) (A N : Int) (hA : U32 A) : crossroadslaw07_PlistBack.j1 k l A N = some true := by
  obtain ⟨k, rfl⟩ : ∃ m, k = m + 1 := ⟨k - 1, by omega⟩
  have hP := Add_p l (by omega) g lastR (by show (0 : Int) ≤ 0 ∧ (0 : Int) < 4294967296; omega)
  rw [mayS_last, if_neg (show ¬ (true = false) by simp)] at hP
  simp only [crossroadslaw07_PlistBack.j1]
  rw [show plist_Add.f l 65535 true 0 0 0 32 = _ from hP, Eval_p l A N (by omega) hU hA]
  have hE : plist_Eval.f [] A N = some (evalB [] A N) := Eval_p [] A N (by simp) (fun x hx => by simp at hx) hA
  by_cases h1 : (l.any fun y => y.f0 == lastR.f0) = true
  · rw [if_pos h1]
    simp only [Option.bind_some, hE]
    rw [if_neg (by decide)]
    exact PlistBack_j2 k (by omega) _ _ _ _ _ (by simp)
  rw [if_neg h1]
  by_cases h2 : 200 ≤ l.length
  · rw [if_pos h2]
    simp only [Option.bind_some, hE]
    rw [if_neg (by decide)]
    exact PlistBack_j2 k (by omega) _ _ _ _ _ (by simp)
  rw [if_neg h2]
  have hlt : ∀ y ∈ l, y.f0 < lastR.f0 := by
    intro y hy
    have a1 := (mayR_seq (g.may y hy)).2
    have a2 : y.f0 ≠ lastR.f0 := by
      intro e
      exact h1 (List.any_eq_true.2 ⟨y, hy, by simpa using e⟩)
    have a3 : lastR.f0 = 65535 := rfl
    omega
  have hc : (l.countP fun y => decide (y.f0 < lastR.f0)) = l.length := List.countP_eq_length.2 fun y hy => by simpa using hlt y hy
  have hi : insP l lastR = l ++ [lastR] := by
    unfold insP
    rw [hc, List.take_length, List.drop_length]
  rw [hi]
  simp only [Option.bind_some]
  rw [Eval_p (l ++ [lastR]) A N (by simp; omega) (by
    intro x hx
    rcases List.mem_append.1 hx with hx | hx
    · exact hU x hx
    · obtain rfl := List.mem_singleton.1 hx
      show (0 : Int) ≤ 0 ∧ (0 : Int) < 4294967296
      omega) hA]
  simp only [Option.bind_some]
  rw [if_pos trivial]
  by_cases h3 : N < 0
  · rw [if_pos h3]
    exact PlistBack_j2 k (by omega) _ _ _ _ _ (by simp)
  rw [if_neg h3]
  by_cases h4 : N > 32
  · rw [if_pos h4]
    exact PlistBack_j2 k (by omega) _ _ _ _ _ (by simp)
  rw [if_neg h4, Means_p k (by omega) _ _ _ _ _ _ _ _ (by show (0 : Int) ≤ 0 ∧ (0 : Int) < 4294967296; omega) hA]
  simp only [Option.bind_some]
  refine PlistBack_j2 k (by omega) _ _ _ _ _ fun hc => ?_
  have hm : meansB 1 0 0 0 32 A N = true := by simpa using hc
  unfold evalB
  rw [List.find?_append]
  cases e : l.find? fun x => meansS x A N with
  | none =>
    simp only [Option.none_or, List.find?_cons, means_last hm]
    exact ⟨fun _ => ⟨rfl, rfl⟩, fun h => absurd rfl h⟩
  | some y =>
    have := (mayR_seq (g.may y (List.mem_of_find?_eq_some e))).1
    simp only [Option.some_or]
    exact ⟨fun h => by omega, fun _ => ⟨trivial, trivial⟩⟩
end Go.Proofs.YthngpkfckhmiiaaGreatDoor.X
end
section
set_option linter.unusedVariables false
set_option linter.unusedSimpArgs false
namespace Go.Proofs.YthngpkfckhmiiaaGreatDoor.X
open Go.RowKit Go.Proofs.YthngpkfckhmiiaaGreatDoorW.PrintWords Go.Proofs.YthngpkfckhmiiaaGreatDoorW.PrintMore
theorem bindO {α β : Type} {o : Option α} {f : α → Option β} {a : α} {r : Option β} (h : o = some a) (h2 : f a = r) : o.bind f = r := by subst h; exact h2
theorem iteP {α : Type} {c : Prop} [Decidable c] {a b r : α} (h : c) (h2 : a = r) : (if c then a else b) = r := by rw [if_pos h]; exact h2
theorem PlistBack_ok (k : Nat) (hk : 2000 ≤ k) (l z : List S26) (hl : l.length ≤ 150) (s : Int) (p : Bool) (a n ge le A N : Int) (hP : plist_Add.f l s p a n ge le = some (z, 0)) (hb : plist_Drop.f z s = some (l, 0)) (hlen : z.length = l.length + 1)
    (hJ : crossroadslaw07_PlistBack.j1 k l A N = some true) : crossroadslaw07_PlistBack.j0 (k + 1) l false s p a n ge le A N = some true := by
  have e : ((z.length : Nat) : Int) = wrap64 ((l.length : Int) + 1) := by rw [wrapS l.length (by omega), hlen]
  have e1 := rows_f k l (by omega) (by omega)
  have e2 := Same_f k (l.map conv) (by simp; omega) (by omega)
  rw [crossroadslaw07_PlistBack.j0, if_neg (show ¬ (false = true) by simp)]
  refine bindO hP (iteP rfl (bindO hb (iteP rfl (iteP e (bindO e1 (bindO e1 (bindO e2 (iteP rfl hJ))))))))
theorem PlistBack_law (k : Nat) (hk : 3000 ≤ k) (l : List S26) (hU : WFl l) (x : S26) (hx : U32 x.f2.f0) (A N : Int) (hA : U32 A) : crossroadslaw07_PlistBack.f k l x.f0 x.f1 x.f2.f0 x.f2.f1 x.f3 x.f4 A N = some true := by
  obtain ⟨k, rfl⟩ : ∃ m, k = m + 1 := ⟨k - 1, by omega⟩
  unfold crossroadslaw07_PlistBack.f
  by_cases hl : l.length > 150
  · rw [if_pos (by omega)]
    simp only [crossroadslaw07_PlistBack.j0]
    rw [if_pos trivial, alive_p k (by omega)]; rfl
  rw [if_neg (by omega), rows_f (k + 1) l (by omega) (by omega)]
  simp only [Option.bind_some]
  rw [MayAll_f (k + 1) _ (by simp; omega) (U34 hU) (by omega)]
  simp only [Option.bind_some]
  cases hm : chainB none (l.map conv)
  · rw [crossroadslaw07_PlistBack.j0, if_pos (by rfl), alive_p k (by omega)]; rfl
  have g := good_of hm
  have hJ := PlistBack_j1 k (by omega) l (by omega) g hU A N hA
  have hP := Add_p l (by omega) g x hx
  have hno : ∀ (e : Int), e ≠ 0 → plist_Add.f l x.f0 x.f1 x.f2.f0 x.f2.f1 x.f3 x.f4 = some ([], e) → crossroadslaw07_PlistBack.j0 (k + 1) l false x.f0 x.f1 x.f2.f0 x.f2.f1 x.f3 x.f4 A N = some true := by
    intro e he h
    rw [crossroadslaw07_PlistBack.j0, if_neg (show ¬ (false = true) by simp), h, Option.bind_some, if_neg he]
    exact hJ
  show crossroadslaw07_PlistBack.j0 (k + 1) l false x.f0 x.f1 x.f2.f0 x.f2.f1 x.f3 x.f4 A N = some true
  by_cases h0 : mayS x = false
  · exact hno 1 (by decide) (by rw [hP, if_pos h0])
  rw [if_neg h0] at hP
  by_cases h1 : (l.any fun y => y.f0 == x.f0) = true
  · exact hno 7 (by decide) (by rw [hP, if_pos h1])
  rw [if_neg h1] at hP
  by_cases h2 : 200 ≤ l.length
  · exact hno 8 (by decide) (by rw [hP, if_pos h2])
  rw [if_neg h2] at hP
  exact PlistBack_ok k (by omega) l (insP l x) (by omega) x.f0 x.f1 x.f2.f0 x.f2.f1 x.f3 x.f4 A N hP (insP_back l x (by omega) (fun y hy e => h1 (List.any_eq_true.2 ⟨y, hy, by simpa using e⟩))) (insP_len l x) hJ
end Go.Proofs.YthngpkfckhmiiaaGreatDoor.X
end
section
set_option linter.unusedVariables false
set_option linter.unusedSimpArgs false
namespace Go.Proofs.YthngpkfckhmiiaaGreatDoor.X
open Go.RowKit Go.ChangeShapes Go.WideShapes Go.Deep Go.Joins Go.Proofs.YthngpkfckhmiiaaGreatDoorW.PrintWords
structure WFr (x : S26) : Prop where
  s : I64 x.f0
  a : U32 x.f2.f0
  n : I64 x.f2.f1
  ge : I64 x.f3
  le : I64 x.f4
section
variable {H : Type} {enc : TypeId × Value → H} {P : Program} {w : World} {base : Nat} {spare : Nat → Bool} {held : Bool}
theorem trod_bool' {t : TypeId} {fuel : Nat} {cs : List Value} {x : DataW H × List MemPlace} (ht : P.underlying t = some .bool) (h : DataW.trod enc P w base spare held fuel t cs = some x) : ∃ b, cs = [.bool b] ∧ x = (.lit (.bool b), []) := by
  cases fuel with
  | zero => simp [DataW.trod] at h
  | succ n =>
    unfold DataW.trod at h
    rw [ht] at h
    split at h <;> simp_all
structure Types (P : Program) : Prop where
  t26 : ∃ f0 f1 f2 f3 f4 : Field, P.underlying 26 = some (.struct #[f0, f1, f2, f3, f4]) ∧ (f0.type = 3 ∧ f0.offset = 0) ∧ (f1.type = 4 ∧ f1.offset = 1) ∧ (f2.type = 24 ∧ f2.offset = 2) ∧ (f3.type = 3 ∧ f3.offset = 4) ∧ (f4.type = 3 ∧ f4.offset = 5)
  t24 : ∃ f0 f1 : Field, P.underlying 24 = some (.struct #[f0, f1]) ∧ (f0.type = 22 ∧ f0.offset = 0) ∧ (f1.type = 3 ∧ f1.offset = 1)
  t3 : P.underlying 3 = some (.int .i64)
  t4 : P.underlying 4 = some .bool
  t22 : P.underlying 22 = some (.int .u32)
  t42 : P.underlying 42 = some (.slice 26)
  c26 : P.cellsOf 26 = 6
  c24 : P.cellsOf 24 = 2
  c22 : P.cellsOf 22 = 1
  c4 : P.cellsOf 4 = 1
  c3 : P.cellsOf 3 = 1
theorem trod_pfx (T : Types P) {fuel : Nat} {cs : List Value} {x : DataW H × List MemPlace} (h : DataW.trod enc P w base spare held fuel 24 cs = some x) :
    ∃ a n : Int, cs = [.int .u32 a, .int .i64 n] ∧ U32 a ∧ I64 n ∧ x.2 = [] := by
  obtain ⟨f0, f1, hu, ⟨a0, b0⟩, ⟨a1, b1⟩⟩ := T.t24
  obtain ⟨xs, n, _, rfl, hl, hlen, hf⟩ := DataW.trod_struct hu h
  rw [T.c24] at hl
  match cs, hl with
  | [v0, v1], _ =>
    match xs, hlen with
    | [y0, y1], _ =>
      have h0 := hf 0 f0 rfl
      have h1 := hf 1 f1 rfl
      rw [a0, b0, T.c22] at h0
      rw [a1, b1, T.c3] at h1
      obtain ⟨a, e0, e0', w0⟩ := DataW.trod_int T.t22 h0
      obtain ⟨m, e1, e1', w1⟩ := DataW.trod_int T.t3 h1
      simp at e0 e1
      subst e0 e1
      exact ⟨a, m, rfl, U32.of w0, I64.of w1, by simp [e0', e1']⟩
theorem trod_rule (T : Types P) {fuel : Nat} {cs : List Value} {x : DataW H × List MemPlace} (h : DataW.trod enc P w base spare held fuel 26 cs = some x) : ∃ r : S26, cs = enc26 r ∧ WFr r ∧ x.2 = [] := by
  obtain ⟨f0, f1, f2, f3, f4, hu, ⟨a0, b0⟩, ⟨a1, b1⟩, ⟨a2, b2⟩, ⟨a3, b3⟩, ⟨a4, b4⟩⟩ := T.t26
  obtain ⟨xs, n, _, rfl, hl, hlen, hf⟩ := DataW.trod_struct hu h
  rw [T.c26] at hl
  match cs, hl with
  | [v0, v1, v2, v3, v4, v5], _ =>
    match xs, hlen with
    | [y0, y1, y2, y3, y4], _ =>
      have h0 := hf 0 f0 rfl
      have h1 := hf 1 f1 rfl
      have h2 := hf 2 f2 rfl
      have h3 := hf 3 f3 rfl
      have h4 := hf 4 f4 rfl
      rw [a0, b0, T.c3] at h0
      rw [a1, b1, T.c4] at h1
      rw [a2, b2, T.c24] at h2
      rw [a3, b3, T.c3] at h3
      rw [a4, b4, T.c3] at h4
      obtain ⟨s, e0, e0', w0⟩ := DataW.trod_int T.t3 h0
      obtain ⟨b, e1, e1'⟩ := trod_bool' T.t4 h1
      obtain ⟨a, m, e2, wa, wm, ey⟩ := trod_pfx T h2
      obtain ⟨g, e3, e3', w3⟩ := DataW.trod_int T.t3 h3
      obtain ⟨l, e4, e4', w4⟩ := DataW.trod_int T.t3 h4
      simp at e0 e1 e2 e3 e4
      obtain ⟨e2, e2'⟩ := e2
      subst e0 e1 e2 e2' e3 e4
      exact ⟨⟨s, b, ⟨a, m⟩, g, l⟩, rfl, ⟨I64.of w0, wa, wm, I64.of w3, I64.of w4⟩, by simp [ey, e0', e1', e3', e4']⟩
theorem open_rule (T : Types P) {r : Reach} {b0 : Nat} {v : Value} {d : DataW H} {p : List MemPlace} (hv : Value.okWide P w r b0 26 v) (h : DataW.Trod enc P w base spare held 26 v d p) :
    ∃ x : S26, v = .agg #[.int .i64 x.f0, .bool x.f1, .int .u32 x.f2.f0, .int .i64 x.f2.f1, .int .i64 x.f3, .int .i64 x.f4] ∧ WFr x := by
  obtain ⟨f0, f1, f2, f3, f4, hu, -⟩ := T.t26
  obtain ⟨cs, rfl, -⟩ := okWide_struct hu hv
  obtain ⟨fuel, hf⟩ := h
  obtain ⟨x, e, hx, -⟩ := trod_rule T hf
  refine ⟨x, ?_, hx⟩
  obtain ⟨l⟩ := cs
  have : l = enc26 x := e
  rw [this]
  rfl
theorem choose_fin {α : Type} (n : Nat) (p : Nat → α → Prop) (h : ∀ i, i < n → ∃ x, p i x) : ∃ l : List α, l.length = n ∧ ∀ i x, l[i]? = some x → p i x := by
  induction n with
  | zero => exact ⟨[], rfl, fun i x hx => by simp at hx⟩
  | succ n ih =>
    obtain ⟨l, hl, hp⟩ := ih fun i hi => h i (by omega)
    obtain ⟨y, hy⟩ := h n (by omega)
    refine ⟨l ++ [y], by simp [hl], fun i x hx => ?_⟩
    rcases Nat.lt_or_ge i l.length with hi | hi
    · rw [List.getElem?_append_left hi] at hx
      exact hp i x hx
    · rw [List.getElem?_append_right hi] at hx
      have : i - l.length = 0 := by
        rcases Nat.lt_or_ge (i - l.length) 1 with h1 | h1
        · omega
        · rw [List.getElem?_eq_none (by simpa using h1)] at hx; cases hx
      rw [this] at hx
      obtain rfl : y = x := by simpa using hx
      obtain rfl : i = n := by omega
      exact hy
theorem open_rules (T : Types P) {r : Reach} {b0 : Nat} {v : Value} {d : DataW H} {p : List MemPlace} (hv : Value.okWide P w r b0 42 v) (h : DataW.Trod enc P w base spare held 42 v d p) :
    ∃ (A : Option Addr) (l : List S26) (c : Nat), v = .slice A l.length c ∧ l.length ≤ c ∧ Kd.C k26 w A l.length l ∧ ∀ x ∈ l, WFr x := by
  obtain ⟨A, len, cap, rfl⟩ := okWide_slice T.t42 hv
  obtain ⟨fuel, hf⟩ := h
  rcases open_slice T.t42 hf with ⟨h0, -⟩ | ⟨a, len', cap', m, n, D, Pl, hcs, hb, hl, hm, hmm, -, hi⟩
  · obtain ⟨rfl, rfl, rfl⟩ : A = none ∧ len = 0 ∧ cap = 0 := by
      have : Value.slice A len cap = .slice none 0 0 := by simpa [Value.cells] using h0
      simpa using this
    exact ⟨none, [], 0, rfl, Nat.le_refl _, ⟨rfl, by simp, fun h => by simp at h⟩, fun x hx => by simp at hx⟩
  · obtain ⟨rfl, rfl, rfl⟩ : A = some a ∧ len = len' ∧ cap = cap' := by
      have : Value.slice A len cap = .slice (some a) len' cap' := by simpa [Value.cells] using hcs
      simpa using this
    have hlm : len ≤ m := by rw [hmm]; split <;> omega
    obtain ⟨l, hll, hp⟩ := choose_fin len (fun i (x : S26) => WFr x ∧ ∀ j u, (enc26 x)[j]? = some u → w.cell? (a.add (i * 6 + j)) = some u) fun i hi' => by
      obtain ⟨cs', hc, ht⟩ := hi i (by omega)
      rw [T.c26] at hc
      obtain ⟨x, rfl, hx, -⟩ := trod_rule T ht
      obtain ⟨-, -, hat⟩ := World.cells?_some hc
      refine ⟨x, hx, fun j u hj => ?_⟩
      have hjl : j < 6 := by
        rcases Nat.lt_or_ge j 6 with h | h
        · exact h
        · rw [List.getElem?_eq_none (by simpa [enc26] using h)] at hj; cases hj
      rw [← Go.Deep.add_add, hat j hjl, hj]
    subst hll
    refine ⟨some a, l, cap, rfl, hl, ⟨rfl, ?_, fun _ => ⟨a, rfl, fun j x hj => ⟨enc26 x, rfl, k26_mk w x, (hp j x hj).2⟩⟩⟩, fun x hx => ?_⟩
    · have : maxLen ≤ 9223372036854775807 := by decide
      omega
    · obtain ⟨i, hi', rfl⟩ := List.getElem_of_mem hx
      exact (hp i _ (List.getElem?_eq_getElem hi')).1
end
theorem types : Types Tryz.prog := ⟨⟨_, _, _, _, _, Tryz.underlying26, ⟨rfl, rfl⟩, ⟨rfl, rfl⟩, ⟨rfl, rfl⟩, ⟨rfl, rfl⟩, ⟨rfl, rfl⟩⟩, ⟨_, _, Tryz.underlying24, ⟨rfl, rfl⟩, ⟨rfl, rfl⟩⟩, Tryz.underlying3, Tryz.underlying4, Tryz.underlying22, Tryz.underlying42, by kernel_rfl, by kernel_rfl, by kernel_rfl, by kernel_rfl, by kernel_rfl⟩
end Go.Proofs.YthngpkfckhmiiaaGreatDoor.X
end
