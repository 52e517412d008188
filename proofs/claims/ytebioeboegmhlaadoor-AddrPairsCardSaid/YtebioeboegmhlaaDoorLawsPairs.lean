/- The plain statement of AddrPairs. -/
import Derived.Test.YtebioeboegmhlaaDoorLawsA
import Derived.Test.YtebioeboegmhlaaDoorXx9
set_option linter.unusedVariables false
set_option linter.unusedSimpArgs false
namespace Go.Proofs.YtebioeboegmhlaaDoor.X
open Go.RowKit Go.Proofs.YtebioeboegmhlaaDoorW.PrintWords Go.Proofs.YtebioeboegmhlaaDoorW.PrintMore

theorem rCommon_l0 (p q : Nat) (hp : p < 2 ^ 32) (hq : q < 2 ^ 32) (pN qN : Int) (h1 : mayB p pN = true) (h2 : mayB q qN = true) : ∀ (d k : Nat) (i m : Int), 0 ≤ i → i ≤ 33 → 33 - i = d → d + 40 < k →
    m = (if i = 0 then 0 else mn (i - 1) (comB p pN q qN)) → crossroadsref03_Common.l0 k i p pN q qN (cutA p m) m = some (cutA p (comB p pN q qN), comB p pN q qN) := by
  have hU : U32 (p : Int) := by unfold U32; have e : (2 : Nat) ^ 32 = 4294967296 := by decide
                                omega
  have hV : U32 (q : Int) := by unfold U32; have e : (2 : Nat) ^ 32 = 4294967296 := by decide
                                omega
  obtain ⟨a0, a1, _⟩ := mayB_iff.1 h1
  obtain ⟨b0, b1, _⟩ := mayB_iff.1 h2
  have hl := lz_range p q hp hq
  have c0 : 0 ≤ comB p pN q qN := (comB_le p q pN qN 0).2 ⟨a0, b0, hl.1⟩
  have c1 := (comB_le p q pN qN _).1 (Int.le_refl (comB p pN q qN))
  intro d
  induction d with
  | zero =>
    intro k i m h0 h3 hd hk hm
    obtain ⟨k, rfl⟩ : ∃ m, k = m + 1 := ⟨k - 1, by omega⟩
    obtain rfl : i = 33 := by omega
    simp only [crossroadsref03_Common.l0]
    rw [if_neg (by omega)]
    have e : m = comB p pN q qN := by rw [hm, if_neg (by omega)]; unfold mn; split <;> omega
    rw [e]
  | succ d ih =>
    intro k i m h0 h3 hd hk hm
    obtain ⟨k, rfl⟩ : ∃ m, k = m + 1 := ⟨k - 1, by omega⟩
    simp only [crossroadsref03_Common.l0]
    rw [if_pos (by omega), rOf_f k (by omega) p i hU, if_pos (by omega)]
    simp only [Option.bind_some]
    rw [rCovers_f k (by omega) _ _ _ _ (cut_U32 hU) hU, rCovers_f k (by omega) _ _ _ _ (cut_U32 hU) hV]
    simp only [Option.bind_some]
    rw [cov_cut _ _ _ _ h0 (by omega), cov_cut _ _ _ _ h0 (by omega), h1, h2, wrap64_id _ (by omega) (by omega)]
    have hz := lz_iff p q hp hq i h0 (by omega)
    have hc := comB_le p q pN qN i
    by_cases hi : i ≤ comB p pN q qN
    · obtain ⟨d1, d2, d3⟩ := hc.1 hi
      have e1 : (true && decide (i ≤ pN) && decide ((p : Int) / (PW i : Int) = (p : Int) / (PW i : Int))) = true := by simp [d1]
      have e2 : (true && decide (i ≤ qN) && decide ((q : Int) / (PW i : Int) = (p : Int) / (PW i : Int))) = true := by simp [d2, (hz.1 d3).symm]
      rw [if_pos e1, if_pos e2]
      refine ih k (i + 1) i (by omega) (by omega) (by omega) (by omega) ?_
      rw [if_neg (by omega)]; unfold mn; split <;> omega
    · have hm' : m = (if i + 1 = 0 then 0 else mn (i + 1 - 1) (comB p pN q qN)) := by
        have hi0 : i ≠ 0 := by omega
        rw [hm, if_neg hi0, if_neg (by omega)]; unfold mn; split <;> split <;> omega
      have hih := ih k (i + 1) m (by omega) (by omega) (by omega) (by omega) hm'
      by_cases d1 : i ≤ pN
      · have e1 : (true && decide (i ≤ pN) && decide ((p : Int) / (PW i : Int) = (p : Int) / (PW i : Int))) = true := by simp [d1]
        rw [if_pos e1]
        have e2 : ¬ (true && decide (i ≤ qN) && decide ((q : Int) / (PW i : Int) = (p : Int) / (PW i : Int))) = true := by
          simp only [Bool.true_and, Bool.and_eq_true, decide_eq_true_eq]
          rintro ⟨d2, d3⟩
          exact hi (hc.2 ⟨d1, d2, hz.2 d3.symm⟩)
        rw [if_neg e2]
        exact hih
      · have e1 : ¬ (true && decide (i ≤ pN) && decide ((p : Int) / (PW i : Int) = (p : Int) / (PW i : Int))) = true := by simp [d1]
        rw [if_neg e1]
        exact hih

theorem rCommon_f (k : Nat) (hk : 80 ≤ k) (pA pN qA qN : Int) (hp : U32 pA) (hq : U32 qA) : crossroadsref03_Common.f k pA pN qA qN = some (if (mayB pA pN && mayB qA qN) = true then (cutA pA (comB pA pN qA qN), comB pA pN qA qN) else (0, 0)) := by
  unfold crossroadsref03_Common.f
  obtain ⟨k, rfl⟩ : ∃ m, k = m + 1 := ⟨k - 1, by omega⟩
  rw [rMay_f _ (by omega) pA pN hp, rMay_f _ (by omega) qA qN hq]
  simp only [Option.bind_some]
  cases h1 : mayB pA pN with
  | false => simp [crossroadsref03_Common.j0]
  | true =>
    rw [if_pos rfl]
    cases h2 : mayB qA qN with
    | false => simp [crossroadsref03_Common.j0]
    | true =>
      simp only [crossroadsref03_Common.j0, Bool.not_true, Bool.false_eq_true, if_false, Bool.and_self, if_true]
      obtain ⟨p, rfl, hp'⟩ := hp.nat
      obtain ⟨q, rfl, hq'⟩ := hq.nat
      have h := rCommon_l0 p q hp' hq' pN qN h1 h2 33 k 0 0 (by omega) (by omega) (by omega) (by omega) (by simp)
      have e : cutA (p : Int) 0 = 0 := by
        have e0 : PW 0 = 4294967296 := rfl
        have e1 : (2 : Nat) ^ 32 = 4294967296 := by decide
        unfold cutA
        rw [e0]
        omega
      rw [e] at h
      exact h

theorem AddrPairs (pA pN qA qN : Int) (hp : U32 pA) (hq : U32 qA) : crossroadslaw03_AddrPairs.f 100 pA pN qA qN = some true := by
  unfold crossroadslaw03_AddrPairs.f
  rw [alive_f 100 (by omega), Covers_f _ _ _ _ hp hq, rCovers_f 100 (by omega) _ _ _ _ hp hq, Common_f 99 _ _ _ _ hp hq, rCommon_f 100 (by omega) _ _ _ _ hp hq, Less_f, rLess_f]
  simp only [Option.bind_some, beq_self_eq_true, if_true, Bool.and_self]

end Go.Proofs.YtebioeboegmhlaaDoor.X
