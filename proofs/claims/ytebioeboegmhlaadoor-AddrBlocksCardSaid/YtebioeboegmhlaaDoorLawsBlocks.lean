/- The plain statement of AddrBlocks. -/
import Derived.Test.YtebioeboegmhlaaDoorLawsA
import Derived.Test.YtebioeboegmhlaaDoorXx11
set_option linter.unusedVariables false
set_option linter.unusedSimpArgs false
namespace Go.Proofs.YtebioeboegmhlaaDoor.X
open Go.RowKit Go.Proofs.YtebioeboegmhlaaDoorW.PrintWords Go.Proofs.YtebioeboegmhlaaDoorW.PrintMore

theorem com_cov (pA pN qA qN : Int) (hp : U32 pA) (hq : U32 qA) (h1 : mayB pA pN = true) (h2 : mayB qA qN = true) :
    0 ≤ comB pA pN qA qN ∧ comB pA pN qA qN ≤ 32 ∧ covB (cutA pA (comB pA pN qA qN)) (comB pA pN qA qN) pA pN = true ∧ covB (cutA pA (comB pA pN qA qN)) (comB pA pN qA qN) qA qN = true ∧
    (comB pA pN qA qN + 1 ≤ 32 → covB (cutA pA (comB pA pN qA qN + 1)) (comB pA pN qA qN + 1) pA pN = true → covB (cutA pA (comB pA pN qA qN + 1)) (comB pA pN qA qN + 1) qA qN = true → False) ∧
    (covB pA pN qA qN = true ↔ cutA pA (comB pA pN qA qN) = pA ∧ comB pA pN qA qN = pN) := by
  obtain ⟨p, rfl, hp'⟩ := hp.nat
  obtain ⟨q, rfl, hq'⟩ := hq.nat
  obtain ⟨a0, a1, a2⟩ := mayB_iff.1 h1
  obtain ⟨b0, b1, b2⟩ := mayB_iff.1 h2
  have hl := lz_range p q hp' hq'
  have hc := comB_le p q pN qN
  have hz := lz_iff p q hp' hq'
  have c0 : 0 ≤ comB p pN q qN := (hc 0).2 ⟨a0, b0, hl.1⟩
  obtain ⟨c1, c2, c3⟩ := (hc _).1 (Int.le_refl (comB p pN q qN))
  have c32 : comB p pN q qN ≤ 32 := by omega
  refine ⟨c0, c32, ?_, ?_, ?_, ?_⟩
  · rw [cov_cut _ _ _ _ c0 c32, h1]; simp [c1]
  · rw [cov_cut _ _ _ _ c0 c32, h2]; simp [c2, ((hz _ c0 c32).1 c3).symm]
  · intro h3 h4 h5
    rw [cov_cut _ _ _ _ (by omega) h3] at h4 h5
    simp only [Bool.and_eq_true, decide_eq_true_eq] at h4 h5
    have := (hc (comB p pN q qN + 1)).2 ⟨h4.1.2, h5.1.2, (hz _ (by omega) h3).2 h5.2.symm⟩
    omega
  · constructor
    · intro h
      unfold covB hasB at h
      simp only [Bool.and_eq_true, decide_eq_true_eq] at h
      have h6 := (hc pN).2 ⟨Int.le_refl _, h.1.2, (hz pN a0 a1).2 h.2.2.symm⟩
      have e : comB p pN q qN = pN := by omega
      rw [e]
      exact ⟨(cut_eq a2).2 rfl, rfl⟩
    · rintro ⟨_, h4⟩
      rw [h4] at c2 c3
      unfold covB hasB
      rw [h1, h2]
      simp [c2, ((hz pN a0 a1).1 c3).symm]

theorem AddrBlocks (pA pN qA qN a : Int) (hp : U32 pA) (hq : U32 qA) (ha : U32 a) : crossroadslaw03_AddrBlocks.f 100 pA pN qA qN a = some true := by
  unfold crossroadslaw03_AddrBlocks.f
  rw [May_f _ _ hp, May_f _ _ hq]
  simp only [Option.bind_some]
  cases h1 : mayB pA pN with
  | false =>
    rw [if_neg (by decide)]
    simp only [crossroadslaw03_AddrBlocks.j0, if_true, alive_f 99 (by omega), Option.bind_some, Covers_f _ _ _ _ hp hq]
    simp [covB, hasB, h1]
  | true =>
    rw [if_pos rfl]
    cases h2 : mayB qA qN with
    | false =>
      simp only [crossroadslaw03_AddrBlocks.j0, if_true, alive_f 99 (by omega), Option.bind_some, Covers_f _ _ _ _ hp hq, Bool.not_false]
      simp [covB, h2]
    | true =>
      have hcom := com_cov pA pN qA qN hp hq h1 h2
      obtain ⟨c0, c32, c1, c2, c3, c4⟩ := hcom
      have hcp : U32 (cutA pA (comB pA pN qA qN)) := cut_U32 hp
      obtain ⟨a0, a1, a2⟩ := mayB_iff.1 h1
      obtain ⟨b0, b1, b2⟩ := mayB_iff.1 h2
      -- two blocks that share an address
      have hdv : ∀ (m n x : Int), 0 ≤ m → m ≤ n → n ≤ 32 → x / (PW m : Int) = x / (PW n : Int) / (2 ^ (n - m).toNat : Int) := by
        intro m n x h0 hmn hn
        have := PW_pos n
        rw [Int.ediv_ediv_of_nonneg (by omega)]
        congr 1
        unfold PW
        have e : 32 - m.toNat = (32 - n.toNat) + (n - m).toNat := by omega
        rw [e, Nat.pow_add]
        simp
      have key1 : hasB pA pN a = true → hasB qA qN a = true → covB pA pN qA qN = true ∨ covB qA qN pA pN = true := by
        unfold hasB covB
        rw [h1, h2]
        simp only [Bool.true_and, decide_eq_true_eq, Bool.and_eq_true]
        intro e1 e2
        unfold hasB
        rw [h1, h2]
        simp only [Bool.true_and, decide_eq_true_eq]
        rcases Int.le_total pN qN with h | h
        · refine .inl ⟨h, ?_⟩
          rw [hdv pN qN qA a0 h b1, ← e2, ← hdv pN qN a a0 h b1, e1]
        · refine .inr ⟨h, ?_⟩
          rw [hdv qN pN pA b0 h a1, ← e1, ← hdv qN pN a b0 h a1, e2]
      have key2 : covB pA pN qA qN = true → hasB qA qN a = true → hasB pA pN a = true := by
        unfold hasB covB
        rw [h1, h2]
        unfold hasB
        rw [h1]
        simp only [Bool.true_and, decide_eq_true_eq, Bool.and_eq_true]
        rintro ⟨h, e1⟩ e2
        rw [hdv pN qN a a0 h b1, e2, ← hdv pN qN qA a0 h b1, e1]
      have hcc : (covB pA pN qA qN == (cutA pA (comB pA pN qA qN) == pA && comB pA pN qA qN == pN)) = true := by
        rw [beq_iff_eq, Bool.eq_iff_iff, c4]
        simp
      have hw : wrap64 (comB pA pN qA qN + 1) = comB pA pN qA qN + 1 := wrap64_id _ (by omega) (by omega)
      have hcm := Common_f 96 pA pN qA qN hp hq
      rw [h1, h2, if_pos (by decide)] at hcm
      have hc2 : U32 (cutA pA (comB pA pN qA qN + 1)) := cut_U32 hp
      simp only [crossroadslaw03_AddrBlocks.j0, Bool.not_true, Bool.false_eq_true, if_false, Has_f _ _ _ hp ha, Has_f _ _ _ hq ha, Covers_f _ _ _ _ hp hq, Covers_f _ _ _ _ hq hp, Option.bind_some,
        crossroadslaw03_AddrBlocks.j1, crossroadslaw03_AddrBlocks.j2, hcm, Of_f _ _ hp, hw]
      generalize hg1 : covB pA pN qA qN = g1 at *
      generalize hg2 : covB qA qN pA pN = g2 at *
      generalize hg3 : hasB pA pN a = g3 at *
      generalize hg4 : hasB qA qN a = g4 at *
      by_cases h33 : 0 ≤ comB pA pN qA qN + 1 ∧ comB pA pN qA qN + 1 ≤ 32
      · rw [if_pos h33]
        simp only [if_true, Covers_f _ _ _ _ hc2 hp, Covers_f _ _ _ _ hc2 hq, Option.bind_some, crossroadslaw03_AddrBlocks.j3, alive_f 96 (by omega), Covers_f _ _ _ _ hcp hp, Covers_f _ _ _ _ hcp hq, c1, c2, hg1, hcc, Covers_f _ _ _ _ hp hq]
        have c3' := c3 h33.2
        generalize covB (cutA pA (comB pA pN qA qN + 1)) (comB pA pN qA qN + 1) pA pN = g5 at *
        generalize covB (cutA pA (comB pA pN qA qN + 1)) (comB pA pN qA qN + 1) qA qN = g6 at *
        cases g1 <;> cases g2 <;> cases g3 <;> cases g4 <;> cases g5 <;> cases g6 <;> simp at *
      · rw [if_neg h33]
        simp only [Option.bind_some, crossroadslaw03_AddrBlocks.j3, alive_f 96 (by omega), Covers_f _ _ _ _ hcp hp, Covers_f _ _ _ _ hcp hq, c1, c2, hg1, hcc, if_true, Covers_f _ _ _ _ hp hq]
        cases g1 <;> cases g2 <;> cases g3 <;> cases g4 <;> simp at *
end Go.Proofs.YtebioeboegmhlaaDoor.X
