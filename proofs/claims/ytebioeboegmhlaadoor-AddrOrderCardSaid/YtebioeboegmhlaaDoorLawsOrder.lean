/- The plain statement of AddrOrder. -/
import Derived.Test.YtebioeboegmhlaaDoorLawsA
import Derived.Test.YtebioeboegmhlaaDoorXx6
set_option linter.unusedVariables false
set_option linter.unusedSimpArgs false
namespace Go.Proofs.YtebioeboegmhlaaDoor.X
open Go.RowKit Go.Proofs.YtebioeboegmhlaaDoorW.PrintWords Go.Proofs.YtebioeboegmhlaaDoorW.PrintMore

theorem le_of_cut {A N : Int} (hA : U32 A) : cutA A N ≤ A := by
  have hp := PW_pos N
  exact Int.ediv_mul_le A (by omega)
theorem cov_less {pA pN qA qN : Int} (hp : U32 pA) (hq : U32 qA) (h : covB pA pN qA qN = true) : (pA = qA ∧ pN = qN) ∨ lessB pA pN qA qN = true := by
  unfold covB hasB at h
  simp only [Bool.and_eq_true, decide_eq_true_eq] at h
  obtain ⟨⟨_, h1⟩, h2, h3⟩ := h
  obtain ⟨_, _, h4⟩ := mayB_iff.1 h2
  have h5 := (cut_eq h4).2 h3
  have h6 := le_of_cut (N := pN) hq
  unfold lessB
  simp only [Bool.or_eq_true, Bool.and_eq_true, decide_eq_true_eq]
  omega

theorem AddrOrder (pA pN qA qN sA sN : Int) (hp : U32 pA) (hq : U32 qA) : crossroadslaw03_AddrOrder.f 100 pA pN qA qN sA sN = some true := by
  unfold crossroadslaw03_AddrOrder.f
  have hal := alive_f 99 (by omega)
  have hcl := fun h => cov_less (pN := pN) (qN := qN) hp hq h
  simp only [Less_f, Option.bind_some, crossroadslaw03_AddrOrder.j0, hal, Covers_f _ _ _ _ hp hq]
  generalize covB pA pN qA qN = c at *
  have e1 : lessB pA pN qA qN = true ↔ (pA < qA ∨ pA = qA ∧ pN < qN) := by simp [lessB]
  have e2 : lessB qA qN pA pN = true ↔ (qA < pA ∨ qA = pA ∧ qN < pN) := by simp [lessB]
  have e3 : lessB qA qN sA sN = true ↔ (qA < sA ∨ qA = sA ∧ qN < sN) := by simp [lessB]
  have e4 : lessB pA pN sA sN = true ↔ (pA < sA ∨ pA = sA ∧ pN < sN) := by simp [lessB]
  have e5 : (pA == qA && pN == qN) = true ↔ (pA = qA ∧ pN = qN) := by simp
  generalize lessB pA pN qA qN = b1 at *
  generalize lessB qA qN pA pN = b2 at *
  generalize lessB qA qN sA sN = b3 at *
  generalize lessB pA pN sA sN = b4 at *
  generalize (pA == qA && pN == qN) = b5 at *
  cases b1 <;> cases b2 <;> cases b3 <;> cases b4 <;> cases b5 <;> cases c <;> simp at * <;> omega

end Go.Proofs.YtebioeboegmhlaaDoor.X
