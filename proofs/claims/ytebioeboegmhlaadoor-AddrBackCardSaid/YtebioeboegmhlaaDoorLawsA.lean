/- What the plain statements on prefixes share. -/
import Derived.Test.YtebioeboegmhlaaDoorAddr
set_option linter.unusedVariables false
set_option linter.unusedSimpArgs false
namespace Go.Proofs.YtebioeboegmhlaaDoor.X
open Go.RowKit Go.Proofs.YtebioeboegmhlaaDoorW.PrintWords Go.Proofs.YtebioeboegmhlaaDoorW.PrintMore

theorem up {α : Type} {F : Nat → Option α} (hF : ∀ k, LeO (F k) (F (k + 1))) {k0 k : Nat} (h : k0 ≤ k) {r : α} (hr : F k0 = some r) : F k = some r := by
  obtain ⟨d, rfl⟩ := Nat.exists_eq_add_of_le h
  induction d with
  | zero => exact hr
  | succ d ih => exact hF _ _ (ih (Nat.le_add_right _ _))

set_option maxRecDepth 100000 in
theorem alive_60 : crossroadslaw03_alive.f 60 = some true := by decide +kernel
theorem alive_f (k : Nat) (hk : 60 ≤ k) : crossroadslaw03_alive.f k = some true := up (fun k => crossroadslaw03_alive.mono k) hk alive_60

theorem cut_may (a n : Int) (h0 : 0 ≤ n) (h1 : n ≤ 32) : mayB (cutA a n) n = true := by
  rw [mayB_iff]
  exact ⟨h0, h1, by unfold cutA; exact Int.mul_emod_left _ _⟩
theorem cut_div (a n : Int) : cutA a n / (PW n : Int) = a / (PW n : Int) := by
  have := PW_pos n
  unfold cutA
  exact Int.mul_ediv_cancel _ (by omega)
theorem cov_cut (a n bA bN : Int) (h0 : 0 ≤ n) (h1 : n ≤ 32) : covB (cutA a n) n bA bN = (mayB bA bN && decide (n ≤ bN) && decide (bA / (PW n : Int) = a / (PW n : Int))) := by
  unfold covB hasB
  rw [cut_may a n h0 h1, cut_div, Bool.true_and]

theorem comB_le (p q : Nat) (pN qN n : Int) : n ≤ comB p pN q qN ↔ n ≤ pN ∧ n ≤ qN ∧ n ≤ lzB p q := by
  unfold comB mn; split <;> (try split) <;> omega

end Go.Proofs.YtebioeboegmhlaaDoor.X
