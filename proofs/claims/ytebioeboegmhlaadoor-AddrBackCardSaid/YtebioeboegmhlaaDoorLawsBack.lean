/- The plain statement of AddrBack. -/
import Derived.Test.YtebioeboegmhlaaDoorLawsA
import Derived.Test.YtebioeboegmhlaaDoorParse
import Derived.Test.YtebioeboegmhlaaDoorXb
set_option linter.unusedVariables false
set_option linter.unusedSimpArgs false
namespace Go.Proofs.YtebioeboegmhlaaDoor.X
open Go.RowKit Go.Proofs.YtebioeboegmhlaaDoorW.PrintWords Go.Proofs.YtebioeboegmhlaaDoorW.PrintMore

theorem txt_len (A N : Int) (hN : I64 N) : (txtOf A N).length ≤ 100 := by
  have h1 := dd_oct (oc_lt A.toNat 24)
  have h2 := dd_oct (oc_lt A.toNat 16)
  have h3 := dd_oct (oc_lt A.toNat 8)
  have h4 := dd_oct (oc_lt A.toNat 0)
  have h5 := itoa_len N hN.1 hN.2
  unfold txtOf txt
  simp
  omega
theorem dash_no (n : Nat) (m : Nat) : dd n ≠ 45 :: dd m := fun h => by
  have := dd_digits n 45 (by rw [h]; simp)
  revert this
  decide
/-- A prefix is read back from what it is written as, and what may not be is not. -/
theorem back_f (k : Nat) (hk : 10 ≤ k) (A N : Int) (hA : U32 A) (hN : I64 N) :
    (mayB A N = true → addr_Parse.f k (mk (txtOf A N)) = some (A, N, 0)) ∧ (mayB A N = false → ∃ x y e, addr_Parse.f k (mk (txtOf A N)) = some (x, y, e) ∧ e ≠ 0) := by
  have hl := txt_len A N hN
  by_cases hr : 0 ≤ N ∧ N ≤ 32
  · obtain ⟨ht, he⟩ := txt_is A N hA hr.1 hr.2
    have eN : (N.toNat : Int) = N := by omega
    rcases Parse_f (txtOf A N) (by omega) k hk with ⟨a, b, c, d, n, ht', hf⟩ | ⟨hno, hf⟩
    · obtain ⟨e1, e2, e3, e4, e5⟩ := ht.unique ht'
      rw [← e1, ← e2, ← e3, ← e4, ← e5] at hf
      unfold fin at hf
      rw [he, eN] at hf
      constructor
      · intro hm; rw [hf, if_pos hm]
      · intro hm; exact ⟨0, 0, 1, by rw [hf, hm]; rfl, by decide⟩
    · exact absurd ht (hno _ _ _ _ _)
  · refine ⟨fun hm => absurd ⟨(mayB_iff.1 hm).1, (mayB_iff.1 hm).2.1⟩ hr, fun _ => ?_⟩
    rcases Parse_f (txtOf A N) (by omega) k hk with ⟨a, b, c, d, n, ht, hf⟩ | ⟨hno, hf⟩
    · exfalso
      apply hr
      have e := ht.eq
      unfold txtOf txt at e
      obtain ⟨_, q2⟩ := dd_split (ends_dot _) (ends_dot _) e
      obtain ⟨_, q4⟩ := dd_split (ends_dot _) (ends_dot _) (List.cons.inj q2).2
      obtain ⟨_, q6⟩ := dd_split (ends_dot _) (ends_dot _) (List.cons.inj q4).2
      obtain ⟨_, q8⟩ := dd_split (ends_slash _) (ends_slash _) (List.cons.inj q6).2
      have q9 := (List.cons.inj q8).2
      have hn := ht.n
      unfold Lib.itoa at q9
      by_cases h0 : N < 0
      · rw [if_pos h0] at q9
        exact absurd q9.symm (dash_no n _)
      · rw [if_neg h0] at q9
        have := dd_inj (m := N.toNat) (n := n) q9
        omega
    · exact ⟨0, 0, 3, hf, by decide⟩

theorem AddrBack (A N n : Int) (hA : U32 A) (hN : I64 N) : crossroadslaw03_AddrBack.f 100 A N n = some true := by
  have h1 : ∀ k, 60 ≤ k → crossroadslaw03_AddrBack.j1 (k + 1) A N = some true := by
    intro k hk
    rw [crossroadslaw03_AddrBack.j1, Text_f k (by omega) A N hA hN, Option.bind_some, May_f A N hA, alive_f k hk]
    obtain ⟨b1, b2⟩ := back_f k (by omega) A N hA hN
    cases hm : mayB A N with
    | true => rw [b1 hm]; simp
    | false =>
      obtain ⟨x, y, e, hp, he⟩ := b2 hm
      rw [hp]
      simp [he]
  unfold crossroadslaw03_AddrBack.f
  by_cases h0 : n ≥ 0
  · rw [if_pos h0, crossroadslaw03_AddrBack.j0]
    by_cases h32 : n ≤ 32
    · rw [if_pos (decide_eq_true h32), Mask_all, Option.bind_some]
      have hU : U32 ((2 ^ 32 - PW n : Nat) : Int) := by
        have := PW_pos n
        have e32 : (2 : Nat) ^ 32 = 4294967296 := by decide
        unfold U32; omega
      rw [(Long_f _ hU).1 n h0 h32 rfl, Option.bind_some, if_pos rfl, if_pos rfl]
      exact h1 98 (by omega)
    · rw [if_neg (by simpa using h32)]
      exact h1 98 (by omega)
  · rw [if_neg h0, crossroadslaw03_AddrBack.j0, if_neg (by decide)]
    exact h1 98 (by omega)
end Go.Proofs.YtebioeboegmhlaaDoor.X
