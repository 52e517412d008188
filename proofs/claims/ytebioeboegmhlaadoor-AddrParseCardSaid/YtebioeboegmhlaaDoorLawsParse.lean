/- The plain statement of AddrParse. -/
import Derived.Test.YtebioeboegmhlaaDoorLawsA
import Derived.Test.YtebioeboegmhlaaDoorParse2
import Derived.Test.YtebioeboegmhlaaDoorXx5
set_option linter.unusedVariables false
set_option linter.unusedSimpArgs false
namespace Go.Proofs.YtebioeboegmhlaaDoor.X
open Go.RowKit Go.Proofs.YtebioeboegmhlaaDoorW.PrintWords Go.Proofs.YtebioeboegmhlaaDoorW.PrintMore

theorem AddrParse (s : ByteArray) : crossroadslaw03_AddrParse.f 100 s = some true := by
  unfold crossroadslaw03_AddrParse.f
  rw [alive_f 100 (by omega)]
  by_cases h : (s.size : Int) > 60
  · rw [if_pos h]; rfl
  · rw [if_neg h]
    rw [mk_of s] at h ⊢
    rw [mk_size] at h
    generalize s.data.toList = l at h ⊢
    rcases Parse_f l (by omega) 100 (by omega) with ⟨a, b, c, d, n, ht, hf⟩ | ⟨hno, hf⟩
    · rcases rParse_f l 100 (by omega) with ⟨a', b', c', d', n', ht', hf'⟩ | ⟨hno, hf'⟩
      · obtain ⟨rfl, rfl, rfl, rfl, rfl⟩ := ht.unique ht'
        rw [hf, hf']
        unfold fin
        cases hm : mayB (adr a b c d : Int) (n : Int) with
        | false => simp
        | true =>
          have hU := adr_U32 ht.a ht.b ht.c ht.d
          have hn := ht.n
          have hT := Text_f 100 (by omega) (adr a b c d : Int) (n : Int) hU (by unfold I64; omega)
          rw [txt_of ht] at hT
          simp [hT]
      · exact absurd ht (hno a b c d n)
    · rcases rParse_f l 100 (by omega) with ⟨a', b', c', d', n', ht', hf'⟩ | ⟨hno', hf'⟩
      · exact absurd ht' (hno a' b' c' d' n')
      · rw [hf, hf']; simp
end Go.Proofs.YtebioeboegmhlaaDoor.X
