/- The plain statement of AddrTold. -/
import Derived.Test.YtebioeboegmhlaaDoorLawsA
import Derived.Test.YtebioeboegmhlaaDoorText
import Derived.Test.YtebioeboegmhlaaDoorXx13
set_option linter.unusedVariables false
set_option linter.unusedSimpArgs false
namespace Go.Proofs.YtebioeboegmhlaaDoor.X
open Go.RowKit Go.Proofs.YtebioeboegmhlaaDoorW.PrintWords Go.Proofs.YtebioeboegmhlaaDoorW.PrintMore

theorem AddrTold (A N a i : Int) (hA : U32 A) (hN : I64 N) (ha : U32 a) (hi : I64 i) : crossroadslaw03_AddrTold.f 100 A N a i = some true := by
  obtain ⟨r, hl, hrl⟩ := Long_same 100 (by omega) a ha
  unfold crossroadslaw03_AddrTold.f
  rw [Of_f a i ha, rOf_f 100 (by omega) a i ha, hl, hrl, alive_f 100 (by omega), May_f A N hA, rMay_f 100 (by omega) A N hA, Has_f A N a hA ha, rHas_f 100 (by omega) A N a hA ha, Bit_f a i ha hi, rBit_f a i ha hi, Mask_all, rMask_f 100 (by omega),
    Text_f 100 (by omega) A N hA hN, rText_f 100 (by omega) A N hA hN]
  simp
end Go.Proofs.YtebioeboegmhlaaDoor.X
