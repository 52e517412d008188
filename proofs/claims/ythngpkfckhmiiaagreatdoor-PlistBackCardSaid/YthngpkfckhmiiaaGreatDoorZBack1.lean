/- Parts of the proof: Xx8, Xx4, GivenB, Lim, SlK, SlC, SlInsR, SlDelR, SlCloR, SlFindR, GivenD, GC1, GC2. -/
import Derived.Test.YthngpkfckhmiiaaGreatDoorZBack0
import Derived.Test.YthngpkfckhmiiaaGreatDoorProg
import Derived.Shelf.Strings.SlTrimAscii
import Derived.Outline
import Derived.Handy
import Derived.BigRegion
import Derived.RegionTactic
import Derived.Laws.AppendOwn
import Derived.Laws.CopyRow
import Derived.Laws.BitsLemmas
import Derived.Lib.AppendZeros
import Derived.Lib.AppendZerosOnto
import Derived.Lib.Overlaps
import Derived.Maps.AppendAt
import Derived.Deep.AppendLies
import Derived.Below
import Derived.WalkKit
import Derived.Laws.Externs
import Derived.Laws.IdiomCopy
import Derived.Laws.NewBlocks
import Derived.Lib.Hide
import Derived.Shelf.RegionOpenPlain
import Derived.Deep.RegionLaw
import Derived.WalkSpells
import Derived.Lib.SliceRun
import Derived.Deep.LoopGhost
import Derived.Lib.SmallJoins
import Derived.Shelf.Abstract
import Derived.Deep.RegionHeld3
section
namespace Go.Proofs.YthngpkfckhmiiaaGreatDoor.X
open Go.RowKit Go.Proofs.YthngpkfckhmiiaaGreatDoorW.PrintWords Go.Proofs.YthngpkfckhmiiaaGreatDoorW.PrintLast Go.Proofs.YthngpkfckhmiiaaGreatDoorW.PrintMore
attribute [local go_sem] max2_int min2_int max_two min_two max_three min_three max_four min_four   -- for this text's walks alone
set_option linter.unusedVariables false
set_option linter.unusedSimpArgs false
def plist_May.f (a0_0 : Int) (a0_1 : Bool) (a0_2 : Int) (a0_3 : Int) (a0_4 : Int) (a0_5 : Int) : Option (Bool) := if a0_0 < 1 then (some false) else (if a0_0 > 65535 then (some false) else ((addr_May.f a0_2 a0_3).bind fun t134 => (if t134 = true then (if a0_4 = 0 then (if a0_5 = 0 then (some true) else (if a0_5 ≥ (mx a0_4 a0_3) then (some (decide (a0_5 ≤ 32))) else (some false))) else (if a0_4 > a0_3 then (if a0_5 = 0 then (if a0_4 ≤ 32 then (some true) else (some false)) else (if a0_5 ≥ (mx a0_4 a0_3) then (if a0_4 ≤ 32 then (some (decide (a0_5 ≤ 32))) else (some false)) else (if a0_4 ≤ 32 then (some false) else (some false)))) else (if a0_5 = 0 then (some false) else (if a0_5 ≥ (mx a0_4 a0_3) then (some false) else (some false))))) else (some false))))
set_option maxHeartbeats 8000000 in
set_option maxRecDepth 100000 in
theorem plist_May.calls (a0_0 : Int) (a0_1 : Bool) (a0_2 : Int) (a0_3 : Int) (a0_4 : Int) (a0_5 : Int) (r : Bool) (w : World) (h : plist_May.f a0_0 a0_1 a0_2 a0_3 a0_4 a0_5 = some r) :
  Calls Tryz.prog 10 #[.agg #[.int .i64 a0_0, .bool a0_1, .int .u32 a0_2, .int .i64 a0_3, .int .i64 a0_4, .int .i64 a0_5]] w fun e w' => e = .returned (.bool r) ∧ Below w.heap.size w w' := by
 have hu26 := Tryz.underlying26
 have hu24 := Tryz.underlying24
 have HB := Aside0.mk (Below.refl w.heap.size w)
 have H : (if a0_0 < 1 then (some false) else (if a0_0 > 65535 then (some false) else ((addr_May.f a0_2 a0_3).bind fun t134 => (if t134 = true then (if a0_4 = 0 then (if a0_5 = 0 then (some true) else (if a0_5 ≥ (mx a0_4 a0_3) then (some (decide (a0_5 ≤ 32))) else (some false))) else (if a0_4 > a0_3 then (if a0_5 = 0 then (if a0_4 ≤ 32 then (some true) else (some false)) else (if a0_5 ≥ (mx a0_4 a0_3) then (if a0_4 ≤ 32 then (some (decide (a0_5 ≤ 32))) else (some false)) else (if a0_4 ≤ 32 then (some false) else (some false)))) else (if a0_5 = 0 then (some false) else (if a0_5 ≥ (mx a0_4 a0_3) then (some false) else (some false))))) else (some false))))) = some r := h
 clear h
 by_cases c2 : a0_0 < 1
 ·rw [if_pos c2] at H
  have c2b0 : decide (a0_0 < 1) = true := decide_eq_true c2
  clear c2
  obtain rfl := Option.some.inj H
  go_enter Tryz.func10, Tryz.ntmps10
  go_wp2_with (first | ((with_reducible refine gate_dst (N := 1) rfl ?_); (try (refine gate_guard (by rfl) ?_; dsimp only)); refine box_event ?hg (N := 1) ?hd (cs := #[.int .i64 a0_0, .bool a0_1, .int .u32 a0_2, .int .i64 a0_3, .int .i64 a0_4, .int .i64 a0_5]) (t := 26) ?hr ?_; (case hd => rfl); (case hg => rfl); (case hr => first | (go_simp; done)); intro gb133 hg w3 hbox hb; have n0_ := Aside0.mk (below_step (by repeat (first | (with_reducible first | exact HB.out))) hb); have n1_ := Aside0.mk (hbox); have n2_ := Aside0.mk ((by rw [hg]; exact (below_size (by repeat (first | (with_reducible first | exact HB.out)))) : w.heap.size ≤ gb133)); have n3_ := Aside0.mk ((by rw [hg]; exact (below_size (by repeat (first | (with_reducible first | exact HB.out)))) : w.heap.size ≤ gb133)); clear HB; have HB := n0_; have BK133 := n1_; have GW133 := n2_; have GE133 := n3_; clear n0_ n1_ n2_ n3_; clear hb hbox hg; have hcz4_0 : w3.cell? ⟨gb133, 0, none⟩ = some (.int .i64 a0_0) := (blk_cell BK133.out 0).trans rfl; have hcz4_1 : w3.cell? ⟨gb133, 1, none⟩ = some (.bool a0_1) := (blk_cell BK133.out 1).trans rfl; have hcz4_2 : w3.cell? ⟨gb133, 2, none⟩ = some (.int .u32 a0_2) := (blk_cell BK133.out 2).trans rfl; have hcz4_3 : w3.cell? ⟨gb133, 3, none⟩ = some (.int .i64 a0_3) := (blk_cell BK133.out 3).trans rfl; have hcz4_4 : w3.cell? ⟨gb133, 4, none⟩ = some (.int .i64 a0_4) := (blk_cell BK133.out 4).trans rfl; have hcz4_5 : w3.cell? ⟨gb133, 5, none⟩ = some (.int .i64 a0_5) := (blk_cell BK133.out 5).trans rfl; have hfz4_0 := blk_frozen BK133.out 0; have hfz4_1 := blk_frozen BK133.out 1; have hfz4_2 := blk_frozen BK133.out 2; have hfz4_3 := blk_frozen BK133.out 3; have hfz4_4 := blk_frozen BK133.out 4; have hfz4_5 := blk_frozen BK133.out 5))
  go_ret
  exact ⟨by first | rfl, by repeat (first | (with_reducible first | exact HB.out))⟩
 ·rw [if_neg c2] at H
  have c2b0 : decide (a0_0 < 1) = false := decide_eq_false c2
  clear c2
  by_cases c5 : a0_0 > 65535
  ·rw [if_pos c5] at H
   have c5b0 : decide (65535 < a0_0) = true := decide_eq_true c5
   clear c5
   obtain rfl := Option.some.inj H
   go_enter Tryz.func10, Tryz.ntmps10
   go_wp2_with (first | ((with_reducible refine gate_dst (N := 1) rfl ?_); (try (refine gate_guard (by rfl) ?_; dsimp only)); refine box_event ?hg (N := 1) ?hd (cs := #[.int .i64 a0_0, .bool a0_1, .int .u32 a0_2, .int .i64 a0_3, .int .i64 a0_4, .int .i64 a0_5]) (t := 26) ?hr ?_; (case hd => rfl); (case hg => rfl); (case hr => first | (go_simp; done)); intro gb133 hg w6 hbox hb; have n0_ := Aside0.mk (below_step (by repeat (first | (with_reducible first | exact HB.out))) hb); have n1_ := Aside0.mk (hbox); have n2_ := Aside0.mk ((by rw [hg]; exact (below_size (by repeat (first | (with_reducible first | exact HB.out)))) : w.heap.size ≤ gb133)); have n3_ := Aside0.mk ((by rw [hg]; exact (below_size (by repeat (first | (with_reducible first | exact HB.out)))) : w.heap.size ≤ gb133)); clear HB; have HB := n0_; have BK133 := n1_; have GW133 := n2_; have GE133 := n3_; clear n0_ n1_ n2_ n3_; clear hb hbox hg; have hcz7_0 : w6.cell? ⟨gb133, 0, none⟩ = some (.int .i64 a0_0) := (blk_cell BK133.out 0).trans rfl; have hcz7_1 : w6.cell? ⟨gb133, 1, none⟩ = some (.bool a0_1) := (blk_cell BK133.out 1).trans rfl; have hcz7_2 : w6.cell? ⟨gb133, 2, none⟩ = some (.int .u32 a0_2) := (blk_cell BK133.out 2).trans rfl; have hcz7_3 : w6.cell? ⟨gb133, 3, none⟩ = some (.int .i64 a0_3) := (blk_cell BK133.out 3).trans rfl; have hcz7_4 : w6.cell? ⟨gb133, 4, none⟩ = some (.int .i64 a0_4) := (blk_cell BK133.out 4).trans rfl; have hcz7_5 : w6.cell? ⟨gb133, 5, none⟩ = some (.int .i64 a0_5) := (blk_cell BK133.out 5).trans rfl; have hfz7_0 := blk_frozen BK133.out 0; have hfz7_1 := blk_frozen BK133.out 1; have hfz7_2 := blk_frozen BK133.out 2; have hfz7_3 := blk_frozen BK133.out 3; have hfz7_4 := blk_frozen BK133.out 4; have hfz7_5 := blk_frozen BK133.out 5))
   go_ret
   exact ⟨by first | rfl, by repeat (first | (with_reducible first | exact HB.out))⟩
  ·rw [if_neg c5] at H
   have c5b0 : decide (65535 < a0_0) = false := decide_eq_false c5
   clear c5
   replace H := Option.bind_eq_some_iff.mp H
   obtain ⟨t134, A80, H⟩ := H
   replace H : (if t134 = true then (if a0_4 = 0 then (if a0_5 = 0 then (some true) else (if a0_5 ≥ (mx a0_4 a0_3) then (some (decide (a0_5 ≤ 32))) else (some false))) else (if a0_4 > a0_3 then (if a0_5 = 0 then (if a0_4 ≤ 32 then (some true) else (some false)) else (if a0_5 ≥ (mx a0_4 a0_3) then (if a0_4 ≤ 32 then (some (decide (a0_5 ≤ 32))) else (some false)) else (if a0_4 ≤ 32 then (some false) else (some false)))) else (if a0_5 = 0 then (some false) else (if a0_5 ≥ (mx a0_4 a0_3) then (some false) else (some false))))) else (some false)) = some r := H
   have A8 := Aside0.mk A80
   clear A80
   by_cases c9 : t134 = true
   ·subst c9
    have H1 : (if a0_4 = 0 then (if a0_5 = 0 then (some true) else (if a0_5 ≥ (mx a0_4 a0_3) then (some (decide (a0_5 ≤ 32))) else (some false))) else (if a0_4 > a0_3 then (if a0_5 = 0 then (if a0_4 ≤ 32 then (some true) else (some false)) else (if a0_5 ≥ (mx a0_4 a0_3) then (if a0_4 ≤ 32 then (some (decide (a0_5 ≤ 32))) else (some false)) else (if a0_4 ≤ 32 then (some false) else (some false)))) else (if a0_5 = 0 then (some false) else (if a0_5 ≥ (mx a0_4 a0_3) then (some false) else (some false))))) = some r := by rw [if_pos rfl] at H; exact H
    clear H
    have H := H1
    clear H1
    by_cases c10 : a0_4 = 0
    ·rw [if_pos c10] at H
     have c10b0 : (a0_4 == 0) = true := beq_iff_eq.mpr c10
     have c10b1 : (a0_4 != 0) = false := bne_eq_false_iff_eq.mpr c10
     clear c10
     by_cases c11 : a0_5 = 0
     ·rw [if_pos c11] at H
      have c11b0 : (a0_5 == 0) = true := beq_iff_eq.mpr c11
      have c11b1 : (a0_5 != 0) = false := bne_eq_false_iff_eq.mpr c11
      clear c11
      obtain rfl := Option.some.inj H
      go_enter Tryz.func10, Tryz.ntmps10
      go_wp2_with (first | ((with_reducible refine gate_dst (N := 1) rfl ?_); (try (refine gate_guard (by rfl) ?_; dsimp only)); refine box_event ?hg (N := 1) ?hd (cs := #[.int .i64 a0_0, .bool a0_1, .int .u32 a0_2, .int .i64 a0_3, .int .i64 a0_4, .int .i64 a0_5]) (t := 26) ?hr ?_; (case hd => rfl); (case hg => rfl); (case hr => first | (go_simp; done)); intro gb133 hg w12 hbox hb; have n0_ := Aside0.mk (below_step (by repeat (first | (with_reducible first | exact HB.out))) hb); have n1_ := Aside0.mk (hbox); have n2_ := Aside0.mk ((by rw [hg]; exact (below_size (by repeat (first | (with_reducible first | exact HB.out)))) : w.heap.size ≤ gb133)); have n3_ := Aside0.mk ((by rw [hg]; exact (below_size (by repeat (first | (with_reducible first | exact HB.out)))) : w.heap.size ≤ gb133)); clear HB; have HB := n0_; have BK133 := n1_; have GW133 := n2_; have GE133 := n3_; clear n0_ n1_ n2_ n3_; clear hb hbox hg; have hcz13_0 : w12.cell? ⟨gb133, 0, none⟩ = some (.int .i64 a0_0) := (blk_cell BK133.out 0).trans rfl; have hcz13_1 : w12.cell? ⟨gb133, 1, none⟩ = some (.bool a0_1) := (blk_cell BK133.out 1).trans rfl; have hcz13_2 : w12.cell? ⟨gb133, 2, none⟩ = some (.int .u32 a0_2) := (blk_cell BK133.out 2).trans rfl; have hcz13_3 : w12.cell? ⟨gb133, 3, none⟩ = some (.int .i64 a0_3) := (blk_cell BK133.out 3).trans rfl; have hcz13_4 : w12.cell? ⟨gb133, 4, none⟩ = some (.int .i64 a0_4) := (blk_cell BK133.out 4).trans rfl; have hcz13_5 : w12.cell? ⟨gb133, 5, none⟩ = some (.int .i64 a0_5) := (blk_cell BK133.out 5).trans rfl; have hfz13_0 := blk_frozen BK133.out 0; have hfz13_1 := blk_frozen BK133.out 1; have hfz13_2 := blk_frozen BK133.out 2; have hfz13_3 := blk_frozen BK133.out 3; have hfz13_4 := blk_frozen BK133.out 4; have hfz13_5 := blk_frozen BK133.out 5) | (go_at_call 37; (with_reducible refine (addr_May.calls a0_2 a0_3 true _ A8.out).mono ?_); rintro e w14 ⟨rfl, hb⟩; have n0_ := Aside0.mk (blk_below (g := gb133) (o := .cells #[.int .i64 a0_0, .bool a0_1, .int .u32 a0_2, .int .i64 a0_3, .int .i64 a0_4, .int .i64 a0_5] 26 (0, 0)) (by (with_reducible repeat (fail)); exact BK133.out) hb); have n1_ := Aside0.mk (below_step (by repeat (first | (with_reducible first | exact HB.out))) hb); clear BK133; clear HB; have BK133 := n0_; have HB := n1_; clear n0_ n1_; (try clear hb); (try clear hb2); (try clear hk); (try clear hi); have hcz15_0 : w14.cell? ⟨gb133, 0, none⟩ = some (.int .i64 a0_0) := (blk_cell BK133.out 0).trans rfl; have hcz15_1 : w14.cell? ⟨gb133, 1, none⟩ = some (.bool a0_1) := (blk_cell BK133.out 1).trans rfl; have hcz15_2 : w14.cell? ⟨gb133, 2, none⟩ = some (.int .u32 a0_2) := (blk_cell BK133.out 2).trans rfl; have hcz15_3 : w14.cell? ⟨gb133, 3, none⟩ = some (.int .i64 a0_3) := (blk_cell BK133.out 3).trans rfl; have hcz15_4 : w14.cell? ⟨gb133, 4, none⟩ = some (.int .i64 a0_4) := (blk_cell BK133.out 4).trans rfl; have hcz15_5 : w14.cell? ⟨gb133, 5, none⟩ = some (.int .i64 a0_5) := (blk_cell BK133.out 5).trans rfl; have hfz15_0 := blk_frozen BK133.out 0; have hfz15_1 := blk_frozen BK133.out 1; have hfz15_2 := blk_frozen BK133.out 2; have hfz15_3 := blk_frozen BK133.out 3; have hfz15_4 := blk_frozen BK133.out 4; have hfz15_5 := blk_frozen BK133.out 5))
      go_ret
      exact ⟨by first | rfl, by repeat (first | (with_reducible first | exact HB.out))⟩
     ·rw [if_neg c11] at H
      have c11b0 : (a0_5 == 0) = false := beq_eq_false_iff_ne.mpr c11
      have c11b1 : (a0_5 != 0) = true := bne_iff_ne.mpr c11
      obtain ⟨ji16, hji16⟩ : ∃ j_ : Int, (mx a0_4 a0_3) = j_ := ⟨_, rfl⟩
      replace H : (if a0_5 ≥ (ji16) then (some (decide (a0_5 ≤ 32))) else (some false)) = some r := by first | (rw [hji16] at H; exact H)
      (try rw [hji16] at A8)
      have hji16_ : (if a0_4 < a0_3 then a0_3 else a0_4) = ji16 := hji16
      by_cases c17 : a0_5 ≥ (ji16)
      ·rw [if_pos c17] at H
       have c17b0 : decide ((ji16) ≤ a0_5) = true := decide_eq_true c17
       clear c17
       obtain rfl := Option.some.inj H
       go_enter Tryz.func10, Tryz.ntmps10
       go_wp2_with (first | ((with_reducible refine gate_dst (N := 1) rfl ?_); (try (refine gate_guard (by rfl) ?_; dsimp only)); refine box_event ?hg (N := 1) ?hd (cs := #[.int .i64 a0_0, .bool a0_1, .int .u32 a0_2, .int .i64 a0_3, .int .i64 a0_4, .int .i64 a0_5]) (t := 26) ?hr ?_; (case hd => rfl); (case hg => rfl); (case hr => first | (go_simp; done)); intro gb133 hg w18 hbox hb; have n0_ := Aside0.mk (below_step (by repeat (first | (with_reducible first | exact HB.out))) hb); have n1_ := Aside0.mk (hbox); have n2_ := Aside0.mk ((by rw [hg]; exact (below_size (by repeat (first | (with_reducible first | exact HB.out)))) : w.heap.size ≤ gb133)); have n3_ := Aside0.mk ((by rw [hg]; exact (below_size (by repeat (first | (with_reducible first | exact HB.out)))) : w.heap.size ≤ gb133)); clear HB; have HB := n0_; have BK133 := n1_; have GW133 := n2_; have GE133 := n3_; clear n0_ n1_ n2_ n3_; clear hb hbox hg; have hcz19_0 : w18.cell? ⟨gb133, 0, none⟩ = some (.int .i64 a0_0) := (blk_cell BK133.out 0).trans rfl; have hcz19_1 : w18.cell? ⟨gb133, 1, none⟩ = some (.bool a0_1) := (blk_cell BK133.out 1).trans rfl; have hcz19_2 : w18.cell? ⟨gb133, 2, none⟩ = some (.int .u32 a0_2) := (blk_cell BK133.out 2).trans rfl; have hcz19_3 : w18.cell? ⟨gb133, 3, none⟩ = some (.int .i64 a0_3) := (blk_cell BK133.out 3).trans rfl; have hcz19_4 : w18.cell? ⟨gb133, 4, none⟩ = some (.int .i64 a0_4) := (blk_cell BK133.out 4).trans rfl; have hcz19_5 : w18.cell? ⟨gb133, 5, none⟩ = some (.int .i64 a0_5) := (blk_cell BK133.out 5).trans rfl; have hfz19_0 := blk_frozen BK133.out 0; have hfz19_1 := blk_frozen BK133.out 1; have hfz19_2 := blk_frozen BK133.out 2; have hfz19_3 := blk_frozen BK133.out 3; have hfz19_4 := blk_frozen BK133.out 4; have hfz19_5 := blk_frozen BK133.out 5) | (go_at_call 37; (with_reducible refine (addr_May.calls a0_2 a0_3 true _ A8.out).mono ?_); rintro e w20 ⟨rfl, hb⟩; have n0_ := Aside0.mk (blk_below (g := gb133) (o := .cells #[.int .i64 a0_0, .bool a0_1, .int .u32 a0_2, .int .i64 a0_3, .int .i64 a0_4, .int .i64 a0_5] 26 (0, 0)) (by (with_reducible repeat (fail)); exact BK133.out) hb); have n1_ := Aside0.mk (below_step (by repeat (first | (with_reducible first | exact HB.out))) hb); clear BK133; clear HB; have BK133 := n0_; have HB := n1_; clear n0_ n1_; (try clear hb); (try clear hb2); (try clear hk); (try clear hi); have hcz21_0 : w20.cell? ⟨gb133, 0, none⟩ = some (.int .i64 a0_0) := (blk_cell BK133.out 0).trans rfl; have hcz21_1 : w20.cell? ⟨gb133, 1, none⟩ = some (.bool a0_1) := (blk_cell BK133.out 1).trans rfl; have hcz21_2 : w20.cell? ⟨gb133, 2, none⟩ = some (.int .u32 a0_2) := (blk_cell BK133.out 2).trans rfl; have hcz21_3 : w20.cell? ⟨gb133, 3, none⟩ = some (.int .i64 a0_3) := (blk_cell BK133.out 3).trans rfl; have hcz21_4 : w20.cell? ⟨gb133, 4, none⟩ = some (.int .i64 a0_4) := (blk_cell BK133.out 4).trans rfl; have hcz21_5 : w20.cell? ⟨gb133, 5, none⟩ = some (.int .i64 a0_5) := (blk_cell BK133.out 5).trans rfl; have hfz21_0 := blk_frozen BK133.out 0; have hfz21_1 := blk_frozen BK133.out 1; have hfz21_2 := blk_frozen BK133.out 2; have hfz21_3 := blk_frozen BK133.out 3; have hfz21_4 := blk_frozen BK133.out 4; have hfz21_5 := blk_frozen BK133.out 5))
       go_ret
       exact ⟨by first | rfl, by repeat (first | (with_reducible first | exact HB.out))⟩
      ·rw [if_neg c17] at H
       have c17b0 : decide ((ji16) ≤ a0_5) = false := decide_eq_false c17
       clear c17
       obtain rfl := Option.some.inj H
       go_enter Tryz.func10, Tryz.ntmps10
       go_wp2_with (first | ((with_reducible refine gate_dst (N := 1) rfl ?_); (try (refine gate_guard (by rfl) ?_; dsimp only)); refine box_event ?hg (N := 1) ?hd (cs := #[.int .i64 a0_0, .bool a0_1, .int .u32 a0_2, .int .i64 a0_3, .int .i64 a0_4, .int .i64 a0_5]) (t := 26) ?hr ?_; (case hd => rfl); (case hg => rfl); (case hr => first | (go_simp; done)); intro gb133 hg w22 hbox hb; have n0_ := Aside0.mk (below_step (by repeat (first | (with_reducible first | exact HB.out))) hb); have n1_ := Aside0.mk (hbox); have n2_ := Aside0.mk ((by rw [hg]; exact (below_size (by repeat (first | (with_reducible first | exact HB.out)))) : w.heap.size ≤ gb133)); have n3_ := Aside0.mk ((by rw [hg]; exact (below_size (by repeat (first | (with_reducible first | exact HB.out)))) : w.heap.size ≤ gb133)); clear HB; have HB := n0_; have BK133 := n1_; have GW133 := n2_; have GE133 := n3_; clear n0_ n1_ n2_ n3_; clear hb hbox hg; have hcz23_0 : w22.cell? ⟨gb133, 0, none⟩ = some (.int .i64 a0_0) := (blk_cell BK133.out 0).trans rfl; have hcz23_1 : w22.cell? ⟨gb133, 1, none⟩ = some (.bool a0_1) := (blk_cell BK133.out 1).trans rfl; have hcz23_2 : w22.cell? ⟨gb133, 2, none⟩ = some (.int .u32 a0_2) := (blk_cell BK133.out 2).trans rfl; have hcz23_3 : w22.cell? ⟨gb133, 3, none⟩ = some (.int .i64 a0_3) := (blk_cell BK133.out 3).trans rfl; have hcz23_4 : w22.cell? ⟨gb133, 4, none⟩ = some (.int .i64 a0_4) := (blk_cell BK133.out 4).trans rfl; have hcz23_5 : w22.cell? ⟨gb133, 5, none⟩ = some (.int .i64 a0_5) := (blk_cell BK133.out 5).trans rfl; have hfz23_0 := blk_frozen BK133.out 0; have hfz23_1 := blk_frozen BK133.out 1; have hfz23_2 := blk_frozen BK133.out 2; have hfz23_3 := blk_frozen BK133.out 3; have hfz23_4 := blk_frozen BK133.out 4; have hfz23_5 := blk_frozen BK133.out 5) | (go_at_call 37; (with_reducible refine (addr_May.calls a0_2 a0_3 true _ A8.out).mono ?_); rintro e w24 ⟨rfl, hb⟩; have n0_ := Aside0.mk (blk_below (g := gb133) (o := .cells #[.int .i64 a0_0, .bool a0_1, .int .u32 a0_2, .int .i64 a0_3, .int .i64 a0_4, .int .i64 a0_5] 26 (0, 0)) (by (with_reducible repeat (fail)); exact BK133.out) hb); have n1_ := Aside0.mk (below_step (by repeat (first | (with_reducible first | exact HB.out))) hb); clear BK133; clear HB; have BK133 := n0_; have HB := n1_; clear n0_ n1_; (try clear hb); (try clear hb2); (try clear hk); (try clear hi); have hcz25_0 : w24.cell? ⟨gb133, 0, none⟩ = some (.int .i64 a0_0) := (blk_cell BK133.out 0).trans rfl; have hcz25_1 : w24.cell? ⟨gb133, 1, none⟩ = some (.bool a0_1) := (blk_cell BK133.out 1).trans rfl; have hcz25_2 : w24.cell? ⟨gb133, 2, none⟩ = some (.int .u32 a0_2) := (blk_cell BK133.out 2).trans rfl; have hcz25_3 : w24.cell? ⟨gb133, 3, none⟩ = some (.int .i64 a0_3) := (blk_cell BK133.out 3).trans rfl; have hcz25_4 : w24.cell? ⟨gb133, 4, none⟩ = some (.int .i64 a0_4) := (blk_cell BK133.out 4).trans rfl; have hcz25_5 : w24.cell? ⟨gb133, 5, none⟩ = some (.int .i64 a0_5) := (blk_cell BK133.out 5).trans rfl; have hfz25_0 := blk_frozen BK133.out 0; have hfz25_1 := blk_frozen BK133.out 1; have hfz25_2 := blk_frozen BK133.out 2; have hfz25_3 := blk_frozen BK133.out 3; have hfz25_4 := blk_frozen BK133.out 4; have hfz25_5 := blk_frozen BK133.out 5))
       go_ret
       exact ⟨by first | rfl, by repeat (first | (with_reducible first | exact HB.out))⟩
    ·rw [if_neg c10] at H
     have c10b0 : (a0_4 == 0) = false := beq_eq_false_iff_ne.mpr c10
     have c10b1 : (a0_4 != 0) = true := bne_iff_ne.mpr c10
     by_cases c26 : a0_4 > a0_3
     ·rw [if_pos c26] at H
      have c26b0 : decide (a0_3 < a0_4) = true := decide_eq_true c26
      clear c26
      by_cases c27 : a0_5 = 0
      ·rw [if_pos c27] at H
       have c27b0 : (a0_5 == 0) = true := beq_iff_eq.mpr c27
       have c27b1 : (a0_5 != 0) = false := bne_eq_false_iff_eq.mpr c27
       clear c27
       by_cases c28 : a0_4 ≤ 32
       ·rw [if_pos c28] at H
        have c28b0 : decide (a0_4 ≤ 32) = true := decide_eq_true c28
        clear c28
        obtain rfl := Option.some.inj H
        go_enter Tryz.func10, Tryz.ntmps10
        go_wp2_with (first | ((with_reducible refine gate_dst (N := 1) rfl ?_); (try (refine gate_guard (by rfl) ?_; dsimp only)); refine box_event ?hg (N := 1) ?hd (cs := #[.int .i64 a0_0, .bool a0_1, .int .u32 a0_2, .int .i64 a0_3, .int .i64 a0_4, .int .i64 a0_5]) (t := 26) ?hr ?_; (case hd => rfl); (case hg => rfl); (case hr => first | (go_simp; done)); intro gb133 hg w29 hbox hb; have n0_ := Aside0.mk (below_step (by repeat (first | (with_reducible first | exact HB.out))) hb); have n1_ := Aside0.mk (hbox); have n2_ := Aside0.mk ((by rw [hg]; exact (below_size (by repeat (first | (with_reducible first | exact HB.out)))) : w.heap.size ≤ gb133)); have n3_ := Aside0.mk ((by rw [hg]; exact (below_size (by repeat (first | (with_reducible first | exact HB.out)))) : w.heap.size ≤ gb133)); clear HB; have HB := n0_; have BK133 := n1_; have GW133 := n2_; have GE133 := n3_; clear n0_ n1_ n2_ n3_; clear hb hbox hg; have hcz30_0 : w29.cell? ⟨gb133, 0, none⟩ = some (.int .i64 a0_0) := (blk_cell BK133.out 0).trans rfl; have hcz30_1 : w29.cell? ⟨gb133, 1, none⟩ = some (.bool a0_1) := (blk_cell BK133.out 1).trans rfl; have hcz30_2 : w29.cell? ⟨gb133, 2, none⟩ = some (.int .u32 a0_2) := (blk_cell BK133.out 2).trans rfl; have hcz30_3 : w29.cell? ⟨gb133, 3, none⟩ = some (.int .i64 a0_3) := (blk_cell BK133.out 3).trans rfl; have hcz30_4 : w29.cell? ⟨gb133, 4, none⟩ = some (.int .i64 a0_4) := (blk_cell BK133.out 4).trans rfl; have hcz30_5 : w29.cell? ⟨gb133, 5, none⟩ = some (.int .i64 a0_5) := (blk_cell BK133.out 5).trans rfl; have hfz30_0 := blk_frozen BK133.out 0; have hfz30_1 := blk_frozen BK133.out 1; have hfz30_2 := blk_frozen BK133.out 2; have hfz30_3 := blk_frozen BK133.out 3; have hfz30_4 := blk_frozen BK133.out 4; have hfz30_5 := blk_frozen BK133.out 5) | (go_at_call 37; (with_reducible refine (addr_May.calls a0_2 a0_3 true _ A8.out).mono ?_); rintro e w31 ⟨rfl, hb⟩; have n0_ := Aside0.mk (blk_below (g := gb133) (o := .cells #[.int .i64 a0_0, .bool a0_1, .int .u32 a0_2, .int .i64 a0_3, .int .i64 a0_4, .int .i64 a0_5] 26 (0, 0)) (by (with_reducible repeat (fail)); exact BK133.out) hb); have n1_ := Aside0.mk (below_step (by repeat (first | (with_reducible first | exact HB.out))) hb); clear BK133; clear HB; have BK133 := n0_; have HB := n1_; clear n0_ n1_; (try clear hb); (try clear hb2); (try clear hk); (try clear hi); have hcz32_0 : w31.cell? ⟨gb133, 0, none⟩ = some (.int .i64 a0_0) := (blk_cell BK133.out 0).trans rfl; have hcz32_1 : w31.cell? ⟨gb133, 1, none⟩ = some (.bool a0_1) := (blk_cell BK133.out 1).trans rfl; have hcz32_2 : w31.cell? ⟨gb133, 2, none⟩ = some (.int .u32 a0_2) := (blk_cell BK133.out 2).trans rfl; have hcz32_3 : w31.cell? ⟨gb133, 3, none⟩ = some (.int .i64 a0_3) := (blk_cell BK133.out 3).trans rfl; have hcz32_4 : w31.cell? ⟨gb133, 4, none⟩ = some (.int .i64 a0_4) := (blk_cell BK133.out 4).trans rfl; have hcz32_5 : w31.cell? ⟨gb133, 5, none⟩ = some (.int .i64 a0_5) := (blk_cell BK133.out 5).trans rfl; have hfz32_0 := blk_frozen BK133.out 0; have hfz32_1 := blk_frozen BK133.out 1; have hfz32_2 := blk_frozen BK133.out 2; have hfz32_3 := blk_frozen BK133.out 3; have hfz32_4 := blk_frozen BK133.out 4; have hfz32_5 := blk_frozen BK133.out 5))
        go_ret
        exact ⟨by first | rfl, by repeat (first | (with_reducible first | exact HB.out))⟩
       ·rw [if_neg c28] at H
        have c28b0 : decide (a0_4 ≤ 32) = false := decide_eq_false c28
        clear c28
        obtain rfl := Option.some.inj H
        go_enter Tryz.func10, Tryz.ntmps10
        go_wp2_with (first | ((with_reducible refine gate_dst (N := 1) rfl ?_); (try (refine gate_guard (by rfl) ?_; dsimp only)); refine box_event ?hg (N := 1) ?hd (cs := #[.int .i64 a0_0, .bool a0_1, .int .u32 a0_2, .int .i64 a0_3, .int .i64 a0_4, .int .i64 a0_5]) (t := 26) ?hr ?_; (case hd => rfl); (case hg => rfl); (case hr => first | (go_simp; done)); intro gb133 hg w33 hbox hb; have n0_ := Aside0.mk (below_step (by repeat (first | (with_reducible first | exact HB.out))) hb); have n1_ := Aside0.mk (hbox); have n2_ := Aside0.mk ((by rw [hg]; exact (below_size (by repeat (first | (with_reducible first | exact HB.out)))) : w.heap.size ≤ gb133)); have n3_ := Aside0.mk ((by rw [hg]; exact (below_size (by repeat (first | (with_reducible first | exact HB.out)))) : w.heap.size ≤ gb133)); clear HB; have HB := n0_; have BK133 := n1_; have GW133 := n2_; have GE133 := n3_; clear n0_ n1_ n2_ n3_; clear hb hbox hg; have hcz34_0 : w33.cell? ⟨gb133, 0, none⟩ = some (.int .i64 a0_0) := (blk_cell BK133.out 0).trans rfl; have hcz34_1 : w33.cell? ⟨gb133, 1, none⟩ = some (.bool a0_1) := (blk_cell BK133.out 1).trans rfl; have hcz34_2 : w33.cell? ⟨gb133, 2, none⟩ = some (.int .u32 a0_2) := (blk_cell BK133.out 2).trans rfl; have hcz34_3 : w33.cell? ⟨gb133, 3, none⟩ = some (.int .i64 a0_3) := (blk_cell BK133.out 3).trans rfl; have hcz34_4 : w33.cell? ⟨gb133, 4, none⟩ = some (.int .i64 a0_4) := (blk_cell BK133.out 4).trans rfl; have hcz34_5 : w33.cell? ⟨gb133, 5, none⟩ = some (.int .i64 a0_5) := (blk_cell BK133.out 5).trans rfl; have hfz34_0 := blk_frozen BK133.out 0; have hfz34_1 := blk_frozen BK133.out 1; have hfz34_2 := blk_frozen BK133.out 2; have hfz34_3 := blk_frozen BK133.out 3; have hfz34_4 := blk_frozen BK133.out 4; have hfz34_5 := blk_frozen BK133.out 5) | (go_at_call 37; (with_reducible refine (addr_May.calls a0_2 a0_3 true _ A8.out).mono ?_); rintro e w35 ⟨rfl, hb⟩; have n0_ := Aside0.mk (blk_below (g := gb133) (o := .cells #[.int .i64 a0_0, .bool a0_1, .int .u32 a0_2, .int .i64 a0_3, .int .i64 a0_4, .int .i64 a0_5] 26 (0, 0)) (by (with_reducible repeat (fail)); exact BK133.out) hb); have n1_ := Aside0.mk (below_step (by repeat (first | (with_reducible first | exact HB.out))) hb); clear BK133; clear HB; have BK133 := n0_; have HB := n1_; clear n0_ n1_; (try clear hb); (try clear hb2); (try clear hk); (try clear hi); have hcz36_0 : w35.cell? ⟨gb133, 0, none⟩ = some (.int .i64 a0_0) := (blk_cell BK133.out 0).trans rfl; have hcz36_1 : w35.cell? ⟨gb133, 1, none⟩ = some (.bool a0_1) := (blk_cell BK133.out 1).trans rfl; have hcz36_2 : w35.cell? ⟨gb133, 2, none⟩ = some (.int .u32 a0_2) := (blk_cell BK133.out 2).trans rfl; have hcz36_3 : w35.cell? ⟨gb133, 3, none⟩ = some (.int .i64 a0_3) := (blk_cell BK133.out 3).trans rfl; have hcz36_4 : w35.cell? ⟨gb133, 4, none⟩ = some (.int .i64 a0_4) := (blk_cell BK133.out 4).trans rfl; have hcz36_5 : w35.cell? ⟨gb133, 5, none⟩ = some (.int .i64 a0_5) := (blk_cell BK133.out 5).trans rfl; have hfz36_0 := blk_frozen BK133.out 0; have hfz36_1 := blk_frozen BK133.out 1; have hfz36_2 := blk_frozen BK133.out 2; have hfz36_3 := blk_frozen BK133.out 3; have hfz36_4 := blk_frozen BK133.out 4; have hfz36_5 := blk_frozen BK133.out 5))
        go_ret
        exact ⟨by first | rfl, by repeat (first | (with_reducible first | exact HB.out))⟩
      ·rw [if_neg c27] at H
       have c27b0 : (a0_5 == 0) = false := beq_eq_false_iff_ne.mpr c27
       have c27b1 : (a0_5 != 0) = true := bne_iff_ne.mpr c27
       obtain ⟨ji37, hji37⟩ : ∃ j_ : Int, (mx a0_4 a0_3) = j_ := ⟨_, rfl⟩
       replace H : (if a0_5 ≥ (ji37) then (if a0_4 ≤ 32 then (some (decide (a0_5 ≤ 32))) else (some false)) else (if a0_4 ≤ 32 then (some false) else (some false))) = some r := by first | (rw [hji37] at H; exact H)
       (try rw [hji37] at A8)
       have hji37_ : (if a0_4 < a0_3 then a0_3 else a0_4) = ji37 := hji37
       by_cases c38 : a0_5 ≥ (ji37)
       ·rw [if_pos c38] at H
        have c38b0 : decide ((ji37) ≤ a0_5) = true := decide_eq_true c38
        clear c38
        by_cases c39 : a0_4 ≤ 32
        ·rw [if_pos c39] at H
         have c39b0 : decide (a0_4 ≤ 32) = true := decide_eq_true c39
         clear c39
         obtain rfl := Option.some.inj H
         go_enter Tryz.func10, Tryz.ntmps10
         go_wp2_with (first | ((with_reducible refine gate_dst (N := 1) rfl ?_); (try (refine gate_guard (by rfl) ?_; dsimp only)); refine box_event ?hg (N := 1) ?hd (cs := #[.int .i64 a0_0, .bool a0_1, .int .u32 a0_2, .int .i64 a0_3, .int .i64 a0_4, .int .i64 a0_5]) (t := 26) ?hr ?_; (case hd => rfl); (case hg => rfl); (case hr => first | (go_simp; done)); intro gb133 hg w40 hbox hb; have n0_ := Aside0.mk (below_step (by repeat (first | (with_reducible first | exact HB.out))) hb); have n1_ := Aside0.mk (hbox); have n2_ := Aside0.mk ((by rw [hg]; exact (below_size (by repeat (first | (with_reducible first | exact HB.out)))) : w.heap.size ≤ gb133)); have n3_ := Aside0.mk ((by rw [hg]; exact (below_size (by repeat (first | (with_reducible first | exact HB.out)))) : w.heap.size ≤ gb133)); clear HB; have HB := n0_; have BK133 := n1_; have GW133 := n2_; have GE133 := n3_; clear n0_ n1_ n2_ n3_; clear hb hbox hg; have hcz41_0 : w40.cell? ⟨gb133, 0, none⟩ = some (.int .i64 a0_0) := (blk_cell BK133.out 0).trans rfl; have hcz41_1 : w40.cell? ⟨gb133, 1, none⟩ = some (.bool a0_1) := (blk_cell BK133.out 1).trans rfl; have hcz41_2 : w40.cell? ⟨gb133, 2, none⟩ = some (.int .u32 a0_2) := (blk_cell BK133.out 2).trans rfl; have hcz41_3 : w40.cell? ⟨gb133, 3, none⟩ = some (.int .i64 a0_3) := (blk_cell BK133.out 3).trans rfl; have hcz41_4 : w40.cell? ⟨gb133, 4, none⟩ = some (.int .i64 a0_4) := (blk_cell BK133.out 4).trans rfl; have hcz41_5 : w40.cell? ⟨gb133, 5, none⟩ = some (.int .i64 a0_5) := (blk_cell BK133.out 5).trans rfl; have hfz41_0 := blk_frozen BK133.out 0; have hfz41_1 := blk_frozen BK133.out 1; have hfz41_2 := blk_frozen BK133.out 2; have hfz41_3 := blk_frozen BK133.out 3; have hfz41_4 := blk_frozen BK133.out 4; have hfz41_5 := blk_frozen BK133.out 5) | (go_at_call 37; (with_reducible refine (addr_May.calls a0_2 a0_3 true _ A8.out).mono ?_); rintro e w42 ⟨rfl, hb⟩; have n0_ := Aside0.mk (blk_below (g := gb133) (o := .cells #[.int .i64 a0_0, .bool a0_1, .int .u32 a0_2, .int .i64 a0_3, .int .i64 a0_4, .int .i64 a0_5] 26 (0, 0)) (by (with_reducible repeat (fail)); exact BK133.out) hb); have n1_ := Aside0.mk (below_step (by repeat (first | (with_reducible first | exact HB.out))) hb); clear BK133; clear HB; have BK133 := n0_; have HB := n1_; clear n0_ n1_; (try clear hb); (try clear hb2); (try clear hk); (try clear hi); have hcz43_0 : w42.cell? ⟨gb133, 0, none⟩ = some (.int .i64 a0_0) := (blk_cell BK133.out 0).trans rfl; have hcz43_1 : w42.cell? ⟨gb133, 1, none⟩ = some (.bool a0_1) := (blk_cell BK133.out 1).trans rfl; have hcz43_2 : w42.cell? ⟨gb133, 2, none⟩ = some (.int .u32 a0_2) := (blk_cell BK133.out 2).trans rfl; have hcz43_3 : w42.cell? ⟨gb133, 3, none⟩ = some (.int .i64 a0_3) := (blk_cell BK133.out 3).trans rfl; have hcz43_4 : w42.cell? ⟨gb133, 4, none⟩ = some (.int .i64 a0_4) := (blk_cell BK133.out 4).trans rfl; have hcz43_5 : w42.cell? ⟨gb133, 5, none⟩ = some (.int .i64 a0_5) := (blk_cell BK133.out 5).trans rfl; have hfz43_0 := blk_frozen BK133.out 0; have hfz43_1 := blk_frozen BK133.out 1; have hfz43_2 := blk_frozen BK133.out 2; have hfz43_3 := blk_frozen BK133.out 3; have hfz43_4 := blk_frozen BK133.out 4; have hfz43_5 := blk_frozen BK133.out 5))
         go_ret
         exact ⟨by first | rfl, by repeat (first | (with_reducible first | exact HB.out))⟩
        ·rw [if_neg c39] at H
         have c39b0 : decide (a0_4 ≤ 32) = false := decide_eq_false c39
         clear c39
         obtain rfl := Option.some.inj H
         go_enter Tryz.func10, Tryz.ntmps10
         go_wp2_with (first | ((with_reducible refine gate_dst (N := 1) rfl ?_); (try (refine gate_guard (by rfl) ?_; dsimp only)); refine box_event ?hg (N := 1) ?hd (cs := #[.int .i64 a0_0, .bool a0_1, .int .u32 a0_2, .int .i64 a0_3, .int .i64 a0_4, .int .i64 a0_5]) (t := 26) ?hr ?_; (case hd => rfl); (case hg => rfl); (case hr => first | (go_simp; done)); intro gb133 hg w44 hbox hb; have n0_ := Aside0.mk (below_step (by repeat (first | (with_reducible first | exact HB.out))) hb); have n1_ := Aside0.mk (hbox); have n2_ := Aside0.mk ((by rw [hg]; exact (below_size (by repeat (first | (with_reducible first | exact HB.out)))) : w.heap.size ≤ gb133)); have n3_ := Aside0.mk ((by rw [hg]; exact (below_size (by repeat (first | (with_reducible first | exact HB.out)))) : w.heap.size ≤ gb133)); clear HB; have HB := n0_; have BK133 := n1_; have GW133 := n2_; have GE133 := n3_; clear n0_ n1_ n2_ n3_; clear hb hbox hg; have hcz45_0 : w44.cell? ⟨gb133, 0, none⟩ = some (.int .i64 a0_0) := (blk_cell BK133.out 0).trans rfl; have hcz45_1 : w44.cell? ⟨gb133, 1, none⟩ = some (.bool a0_1) := (blk_cell BK133.out 1).trans rfl; have hcz45_2 : w44.cell? ⟨gb133, 2, none⟩ = some (.int .u32 a0_2) := (blk_cell BK133.out 2).trans rfl; have hcz45_3 : w44.cell? ⟨gb133, 3, none⟩ = some (.int .i64 a0_3) := (blk_cell BK133.out 3).trans rfl; have hcz45_4 : w44.cell? ⟨gb133, 4, none⟩ = some (.int .i64 a0_4) := (blk_cell BK133.out 4).trans rfl; have hcz45_5 : w44.cell? ⟨gb133, 5, none⟩ = some (.int .i64 a0_5) := (blk_cell BK133.out 5).trans rfl; have hfz45_0 := blk_frozen BK133.out 0; have hfz45_1 := blk_frozen BK133.out 1; have hfz45_2 := blk_frozen BK133.out 2; have hfz45_3 := blk_frozen BK133.out 3; have hfz45_4 := blk_frozen BK133.out 4; have hfz45_5 := blk_frozen BK133.out 5) | (go_at_call 37; (with_reducible refine (addr_May.calls a0_2 a0_3 true _ A8.out).mono ?_); rintro e w46 ⟨rfl, hb⟩; have n0_ := Aside0.mk (blk_below (g := gb133) (o := .cells #[.int .i64 a0_0, .bool a0_1, .int .u32 a0_2, .int .i64 a0_3, .int .i64 a0_4, .int .i64 a0_5] 26 (0, 0)) (by (with_reducible repeat (fail)); exact BK133.out) hb); have n1_ := Aside0.mk (below_step (by repeat (first | (with_reducible first | exact HB.out))) hb); clear BK133; clear HB; have BK133 := n0_; have HB := n1_; clear n0_ n1_; (try clear hb); (try clear hb2); (try clear hk); (try clear hi); have hcz47_0 : w46.cell? ⟨gb133, 0, none⟩ = some (.int .i64 a0_0) := (blk_cell BK133.out 0).trans rfl; have hcz47_1 : w46.cell? ⟨gb133, 1, none⟩ = some (.bool a0_1) := (blk_cell BK133.out 1).trans rfl; have hcz47_2 : w46.cell? ⟨gb133, 2, none⟩ = some (.int .u32 a0_2) := (blk_cell BK133.out 2).trans rfl; have hcz47_3 : w46.cell? ⟨gb133, 3, none⟩ = some (.int .i64 a0_3) := (blk_cell BK133.out 3).trans rfl; have hcz47_4 : w46.cell? ⟨gb133, 4, none⟩ = some (.int .i64 a0_4) := (blk_cell BK133.out 4).trans rfl; have hcz47_5 : w46.cell? ⟨gb133, 5, none⟩ = some (.int .i64 a0_5) := (blk_cell BK133.out 5).trans rfl; have hfz47_0 := blk_frozen BK133.out 0; have hfz47_1 := blk_frozen BK133.out 1; have hfz47_2 := blk_frozen BK133.out 2; have hfz47_3 := blk_frozen BK133.out 3; have hfz47_4 := blk_frozen BK133.out 4; have hfz47_5 := blk_frozen BK133.out 5))
         go_ret
         exact ⟨by first | rfl, by repeat (first | (with_reducible first | exact HB.out))⟩
       ·rw [if_neg c38] at H
        have c38b0 : decide ((ji37) ≤ a0_5) = false := decide_eq_false c38
        clear c38
        by_cases c48 : a0_4 ≤ 32
        ·rw [if_pos c48] at H
         have c48b0 : decide (a0_4 ≤ 32) = true := decide_eq_true c48
         clear c48
         obtain rfl := Option.some.inj H
         go_enter Tryz.func10, Tryz.ntmps10
         go_wp2_with (first | ((with_reducible refine gate_dst (N := 1) rfl ?_); (try (refine gate_guard (by rfl) ?_; dsimp only)); refine box_event ?hg (N := 1) ?hd (cs := #[.int .i64 a0_0, .bool a0_1, .int .u32 a0_2, .int .i64 a0_3, .int .i64 a0_4, .int .i64 a0_5]) (t := 26) ?hr ?_; (case hd => rfl); (case hg => rfl); (case hr => first | (go_simp; done)); intro gb133 hg w49 hbox hb; have n0_ := Aside0.mk (below_step (by repeat (first | (with_reducible first | exact HB.out))) hb); have n1_ := Aside0.mk (hbox); have n2_ := Aside0.mk ((by rw [hg]; exact (below_size (by repeat (first | (with_reducible first | exact HB.out)))) : w.heap.size ≤ gb133)); have n3_ := Aside0.mk ((by rw [hg]; exact (below_size (by repeat (first | (with_reducible first | exact HB.out)))) : w.heap.size ≤ gb133)); clear HB; have HB := n0_; have BK133 := n1_; have GW133 := n2_; have GE133 := n3_; clear n0_ n1_ n2_ n3_; clear hb hbox hg; have hcz50_0 : w49.cell? ⟨gb133, 0, none⟩ = some (.int .i64 a0_0) := (blk_cell BK133.out 0).trans rfl; have hcz50_1 : w49.cell? ⟨gb133, 1, none⟩ = some (.bool a0_1) := (blk_cell BK133.out 1).trans rfl; have hcz50_2 : w49.cell? ⟨gb133, 2, none⟩ = some (.int .u32 a0_2) := (blk_cell BK133.out 2).trans rfl; have hcz50_3 : w49.cell? ⟨gb133, 3, none⟩ = some (.int .i64 a0_3) := (blk_cell BK133.out 3).trans rfl; have hcz50_4 : w49.cell? ⟨gb133, 4, none⟩ = some (.int .i64 a0_4) := (blk_cell BK133.out 4).trans rfl; have hcz50_5 : w49.cell? ⟨gb133, 5, none⟩ = some (.int .i64 a0_5) := (blk_cell BK133.out 5).trans rfl; have hfz50_0 := blk_frozen BK133.out 0; have hfz50_1 := blk_frozen BK133.out 1; have hfz50_2 := blk_frozen BK133.out 2; have hfz50_3 := blk_frozen BK133.out 3; have hfz50_4 := blk_frozen BK133.out 4; have hfz50_5 := blk_frozen BK133.out 5) | (go_at_call 37; (with_reducible refine (addr_May.calls a0_2 a0_3 true _ A8.out).mono ?_); rintro e w51 ⟨rfl, hb⟩; have n0_ := Aside0.mk (blk_below (g := gb133) (o := .cells #[.int .i64 a0_0, .bool a0_1, .int .u32 a0_2, .int .i64 a0_3, .int .i64 a0_4, .int .i64 a0_5] 26 (0, 0)) (by (with_reducible repeat (fail)); exact BK133.out) hb); have n1_ := Aside0.mk (below_step (by repeat (first | (with_reducible first | exact HB.out))) hb); clear BK133; clear HB; have BK133 := n0_; have HB := n1_; clear n0_ n1_; (try clear hb); (try clear hb2); (try clear hk); (try clear hi); have hcz52_0 : w51.cell? ⟨gb133, 0, none⟩ = some (.int .i64 a0_0) := (blk_cell BK133.out 0).trans rfl; have hcz52_1 : w51.cell? ⟨gb133, 1, none⟩ = some (.bool a0_1) := (blk_cell BK133.out 1).trans rfl; have hcz52_2 : w51.cell? ⟨gb133, 2, none⟩ = some (.int .u32 a0_2) := (blk_cell BK133.out 2).trans rfl; have hcz52_3 : w51.cell? ⟨gb133, 3, none⟩ = some (.int .i64 a0_3) := (blk_cell BK133.out 3).trans rfl; have hcz52_4 : w51.cell? ⟨gb133, 4, none⟩ = some (.int .i64 a0_4) := (blk_cell BK133.out 4).trans rfl; have hcz52_5 : w51.cell? ⟨gb133, 5, none⟩ = some (.int .i64 a0_5) := (blk_cell BK133.out 5).trans rfl; have hfz52_0 := blk_frozen BK133.out 0; have hfz52_1 := blk_frozen BK133.out 1; have hfz52_2 := blk_frozen BK133.out 2; have hfz52_3 := blk_frozen BK133.out 3; have hfz52_4 := blk_frozen BK133.out 4; have hfz52_5 := blk_frozen BK133.out 5))
         go_ret
         exact ⟨by first | rfl, by repeat (first | (with_reducible first | exact HB.out))⟩
        ·rw [if_neg c48] at H
         have c48b0 : decide (a0_4 ≤ 32) = false := decide_eq_false c48
         clear c48
         obtain rfl := Option.some.inj H
         go_enter Tryz.func10, Tryz.ntmps10
         go_wp2_with (first | ((with_reducible refine gate_dst (N := 1) rfl ?_); (try (refine gate_guard (by rfl) ?_; dsimp only)); refine box_event ?hg (N := 1) ?hd (cs := #[.int .i64 a0_0, .bool a0_1, .int .u32 a0_2, .int .i64 a0_3, .int .i64 a0_4, .int .i64 a0_5]) (t := 26) ?hr ?_; (case hd => rfl); (case hg => rfl); (case hr => first | (go_simp; done)); intro gb133 hg w53 hbox hb; have n0_ := Aside0.mk (below_step (by repeat (first | (with_reducible first | exact HB.out))) hb); have n1_ := Aside0.mk (hbox); have n2_ := Aside0.mk ((by rw [hg]; exact (below_size (by repeat (first | (with_reducible first | exact HB.out)))) : w.heap.size ≤ gb133)); have n3_ := Aside0.mk ((by rw [hg]; exact (below_size (by repeat (first | (with_reducible first | exact HB.out)))) : w.heap.size ≤ gb133)); clear HB; have HB := n0_; have BK133 := n1_; have GW133 := n2_; have GE133 := n3_; clear n0_ n1_ n2_ n3_; clear hb hbox hg; have hcz54_0 : w53.cell? ⟨gb133, 0, none⟩ = some (.int .i64 a0_0) := (blk_cell BK133.out 0).trans rfl; have hcz54_1 : w53.cell? ⟨gb133, 1, none⟩ = some (.bool a0_1) := (blk_cell BK133.out 1).trans rfl; have hcz54_2 : w53.cell? ⟨gb133, 2, none⟩ = some (.int .u32 a0_2) := (blk_cell BK133.out 2).trans rfl; have hcz54_3 : w53.cell? ⟨gb133, 3, none⟩ = some (.int .i64 a0_3) := (blk_cell BK133.out 3).trans rfl; have hcz54_4 : w53.cell? ⟨gb133, 4, none⟩ = some (.int .i64 a0_4) := (blk_cell BK133.out 4).trans rfl; have hcz54_5 : w53.cell? ⟨gb133, 5, none⟩ = some (.int .i64 a0_5) := (blk_cell BK133.out 5).trans rfl; have hfz54_0 := blk_frozen BK133.out 0; have hfz54_1 := blk_frozen BK133.out 1; have hfz54_2 := blk_frozen BK133.out 2; have hfz54_3 := blk_frozen BK133.out 3; have hfz54_4 := blk_frozen BK133.out 4; have hfz54_5 := blk_frozen BK133.out 5) | (go_at_call 37; (with_reducible refine (addr_May.calls a0_2 a0_3 true _ A8.out).mono ?_); rintro e w55 ⟨rfl, hb⟩; have n0_ := Aside0.mk (blk_below (g := gb133) (o := .cells #[.int .i64 a0_0, .bool a0_1, .int .u32 a0_2, .int .i64 a0_3, .int .i64 a0_4, .int .i64 a0_5] 26 (0, 0)) (by (with_reducible repeat (fail)); exact BK133.out) hb); have n1_ := Aside0.mk (below_step (by repeat (first | (with_reducible first | exact HB.out))) hb); clear BK133; clear HB; have BK133 := n0_; have HB := n1_; clear n0_ n1_; (try clear hb); (try clear hb2); (try clear hk); (try clear hi); have hcz56_0 : w55.cell? ⟨gb133, 0, none⟩ = some (.int .i64 a0_0) := (blk_cell BK133.out 0).trans rfl; have hcz56_1 : w55.cell? ⟨gb133, 1, none⟩ = some (.bool a0_1) := (blk_cell BK133.out 1).trans rfl; have hcz56_2 : w55.cell? ⟨gb133, 2, none⟩ = some (.int .u32 a0_2) := (blk_cell BK133.out 2).trans rfl; have hcz56_3 : w55.cell? ⟨gb133, 3, none⟩ = some (.int .i64 a0_3) := (blk_cell BK133.out 3).trans rfl; have hcz56_4 : w55.cell? ⟨gb133, 4, none⟩ = some (.int .i64 a0_4) := (blk_cell BK133.out 4).trans rfl; have hcz56_5 : w55.cell? ⟨gb133, 5, none⟩ = some (.int .i64 a0_5) := (blk_cell BK133.out 5).trans rfl; have hfz56_0 := blk_frozen BK133.out 0; have hfz56_1 := blk_frozen BK133.out 1; have hfz56_2 := blk_frozen BK133.out 2; have hfz56_3 := blk_frozen BK133.out 3; have hfz56_4 := blk_frozen BK133.out 4; have hfz56_5 := blk_frozen BK133.out 5))
         go_ret
         exact ⟨by first | rfl, by repeat (first | (with_reducible first | exact HB.out))⟩
     ·rw [if_neg c26] at H
      have c26b0 : decide (a0_3 < a0_4) = false := decide_eq_false c26
      clear c26
      by_cases c57 : a0_5 = 0
      ·rw [if_pos c57] at H
       have c57b0 : (a0_5 == 0) = true := beq_iff_eq.mpr c57
       have c57b1 : (a0_5 != 0) = false := bne_eq_false_iff_eq.mpr c57
       clear c57
       obtain rfl := Option.some.inj H
       go_enter Tryz.func10, Tryz.ntmps10
       go_wp2_with (first | ((with_reducible refine gate_dst (N := 1) rfl ?_); (try (refine gate_guard (by rfl) ?_; dsimp only)); refine box_event ?hg (N := 1) ?hd (cs := #[.int .i64 a0_0, .bool a0_1, .int .u32 a0_2, .int .i64 a0_3, .int .i64 a0_4, .int .i64 a0_5]) (t := 26) ?hr ?_; (case hd => rfl); (case hg => rfl); (case hr => first | (go_simp; done)); intro gb133 hg w58 hbox hb; have n0_ := Aside0.mk (below_step (by repeat (first | (with_reducible first | exact HB.out))) hb); have n1_ := Aside0.mk (hbox); have n2_ := Aside0.mk ((by rw [hg]; exact (below_size (by repeat (first | (with_reducible first | exact HB.out)))) : w.heap.size ≤ gb133)); have n3_ := Aside0.mk ((by rw [hg]; exact (below_size (by repeat (first | (with_reducible first | exact HB.out)))) : w.heap.size ≤ gb133)); clear HB; have HB := n0_; have BK133 := n1_; have GW133 := n2_; have GE133 := n3_; clear n0_ n1_ n2_ n3_; clear hb hbox hg; have hcz59_0 : w58.cell? ⟨gb133, 0, none⟩ = some (.int .i64 a0_0) := (blk_cell BK133.out 0).trans rfl; have hcz59_1 : w58.cell? ⟨gb133, 1, none⟩ = some (.bool a0_1) := (blk_cell BK133.out 1).trans rfl; have hcz59_2 : w58.cell? ⟨gb133, 2, none⟩ = some (.int .u32 a0_2) := (blk_cell BK133.out 2).trans rfl; have hcz59_3 : w58.cell? ⟨gb133, 3, none⟩ = some (.int .i64 a0_3) := (blk_cell BK133.out 3).trans rfl; have hcz59_4 : w58.cell? ⟨gb133, 4, none⟩ = some (.int .i64 a0_4) := (blk_cell BK133.out 4).trans rfl; have hcz59_5 : w58.cell? ⟨gb133, 5, none⟩ = some (.int .i64 a0_5) := (blk_cell BK133.out 5).trans rfl; have hfz59_0 := blk_frozen BK133.out 0; have hfz59_1 := blk_frozen BK133.out 1; have hfz59_2 := blk_frozen BK133.out 2; have hfz59_3 := blk_frozen BK133.out 3; have hfz59_4 := blk_frozen BK133.out 4; have hfz59_5 := blk_frozen BK133.out 5) | (go_at_call 37; (with_reducible refine (addr_May.calls a0_2 a0_3 true _ A8.out).mono ?_); rintro e w60 ⟨rfl, hb⟩; have n0_ := Aside0.mk (blk_below (g := gb133) (o := .cells #[.int .i64 a0_0, .bool a0_1, .int .u32 a0_2, .int .i64 a0_3, .int .i64 a0_4, .int .i64 a0_5] 26 (0, 0)) (by (with_reducible repeat (fail)); exact BK133.out) hb); have n1_ := Aside0.mk (below_step (by repeat (first | (with_reducible first | exact HB.out))) hb); clear BK133; clear HB; have BK133 := n0_; have HB := n1_; clear n0_ n1_; (try clear hb); (try clear hb2); (try clear hk); (try clear hi); have hcz61_0 : w60.cell? ⟨gb133, 0, none⟩ = some (.int .i64 a0_0) := (blk_cell BK133.out 0).trans rfl; have hcz61_1 : w60.cell? ⟨gb133, 1, none⟩ = some (.bool a0_1) := (blk_cell BK133.out 1).trans rfl; have hcz61_2 : w60.cell? ⟨gb133, 2, none⟩ = some (.int .u32 a0_2) := (blk_cell BK133.out 2).trans rfl; have hcz61_3 : w60.cell? ⟨gb133, 3, none⟩ = some (.int .i64 a0_3) := (blk_cell BK133.out 3).trans rfl; have hcz61_4 : w60.cell? ⟨gb133, 4, none⟩ = some (.int .i64 a0_4) := (blk_cell BK133.out 4).trans rfl; have hcz61_5 : w60.cell? ⟨gb133, 5, none⟩ = some (.int .i64 a0_5) := (blk_cell BK133.out 5).trans rfl; have hfz61_0 := blk_frozen BK133.out 0; have hfz61_1 := blk_frozen BK133.out 1; have hfz61_2 := blk_frozen BK133.out 2; have hfz61_3 := blk_frozen BK133.out 3; have hfz61_4 := blk_frozen BK133.out 4; have hfz61_5 := blk_frozen BK133.out 5))
       go_ret
       exact ⟨by first | rfl, by repeat (first | (with_reducible first | exact HB.out))⟩
      ·rw [if_neg c57] at H
       have c57b0 : (a0_5 == 0) = false := beq_eq_false_iff_ne.mpr c57
       have c57b1 : (a0_5 != 0) = true := bne_iff_ne.mpr c57
       obtain ⟨ji62, hji62⟩ : ∃ j_ : Int, (mx a0_4 a0_3) = j_ := ⟨_, rfl⟩
       replace H : (if a0_5 ≥ (ji62) then (some false) else (some false)) = some r := by first | (rw [hji62] at H; exact H)
       (try rw [hji62] at A8)
       have hji62_ : (if a0_4 < a0_3 then a0_3 else a0_4) = ji62 := hji62
       by_cases c63 : a0_5 ≥ (ji62)
       ·rw [if_pos c63] at H
        have c63b0 : decide ((ji62) ≤ a0_5) = true := decide_eq_true c63
        clear c63
        obtain rfl := Option.some.inj H
        go_enter Tryz.func10, Tryz.ntmps10
        go_wp2_with (first | ((with_reducible refine gate_dst (N := 1) rfl ?_); (try (refine gate_guard (by rfl) ?_; dsimp only)); refine box_event ?hg (N := 1) ?hd (cs := #[.int .i64 a0_0, .bool a0_1, .int .u32 a0_2, .int .i64 a0_3, .int .i64 a0_4, .int .i64 a0_5]) (t := 26) ?hr ?_; (case hd => rfl); (case hg => rfl); (case hr => first | (go_simp; done)); intro gb133 hg w64 hbox hb; have n0_ := Aside0.mk (below_step (by repeat (first | (with_reducible first | exact HB.out))) hb); have n1_ := Aside0.mk (hbox); have n2_ := Aside0.mk ((by rw [hg]; exact (below_size (by repeat (first | (with_reducible first | exact HB.out)))) : w.heap.size ≤ gb133)); have n3_ := Aside0.mk ((by rw [hg]; exact (below_size (by repeat (first | (with_reducible first | exact HB.out)))) : w.heap.size ≤ gb133)); clear HB; have HB := n0_; have BK133 := n1_; have GW133 := n2_; have GE133 := n3_; clear n0_ n1_ n2_ n3_; clear hb hbox hg; have hcz65_0 : w64.cell? ⟨gb133, 0, none⟩ = some (.int .i64 a0_0) := (blk_cell BK133.out 0).trans rfl; have hcz65_1 : w64.cell? ⟨gb133, 1, none⟩ = some (.bool a0_1) := (blk_cell BK133.out 1).trans rfl; have hcz65_2 : w64.cell? ⟨gb133, 2, none⟩ = some (.int .u32 a0_2) := (blk_cell BK133.out 2).trans rfl; have hcz65_3 : w64.cell? ⟨gb133, 3, none⟩ = some (.int .i64 a0_3) := (blk_cell BK133.out 3).trans rfl; have hcz65_4 : w64.cell? ⟨gb133, 4, none⟩ = some (.int .i64 a0_4) := (blk_cell BK133.out 4).trans rfl; have hcz65_5 : w64.cell? ⟨gb133, 5, none⟩ = some (.int .i64 a0_5) := (blk_cell BK133.out 5).trans rfl; have hfz65_0 := blk_frozen BK133.out 0; have hfz65_1 := blk_frozen BK133.out 1; have hfz65_2 := blk_frozen BK133.out 2; have hfz65_3 := blk_frozen BK133.out 3; have hfz65_4 := blk_frozen BK133.out 4; have hfz65_5 := blk_frozen BK133.out 5) | (go_at_call 37; (with_reducible refine (addr_May.calls a0_2 a0_3 true _ A8.out).mono ?_); rintro e w66 ⟨rfl, hb⟩; have n0_ := Aside0.mk (blk_below (g := gb133) (o := .cells #[.int .i64 a0_0, .bool a0_1, .int .u32 a0_2, .int .i64 a0_3, .int .i64 a0_4, .int .i64 a0_5] 26 (0, 0)) (by (with_reducible repeat (fail)); exact BK133.out) hb); have n1_ := Aside0.mk (below_step (by repeat (first | (with_reducible first | exact HB.out))) hb); clear BK133; clear HB; have BK133 := n0_; have HB := n1_; clear n0_ n1_; (try clear hb); (try clear hb2); (try clear hk); (try clear hi); have hcz67_0 : w66.cell? ⟨gb133, 0, none⟩ = some (.int .i64 a0_0) := (blk_cell BK133.out 0).trans rfl; have hcz67_1 : w66.cell? ⟨gb133, 1, none⟩ = some (.bool a0_1) := (blk_cell BK133.out 1).trans rfl; have hcz67_2 : w66.cell? ⟨gb133, 2, none⟩ = some (.int .u32 a0_2) := (blk_cell BK133.out 2).trans rfl; have hcz67_3 : w66.cell? ⟨gb133, 3, none⟩ = some (.int .i64 a0_3) := (blk_cell BK133.out 3).trans rfl; have hcz67_4 : w66.cell? ⟨gb133, 4, none⟩ = some (.int .i64 a0_4) := (blk_cell BK133.out 4).trans rfl; have hcz67_5 : w66.cell? ⟨gb133, 5, none⟩ = some (.int .i64 a0_5) := (blk_cell BK133.out 5).trans rfl; have hfz67_0 := blk_frozen BK133.out 0; have hfz67_1 := blk_frozen BK133.out 1; have hfz67_2 := blk_frozen BK133.out 2; have hfz67_3 := blk_frozen BK133.out 3; have hfz67_4 := blk_frozen BK133.out 4; have hfz67_5 := blk_frozen BK133.out 5))
        go_ret
        exact ⟨by first | rfl, by repeat (first | (with_reducible first | exact HB.out))⟩
       ·rw [if_neg c63] at H
        have c63b0 : decide ((ji62) ≤ a0_5) = false := decide_eq_false c63
        clear c63
        obtain rfl := Option.some.inj H
        go_enter Tryz.func10, Tryz.ntmps10
        go_wp2_with (first | ((with_reducible refine gate_dst (N := 1) rfl ?_); (try (refine gate_guard (by rfl) ?_; dsimp only)); refine box_event ?hg (N := 1) ?hd (cs := #[.int .i64 a0_0, .bool a0_1, .int .u32 a0_2, .int .i64 a0_3, .int .i64 a0_4, .int .i64 a0_5]) (t := 26) ?hr ?_; (case hd => rfl); (case hg => rfl); (case hr => first | (go_simp; done)); intro gb133 hg w68 hbox hb; have n0_ := Aside0.mk (below_step (by repeat (first | (with_reducible first | exact HB.out))) hb); have n1_ := Aside0.mk (hbox); have n2_ := Aside0.mk ((by rw [hg]; exact (below_size (by repeat (first | (with_reducible first | exact HB.out)))) : w.heap.size ≤ gb133)); have n3_ := Aside0.mk ((by rw [hg]; exact (below_size (by repeat (first | (with_reducible first | exact HB.out)))) : w.heap.size ≤ gb133)); clear HB; have HB := n0_; have BK133 := n1_; have GW133 := n2_; have GE133 := n3_; clear n0_ n1_ n2_ n3_; clear hb hbox hg; have hcz69_0 : w68.cell? ⟨gb133, 0, none⟩ = some (.int .i64 a0_0) := (blk_cell BK133.out 0).trans rfl; have hcz69_1 : w68.cell? ⟨gb133, 1, none⟩ = some (.bool a0_1) := (blk_cell BK133.out 1).trans rfl; have hcz69_2 : w68.cell? ⟨gb133, 2, none⟩ = some (.int .u32 a0_2) := (blk_cell BK133.out 2).trans rfl; have hcz69_3 : w68.cell? ⟨gb133, 3, none⟩ = some (.int .i64 a0_3) := (blk_cell BK133.out 3).trans rfl; have hcz69_4 : w68.cell? ⟨gb133, 4, none⟩ = some (.int .i64 a0_4) := (blk_cell BK133.out 4).trans rfl; have hcz69_5 : w68.cell? ⟨gb133, 5, none⟩ = some (.int .i64 a0_5) := (blk_cell BK133.out 5).trans rfl; have hfz69_0 := blk_frozen BK133.out 0; have hfz69_1 := blk_frozen BK133.out 1; have hfz69_2 := blk_frozen BK133.out 2; have hfz69_3 := blk_frozen BK133.out 3; have hfz69_4 := blk_frozen BK133.out 4; have hfz69_5 := blk_frozen BK133.out 5) | (go_at_call 37; (with_reducible refine (addr_May.calls a0_2 a0_3 true _ A8.out).mono ?_); rintro e w70 ⟨rfl, hb⟩; have n0_ := Aside0.mk (blk_below (g := gb133) (o := .cells #[.int .i64 a0_0, .bool a0_1, .int .u32 a0_2, .int .i64 a0_3, .int .i64 a0_4, .int .i64 a0_5] 26 (0, 0)) (by (with_reducible repeat (fail)); exact BK133.out) hb); have n1_ := Aside0.mk (below_step (by repeat (first | (with_reducible first | exact HB.out))) hb); clear BK133; clear HB; have BK133 := n0_; have HB := n1_; clear n0_ n1_; (try clear hb); (try clear hb2); (try clear hk); (try clear hi); have hcz71_0 : w70.cell? ⟨gb133, 0, none⟩ = some (.int .i64 a0_0) := (blk_cell BK133.out 0).trans rfl; have hcz71_1 : w70.cell? ⟨gb133, 1, none⟩ = some (.bool a0_1) := (blk_cell BK133.out 1).trans rfl; have hcz71_2 : w70.cell? ⟨gb133, 2, none⟩ = some (.int .u32 a0_2) := (blk_cell BK133.out 2).trans rfl; have hcz71_3 : w70.cell? ⟨gb133, 3, none⟩ = some (.int .i64 a0_3) := (blk_cell BK133.out 3).trans rfl; have hcz71_4 : w70.cell? ⟨gb133, 4, none⟩ = some (.int .i64 a0_4) := (blk_cell BK133.out 4).trans rfl; have hcz71_5 : w70.cell? ⟨gb133, 5, none⟩ = some (.int .i64 a0_5) := (blk_cell BK133.out 5).trans rfl; have hfz71_0 := blk_frozen BK133.out 0; have hfz71_1 := blk_frozen BK133.out 1; have hfz71_2 := blk_frozen BK133.out 2; have hfz71_3 := blk_frozen BK133.out 3; have hfz71_4 := blk_frozen BK133.out 4; have hfz71_5 := blk_frozen BK133.out 5))
        go_ret
        exact ⟨by first | rfl, by repeat (first | (with_reducible first | exact HB.out))⟩
   ·replace c9 := Bool.eq_false_iff.mpr c9
    subst c9
    have H1 : (some false) = some r := by rw [if_neg (show ¬ (false = true) by decide)] at H; exact H
    clear H
    have H := H1
    clear H1
    obtain rfl := Option.some.inj H
    go_enter Tryz.func10, Tryz.ntmps10
    go_wp2_with (first | ((with_reducible refine gate_dst (N := 1) rfl ?_); (try (refine gate_guard (by rfl) ?_; dsimp only)); refine box_event ?hg (N := 1) ?hd (cs := #[.int .i64 a0_0, .bool a0_1, .int .u32 a0_2, .int .i64 a0_3, .int .i64 a0_4, .int .i64 a0_5]) (t := 26) ?hr ?_; (case hd => rfl); (case hg => rfl); (case hr => first | (go_simp; done)); intro gb133 hg w72 hbox hb; have n0_ := Aside0.mk (below_step (by repeat (first | (with_reducible first | exact HB.out))) hb); have n1_ := Aside0.mk (hbox); have n2_ := Aside0.mk ((by rw [hg]; exact (below_size (by repeat (first | (with_reducible first | exact HB.out)))) : w.heap.size ≤ gb133)); have n3_ := Aside0.mk ((by rw [hg]; exact (below_size (by repeat (first | (with_reducible first | exact HB.out)))) : w.heap.size ≤ gb133)); clear HB; have HB := n0_; have BK133 := n1_; have GW133 := n2_; have GE133 := n3_; clear n0_ n1_ n2_ n3_; clear hb hbox hg; have hcz73_0 : w72.cell? ⟨gb133, 0, none⟩ = some (.int .i64 a0_0) := (blk_cell BK133.out 0).trans rfl; have hcz73_1 : w72.cell? ⟨gb133, 1, none⟩ = some (.bool a0_1) := (blk_cell BK133.out 1).trans rfl; have hcz73_2 : w72.cell? ⟨gb133, 2, none⟩ = some (.int .u32 a0_2) := (blk_cell BK133.out 2).trans rfl; have hcz73_3 : w72.cell? ⟨gb133, 3, none⟩ = some (.int .i64 a0_3) := (blk_cell BK133.out 3).trans rfl; have hcz73_4 : w72.cell? ⟨gb133, 4, none⟩ = some (.int .i64 a0_4) := (blk_cell BK133.out 4).trans rfl; have hcz73_5 : w72.cell? ⟨gb133, 5, none⟩ = some (.int .i64 a0_5) := (blk_cell BK133.out 5).trans rfl; have hfz73_0 := blk_frozen BK133.out 0; have hfz73_1 := blk_frozen BK133.out 1; have hfz73_2 := blk_frozen BK133.out 2; have hfz73_3 := blk_frozen BK133.out 3; have hfz73_4 := blk_frozen BK133.out 4; have hfz73_5 := blk_frozen BK133.out 5) | (go_at_call 37; (with_reducible refine (addr_May.calls a0_2 a0_3 false _ A8.out).mono ?_); rintro e w74 ⟨rfl, hb⟩; have n0_ := Aside0.mk (blk_below (g := gb133) (o := .cells #[.int .i64 a0_0, .bool a0_1, .int .u32 a0_2, .int .i64 a0_3, .int .i64 a0_4, .int .i64 a0_5] 26 (0, 0)) (by (with_reducible repeat (fail)); exact BK133.out) hb); have n1_ := Aside0.mk (below_step (by repeat (first | (with_reducible first | exact HB.out))) hb); clear BK133; clear HB; have BK133 := n0_; have HB := n1_; clear n0_ n1_; (try clear hb); (try clear hb2); (try clear hk); (try clear hi)))
    go_ret
    exact ⟨by first | rfl, by repeat (first | (with_reducible first | exact HB.out))⟩
def plist_Means.f (k : Nat) (a0_0 : Int) (a0_1 : Bool) (a0_2 : Int) (a0_3 : Int) (a0_4 : Int) (a0_5 : Int) (a1_0 : Int) (a1_1 : Int) : Option (Bool) := (plist_Rule_bounds.f k a0_0 a0_1 a0_2 a0_3 a0_4 a0_5).bind fun bt137 => ((plist_May.f a0_0 a0_1 a0_2 a0_3 a0_4 a0_5).bind fun t139 => (if t139 = true then ((addr_Covers.f a0_2 a0_3 a1_0 a1_1).bind fun t140 => (if t140 = true then (if a1_1 ≥ bt137.1 then (some (decide (a1_1 ≤ bt137.2))) else (some false)) else (some false))) else (some false)))
theorem plist_Means.mono : ∀ a0 a1 a2 a3 a4 a5 a6 a7 k, LeO (plist_Means.f k a0 a1 a2 a3 a4 a5 a6 a7) (plist_Means.f (k + 1) a0 a1 a2 a3 a4 a5 a6 a7) := by
 intro a0 a1 a2 a3 a4 a5 a6 a7 k
 unfold plist_Means.f
 repeat' first
   | (with_reducible exact plist_Rule_bounds.mono _ _ _ _ _ _ _)
   | (with_reducible exact LeO.refl _)
   | (with_reducible exact LeO.none _)
   | (with_reducible refine LeO.ite ?_ ?_)
   | (with_reducible refine LeO.bind ?_ (fun _ => ?_))
   | exact plist_Rule_bounds.mono _ _ _ _ _ _ _
   | exact LeO.none _
   | refine LeO.ite ?_ ?_
   | refine LeO.bind ?_ (fun _ => ?_)
set_option maxHeartbeats 8000000 in
set_option maxRecDepth 100000 in
theorem plist_Means.calls (k : Nat) (a0_0 : Int) (a0_1 : Bool) (a0_2 : Int) (a0_3 : Int) (a0_4 : Int) (a0_5 : Int) (a1_0 : Int) (a1_1 : Int) (r : Bool) (w : World) (h : plist_Means.f k a0_0 a0_1 a0_2 a0_3 a0_4 a0_5 a1_0 a1_1 = some r) :
  Calls Tryz.prog 14 #[.agg #[.int .i64 a0_0, .bool a0_1, .int .u32 a0_2, .int .i64 a0_3, .int .i64 a0_4, .int .i64 a0_5], .agg #[.int .u32 a1_0, .int .i64 a1_1]] w fun e w' => e = .returned (.bool r) ∧ Below w.heap.size w w' := by
 have hu26 := Tryz.underlying26
 have hu24 := Tryz.underlying24
 have HB := Aside0.mk (Below.refl w.heap.size w)
 have H : ((plist_Rule_bounds.f k a0_0 a0_1 a0_2 a0_3 a0_4 a0_5).bind fun bt137 => ((plist_May.f a0_0 a0_1 a0_2 a0_3 a0_4 a0_5).bind fun t139 => (if t139 = true then ((addr_Covers.f a0_2 a0_3 a1_0 a1_1).bind fun t140 => (if t140 = true then (if a1_1 ≥ bt137.1 then (some (decide (a1_1 ≤ bt137.2))) else (some false)) else (some false))) else (some false)))) = some r := h
 clear h
 replace H := Option.bind_eq_some_iff.mp H
 obtain ⟨⟨t137, t138⟩, A30, H⟩ := H
 replace H : ((plist_May.f a0_0 a0_1 a0_2 a0_3 a0_4 a0_5).bind fun t139 => (if t139 = true then ((addr_Covers.f a0_2 a0_3 a1_0 a1_1).bind fun t140 => (if t140 = true then (if a1_1 ≥ t137 then (some (decide (a1_1 ≤ t138))) else (some false)) else (some false))) else (some false))) = some r := H
 have A3 := Aside0.mk A30
 clear A30
 replace H := Option.bind_eq_some_iff.mp H
 obtain ⟨t139, A40, H⟩ := H
 replace H : (if t139 = true then ((addr_Covers.f a0_2 a0_3 a1_0 a1_1).bind fun t140 => (if t140 = true then (if a1_1 ≥ t137 then (some (decide (a1_1 ≤ t138))) else (some false)) else (some false))) else (some false)) = some r := H
 have A4 := Aside0.mk A40
 clear A40
 by_cases c5 : t139 = true
 ·subst c5
  have H1 : ((addr_Covers.f a0_2 a0_3 a1_0 a1_1).bind fun t140 => (if t140 = true then (if a1_1 ≥ t137 then (some (decide (a1_1 ≤ t138))) else (some false)) else (some false))) = some r := by rw [if_pos rfl] at H; exact H
  clear H
  have H := H1
  clear H1
  replace H := Option.bind_eq_some_iff.mp H
  obtain ⟨t140, A60, H⟩ := H
  replace H : (if t140 = true then (if a1_1 ≥ t137 then (some (decide (a1_1 ≤ t138))) else (some false)) else (some false)) = some r := H
  have A6 := Aside0.mk A60
  clear A60
  by_cases c7 : t140 = true
  ·subst c7
   have H1 : (if a1_1 ≥ t137 then (some (decide (a1_1 ≤ t138))) else (some false)) = some r := by rw [if_pos rfl] at H; exact H
   clear H
   have H := H1
   clear H1
   by_cases c8 : a1_1 ≥ t137
   ·rw [if_pos c8] at H
    have c8b0 : decide (t137 ≤ a1_1) = true := decide_eq_true c8
    clear c8
    obtain rfl := Option.some.inj H
    go_enter Tryz.func14, Tryz.ntmps14
    go_wp2_with (first | ((with_reducible refine gate_dst (N := 2) rfl ?_); refine box_event ?hg (N := 2) ?hd (cs := #[.int .i64 a0_0, .bool a0_1, .int .u32 a0_2, .int .i64 a0_3, .int .i64 a0_4, .int .i64 a0_5]) (t := 26) ?hr ?_; (case hd => rfl); (case hg => rfl); (case hr => first | (go_simp; done)); intro gb135 hg w9 hbox hb; have n0_ := Aside0.mk (below_step (by repeat (first | (with_reducible first | exact HB.out))) hb); have n1_ := Aside0.mk (hbox); have n2_ := Aside0.mk ((by rw [hg]; exact (below_size (by repeat (first | (with_reducible first | exact HB.out)))) : w.heap.size ≤ gb135)); have n3_ := Aside0.mk ((by rw [hg]; exact (below_size (by repeat (first | (with_reducible first | exact HB.out)))) : w.heap.size ≤ gb135)); clear HB; have HB := n0_; have BK135 := n1_; have GW135 := n2_; have GE135 := n3_; clear n0_ n1_ n2_ n3_; clear hb hbox hg) | ((with_reducible refine gate_dst (N := 3) rfl ?_); refine box_event ?hg (N := 3) ?hd (cs := #[.int .u32 a1_0, .int .i64 a1_1]) (t := 24) ?hr ?_; (case hd => rfl); (case hg => rfl); (case hr => first | (go_simp; done)); intro gb136 hg w10 hbox hb; have n0_ := Aside0.mk (blk_below (g := gb135) (o := .cells #[.int .i64 a0_0, .bool a0_1, .int .u32 a0_2, .int .i64 a0_3, .int .i64 a0_4, .int .i64 a0_5] 26 (0, 0)) (by (with_reducible repeat (fail)); exact BK135.out) hb); have n1_ := Aside0.mk (below_step (by repeat (first | (with_reducible first | exact HB.out))) hb); have n2_ := Aside0.mk (hbox); have n3_ := Aside0.mk ((by rw [hg]; exact (below_size (by repeat (first | (with_reducible first | exact HB.out)))) : w.heap.size ≤ gb136)); have n4_ := Aside0.mk ((by rw [hg]; exact (below_size (by repeat (first | (with_reducible first | exact HB.out)))) : w.heap.size ≤ gb136)); have n5_ := Aside0.mk ((by rw [hg]; exact Nat.ne_of_lt (blk_lt (g := gb135) (o := .cells #[.int .i64 a0_0, .bool a0_1, .int .u32 a0_2, .int .i64 a0_3, .int .i64 a0_4, .int .i64 a0_5] 26 (0, 0)) (by (with_reducible repeat (fail)); exact BK135.out)) : gb135 ≠ gb136)); have n6_ := Aside0.mk ((by rw [hg]; exact Nat.ne_of_gt (blk_lt (g := gb135) (o := .cells #[.int .i64 a0_0, .bool a0_1, .int .u32 a0_2, .int .i64 a0_3, .int .i64 a0_4, .int .i64 a0_5] 26 (0, 0)) (by (with_reducible repeat (fail)); exact BK135.out)) : gb136 ≠ gb135)); clear BK135; clear HB; have BK135 := n0_; have HB := n1_; have BK136 := n2_; have GW136 := n3_; have GE136 := n4_; have NB135_136 := n5_; have NB136_135 := n6_; clear n0_ n1_ n2_ n3_ n4_ n5_ n6_; clear hb hbox hg; have hnb11 := NB135_136.out; have hnc11 := NB136_135.out; have hcz12_0 : w10.cell? ⟨gb135, 0, none⟩ = some (.int .i64 a0_0) := (blk_cell BK135.out 0).trans rfl; have hcz12_1 : w10.cell? ⟨gb135, 1, none⟩ = some (.bool a0_1) := (blk_cell BK135.out 1).trans rfl; have hcz12_2 : w10.cell? ⟨gb135, 2, none⟩ = some (.int .u32 a0_2) := (blk_cell BK135.out 2).trans rfl; have hcz12_3 : w10.cell? ⟨gb135, 3, none⟩ = some (.int .i64 a0_3) := (blk_cell BK135.out 3).trans rfl; have hcz12_4 : w10.cell? ⟨gb135, 4, none⟩ = some (.int .i64 a0_4) := (blk_cell BK135.out 4).trans rfl; have hcz12_5 : w10.cell? ⟨gb135, 5, none⟩ = some (.int .i64 a0_5) := (blk_cell BK135.out 5).trans rfl; have hfz12_0 := blk_frozen BK135.out 0; have hfz12_1 := blk_frozen BK135.out 1; have hfz12_2 := blk_frozen BK135.out 2; have hfz12_3 := blk_frozen BK135.out 3; have hfz12_4 := blk_frozen BK135.out 4; have hfz12_5 := blk_frozen BK135.out 5) | ((with_reducible refine gate_callee (f := 39) rfl ?_); refine goesL_ (some 9) rfl rfl Tryz.func39 (by kernel_rfl) rfl #[.agg #[.int .i64 a0_0, .bool a0_1, .int .u32 a0_2, .int .i64 a0_3, .int .i64 a0_4, .int .i64 a0_5]] rfl (by (try simp only [List.map_toArray, List.map_cons, List.map_nil]); first | rfl) ?_; (with_reducible refine (plist_Rule_bounds.calls k a0_0 a0_1 a0_2 a0_3 a0_4 a0_5 t137 t138 _ A3.out).mono ?_); rintro e w13 ⟨rfl, hb⟩; refine ⟨_, rfl, ?_⟩; have n0_ := Aside0.mk (blk_below (g := gb135) (o := .cells #[.int .i64 a0_0, .bool a0_1, .int .u32 a0_2, .int .i64 a0_3, .int .i64 a0_4, .int .i64 a0_5] 26 (0, 0)) (by (with_reducible repeat (fail)); exact BK135.out) hb); have n1_ := Aside0.mk (blk_below (g := gb136) (o := .cells #[.int .u32 a1_0, .int .i64 a1_1] 24 (0, 0)) (by (with_reducible repeat (fail)); exact BK136.out) hb); have n2_ := Aside0.mk (below_step (by repeat (first | (with_reducible first | exact HB.out))) hb); clear BK135; clear BK136; clear HB; have BK135 := n0_; have BK136 := n1_; have HB := n2_; clear n0_ n1_ n2_; (try clear hb); (try clear hb2); (try clear hk); (try clear hi); have hcz14_0 : w13.cell? ⟨gb135, 0, none⟩ = some (.int .i64 a0_0) := (blk_cell BK135.out 0).trans rfl; have hcz14_1 : w13.cell? ⟨gb135, 1, none⟩ = some (.bool a0_1) := (blk_cell BK135.out 1).trans rfl; have hcz14_2 : w13.cell? ⟨gb135, 2, none⟩ = some (.int .u32 a0_2) := (blk_cell BK135.out 2).trans rfl; have hcz14_3 : w13.cell? ⟨gb135, 3, none⟩ = some (.int .i64 a0_3) := (blk_cell BK135.out 3).trans rfl; have hcz14_4 : w13.cell? ⟨gb135, 4, none⟩ = some (.int .i64 a0_4) := (blk_cell BK135.out 4).trans rfl; have hcz14_5 : w13.cell? ⟨gb135, 5, none⟩ = some (.int .i64 a0_5) := (blk_cell BK135.out 5).trans rfl; have hfz14_0 := blk_frozen BK135.out 0; have hfz14_1 := blk_frozen BK135.out 1; have hfz14_2 := blk_frozen BK135.out 2; have hfz14_3 := blk_frozen BK135.out 3; have hfz14_4 := blk_frozen BK135.out 4; have hfz14_5 := blk_frozen BK135.out 5) | ((with_reducible refine gate_callee (f := 10) rfl ?_); refine goesL_ (some 13) rfl rfl Tryz.func10 (by kernel_rfl) rfl #[.agg #[.int .i64 a0_0, .bool a0_1, .int .u32 a0_2, .int .i64 a0_3, .int .i64 a0_4, .int .i64 a0_5]] rfl (by (try simp only [List.map_toArray, List.map_cons, List.map_nil]); first | rfl) ?_; (with_reducible refine (plist_May.calls a0_0 a0_1 a0_2 a0_3 a0_4 a0_5 true _ A4.out).mono ?_); rintro e w15 ⟨rfl, hb⟩; refine ⟨_, rfl, ?_⟩; have n0_ := Aside0.mk (blk_below (g := gb135) (o := .cells #[.int .i64 a0_0, .bool a0_1, .int .u32 a0_2, .int .i64 a0_3, .int .i64 a0_4, .int .i64 a0_5] 26 (0, 0)) (by (with_reducible repeat (fail)); exact BK135.out) hb); have n1_ := Aside0.mk (blk_below (g := gb136) (o := .cells #[.int .u32 a1_0, .int .i64 a1_1] 24 (0, 0)) (by (with_reducible repeat (fail)); exact BK136.out) hb); have n2_ := Aside0.mk (below_step (by repeat (first | (with_reducible first | exact HB.out))) hb); clear BK135; clear BK136; clear HB; have BK135 := n0_; have BK136 := n1_; have HB := n2_; clear n0_ n1_ n2_; (try clear hb); (try clear hb2); (try clear hk); (try clear hi); have hcz16_0 : w15.cell? ⟨gb135, 0, none⟩ = some (.int .i64 a0_0) := (blk_cell BK135.out 0).trans rfl; have hcz16_1 : w15.cell? ⟨gb135, 1, none⟩ = some (.bool a0_1) := (blk_cell BK135.out 1).trans rfl; have hcz16_2 : w15.cell? ⟨gb135, 2, none⟩ = some (.int .u32 a0_2) := (blk_cell BK135.out 2).trans rfl; have hcz16_3 : w15.cell? ⟨gb135, 3, none⟩ = some (.int .i64 a0_3) := (blk_cell BK135.out 3).trans rfl; have hcz16_4 : w15.cell? ⟨gb135, 4, none⟩ = some (.int .i64 a0_4) := (blk_cell BK135.out 4).trans rfl; have hcz16_5 : w15.cell? ⟨gb135, 5, none⟩ = some (.int .i64 a0_5) := (blk_cell BK135.out 5).trans rfl; have hfz16_0 := blk_frozen BK135.out 0; have hfz16_1 := blk_frozen BK135.out 1; have hfz16_2 := blk_frozen BK135.out 2; have hfz16_3 := blk_frozen BK135.out 3; have hfz16_4 := blk_frozen BK135.out 4; have hfz16_5 := blk_frozen BK135.out 5; have hcz17_0 : w15.cell? ⟨gb136, 0, none⟩ = some (.int .u32 a1_0) := (blk_cell BK136.out 0).trans rfl; have hcz17_1 : w15.cell? ⟨gb136, 1, none⟩ = some (.int .i64 a1_1) := (blk_cell BK136.out 1).trans rfl; have hfz17_0 := blk_frozen BK136.out 0; have hfz17_1 := blk_frozen BK136.out 1) | (go_at_call 40; (with_reducible refine (addr_Covers.calls a0_2 a0_3 a1_0 a1_1 true _ A6.out).mono ?_); rintro e w18 ⟨rfl, hb⟩; have n0_ := Aside0.mk (blk_below (g := gb135) (o := .cells #[.int .i64 a0_0, .bool a0_1, .int .u32 a0_2, .int .i64 a0_3, .int .i64 a0_4, .int .i64 a0_5] 26 (0, 0)) (by (with_reducible repeat (fail)); exact BK135.out) hb); have n1_ := Aside0.mk (blk_below (g := gb136) (o := .cells #[.int .u32 a1_0, .int .i64 a1_1] 24 (0, 0)) (by (with_reducible repeat (fail)); exact BK136.out) hb); have n2_ := Aside0.mk (below_step (by repeat (first | (with_reducible first | exact HB.out))) hb); clear BK135; clear BK136; clear HB; have BK135 := n0_; have BK136 := n1_; have HB := n2_; clear n0_ n1_ n2_; (try clear hb); (try clear hb2); (try clear hk); (try clear hi); have hcz19_0 : w18.cell? ⟨gb136, 0, none⟩ = some (.int .u32 a1_0) := (blk_cell BK136.out 0).trans rfl; have hcz19_1 : w18.cell? ⟨gb136, 1, none⟩ = some (.int .i64 a1_1) := (blk_cell BK136.out 1).trans rfl; have hfz19_0 := blk_frozen BK136.out 0; have hfz19_1 := blk_frozen BK136.out 1))
    go_ret
    exact ⟨by first | rfl, by repeat (first | (with_reducible first | exact HB.out))⟩
   ·rw [if_neg c8] at H
    have c8b0 : decide (t137 ≤ a1_1) = false := decide_eq_false c8
    clear c8
    obtain rfl := Option.some.inj H
    go_enter Tryz.func14, Tryz.ntmps14
    go_wp2_with (first | ((with_reducible refine gate_dst (N := 2) rfl ?_); refine box_event ?hg (N := 2) ?hd (cs := #[.int .i64 a0_0, .bool a0_1, .int .u32 a0_2, .int .i64 a0_3, .int .i64 a0_4, .int .i64 a0_5]) (t := 26) ?hr ?_; (case hd => rfl); (case hg => rfl); (case hr => first | (go_simp; done)); intro gb135 hg w20 hbox hb; have n0_ := Aside0.mk (below_step (by repeat (first | (with_reducible first | exact HB.out))) hb); have n1_ := Aside0.mk (hbox); have n2_ := Aside0.mk ((by rw [hg]; exact (below_size (by repeat (first | (with_reducible first | exact HB.out)))) : w.heap.size ≤ gb135)); have n3_ := Aside0.mk ((by rw [hg]; exact (below_size (by repeat (first | (with_reducible first | exact HB.out)))) : w.heap.size ≤ gb135)); clear HB; have HB := n0_; have BK135 := n1_; have GW135 := n2_; have GE135 := n3_; clear n0_ n1_ n2_ n3_; clear hb hbox hg) | ((with_reducible refine gate_dst (N := 3) rfl ?_); refine box_event ?hg (N := 3) ?hd (cs := #[.int .u32 a1_0, .int .i64 a1_1]) (t := 24) ?hr ?_; (case hd => rfl); (case hg => rfl); (case hr => first | (go_simp; done)); intro gb136 hg w21 hbox hb; have n0_ := Aside0.mk (blk_below (g := gb135) (o := .cells #[.int .i64 a0_0, .bool a0_1, .int .u32 a0_2, .int .i64 a0_3, .int .i64 a0_4, .int .i64 a0_5] 26 (0, 0)) (by (with_reducible repeat (fail)); exact BK135.out) hb); have n1_ := Aside0.mk (below_step (by repeat (first | (with_reducible first | exact HB.out))) hb); have n2_ := Aside0.mk (hbox); have n3_ := Aside0.mk ((by rw [hg]; exact (below_size (by repeat (first | (with_reducible first | exact HB.out)))) : w.heap.size ≤ gb136)); have n4_ := Aside0.mk ((by rw [hg]; exact (below_size (by repeat (first | (with_reducible first | exact HB.out)))) : w.heap.size ≤ gb136)); have n5_ := Aside0.mk ((by rw [hg]; exact Nat.ne_of_lt (blk_lt (g := gb135) (o := .cells #[.int .i64 a0_0, .bool a0_1, .int .u32 a0_2, .int .i64 a0_3, .int .i64 a0_4, .int .i64 a0_5] 26 (0, 0)) (by (with_reducible repeat (fail)); exact BK135.out)) : gb135 ≠ gb136)); have n6_ := Aside0.mk ((by rw [hg]; exact Nat.ne_of_gt (blk_lt (g := gb135) (o := .cells #[.int .i64 a0_0, .bool a0_1, .int .u32 a0_2, .int .i64 a0_3, .int .i64 a0_4, .int .i64 a0_5] 26 (0, 0)) (by (with_reducible repeat (fail)); exact BK135.out)) : gb136 ≠ gb135)); clear BK135; clear HB; have BK135 := n0_; have HB := n1_; have BK136 := n2_; have GW136 := n3_; have GE136 := n4_; have NB135_136 := n5_; have NB136_135 := n6_; clear n0_ n1_ n2_ n3_ n4_ n5_ n6_; clear hb hbox hg; have hnb22 := NB135_136.out; have hnc22 := NB136_135.out; have hcz23_0 : w21.cell? ⟨gb135, 0, none⟩ = some (.int .i64 a0_0) := (blk_cell BK135.out 0).trans rfl; have hcz23_1 : w21.cell? ⟨gb135, 1, none⟩ = some (.bool a0_1) := (blk_cell BK135.out 1).trans rfl; have hcz23_2 : w21.cell? ⟨gb135, 2, none⟩ = some (.int .u32 a0_2) := (blk_cell BK135.out 2).trans rfl; have hcz23_3 : w21.cell? ⟨gb135, 3, none⟩ = some (.int .i64 a0_3) := (blk_cell BK135.out 3).trans rfl; have hcz23_4 : w21.cell? ⟨gb135, 4, none⟩ = some (.int .i64 a0_4) := (blk_cell BK135.out 4).trans rfl; have hcz23_5 : w21.cell? ⟨gb135, 5, none⟩ = some (.int .i64 a0_5) := (blk_cell BK135.out 5).trans rfl; have hfz23_0 := blk_frozen BK135.out 0; have hfz23_1 := blk_frozen BK135.out 1; have hfz23_2 := blk_frozen BK135.out 2; have hfz23_3 := blk_frozen BK135.out 3; have hfz23_4 := blk_frozen BK135.out 4; have hfz23_5 := blk_frozen BK135.out 5) | ((with_reducible refine gate_callee (f := 39) rfl ?_); refine goesL_ (some 9) rfl rfl Tryz.func39 (by kernel_rfl) rfl #[.agg #[.int .i64 a0_0, .bool a0_1, .int .u32 a0_2, .int .i64 a0_3, .int .i64 a0_4, .int .i64 a0_5]] rfl (by (try simp only [List.map_toArray, List.map_cons, List.map_nil]); first | rfl) ?_; (with_reducible refine (plist_Rule_bounds.calls k a0_0 a0_1 a0_2 a0_3 a0_4 a0_5 t137 t138 _ A3.out).mono ?_); rintro e w24 ⟨rfl, hb⟩; refine ⟨_, rfl, ?_⟩; have n0_ := Aside0.mk (blk_below (g := gb135) (o := .cells #[.int .i64 a0_0, .bool a0_1, .int .u32 a0_2, .int .i64 a0_3, .int .i64 a0_4, .int .i64 a0_5] 26 (0, 0)) (by (with_reducible repeat (fail)); exact BK135.out) hb); have n1_ := Aside0.mk (blk_below (g := gb136) (o := .cells #[.int .u32 a1_0, .int .i64 a1_1] 24 (0, 0)) (by (with_reducible repeat (fail)); exact BK136.out) hb); have n2_ := Aside0.mk (below_step (by repeat (first | (with_reducible first | exact HB.out))) hb); clear BK135; clear BK136; clear HB; have BK135 := n0_; have BK136 := n1_; have HB := n2_; clear n0_ n1_ n2_; (try clear hb); (try clear hb2); (try clear hk); (try clear hi); have hcz25_0 : w24.cell? ⟨gb135, 0, none⟩ = some (.int .i64 a0_0) := (blk_cell BK135.out 0).trans rfl; have hcz25_1 : w24.cell? ⟨gb135, 1, none⟩ = some (.bool a0_1) := (blk_cell BK135.out 1).trans rfl; have hcz25_2 : w24.cell? ⟨gb135, 2, none⟩ = some (.int .u32 a0_2) := (blk_cell BK135.out 2).trans rfl; have hcz25_3 : w24.cell? ⟨gb135, 3, none⟩ = some (.int .i64 a0_3) := (blk_cell BK135.out 3).trans rfl; have hcz25_4 : w24.cell? ⟨gb135, 4, none⟩ = some (.int .i64 a0_4) := (blk_cell BK135.out 4).trans rfl; have hcz25_5 : w24.cell? ⟨gb135, 5, none⟩ = some (.int .i64 a0_5) := (blk_cell BK135.out 5).trans rfl; have hfz25_0 := blk_frozen BK135.out 0; have hfz25_1 := blk_frozen BK135.out 1; have hfz25_2 := blk_frozen BK135.out 2; have hfz25_3 := blk_frozen BK135.out 3; have hfz25_4 := blk_frozen BK135.out 4; have hfz25_5 := blk_frozen BK135.out 5) | ((with_reducible refine gate_callee (f := 10) rfl ?_); refine goesL_ (some 13) rfl rfl Tryz.func10 (by kernel_rfl) rfl #[.agg #[.int .i64 a0_0, .bool a0_1, .int .u32 a0_2, .int .i64 a0_3, .int .i64 a0_4, .int .i64 a0_5]] rfl (by (try simp only [List.map_toArray, List.map_cons, List.map_nil]); first | rfl) ?_; (with_reducible refine (plist_May.calls a0_0 a0_1 a0_2 a0_3 a0_4 a0_5 true _ A4.out).mono ?_); rintro e w26 ⟨rfl, hb⟩; refine ⟨_, rfl, ?_⟩; have n0_ := Aside0.mk (blk_below (g := gb135) (o := .cells #[.int .i64 a0_0, .bool a0_1, .int .u32 a0_2, .int .i64 a0_3, .int .i64 a0_4, .int .i64 a0_5] 26 (0, 0)) (by (with_reducible repeat (fail)); exact BK135.out) hb); have n1_ := Aside0.mk (blk_below (g := gb136) (o := .cells #[.int .u32 a1_0, .int .i64 a1_1] 24 (0, 0)) (by (with_reducible repeat (fail)); exact BK136.out) hb); have n2_ := Aside0.mk (below_step (by repeat (first | (with_reducible first | exact HB.out))) hb); clear BK135; clear BK136; clear HB; have BK135 := n0_; have BK136 := n1_; have HB := n2_; clear n0_ n1_ n2_; (try clear hb); (try clear hb2); (try clear hk); (try clear hi); have hcz27_0 : w26.cell? ⟨gb135, 0, none⟩ = some (.int .i64 a0_0) := (blk_cell BK135.out 0).trans rfl; have hcz27_1 : w26.cell? ⟨gb135, 1, none⟩ = some (.bool a0_1) := (blk_cell BK135.out 1).trans rfl; have hcz27_2 : w26.cell? ⟨gb135, 2, none⟩ = some (.int .u32 a0_2) := (blk_cell BK135.out 2).trans rfl; have hcz27_3 : w26.cell? ⟨gb135, 3, none⟩ = some (.int .i64 a0_3) := (blk_cell BK135.out 3).trans rfl; have hcz27_4 : w26.cell? ⟨gb135, 4, none⟩ = some (.int .i64 a0_4) := (blk_cell BK135.out 4).trans rfl; have hcz27_5 : w26.cell? ⟨gb135, 5, none⟩ = some (.int .i64 a0_5) := (blk_cell BK135.out 5).trans rfl; have hfz27_0 := blk_frozen BK135.out 0; have hfz27_1 := blk_frozen BK135.out 1; have hfz27_2 := blk_frozen BK135.out 2; have hfz27_3 := blk_frozen BK135.out 3; have hfz27_4 := blk_frozen BK135.out 4; have hfz27_5 := blk_frozen BK135.out 5; have hcz28_0 : w26.cell? ⟨gb136, 0, none⟩ = some (.int .u32 a1_0) := (blk_cell BK136.out 0).trans rfl; have hcz28_1 : w26.cell? ⟨gb136, 1, none⟩ = some (.int .i64 a1_1) := (blk_cell BK136.out 1).trans rfl; have hfz28_0 := blk_frozen BK136.out 0; have hfz28_1 := blk_frozen BK136.out 1) | (go_at_call 40; (with_reducible refine (addr_Covers.calls a0_2 a0_3 a1_0 a1_1 true _ A6.out).mono ?_); rintro e w29 ⟨rfl, hb⟩; have n0_ := Aside0.mk (blk_below (g := gb135) (o := .cells #[.int .i64 a0_0, .bool a0_1, .int .u32 a0_2, .int .i64 a0_3, .int .i64 a0_4, .int .i64 a0_5] 26 (0, 0)) (by (with_reducible repeat (fail)); exact BK135.out) hb); have n1_ := Aside0.mk (blk_below (g := gb136) (o := .cells #[.int .u32 a1_0, .int .i64 a1_1] 24 (0, 0)) (by (with_reducible repeat (fail)); exact BK136.out) hb); have n2_ := Aside0.mk (below_step (by repeat (first | (with_reducible first | exact HB.out))) hb); clear BK135; clear BK136; clear HB; have BK135 := n0_; have BK136 := n1_; have HB := n2_; clear n0_ n1_ n2_; (try clear hb); (try clear hb2); (try clear hk); (try clear hi); have hcz30_0 : w29.cell? ⟨gb136, 0, none⟩ = some (.int .u32 a1_0) := (blk_cell BK136.out 0).trans rfl; have hcz30_1 : w29.cell? ⟨gb136, 1, none⟩ = some (.int .i64 a1_1) := (blk_cell BK136.out 1).trans rfl; have hfz30_0 := blk_frozen BK136.out 0; have hfz30_1 := blk_frozen BK136.out 1))
    go_ret
    exact ⟨by first | rfl, by repeat (first | (with_reducible first | exact HB.out))⟩
  ·replace c7 := Bool.eq_false_iff.mpr c7
   subst c7
   have H1 : (some false) = some r := by rw [if_neg (show ¬ (false = true) by decide)] at H; exact H
   clear H
   have H := H1
   clear H1
   obtain rfl := Option.some.inj H
   go_enter Tryz.func14, Tryz.ntmps14
   go_wp2_with (first | ((with_reducible refine gate_dst (N := 2) rfl ?_); refine box_event ?hg (N := 2) ?hd (cs := #[.int .i64 a0_0, .bool a0_1, .int .u32 a0_2, .int .i64 a0_3, .int .i64 a0_4, .int .i64 a0_5]) (t := 26) ?hr ?_; (case hd => rfl); (case hg => rfl); (case hr => first | (go_simp; done)); intro gb135 hg w31 hbox hb; have n0_ := Aside0.mk (below_step (by repeat (first | (with_reducible first | exact HB.out))) hb); have n1_ := Aside0.mk (hbox); have n2_ := Aside0.mk ((by rw [hg]; exact (below_size (by repeat (first | (with_reducible first | exact HB.out)))) : w.heap.size ≤ gb135)); have n3_ := Aside0.mk ((by rw [hg]; exact (below_size (by repeat (first | (with_reducible first | exact HB.out)))) : w.heap.size ≤ gb135)); clear HB; have HB := n0_; have BK135 := n1_; have GW135 := n2_; have GE135 := n3_; clear n0_ n1_ n2_ n3_; clear hb hbox hg) | ((with_reducible refine gate_dst (N := 3) rfl ?_); refine box_event ?hg (N := 3) ?hd (cs := #[.int .u32 a1_0, .int .i64 a1_1]) (t := 24) ?hr ?_; (case hd => rfl); (case hg => rfl); (case hr => first | (go_simp; done)); intro gb136 hg w32 hbox hb; have n0_ := Aside0.mk (blk_below (g := gb135) (o := .cells #[.int .i64 a0_0, .bool a0_1, .int .u32 a0_2, .int .i64 a0_3, .int .i64 a0_4, .int .i64 a0_5] 26 (0, 0)) (by (with_reducible repeat (fail)); exact BK135.out) hb); have n1_ := Aside0.mk (below_step (by repeat (first | (with_reducible first | exact HB.out))) hb); have n2_ := Aside0.mk (hbox); have n3_ := Aside0.mk ((by rw [hg]; exact (below_size (by repeat (first | (with_reducible first | exact HB.out)))) : w.heap.size ≤ gb136)); have n4_ := Aside0.mk ((by rw [hg]; exact (below_size (by repeat (first | (with_reducible first | exact HB.out)))) : w.heap.size ≤ gb136)); have n5_ := Aside0.mk ((by rw [hg]; exact Nat.ne_of_lt (blk_lt (g := gb135) (o := .cells #[.int .i64 a0_0, .bool a0_1, .int .u32 a0_2, .int .i64 a0_3, .int .i64 a0_4, .int .i64 a0_5] 26 (0, 0)) (by (with_reducible repeat (fail)); exact BK135.out)) : gb135 ≠ gb136)); have n6_ := Aside0.mk ((by rw [hg]; exact Nat.ne_of_gt (blk_lt (g := gb135) (o := .cells #[.int .i64 a0_0, .bool a0_1, .int .u32 a0_2, .int .i64 a0_3, .int .i64 a0_4, .int .i64 a0_5] 26 (0, 0)) (by (with_reducible repeat (fail)); exact BK135.out)) : gb136 ≠ gb135)); clear BK135; clear HB; have BK135 := n0_; have HB := n1_; have BK136 := n2_; have GW136 := n3_; have GE136 := n4_; have NB135_136 := n5_; have NB136_135 := n6_; clear n0_ n1_ n2_ n3_ n4_ n5_ n6_; clear hb hbox hg; have hnb33 := NB135_136.out; have hnc33 := NB136_135.out; have hcz34_0 : w32.cell? ⟨gb135, 0, none⟩ = some (.int .i64 a0_0) := (blk_cell BK135.out 0).trans rfl; have hcz34_1 : w32.cell? ⟨gb135, 1, none⟩ = some (.bool a0_1) := (blk_cell BK135.out 1).trans rfl; have hcz34_2 : w32.cell? ⟨gb135, 2, none⟩ = some (.int .u32 a0_2) := (blk_cell BK135.out 2).trans rfl; have hcz34_3 : w32.cell? ⟨gb135, 3, none⟩ = some (.int .i64 a0_3) := (blk_cell BK135.out 3).trans rfl; have hcz34_4 : w32.cell? ⟨gb135, 4, none⟩ = some (.int .i64 a0_4) := (blk_cell BK135.out 4).trans rfl; have hcz34_5 : w32.cell? ⟨gb135, 5, none⟩ = some (.int .i64 a0_5) := (blk_cell BK135.out 5).trans rfl; have hfz34_0 := blk_frozen BK135.out 0; have hfz34_1 := blk_frozen BK135.out 1; have hfz34_2 := blk_frozen BK135.out 2; have hfz34_3 := blk_frozen BK135.out 3; have hfz34_4 := blk_frozen BK135.out 4; have hfz34_5 := blk_frozen BK135.out 5) | ((with_reducible refine gate_callee (f := 39) rfl ?_); refine goesL_ (some 9) rfl rfl Tryz.func39 (by kernel_rfl) rfl #[.agg #[.int .i64 a0_0, .bool a0_1, .int .u32 a0_2, .int .i64 a0_3, .int .i64 a0_4, .int .i64 a0_5]] rfl (by (try simp only [List.map_toArray, List.map_cons, List.map_nil]); first | rfl) ?_; (with_reducible refine (plist_Rule_bounds.calls k a0_0 a0_1 a0_2 a0_3 a0_4 a0_5 t137 t138 _ A3.out).mono ?_); rintro e w35 ⟨rfl, hb⟩; refine ⟨_, rfl, ?_⟩; have n0_ := Aside0.mk (blk_below (g := gb135) (o := .cells #[.int .i64 a0_0, .bool a0_1, .int .u32 a0_2, .int .i64 a0_3, .int .i64 a0_4, .int .i64 a0_5] 26 (0, 0)) (by (with_reducible repeat (fail)); exact BK135.out) hb); have n1_ := Aside0.mk (blk_below (g := gb136) (o := .cells #[.int .u32 a1_0, .int .i64 a1_1] 24 (0, 0)) (by (with_reducible repeat (fail)); exact BK136.out) hb); have n2_ := Aside0.mk (below_step (by repeat (first | (with_reducible first | exact HB.out))) hb); clear BK135; clear BK136; clear HB; have BK135 := n0_; have BK136 := n1_; have HB := n2_; clear n0_ n1_ n2_; (try clear hb); (try clear hb2); (try clear hk); (try clear hi); have hcz36_0 : w35.cell? ⟨gb135, 0, none⟩ = some (.int .i64 a0_0) := (blk_cell BK135.out 0).trans rfl; have hcz36_1 : w35.cell? ⟨gb135, 1, none⟩ = some (.bool a0_1) := (blk_cell BK135.out 1).trans rfl; have hcz36_2 : w35.cell? ⟨gb135, 2, none⟩ = some (.int .u32 a0_2) := (blk_cell BK135.out 2).trans rfl; have hcz36_3 : w35.cell? ⟨gb135, 3, none⟩ = some (.int .i64 a0_3) := (blk_cell BK135.out 3).trans rfl; have hcz36_4 : w35.cell? ⟨gb135, 4, none⟩ = some (.int .i64 a0_4) := (blk_cell BK135.out 4).trans rfl; have hcz36_5 : w35.cell? ⟨gb135, 5, none⟩ = some (.int .i64 a0_5) := (blk_cell BK135.out 5).trans rfl; have hfz36_0 := blk_frozen BK135.out 0; have hfz36_1 := blk_frozen BK135.out 1; have hfz36_2 := blk_frozen BK135.out 2; have hfz36_3 := blk_frozen BK135.out 3; have hfz36_4 := blk_frozen BK135.out 4; have hfz36_5 := blk_frozen BK135.out 5) | ((with_reducible refine gate_callee (f := 10) rfl ?_); refine goesL_ (some 13) rfl rfl Tryz.func10 (by kernel_rfl) rfl #[.agg #[.int .i64 a0_0, .bool a0_1, .int .u32 a0_2, .int .i64 a0_3, .int .i64 a0_4, .int .i64 a0_5]] rfl (by (try simp only [List.map_toArray, List.map_cons, List.map_nil]); first | rfl) ?_; (with_reducible refine (plist_May.calls a0_0 a0_1 a0_2 a0_3 a0_4 a0_5 true _ A4.out).mono ?_); rintro e w37 ⟨rfl, hb⟩; refine ⟨_, rfl, ?_⟩; have n0_ := Aside0.mk (blk_below (g := gb135) (o := .cells #[.int .i64 a0_0, .bool a0_1, .int .u32 a0_2, .int .i64 a0_3, .int .i64 a0_4, .int .i64 a0_5] 26 (0, 0)) (by (with_reducible repeat (fail)); exact BK135.out) hb); have n1_ := Aside0.mk (blk_below (g := gb136) (o := .cells #[.int .u32 a1_0, .int .i64 a1_1] 24 (0, 0)) (by (with_reducible repeat (fail)); exact BK136.out) hb); have n2_ := Aside0.mk (below_step (by repeat (first | (with_reducible first | exact HB.out))) hb); clear BK135; clear BK136; clear HB; have BK135 := n0_; have BK136 := n1_; have HB := n2_; clear n0_ n1_ n2_; (try clear hb); (try clear hb2); (try clear hk); (try clear hi); have hcz38_0 : w37.cell? ⟨gb135, 0, none⟩ = some (.int .i64 a0_0) := (blk_cell BK135.out 0).trans rfl; have hcz38_1 : w37.cell? ⟨gb135, 1, none⟩ = some (.bool a0_1) := (blk_cell BK135.out 1).trans rfl; have hcz38_2 : w37.cell? ⟨gb135, 2, none⟩ = some (.int .u32 a0_2) := (blk_cell BK135.out 2).trans rfl; have hcz38_3 : w37.cell? ⟨gb135, 3, none⟩ = some (.int .i64 a0_3) := (blk_cell BK135.out 3).trans rfl; have hcz38_4 : w37.cell? ⟨gb135, 4, none⟩ = some (.int .i64 a0_4) := (blk_cell BK135.out 4).trans rfl; have hcz38_5 : w37.cell? ⟨gb135, 5, none⟩ = some (.int .i64 a0_5) := (blk_cell BK135.out 5).trans rfl; have hfz38_0 := blk_frozen BK135.out 0; have hfz38_1 := blk_frozen BK135.out 1; have hfz38_2 := blk_frozen BK135.out 2; have hfz38_3 := blk_frozen BK135.out 3; have hfz38_4 := blk_frozen BK135.out 4; have hfz38_5 := blk_frozen BK135.out 5; have hcz39_0 : w37.cell? ⟨gb136, 0, none⟩ = some (.int .u32 a1_0) := (blk_cell BK136.out 0).trans rfl; have hcz39_1 : w37.cell? ⟨gb136, 1, none⟩ = some (.int .i64 a1_1) := (blk_cell BK136.out 1).trans rfl; have hfz39_0 := blk_frozen BK136.out 0; have hfz39_1 := blk_frozen BK136.out 1) | (go_at_call 40; (with_reducible refine (addr_Covers.calls a0_2 a0_3 a1_0 a1_1 false _ A6.out).mono ?_); rintro e w40 ⟨rfl, hb⟩; have n0_ := Aside0.mk (blk_below (g := gb135) (o := .cells #[.int .i64 a0_0, .bool a0_1, .int .u32 a0_2, .int .i64 a0_3, .int .i64 a0_4, .int .i64 a0_5] 26 (0, 0)) (by (with_reducible repeat (fail)); exact BK135.out) hb); have n1_ := Aside0.mk (blk_below (g := gb136) (o := .cells #[.int .u32 a1_0, .int .i64 a1_1] 24 (0, 0)) (by (with_reducible repeat (fail)); exact BK136.out) hb); have n2_ := Aside0.mk (below_step (by repeat (first | (with_reducible first | exact HB.out))) hb); clear BK135; clear BK136; clear HB; have BK135 := n0_; have BK136 := n1_; have HB := n2_; clear n0_ n1_ n2_; (try clear hb); (try clear hb2); (try clear hk); (try clear hi)))
   go_ret
   exact ⟨by first | rfl, by repeat (first | (with_reducible first | exact HB.out))⟩
 ·replace c5 := Bool.eq_false_iff.mpr c5
  subst c5
  have H1 : (some false) = some r := by rw [if_neg (show ¬ (false = true) by decide)] at H; exact H
  clear H
  have H := H1
  clear H1
  obtain rfl := Option.some.inj H
  go_enter Tryz.func14, Tryz.ntmps14
  go_wp2_with (first | ((with_reducible refine gate_dst (N := 2) rfl ?_); refine box_event ?hg (N := 2) ?hd (cs := #[.int .i64 a0_0, .bool a0_1, .int .u32 a0_2, .int .i64 a0_3, .int .i64 a0_4, .int .i64 a0_5]) (t := 26) ?hr ?_; (case hd => rfl); (case hg => rfl); (case hr => first | (go_simp; done)); intro gb135 hg w41 hbox hb; have n0_ := Aside0.mk (below_step (by repeat (first | (with_reducible first | exact HB.out))) hb); have n1_ := Aside0.mk (hbox); have n2_ := Aside0.mk ((by rw [hg]; exact (below_size (by repeat (first | (with_reducible first | exact HB.out)))) : w.heap.size ≤ gb135)); have n3_ := Aside0.mk ((by rw [hg]; exact (below_size (by repeat (first | (with_reducible first | exact HB.out)))) : w.heap.size ≤ gb135)); clear HB; have HB := n0_; have BK135 := n1_; have GW135 := n2_; have GE135 := n3_; clear n0_ n1_ n2_ n3_; clear hb hbox hg) | ((with_reducible refine gate_dst (N := 3) rfl ?_); refine box_event ?hg (N := 3) ?hd (cs := #[.int .u32 a1_0, .int .i64 a1_1]) (t := 24) ?hr ?_; (case hd => rfl); (case hg => rfl); (case hr => first | (go_simp; done)); intro gb136 hg w42 hbox hb; have n0_ := Aside0.mk (blk_below (g := gb135) (o := .cells #[.int .i64 a0_0, .bool a0_1, .int .u32 a0_2, .int .i64 a0_3, .int .i64 a0_4, .int .i64 a0_5] 26 (0, 0)) (by (with_reducible repeat (fail)); exact BK135.out) hb); have n1_ := Aside0.mk (below_step (by repeat (first | (with_reducible first | exact HB.out))) hb); have n2_ := Aside0.mk (hbox); have n3_ := Aside0.mk ((by rw [hg]; exact (below_size (by repeat (first | (with_reducible first | exact HB.out)))) : w.heap.size ≤ gb136)); have n4_ := Aside0.mk ((by rw [hg]; exact (below_size (by repeat (first | (with_reducible first | exact HB.out)))) : w.heap.size ≤ gb136)); have n5_ := Aside0.mk ((by rw [hg]; exact Nat.ne_of_lt (blk_lt (g := gb135) (o := .cells #[.int .i64 a0_0, .bool a0_1, .int .u32 a0_2, .int .i64 a0_3, .int .i64 a0_4, .int .i64 a0_5] 26 (0, 0)) (by (with_reducible repeat (fail)); exact BK135.out)) : gb135 ≠ gb136)); have n6_ := Aside0.mk ((by rw [hg]; exact Nat.ne_of_gt (blk_lt (g := gb135) (o := .cells #[.int .i64 a0_0, .bool a0_1, .int .u32 a0_2, .int .i64 a0_3, .int .i64 a0_4, .int .i64 a0_5] 26 (0, 0)) (by (with_reducible repeat (fail)); exact BK135.out)) : gb136 ≠ gb135)); clear BK135; clear HB; have BK135 := n0_; have HB := n1_; have BK136 := n2_; have GW136 := n3_; have GE136 := n4_; have NB135_136 := n5_; have NB136_135 := n6_; clear n0_ n1_ n2_ n3_ n4_ n5_ n6_; clear hb hbox hg; have hnb43 := NB135_136.out; have hnc43 := NB136_135.out; have hcz44_0 : w42.cell? ⟨gb135, 0, none⟩ = some (.int .i64 a0_0) := (blk_cell BK135.out 0).trans rfl; have hcz44_1 : w42.cell? ⟨gb135, 1, none⟩ = some (.bool a0_1) := (blk_cell BK135.out 1).trans rfl; have hcz44_2 : w42.cell? ⟨gb135, 2, none⟩ = some (.int .u32 a0_2) := (blk_cell BK135.out 2).trans rfl; have hcz44_3 : w42.cell? ⟨gb135, 3, none⟩ = some (.int .i64 a0_3) := (blk_cell BK135.out 3).trans rfl; have hcz44_4 : w42.cell? ⟨gb135, 4, none⟩ = some (.int .i64 a0_4) := (blk_cell BK135.out 4).trans rfl; have hcz44_5 : w42.cell? ⟨gb135, 5, none⟩ = some (.int .i64 a0_5) := (blk_cell BK135.out 5).trans rfl; have hfz44_0 := blk_frozen BK135.out 0; have hfz44_1 := blk_frozen BK135.out 1; have hfz44_2 := blk_frozen BK135.out 2; have hfz44_3 := blk_frozen BK135.out 3; have hfz44_4 := blk_frozen BK135.out 4; have hfz44_5 := blk_frozen BK135.out 5) | ((with_reducible refine gate_callee (f := 39) rfl ?_); refine goesL_ (some 9) rfl rfl Tryz.func39 (by kernel_rfl) rfl #[.agg #[.int .i64 a0_0, .bool a0_1, .int .u32 a0_2, .int .i64 a0_3, .int .i64 a0_4, .int .i64 a0_5]] rfl (by (try simp only [List.map_toArray, List.map_cons, List.map_nil]); first | rfl) ?_; (with_reducible refine (plist_Rule_bounds.calls k a0_0 a0_1 a0_2 a0_3 a0_4 a0_5 t137 t138 _ A3.out).mono ?_); rintro e w45 ⟨rfl, hb⟩; refine ⟨_, rfl, ?_⟩; have n0_ := Aside0.mk (blk_below (g := gb135) (o := .cells #[.int .i64 a0_0, .bool a0_1, .int .u32 a0_2, .int .i64 a0_3, .int .i64 a0_4, .int .i64 a0_5] 26 (0, 0)) (by (with_reducible repeat (fail)); exact BK135.out) hb); have n1_ := Aside0.mk (blk_below (g := gb136) (o := .cells #[.int .u32 a1_0, .int .i64 a1_1] 24 (0, 0)) (by (with_reducible repeat (fail)); exact BK136.out) hb); have n2_ := Aside0.mk (below_step (by repeat (first | (with_reducible first | exact HB.out))) hb); clear BK135; clear BK136; clear HB; have BK135 := n0_; have BK136 := n1_; have HB := n2_; clear n0_ n1_ n2_; (try clear hb); (try clear hb2); (try clear hk); (try clear hi); have hcz46_0 : w45.cell? ⟨gb135, 0, none⟩ = some (.int .i64 a0_0) := (blk_cell BK135.out 0).trans rfl; have hcz46_1 : w45.cell? ⟨gb135, 1, none⟩ = some (.bool a0_1) := (blk_cell BK135.out 1).trans rfl; have hcz46_2 : w45.cell? ⟨gb135, 2, none⟩ = some (.int .u32 a0_2) := (blk_cell BK135.out 2).trans rfl; have hcz46_3 : w45.cell? ⟨gb135, 3, none⟩ = some (.int .i64 a0_3) := (blk_cell BK135.out 3).trans rfl; have hcz46_4 : w45.cell? ⟨gb135, 4, none⟩ = some (.int .i64 a0_4) := (blk_cell BK135.out 4).trans rfl; have hcz46_5 : w45.cell? ⟨gb135, 5, none⟩ = some (.int .i64 a0_5) := (blk_cell BK135.out 5).trans rfl; have hfz46_0 := blk_frozen BK135.out 0; have hfz46_1 := blk_frozen BK135.out 1; have hfz46_2 := blk_frozen BK135.out 2; have hfz46_3 := blk_frozen BK135.out 3; have hfz46_4 := blk_frozen BK135.out 4; have hfz46_5 := blk_frozen BK135.out 5) | ((with_reducible refine gate_callee (f := 10) rfl ?_); refine goesL_ (some 13) rfl rfl Tryz.func10 (by kernel_rfl) rfl #[.agg #[.int .i64 a0_0, .bool a0_1, .int .u32 a0_2, .int .i64 a0_3, .int .i64 a0_4, .int .i64 a0_5]] rfl (by (try simp only [List.map_toArray, List.map_cons, List.map_nil]); first | rfl) ?_; (with_reducible refine (plist_May.calls a0_0 a0_1 a0_2 a0_3 a0_4 a0_5 false _ A4.out).mono ?_); rintro e w47 ⟨rfl, hb⟩; refine ⟨_, rfl, ?_⟩; have n0_ := Aside0.mk (blk_below (g := gb135) (o := .cells #[.int .i64 a0_0, .bool a0_1, .int .u32 a0_2, .int .i64 a0_3, .int .i64 a0_4, .int .i64 a0_5] 26 (0, 0)) (by (with_reducible repeat (fail)); exact BK135.out) hb); have n1_ := Aside0.mk (blk_below (g := gb136) (o := .cells #[.int .u32 a1_0, .int .i64 a1_1] 24 (0, 0)) (by (with_reducible repeat (fail)); exact BK136.out) hb); have n2_ := Aside0.mk (below_step (by repeat (first | (with_reducible first | exact HB.out))) hb); clear BK135; clear BK136; clear HB; have BK135 := n0_; have BK136 := n1_; have HB := n2_; clear n0_ n1_ n2_; (try clear hb); (try clear hb2); (try clear hk); (try clear hi)))
  go_ret
  exact ⟨by first | rfl, by repeat (first | (with_reducible first | exact HB.out))⟩
end Go.Proofs.YthngpkfckhmiiaaGreatDoor.X
end
section
namespace Go.Proofs.YthngpkfckhmiiaaGreatDoor.X
open Go.RowKit Go.Proofs.YthngpkfckhmiiaaGreatDoorW.PrintWords Go.Proofs.YthngpkfckhmiiaaGreatDoorW.PrintLast Go.Proofs.YthngpkfckhmiiaaGreatDoorW.PrintMore
attribute [local go_sem] max2_int min2_int max_two min_two max_three min_three max_four min_four   -- for this text's walks alone
set_option linter.unusedVariables false
set_option linter.unusedSimpArgs false
mutual
def addr_Parse.j0 : Nat → List ByteArray → Int → Bool → Option (Int × Int × Int)
  | 0, _, _, _ => none
  | k + 1, x7, x8, x38 => if x38 = true then (some (0, 0, 3)) else (addr_Parse.l0 k x7 (x7.length : Int) 0 0 x8)
def addr_Parse.l0 : Nat → List ByteArray → Int → Int → Int → Int → Option (Int × Int × Int)
  | 0, _, _, _, _, _ => none
  | k + 1, x42, x43, x44, x114000, x114001 => if x44 < x43 then (if 0 ≤ x44 then (if x44 < (x42.length : Int) then ((addr_number.f (rdOf ByteArray.empty x42 x44) 255).bind fun bt115 => (if bt115.2 = true then (addr_Parse.l0 k x42 x43 (wrap64 (x44 + 1)) (Go.bits .or .u32 ((x114000 * 256) % 4294967296) ((bt115.1) % 4294967296)) x114001) else (some (0, 0, 3)))) else (none)) else (none)) else ((addr_May.f x114000 x114001).bind fun t117 => (if t117 = true then (some (x114000, x114001, 0)) else (some (0, 0, 1))))
end
def addr_Parse.f (k : Nat) (a0 : ByteArray) : Option (Int × Int × Int) := (strings_Cut.f a0 (⟨#[47]⟩ : ByteArray)).bind fun bt105 => ((strings_Split.f bt105.1 (⟨#[46]⟩ : ByteArray)).bind fun t108 => ((addr_number.f bt105.2.1 32).bind fun bt111 => (if bt105.2.2 = true then (if bt111.2 = true then (addr_Parse.j0 k t108 bt111.1 ((t108.length : Int) != 4)) else (addr_Parse.j0 k t108 bt111.1 true)) else (addr_Parse.j0 k t108 bt111.1 true))))
set_option maxHeartbeats 8000000 in
set_option maxRecDepth 100000 in
theorem addr_Parse.calls (k : Nat) (a0 : ByteArray) (r1 : Int) (r2 : Int) (r3 : Int) (w : World) (hG : GW w) (h : addr_Parse.f k a0 = some (r1, r2, r3)) :
  Calls Tryz.prog 32 #[.string a0] w fun e w' => e = .returned (.tuple #[.agg #[.int .u32 r1, .int .i64 r2], .int .i64 r3]) ∧ Below w.heap.size w w' := by
 have hu24 := Tryz.underlying24
 have HB := Aside0.mk (Below.refl w.heap.size w)
 have H : ((strings_Cut.f a0 (⟨#[47]⟩ : ByteArray)).bind fun bt105 => ((strings_Split.f bt105.1 (⟨#[46]⟩ : ByteArray)).bind fun t108 => ((addr_number.f bt105.2.1 32).bind fun bt111 => (if bt105.2.2 = true then (if bt111.2 = true then (addr_Parse.j0 k t108 bt111.1 ((t108.length : Int) != 4)) else (addr_Parse.j0 k t108 bt111.1 true)) else (addr_Parse.j0 k t108 bt111.1 true))))) = some (r1, r2, r3) := h
 clear h
 replace H := Option.bind_eq_some_iff.mp H
 obtain ⟨⟨t105, t106, t107⟩, A20, H⟩ := H
 replace H : ((strings_Split.f t105 (⟨#[46]⟩ : ByteArray)).bind fun t108 => ((addr_number.f t106 32).bind fun bt111 => (if t107 = true then (if bt111.2 = true then (addr_Parse.j0 k t108 bt111.1 ((t108.length : Int) != 4)) else (addr_Parse.j0 k t108 bt111.1 true)) else (addr_Parse.j0 k t108 bt111.1 true)))) = some (r1, r2, r3) := H
 have A2 := Aside0.mk A20
 clear A20
 replace H := Option.bind_eq_some_iff.mp H
 obtain ⟨t108, A30, H⟩ := H
 replace H : ((addr_number.f t106 32).bind fun bt111 => (if t107 = true then (if bt111.2 = true then (addr_Parse.j0 k t108 bt111.1 ((t108.length : Int) != 4)) else (addr_Parse.j0 k t108 bt111.1 true)) else (addr_Parse.j0 k t108 bt111.1 true))) = some (r1, r2, r3) := H
 have A3 := Aside0.mk A30
 clear A30
 replace H := Option.bind_eq_some_iff.mp H
 obtain ⟨⟨t111, t112⟩, A40, H⟩ := H
 replace H : (if t107 = true then (if t112 = true then (addr_Parse.j0 k t108 t111 ((t108.length : Int) != 4)) else (addr_Parse.j0 k t108 t111 true)) else (addr_Parse.j0 k t108 t111 true)) = some (r1, r2, r3) := H
 have A4 := Aside0.mk A40
 clear A40
 have HC5 := Aside0.mk H
 clear H
 go_enter Tryz.func32, Tryz.ntmps32
 go_upto_region 4 with (first | ((with_reducible refine gate_dst (N := 2) rfl ?_); (try (refine gate_guard (by rfl) ?_; dsimp only)); refine box_event ?hg (N := 2) ?hd (cs := #[.int .u32 0, .int .i64 0]) (t := 24) ?hr ?_; (case hd => rfl); (case hg => rfl); (case hr => first | (go_simp; done)); intro gb104 hg w6 hbox hb; have n0_ := Aside0.mk (below_step (by repeat (first | (with_reducible first | exact HB.out))) hb); have n1_ := Aside0.mk (hbox); have n2_ := Aside0.mk ((by rw [hg]; exact (below_size (by repeat (first | (with_reducible first | exact HB.out)))) : w.heap.size ≤ gb104)); have n3_ := Aside0.mk ((by rw [hg]; exact (below_size (by repeat (first | (with_reducible first | exact HB.out)))) : w.heap.size ≤ gb104)); clear HB; have HB := n0_; have BK104 := n1_; have GW104 := n2_; have GE104 := n3_; clear n0_ n1_ n2_ n3_; clear hb hbox hg) | ((with_reducible refine gate_callee (f := 61) rfl ?_); refine goesL_ (some 17) rfl rfl Tryz.func61 (by kernel_rfl) rfl #[.string a0, .string (⟨#[47]⟩ : ByteArray)] rfl (by (try simp only [List.map_toArray, List.map_cons, List.map_nil]); first | rfl) ?_; (with_reducible refine (strings_Cut.calls a0 (⟨#[47]⟩ : ByteArray) t105 t106 t107 _ ?side1 A2.out).mono ?_); (case side1 => exact GW.below hG (by repeat (first | (with_reducible first | exact HB.out)))); rintro e w7 ⟨rfl, hb⟩; refine ⟨_, rfl, ?_⟩; have n0_ := Aside0.mk (blk_below (g := gb104) (o := .cells #[.int .u32 0, .int .i64 0] 24 (0, 0)) (by (with_reducible repeat (fail)); exact BK104.out) hb); have n1_ := Aside0.mk (below_step (by repeat (first | (with_reducible first | exact HB.out))) hb); clear BK104; clear HB; have BK104 := n0_; have HB := n1_; clear n0_ n1_; (try clear hb); (try clear hb2); (try clear hk); (try clear hi)) | ((with_reducible refine gate_callee (f := 30) rfl ?_); refine goesL_ (some 22) rfl rfl Tryz.func30 (by kernel_rfl) rfl #[.string t105, .string (⟨#[46]⟩ : ByteArray)] rfl (by (try simp only [List.map_toArray, List.map_cons, List.map_nil]); first | rfl) ?_; (with_reducible refine (strings_Split.calls t105 (⟨#[46]⟩ : ByteArray) t108 _ ?side1 A3.out).mono ?_); (case side1 => exact GW.below hG (by repeat (first | (with_reducible first | exact HB.out)))); rintro e w8 ⟨v109, rfl, ho0, hb⟩; refine ⟨_, rfl, ?_⟩; have n0_ := Aside0.mk (Kd.R_lower ho0 (below_size (by repeat (first | (with_reducible first | exact HB.out))))); have n1_ := Aside0.mk (blk_below (g := gb104) (o := .cells #[.int .u32 0, .int .i64 0] 24 (0, 0)) (by (with_reducible repeat (fail)); exact BK104.out) hb); have n2_ := Aside0.mk (below_step (by repeat (first | (with_reducible first | exact HB.out))) hb); clear BK104; clear HB; have HO110 := n0_; have BK104 := n1_; have HB := n2_; clear n0_ n1_ n2_; (try clear hb); (try clear hb2); (try clear hk); (try clear hi); (try clear ho0)) | ((with_reducible refine gate_callee (f := 62) rfl ?_); refine goesL_ (some 25) rfl rfl Tryz.func62 (by kernel_rfl) rfl #[.string t106, .int .i64 32] rfl (by (try simp only [List.map_toArray, List.map_cons, List.map_nil]); first | rfl) ?_; (with_reducible refine (addr_number.calls t106 32 t111 t112 _ ?side1 A4.out).mono ?_); (case side1 => exact GW.below hG (by repeat (first | (with_reducible first | exact HB.out)))); rintro e w9 ⟨rfl, hb⟩; refine ⟨_, rfl, ?_⟩; have n0_ := Aside0.mk (Kd.R_below (by (with_reducible repeat (fail)); exact HO110.out) hb); have n1_ := Aside0.mk (blk_below (g := gb104) (o := .cells #[.int .u32 0, .int .i64 0] 24 (0, 0)) (by (with_reducible repeat (fail)); exact BK104.out) hb); have n2_ := Aside0.mk (below_step (by repeat (first | (with_reducible first | exact HB.out))) hb); clear HO110; clear BK104; clear HB; have HO110 := n0_; have BK104 := n1_; have HB := n2_; clear n0_ n1_ n2_; (try clear hb); (try clear hb2); (try clear hk); (try clear hi)))
 (try simp only [Act.put, List.setIfInBounds_toArray, List.set_cons_zero, List.set_cons_succ])
 go_cut [38] (fun v38 wc => ∃ (kq : Nat) (x38_4 : Bool), v38 = .bool x38_4 ∧ Aside0 (addr_Parse.j0 kq t108 t111 x38_4 = some (r1, r2, r3)) ∧ Aside0 (kq ≤ k) ∧ Aside0 (Kd.R Kd.string 9 wc w.heap.size (fun _ => True) v109 t108) ∧ Aside0 (wc.heap[gb104]? = some (.cells #[.int .u32 0, .int .i64 0] 24 (0, 0))) ∧ Aside0 (Below w.heap.size w wc))
 case first =>
  have H := HC5.out
  clear HC5
  by_cases c10 : t107 = true
  ·subst c10
   have H1 : (if t112 = true then (addr_Parse.j0 k t108 t111 ((t108.length : Int) != 4)) else (addr_Parse.j0 k t108 t111 true)) = some (r1, r2, r3) := by rw [if_pos rfl] at H; exact H
   clear H
   have H := H1
   clear H1
   by_cases c11 : t112 = true
   ·subst c11
    have H1 : (addr_Parse.j0 k t108 t111 ((t108.length : Int) != 4)) = some (r1, r2, r3) := by rw [if_pos rfl] at H; exact H
    clear H
    have H := H1
    clear H1
    have H' := Aside0.mk H
    clear H
    obtain ⟨Ao12, co12, eo12⟩ := Kd.R_slice HO110.out
    subst eo12
    go_wp2
    go_meet
    case rel => exact ⟨_, (((t108.length : Int) != 4)), (by first | rfl), H', ⟨by first | omega⟩, ⟨by (with_reducible repeat (fail)); exact HO110.out⟩, ⟨by (with_reducible repeat (fail)); exact BK104.out⟩, ⟨by repeat (first | (with_reducible first | exact HB.out))⟩⟩
   ·replace c11 := Bool.eq_false_iff.mpr c11
    subst c11
    have H1 : (addr_Parse.j0 k t108 t111 true) = some (r1, r2, r3) := by rw [if_neg (show ¬ (false = true) by decide)] at H; exact H
    clear H
    have H := H1
    clear H1
    have H' := Aside0.mk H
    clear H
    go_wp2
    go_meet
    case rel => exact ⟨_, (true), (by first | rfl), H', ⟨by first | omega⟩, ⟨by (with_reducible repeat (fail)); exact HO110.out⟩, ⟨by (with_reducible repeat (fail)); exact BK104.out⟩, ⟨by repeat (first | (with_reducible first | exact HB.out))⟩⟩
  ·replace c10 := Bool.eq_false_iff.mpr c10
   subst c10
   have H1 : (addr_Parse.j0 k t108 t111 true) = some (r1, r2, r3) := by rw [if_neg (show ¬ (false = true) by decide)] at H; exact H
   clear H
   have H := H1
   clear H1
   have H' := Aside0.mk H
   clear H
   go_wp2
   go_meet
   case rel => exact ⟨_, (true), (by first | rfl), H', ⟨by first | omega⟩, ⟨by (with_reducible repeat (fail)); exact HO110.out⟩, ⟨by (with_reducible repeat (fail)); exact BK104.out⟩, ⟨by repeat (first | (with_reducible first | exact HB.out))⟩⟩
 case rest =>
  clear HC5
  try clear c1
  try clear p2
  try clear c3
  try clear c6
  try clear c10
  try clear c11
  obtain ⟨kq, x38_4, rfl, HA, HJ4, HO_7, BK104, HB⟩ := hcut
  cases kq with
  | zero => exact absurd HA.out (by simp [addr_Parse.j0])
  | succ kj4 =>
   have H := HA.out
   clear HA
   simp only [addr_Parse.j0] at H
   by_cases c13 : x38_4 = true
   ·subst c13
    have H1 : (some (0, 0, 3)) = some (r1, r2, r3) := by rw [if_pos rfl] at H; exact H
    clear H
    have H := H1
    clear H1
    simp only [Option.some.injEq, Prod.mk.injEq] at H
    obtain ⟨rfl, rfl, rfl⟩ := H
    have hcz14_0 : wc.cell? ⟨gb104, 0, none⟩ = some (.int .u32 0) := (blk_cell BK104.out 0).trans rfl
    have hcz14_1 : wc.cell? ⟨gb104, 1, none⟩ = some (.int .i64 0) := (blk_cell BK104.out 1).trans rfl
    have hfz14_0 := blk_frozen BK104.out 0
    have hfz14_1 := blk_frozen BK104.out 1
    go_wp2
    refine bodyPost_ret (results_ct rfl _ _ gb104 24 #[.int .u32 0, .int .i64 0] (0, 0) _ rfl (by (with_reducible repeat (fail)); refine blk_put (cs := #[.int .u32 0, .int .i64 0]) ?_ 1 _ rfl; (with_reducible repeat (fail)); refine blk_put (cs := #[.int .u32 0, .int .i64 0]) ?_ 0 _ rfl; (with_reducible repeat (fail)); exact BK104.out) Tryz.underlying24 rfl (by kernel_rfl)) rfl ?_
    exact ⟨by first | rfl, by repeat (first | (with_reducible first | exact HB.out | refine below_set ?_ GE104.out))⟩
   ·replace c13 := Bool.eq_false_iff.mpr c13
    subst c13
    have H1 : (addr_Parse.l0 kj4 t108 (t108.length : Int) 0 0 t111) = some (r1, r2, r3) := by rw [if_neg (show ¬ (false = true) by decide)] at H; exact H
    clear H
    have H := H1
    clear H1
    have H' := Aside0.mk H
    clear H
    go_wp2_with (first | ((with_reducible refine gate_dst (N := 10) rfl ?_); (try (refine gate_guard (by rfl) ?_; dsimp only)); refine box_event ?hg (N := 10) ?hd (cs := #[.int .u32 0, .int .i64 0]) (t := 24) ?hr ?_; (case hd => rfl); (case hg => rfl); (case hr => first | (go_simp; done)); intro gb113 hg w15 hbox hb; have n0_ := Aside0.mk (Kd.R_below (by (with_reducible repeat (fail)); exact HO_7.out) hb); have n1_ := Aside0.mk (blk_below (g := gb104) (o := .cells #[.int .u32 0, .int .i64 0] 24 (0, 0)) (by (with_reducible repeat (fail)); exact BK104.out) hb); have n2_ := Aside0.mk (below_step (by repeat (first | (with_reducible first | exact HB.out))) hb); have n3_ := Aside0.mk (hbox); have n4_ := Aside0.mk ((by rw [hg]; exact (below_size (by repeat (first | (with_reducible first | exact HB.out)))) : w.heap.size ≤ gb113)); have n5_ := Aside0.mk ((by rw [hg]; exact (below_size (by repeat (first | (with_reducible first | exact HB.out)))) : w.heap.size ≤ gb113)); have n6_ := Aside0.mk ((by rw [hg]; exact Nat.ne_of_lt (blk_lt (g := gb104) (o := .cells #[.int .u32 0, .int .i64 0] 24 (0, 0)) (by (with_reducible repeat (fail)); exact BK104.out)) : gb104 ≠ gb113)); have n7_ := Aside0.mk ((by rw [hg]; exact Nat.ne_of_gt (blk_lt (g := gb104) (o := .cells #[.int .u32 0, .int .i64 0] 24 (0, 0)) (by (with_reducible repeat (fail)); exact BK104.out)) : gb113 ≠ gb104)); clear HO_7; clear BK104; clear HB; have HO_7 := n0_; have BK104 := n1_; have HB := n2_; have BK113 := n3_; have GW113 := n4_; have GE113 := n5_; have NB104_113 := n6_; have NB113_104 := n7_; clear n0_ n1_ n2_ n3_ n4_ n5_ n6_ n7_; clear hb hbox hg; have hnb16 := NB113_104.out; have hnc16 := NB104_113.out; have hcz17_0 : w15.cell? ⟨gb113, 0, none⟩ = some (.int .u32 0) := (blk_cell BK113.out 0).trans rfl; have hcz17_1 : w15.cell? ⟨gb113, 1, none⟩ = some (.int .i64 0) := (blk_cell BK113.out 1).trans rfl; have hfz17_0 := blk_frozen BK113.out 0; have hfz17_1 := blk_frozen BK113.out 1; obtain ⟨Ao18, co18, eo18⟩ := Kd.R_slice HO_7.out; subst eo18))
    go_loopg [44] kj4 (fun kq v44 w' => ∃ (x44_2 : Int) (x105000_2 : Int) (x105001_2 : Int) (x114000_2 : Int), v44 = .int .i64 x44_2 ∧ Aside0 (addr_Parse.l0 kq t108 (t108.length : Int) x44_2 x114000_2 t111 = some (r1, r2, r3)) ∧ Aside0 (kq ≤ kj4) ∧ Aside0 (Kd.R Kd.string 9 w' w.heap.size (fun _ => True) (.slice Ao18 t108.length co18) t108) ∧ Aside0 (w'.heap[gb104]? = some (.cells #[.int .u32 x105000_2, .int .i64 x105001_2] 24 (0, 0))) ∧ Aside0 (w'.heap[gb113]? = some (.cells #[.int .u32 x114000_2, .int .i64 t111] 24 (0, 0))) ∧ Aside0 (Below w.heap.size w w'))
    case atStart => exact ⟨(0), (0), (0), (0), (by first | rfl), H', ⟨Nat.le_refl _⟩, ⟨by (with_reducible repeat (fail)); exact Kd.R_mono (Kd.R_far (p := ⟨gb113, 1, none⟩) (Kd.R_far (p := ⟨gb113, 0, none⟩) (Kd.R_types HO_7.out BK113.out (by decide)) (fun _ hk => hk.2) (.int .u32 0)) (fun _ hk => hk.2) (.int .i64 t111)) (fun _ hk => trivial)⟩, ⟨by (with_reducible repeat (fail)); refine blk_far ?_ NB104_113.out _; (with_reducible repeat (fail)); refine blk_far ?_ NB104_113.out _; (with_reducible repeat (fail)); exact BK104.out⟩, ⟨by (with_reducible repeat (fail)); refine blk_put (cs := #[.int .u32 0, .int .i64 0]) ?_ 1 _ rfl; (with_reducible repeat (fail)); refine blk_put (cs := #[.int .u32 0, .int .i64 0]) ?_ 0 _ rfl; (with_reducible repeat (fail)); exact BK113.out⟩, ⟨by repeat (first | (with_reducible first | exact HB.out | refine below_set ?_ GE113.out))⟩⟩
    case round =>
     clear H'
     try clear c1
     try clear p2
     try clear c3
     try clear c6
     try clear c10
     try clear c11
     try clear c13
     try clear c16
     try clear hcz14_0
     try clear hcz14_1
     try clear hcz17_0
     try clear hcz17_1
     try clear hfz14_0
     try clear hfz14_1
     try clear hfz17_0
     try clear hfz17_1
     try clear p2
     obtain ⟨x44_2, x105000_2, x105001_2, x114000_2, rfl, HA, HK2, HO_42, BK104, BK113, HB⟩ := hrel
     cases gk with
     | zero => exact absurd HA.out (by simp [addr_Parse.l0])
     | succ k2 =>
      have H := HA.out
      clear HA
      simp only [addr_Parse.l0] at H
      by_cases c19 : x44_2 < (t108.length : Int)
      ·rw [if_pos c19] at H
       have c19b0 : decide (x44_2 < (t108.length : Int)) = true := decide_eq_true c19
       clear c19
       by_cases c20 : 0 ≤ x44_2
       ·rw [if_pos c20] at H
        have c20b0 : decide (0 ≤ x44_2) = true := decide_eq_true c20
        clear c20
        by_cases c21 : x44_2 < (t108.length : Int)
        ·rw [if_pos c21] at H
         have c21b0 : decide (x44_2 < (t108.length : Int)) = true := decide_eq_true c21
         clear c21
         replace H := Option.bind_eq_some_iff.mp H
         obtain ⟨⟨t115, t116⟩, A220, H⟩ := H
         replace H : (if t116 = true then (addr_Parse.l0 k2 t108 (t108.length : Int) (wrap64 (x44_2 + 1)) (Go.bits .or .u32 ((x114000_2 * 256) % 4294967296) ((t115) % 4294967296)) t111) else (some (0, 0, 3))) = some (r1, r2, r3) := H
         have A22 := Aside0.mk A220
         clear A220
         by_cases c23 : t116 = true
         ·subst c23
          have H1 : (addr_Parse.l0 k2 t108 (t108.length : Int) (wrap64 (x44_2 + 1)) (Go.bits .or .u32 ((x114000_2 * 256) % 4294967296) ((t115) % 4294967296)) t111) = some (r1, r2, r3) := by rw [if_pos rfl] at H; exact H
          clear H
          have H := H1
          clear H1
          have H' := Aside0.mk H
          clear H
          have p114 : 0 ≤ (x44_2 : Int) := of_decide_eq_true (by first | (with_reducible assumption))
          have q114 : x44_2 < (t108.length : Int) := of_decide_eq_true (by first | (with_reducible assumption))
          obtain ⟨ad114, e114, hx114_0⟩ := Kd.at_string (Kd.R_reads' HO_42.out).2.2 x44_2 p114 q114
          cases e114
          replace p114 := eq_true p114
          replace q114 := eq_true q114
          go_wp2_with (first | ((with_reducible refine gate_callee (f := 62) rfl ?_); refine goesL_ (some 50) rfl rfl Tryz.func62 (by kernel_rfl) rfl #[.string (rdOf ByteArray.empty t108 x44_2), .int .i64 255] rfl (by (try simp only [List.map_toArray, List.map_cons, List.map_nil]); first | rfl) ?_; (with_reducible refine (addr_number.calls (rdOf ByteArray.empty t108 x44_2) 255 t115 true _ ?side1 A22.out).mono ?_); (case side1 => exact GW.below hG (by repeat (first | (with_reducible first | exact HB.out)))); rintro e w24 ⟨rfl, hb⟩; refine ⟨_, rfl, ?_⟩; have n0_ := Aside0.mk (Kd.R_below (by (with_reducible repeat (fail)); exact HO_42.out) hb); have n1_ := Aside0.mk (blk_below (g := gb104) (o := .cells #[.int .u32 x105000_2, .int .i64 x105001_2] 24 (0, 0)) (by (with_reducible repeat (fail)); exact BK104.out) hb); have n2_ := Aside0.mk (blk_below (g := gb113) (o := .cells #[.int .u32 x114000_2, .int .i64 t111] 24 (0, 0)) (by (with_reducible repeat (fail)); exact BK113.out) hb); have n3_ := Aside0.mk (below_step (by repeat (first | (with_reducible first | exact HB.out))) hb); clear HO_42; clear BK104; clear BK113; clear HB; have HO_42 := n0_; have BK104 := n1_; have BK113 := n2_; have HB := n3_; clear n0_ n1_ n2_ n3_; (try clear hb); (try clear hb2); (try clear hk); (try clear hi); have hnb25 := NB113_104.out; have hnc25 := NB104_113.out; have hcz26_0 : w24.cell? ⟨gb113, 0, none⟩ = some (.int .u32 x114000_2) := (blk_cell BK113.out 0).trans rfl; have hcz26_1 : w24.cell? ⟨gb113, 1, none⟩ = some (.int .i64 t111) := (blk_cell BK113.out 1).trans rfl; have hfz26_0 := blk_frozen BK113.out 0; have hfz26_1 := blk_frozen BK113.out 1))
          go_roundg k2
          case measure => have := HJ4.out; have := HK2.out; omega
          case rel => exact ⟨(wrap64 (x44_2 + 1)), (x105000_2), (x105001_2), (Go.bits .or .u32 ((x114000_2 * 256) % 4294967296) ((t115) % 4294967296)), (by first | rfl), H', ⟨by have := HJ4.out; have := HK2.out; omega⟩, ⟨by (with_reducible repeat (fail)); exact Kd.R_mono (Kd.R_far (p := ⟨gb113, 0, none⟩) (Kd.R_types HO_42.out BK113.out (by decide)) (fun _ hk => hk.2) (.int .u32 (Go.bits .or .u32 ((x114000_2 * 256) % 4294967296) ((t115) % 4294967296)))) (fun _ hk => trivial)⟩, ⟨by (with_reducible repeat (fail)); refine blk_far ?_ NB104_113.out _; (with_reducible repeat (fail)); exact BK104.out⟩, ⟨by (with_reducible repeat (fail)); refine blk_put (cs := #[.int .u32 x114000_2, .int .i64 t111]) ?_ 0 _ rfl; (with_reducible repeat (fail)); exact BK113.out⟩, ⟨by repeat (first | (with_reducible first | exact HB.out | refine below_set ?_ GE113.out))⟩⟩
         ·replace c23 := Bool.eq_false_iff.mpr c23
          subst c23
          have H1 : (some (0, 0, 3)) = some (r1, r2, r3) := by rw [if_neg (show ¬ (false = true) by decide)] at H; exact H
          clear H
          have H := H1
          clear H1
          simp only [Option.some.injEq, Prod.mk.injEq] at H
          obtain ⟨rfl, rfl, rfl⟩ := H
          have p114 : 0 ≤ (x44_2 : Int) := of_decide_eq_true (by first | (with_reducible assumption))
          have q114 : x44_2 < (t108.length : Int) := of_decide_eq_true (by first | (with_reducible assumption))
          obtain ⟨ad114, e114, hx114_0⟩ := Kd.at_string (Kd.R_reads' HO_42.out).2.2 x44_2 p114 q114
          cases e114
          replace p114 := eq_true p114
          replace q114 := eq_true q114
          go_wp2_with (first | ((with_reducible refine gate_callee (f := 62) rfl ?_); refine goesL_ (some 50) rfl rfl Tryz.func62 (by kernel_rfl) rfl #[.string (rdOf ByteArray.empty t108 x44_2), .int .i64 255] rfl (by (try simp only [List.map_toArray, List.map_cons, List.map_nil]); first | rfl) ?_; (with_reducible refine (addr_number.calls (rdOf ByteArray.empty t108 x44_2) 255 t115 false _ ?side1 A22.out).mono ?_); (case side1 => exact GW.below hG (by repeat (first | (with_reducible first | exact HB.out)))); rintro e w27 ⟨rfl, hb⟩; refine ⟨_, rfl, ?_⟩; have n0_ := Aside0.mk (Kd.R_below (by (with_reducible repeat (fail)); exact HO_42.out) hb); have n1_ := Aside0.mk (blk_below (g := gb104) (o := .cells #[.int .u32 x105000_2, .int .i64 x105001_2] 24 (0, 0)) (by (with_reducible repeat (fail)); exact BK104.out) hb); have n2_ := Aside0.mk (blk_below (g := gb113) (o := .cells #[.int .u32 x114000_2, .int .i64 t111] 24 (0, 0)) (by (with_reducible repeat (fail)); exact BK113.out) hb); have n3_ := Aside0.mk (below_step (by repeat (first | (with_reducible first | exact HB.out))) hb); clear HO_42; clear BK104; clear BK113; clear HB; have HO_42 := n0_; have BK104 := n1_; have BK113 := n2_; have HB := n3_; clear n0_ n1_ n2_ n3_; (try clear hb); (try clear hb2); (try clear hk); (try clear hi); have hnb28 := NB104_113.out; have hnc28 := NB113_104.out; have hcz29_0 : w27.cell? ⟨gb104, 0, none⟩ = some (.int .u32 x105000_2) := (blk_cell BK104.out 0).trans rfl; have hcz29_1 : w27.cell? ⟨gb104, 1, none⟩ = some (.int .i64 x105001_2) := (blk_cell BK104.out 1).trans rfl; have hfz29_0 := blk_frozen BK104.out 0; have hfz29_1 := blk_frozen BK104.out 1))
          refine bodyPost_ret (results_ct rfl _ _ gb104 24 #[.int .u32 0, .int .i64 0] (0, 0) _ rfl (by (with_reducible repeat (fail)); refine blk_put (cs := #[.int .u32 0, .int .i64 x105001_2]) ?_ 1 _ rfl; (with_reducible repeat (fail)); refine blk_put (cs := #[.int .u32 x105000_2, .int .i64 x105001_2]) ?_ 0 _ rfl; (with_reducible repeat (fail)); exact BK104.out) Tryz.underlying24 rfl (by kernel_rfl)) rfl ?_
          exact ⟨by first | rfl, by repeat (first | (with_reducible first | exact HB.out | refine below_set ?_ GE104.out))⟩
        ·rw [if_neg c21] at H
         exact absurd H (by simp)
       ·rw [if_neg c20] at H
        exact absurd H (by simp)
      ·rw [if_neg c19] at H
       have c19b0 : decide (x44_2 < (t108.length : Int)) = false := decide_eq_false c19
       clear c19
       replace H := Option.bind_eq_some_iff.mp H
       obtain ⟨t117, A300, H⟩ := H
       replace H : (if t117 = true then (some (x114000_2, t111, 0)) else (some (0, 0, 1))) = some (r1, r2, r3) := H
       have A30 := Aside0.mk A300
       clear A300
       by_cases c31 : t117 = true
       ·subst c31
        have H1 : (some (x114000_2, t111, 0)) = some (r1, r2, r3) := by rw [if_pos rfl] at H; exact H
        clear H
        have H := H1
        clear H1
        simp only [Option.some.injEq, Prod.mk.injEq] at H
        obtain ⟨rfl, rfl, rfl⟩ := H
        have hnb32 := NB113_104.out
        have hnc32 := NB104_113.out
        have hcz33_0 : wr.cell? ⟨gb113, 0, none⟩ = some (.int .u32 x114000_2) := (blk_cell BK113.out 0).trans rfl
        have hcz33_1 : wr.cell? ⟨gb113, 1, none⟩ = some (.int .i64 t111) := (blk_cell BK113.out 1).trans rfl
        have hfz33_0 := blk_frozen BK113.out 0
        have hfz33_1 := blk_frozen BK113.out 1
        go_wp2_with (first | ((with_reducible refine gate_callee (f := 37) rfl ?_); refine goesL_ (some 65) rfl rfl Tryz.func37 (by kernel_rfl) rfl #[.agg #[.int .u32 x114000_2, .int .i64 t111]] rfl (by (try simp only [List.map_toArray, List.map_cons, List.map_nil]); first | rfl) ?_; (with_reducible refine (addr_May.calls x114000_2 t111 true _ A30.out).mono ?_); rintro e w34 ⟨rfl, hb⟩; refine ⟨_, rfl, ?_⟩; have n0_ := Aside0.mk (Kd.R_below (by (with_reducible repeat (fail)); exact HO_42.out) hb); have n1_ := Aside0.mk (blk_below (g := gb104) (o := .cells #[.int .u32 x105000_2, .int .i64 x105001_2] 24 (0, 0)) (by (with_reducible repeat (fail)); exact BK104.out) hb); have n2_ := Aside0.mk (blk_below (g := gb113) (o := .cells #[.int .u32 x114000_2, .int .i64 t111] 24 (0, 0)) (by (with_reducible repeat (fail)); exact BK113.out) hb); have n3_ := Aside0.mk (below_step (by repeat (first | (with_reducible first | exact HB.out))) hb); clear HO_42; clear BK104; clear BK113; clear HB; have HO_42 := n0_; have BK104 := n1_; have BK113 := n2_; have HB := n3_; clear n0_ n1_ n2_ n3_; (try clear hb); (try clear hb2); (try clear hk); (try clear hi); have hcz35_0 : w34.cell? ⟨gb113, 0, none⟩ = some (.int .u32 x114000_2) := (blk_cell BK113.out 0).trans rfl; have hcz35_1 : w34.cell? ⟨gb113, 1, none⟩ = some (.int .i64 t111) := (blk_cell BK113.out 1).trans rfl; have hfz35_0 := blk_frozen BK113.out 0; have hfz35_1 := blk_frozen BK113.out 1; have hcz36_0 : w34.cell? ⟨gb104, 0, none⟩ = some (.int .u32 x105000_2) := (blk_cell BK104.out 0).trans rfl; have hcz36_1 : w34.cell? ⟨gb104, 1, none⟩ = some (.int .i64 x105001_2) := (blk_cell BK104.out 1).trans rfl; have hfz36_0 := blk_frozen BK104.out 0; have hfz36_1 := blk_frozen BK104.out 1))
        refine bodyPost_ret (results_ct rfl _ _ gb104 24 #[.int .u32 x114000_2, .int .i64 t111] (0, 0) _ rfl (by (with_reducible repeat (fail)); refine blk_put (cs := #[.int .u32 x114000_2, .int .i64 x105001_2]) ?_ 1 _ rfl; (with_reducible repeat (fail)); refine blk_put (cs := #[.int .u32 x105000_2, .int .i64 x105001_2]) ?_ 0 _ rfl; (with_reducible repeat (fail)); exact BK104.out) Tryz.underlying24 rfl (by kernel_rfl)) rfl ?_
        exact ⟨by first | rfl, by repeat (first | (with_reducible first | exact HB.out | refine below_set ?_ GE104.out))⟩
       ·replace c31 := Bool.eq_false_iff.mpr c31
        subst c31
        have H1 : (some (0, 0, 1)) = some (r1, r2, r3) := by rw [if_neg (show ¬ (false = true) by decide)] at H; exact H
        clear H
        have H := H1
        clear H1
        simp only [Option.some.injEq, Prod.mk.injEq] at H
        obtain ⟨rfl, rfl, rfl⟩ := H
        have hnb37 := NB113_104.out
        have hnc37 := NB104_113.out
        have hcz38_0 : wr.cell? ⟨gb113, 0, none⟩ = some (.int .u32 x114000_2) := (blk_cell BK113.out 0).trans rfl
        have hcz38_1 : wr.cell? ⟨gb113, 1, none⟩ = some (.int .i64 t111) := (blk_cell BK113.out 1).trans rfl
        have hfz38_0 := blk_frozen BK113.out 0
        have hfz38_1 := blk_frozen BK113.out 1
        go_wp2_with (first | ((with_reducible refine gate_callee (f := 37) rfl ?_); refine goesL_ (some 65) rfl rfl Tryz.func37 (by kernel_rfl) rfl #[.agg #[.int .u32 x114000_2, .int .i64 t111]] rfl (by (try simp only [List.map_toArray, List.map_cons, List.map_nil]); first | rfl) ?_; (with_reducible refine (addr_May.calls x114000_2 t111 false _ A30.out).mono ?_); rintro e w39 ⟨rfl, hb⟩; refine ⟨_, rfl, ?_⟩; have n0_ := Aside0.mk (Kd.R_below (by (with_reducible repeat (fail)); exact HO_42.out) hb); have n1_ := Aside0.mk (blk_below (g := gb104) (o := .cells #[.int .u32 x105000_2, .int .i64 x105001_2] 24 (0, 0)) (by (with_reducible repeat (fail)); exact BK104.out) hb); have n2_ := Aside0.mk (blk_below (g := gb113) (o := .cells #[.int .u32 x114000_2, .int .i64 t111] 24 (0, 0)) (by (with_reducible repeat (fail)); exact BK113.out) hb); have n3_ := Aside0.mk (below_step (by repeat (first | (with_reducible first | exact HB.out))) hb); clear HO_42; clear BK104; clear BK113; clear HB; have HO_42 := n0_; have BK104 := n1_; have BK113 := n2_; have HB := n3_; clear n0_ n1_ n2_ n3_; (try clear hb); (try clear hb2); (try clear hk); (try clear hi); have hcz40_0 : w39.cell? ⟨gb104, 0, none⟩ = some (.int .u32 x105000_2) := (blk_cell BK104.out 0).trans rfl; have hcz40_1 : w39.cell? ⟨gb104, 1, none⟩ = some (.int .i64 x105001_2) := (blk_cell BK104.out 1).trans rfl; have hfz40_0 := blk_frozen BK104.out 0; have hfz40_1 := blk_frozen BK104.out 1))
        refine bodyPost_ret (results_ct rfl _ _ gb104 24 #[.int .u32 0, .int .i64 0] (0, 0) _ rfl (by (with_reducible repeat (fail)); refine blk_put (cs := #[.int .u32 0, .int .i64 x105001_2]) ?_ 1 _ rfl; (with_reducible repeat (fail)); refine blk_put (cs := #[.int .u32 x105000_2, .int .i64 x105001_2]) ?_ 0 _ rfl; (with_reducible repeat (fail)); exact BK104.out) Tryz.underlying24 rfl (by kernel_rfl)) rfl ?_
        exact ⟨by first | rfl, by repeat (first | (with_reducible first | exact HB.out | refine below_set ?_ GE104.out))⟩
end Go.Proofs.YthngpkfckhmiiaaGreatDoor.X
end
section
set_option linter.unusedVariables false
namespace Go.Proofs.YthngpkfckhmiiaaGreatDoor.X
open Go.RowKit Go.Proofs.YthngpkfckhmiiaaGreatDoorW.PrintWords
def digs : ByteArray := ⟨#[48, 49, 50, 51, 52, 53, 54, 55, 56, 57]⟩
theorem trim_digs (s : ByteArray) (w : World) (hs : s.size ≤ 9223372036854775807) :
    Calls Tryz.prog 59 #[.string s, .string digs] w fun e w' => e = .returned (.string ⟨(Lib.trimS s.data.toList digs.data.toList).toArray⟩) ∧ Below w.heap.size w w' :=
  Any.strings_Trim_laid Tryz.lays160 (by kernel_rfl) s digs w hs (by decide) (ascii_of_all (by decide))
def plist_number.f (a0 : ByteArray) : Option Int :=
  if a0.size = 0 then some 0 else if 5 < a0.size then some 0 else if bt a0 0 = 48 then some 0
  else if Lib.trimS a0.data.toList digs.data.toList = [] then Lib.atoi a0.data.toList else some 0
theorem pnum_empty (w : World) : Calls Tryz.prog 31 #[.string ⟨#[]⟩] w fun e w' => e = .returned (.int .i64 0) ∧ Below w.heap.size w w' := by
  go_enter Tryz.func31, Tryz.ntmps31
  go_wp2
  go_ret
  exact ⟨rfl, Below.refl _ _⟩
theorem pnum_long (a0 : ByteArray) (w : World) (hz : 5 < (a0.size : Int)) (h1 : a0.toList.isEmpty = false) : Calls Tryz.prog 31 #[.string a0] w fun e w' => e = .returned (.int .i64 0) ∧ Below w.heap.size w w' := by
  go_enter Tryz.func31, Tryz.ntmps31
  go_wp2
  go_ret
  exact ⟨rfl, Below.refl _ _⟩
theorem pnum_nought (a0 : ByteArray) (w : World) (hz : (a0.size : Int) ≤ 5) (hz1 : 0 < (a0.size : Int)) (h1 : a0.toList.isEmpty = false) (h0 : (((a0[0]'(by omega)).toNat : Int) == 48) = true) :
    Calls Tryz.prog 31 #[.string a0] w fun e w' => e = .returned (.int .i64 0) ∧ Below w.heap.size w w' := by
  go_enter Tryz.func31, Tryz.ntmps31
  go_wp2
  go_ret
  exact ⟨rfl, Below.refl _ _⟩
theorem pnum_no (a0 : ByteArray) (w : World) (hz : (a0.size : Int) ≤ 5) (hz1 : 0 < (a0.size : Int)) (h1 : a0.toList.isEmpty = false) (h0 : (((a0[0]'(by omega)).toNat : Int) == 48) = false) (t : ByteArray) (ht : t.toList.isEmpty = false)
    (hc : ∀ W : World, Calls Tryz.prog 59 #[.string a0, .string digs] W fun e w' => e = .returned (.string t) ∧ Below W.heap.size W w') :
    Calls Tryz.prog 31 #[.string a0] w fun e w' => e = .returned (.int .i64 0) ∧ Below w.heap.size w w' := by
  unfold digs at hc
  go_enter Tryz.func31, Tryz.ntmps31
  go_wp2_with (go_at_call 59; refine (hc _).mono ?_; rintro e w' ⟨rfl, hb⟩)
  go_ret
  exact ⟨rfl, hb⟩
theorem pnum_yes (a0 : ByteArray) (n : Int) (w : World) (hz : (a0.size : Int) ≤ 5) (hz1 : 0 < (a0.size : Int)) (h1 : a0.toList.isEmpty = false) (h0 : (((a0[0]'(by omega)).toNat : Int) == 48) = false)
    (hc : ∀ W : World, Calls Tryz.prog 59 #[.string a0, .string digs] W fun e w' => e = .returned (.string ⟨#[]⟩) ∧ Below W.heap.size W w') (hn : Lib.atoi a0.data.toList = some n) :
    Calls Tryz.prog 31 #[.string a0] w fun e w' => e = .returned (.int .i64 n) ∧ Below w.heap.size w w' := by
  unfold digs at hc
  have ha := fun W => Tryz.strconv_Atoi a0 n (by omega) hn W
  clear hn
  go_enter Tryz.func31, Tryz.ntmps31
  go_wp2_with (first | (go_at_call 59; refine (hc _).mono ?_; rintro e w' ⟨rfl, hb⟩) | (go_at_call 60; refine (ha _).mono ?_; rintro e w' ⟨rfl, t, rfl⟩))
  go_ret
  exact ⟨rfl, hb.trans ((bytes_below _ _).mono hb.size)⟩
theorem plist_number.calls (a0 : ByteArray) (r : Int) (w : World) (h : plist_number.f a0 = some r) :
    Calls Tryz.prog 31 #[.string a0] w fun e w' => e = .returned (.int .i64 r) ∧ Below w.heap.size w w' := by
  unfold plist_number.f at h
  split at h
  · rename_i hz
    have e : a0 = ⟨#[]⟩ := by
      obtain ⟨d⟩ := a0
      congr 1
      exact Array.eq_empty_of_size_eq_zero hz
    subst e
    obtain rfl := Option.some.inj h
    exact pnum_empty w
  rename_i hz
  have h1 := not_empty a0 hz
  split at h
  · rename_i hl
    obtain rfl := Option.some.inj h
    exact pnum_long a0 w (by omega) h1
  rename_i hl
  have hpos : 0 < a0.size := by omega
  split at h
  · rename_i h0
    obtain rfl := Option.some.inj h
    refine pnum_nought a0 w (by omega) (by omega) h1 ?_
    rw [beq_iff_eq, ← h0]
    exact bt_at a0 0 (by simpa using hpos)
  rename_i h0
  have hb : (((a0[0]'(by omega)).toNat : Int) == 48) = false := by
    rw [beq_eq_false_iff_ne]
    intro e
    exact h0 (by rw [← e]; exact (bt_at a0 0 (by simpa using hpos)).symm)
  have hc := fun W => trim_digs a0 W (by omega)
  split at h
  · rename_i ht
    rw [ht] at hc
    exact pnum_yes a0 r w (by omega) (by omega) h1 hb hc h
  · rename_i ht
    obtain rfl := Option.some.inj h
    refine pnum_no a0 w (by omega) (by omega) h1 hb _ ?_ hc
    rw [ByteArray.toList_eq]
    simpa using ht
end Go.Proofs.YthngpkfckhmiiaaGreatDoor.X
end
section
set_option linter.unusedVariables false
namespace Go.Proofs.YthngpkfckhmiiaaGreatDoor.X
open Go.RowKit Go.Proofs.YthngpkfckhmiiaaGreatDoorW.PrintWords
def ruleCells (s : Int) (p : Bool) (A N ge le : Int) : Obj := .cells #[.int .i64 s, .bool p, .int .u32 A, .int .i64 N, .int .i64 ge, .int .i64 le] 26 (0, 0)
def LimPost (g : Nat) (s : Int) (p : Bool) (A N ge le : Int) (r : Bool) (w : World) (e : Ending) (w' : World) : Prop :=
 e = .returned (.bool r) ∧ w'.heap[g]? = some (ruleCells s p A N ge le) ∧ Below g w w'
theorem set_ge {W : World} {g : Nat} {s : Int} {p : Bool} {A N ge le : Int} (n : Int) (h : W.heap[g]? = some (ruleCells s p A N ge le)) :
  (W.setCell ⟨g, 4, none⟩ (.int .i64 n)).heap[g]? = some (ruleCells s p A N n le) := by
 simp [World.setCell, ruleCells, Array.getElem?_modify] at h ⊢
 simp [h]
theorem set_le {W : World} {g : Nat} {s : Int} {p : Bool} {A N ge le : Int} (n : Int) (h : W.heap[g]? = some (ruleCells s p A N ge le)) :
  (W.setCell ⟨g, 5, none⟩ (.int .i64 n)).heap[g]? = some (ruleCells s p A N ge n) := by
 simp [World.setCell, ruleCells, Array.getElem?_modify] at h ⊢
 simp [h]
theorem al_keep {W : World} {g : Nat} {o : Obj} (ob : Obj) (h : W.heap[g]? = some o) : (W.alloc ob).heap[g]? = some o := by
 rw [Below.heap_alloc]
 ·exact h
 ·rw [Array.getElem?_eq_some_iff] at h
  exact h.1
theorem dr_keep {W : World} {g : Nat} {o : Obj} (h : W.heap[g]? = some o) : W.drew.heap[g]? = some o := h
theorem be_keep {W W' : World} {g : Nat} {o : Obj} (hb : Below W.heap.size W W') (h : W.heap[g]? = some o) : W'.heap[g]? = some o := by
 rw [hb.block]
 ·exact h
 ·rw [Array.getElem?_eq_some_iff] at h
  exact h.1
theorem rc_cell {W : World} {g : Nat} {s : Int} {p : Bool} {A N ge le : Int} (h : W.heap[g]? = some (ruleCells s p A N ge le)) :
  W.cell? ⟨g, 4, none⟩ = some (.int .i64 ge) ∧ W.cell? ⟨g, 5, none⟩ = some (.int .i64 le) ∧ W.frozen? ⟨g, 4, none⟩ = false ∧ W.frozen? ⟨g, 5, none⟩ = false := by
 simp [World.cell?, World.frozen?, ruleCells, h]
theorem be_al {g : Nat} {w W : World} (ob : Obj) (h : Below g w W) (hg : g ≤ w.heap.size) : Below g w (W.alloc ob) := h.alloc (Nat.le_trans hg h.size) ob
theorem be_go {g : Nat} {w W W' : World} (hb : Below W.heap.size W W') (h : Below g w W) (hg : g ≤ w.heap.size) : Below g w W' := h.trans (hb.mono (Nat.le_trans hg h.size))
theorem be_set {g : Nat} {w W : World} (p : Addr) (v : Value) (h : Below g w W) (hp : g ≤ p.block) : Below g w (W.setCell p v) := h.setCell hp v
theorem be_cell {W W' : World} (hb : Below W.heap.size W W') {p : Addr} {v : Value} (h : W.cell? p = some v) : W'.cell? p = some v := by
 rw [hb.cell]
 ·exact h
 ·unfold World.cell? at h
  split at h
  ·rename_i e
   rw [Array.getElem?_eq_some_iff] at e
   exact e.1
  ·exact absurd h (by simp)
theorem al_new {W : World} {c : Array Value} {t : TypeId} {n i : Nat} (hn : n = W.heap.size) : (W.alloc (.cells c t)).cell? ⟨n, i, none⟩ = c[i]? := World.cell?_alloc_at c t n i hn
set_option maxHeartbeats 1000000 in
theorem lim_a (g : Nat) (A : Option Addr) (n c : Nat) (s N' ge le : Int) (A' : Int) (p : Bool) (w : World) (hn : (n : Int) < 2)
  (hg : w.heap[g]? = some (.cells #[.int .i64 s, .bool p, .int .u32 A', .int .i64 N', .int .i64 ge, .int .i64 le] 26 (0, 0))) :
  Calls Tryz.prog 33 #[.pointer (some ⟨g, 0, none⟩), .slice A n c] w fun e w' => LimPost g s p A' N' ge le ((n : Int) == 0) w e w' := by
 have hgr : w.heap[g]? = some (ruleCells s p A' N' ge le) := hg
 have hgs' : g < w.heap.size := by
  rw [Array.getElem?_eq_some_iff] at hg
  exact hg.1
 go_enter Tryz.func33, Tryz.ntmps33
 go_wp2
 go_region
 all_goals go_wp2
 refine wp_loop_rounds 3 ?_
 (repeat any_goals (first | (rw [rounds_succ]; go_wp2) | (go_region; all_goals go_wp2)))
 all_goals (first | go_ret)
 all_goals
  refine ⟨rfl, ?_, ?_⟩
  ·(repeat with_reducible first | exact hgr | apply al_keep | apply dr_keep)
  ·(repeat with_reducible first | exact Below.refl _ _ | apply Below.drew | refine be_al _ ?_ (by omega))
set_option maxHeartbeats 1000000 in
theorem lim_ge0 (g b o : Nat) (n c : Nat) (s N' ge le : Int) (A' : Int) (p : Bool) (w : World) (hn : ¬ (n : Int) < 2) (hnc : n ≤ c)
  (hg : w.heap[g]? = some (.cells #[.int .i64 s, .bool p, .int .u32 A', .int .i64 N', .int .i64 ge, .int .i64 le] 26 (0, 0)))
  (hbs : b < w.heap.size) (hne4 : b ≠ g) (h0 : w.cell? ⟨b, o, none⟩ = some (.string ⟨#[103, 101]⟩)) (s1 : ByteArray) (h1 : w.cell? ⟨b, o + 1, none⟩ = some (.string s1)) (m : Int) (hr : plist_number.f s1 = some m) (hm : (m == 0) = true) :
  Calls Tryz.prog 33 #[.pointer (some ⟨g, 0, none⟩), .slice (some ⟨b, o, none⟩) n c] w fun e w' => LimPost g s p A' N' ge le false w e w' := by
 have hgr : w.heap[g]? = some (ruleCells s p A' N' ge le) := hg
 have hgs : g < w.heap.size := by
  rw [Array.getElem?_eq_some_iff] at hg
  exact hg.1
 have hne : b ≠ w.heap.size := by omega
 have hbs1 : b < w.heap.size + 1 := by omega
 have hbs2 : b < w.heap.size + 1 + 1 := by omega
 have hgs1 : g < w.heap.size + 1 := by omega
 have hgs2 : g < w.heap.size + 1 + 1 := by omega
 have hne1 : b ≠ w.heap.size + 1 := by omega
 have hne5 : b ≠ w.heap.size + 1 + 1 := by omega
 have hne2 : g ≠ w.heap.size := by omega
 have hne3 : g ≠ w.heap.size + 1 := by omega
 have hne6 : g ≠ w.heap.size + 1 + 1 := by omega
 have hn0 : 0 < (n : Int) := by omega
 have hn1 : 1 < (n : Int) := by omega
 have hn2 : 0 < n := by omega
 have hn3 : 1 < n := by omega
 have hn4 : decide ((n : Int) < 2) = false := by simpa using hn
 have hn5 : 2 ≤ n := by omega
 have hn6 : 2 ≤ (n : Int) := by omega
 have hc := fun W => plist_number.calls s1 m W hr
 clear hr
 go_enter Tryz.func33, Tryz.ntmps33
 go_wp2
 go_region
 all_goals go_wp2
 refine wp_loop_rounds 3 ?_
 rw [rounds_succ]
 go_wp2
 go_region
 all_goals go_wp2_with (go_at_call 31; refine (hc _).mono ?_; rintro e w' ⟨rfl, hbw⟩; have q1 : w'.cell? ⟨w.heap.size + 1, 1, none⟩ = some (.pointer (some ⟨g, 4, none⟩)) := (be_cell hbw (by simp)); have q6 : w'.cell? ⟨w.heap.size, 2, none⟩ = some (.string ⟨#[108, 101]⟩) := (be_cell hbw (by simp)); have q7 : w'.cell? ⟨w.heap.size, 3, none⟩ = some (.pointer (some ⟨g, 5, none⟩)) := (be_cell hbw (by simp)); obtain ⟨q2, q3, q4, q5⟩ := rc_cell (be_keep hbw (dr_keep (al_keep _ (al_keep _ hg)))); have qs : w.heap.size + 2 ≤ w'.heap.size := (by simpa using hbw.size); have qs1 : w.heap.size ≠ w'.heap.size := (by omega); have qs2 : g ≠ w'.heap.size := (by omega); have qs3 : w.heap.size < w'.heap.size := (by omega); have qs4 : w.heap.size ≠ g := (by omega); have qs5 : b ≠ w'.heap.size := (by omega); have qs6 : b < w'.heap.size := (by omega); have qs7 : g < w'.heap.size := (by omega))
 all_goals (first | go_ret)
 all_goals
  refine ⟨rfl, ?_, ?_⟩
  ·(repeat with_reducible first | exact hgr | apply al_keep | apply dr_keep | apply be_keep hbw)
  ·(repeat with_reducible first | exact Below.refl _ _ | apply Below.drew | refine be_al _ ?_ (by omega) | refine be_go hbw ?_ (by omega))
set_option maxHeartbeats 1000000 in
theorem lim_ge1 (g b o : Nat) (n c : Nat) (s N' ge le : Int) (A' : Int) (p : Bool) (w : World) (hn : ¬ (n : Int) < 2) (hnc : n ≤ c)
  (hg : w.heap[g]? = some (.cells #[.int .i64 s, .bool p, .int .u32 A', .int .i64 N', .int .i64 ge, .int .i64 le] 26 (0, 0)))
  (hbs : b < w.heap.size) (hne4 : b ≠ g) (h0 : w.cell? ⟨b, o, none⟩ = some (.string ⟨#[103, 101]⟩)) (s1 : ByteArray) (h1 : w.cell? ⟨b, o + 1, none⟩ = some (.string s1)) (m : Int) (hr : plist_number.f s1 = some m) (hm : (m == 0) = false) (hlt : ((n - 2 : Nat) : Int) < 2) :
  Calls Tryz.prog 33 #[.pointer (some ⟨g, 0, none⟩), .slice (some ⟨b, o, none⟩) n c] w fun e w' => LimPost g s p A' N' m le (((n - 2 : Nat) : Int) == 0) w e w' := by
 have hgr : w.heap[g]? = some (ruleCells s p A' N' ge le) := hg
 have hgs : g < w.heap.size := by
  rw [Array.getElem?_eq_some_iff] at hg
  exact hg.1
 have hne : b ≠ w.heap.size := by omega
 have hbs1 : b < w.heap.size + 1 := by omega
 have hbs2 : b < w.heap.size + 1 + 1 := by omega
 have hgs1 : g < w.heap.size + 1 := by omega
 have hgs2 : g < w.heap.size + 1 + 1 := by omega
 have hne1 : b ≠ w.heap.size + 1 := by omega
 have hne5 : b ≠ w.heap.size + 1 + 1 := by omega
 have hne2 : g ≠ w.heap.size := by omega
 have hne3 : g ≠ w.heap.size + 1 := by omega
 have hne6 : g ≠ w.heap.size + 1 + 1 := by omega
 have hn0 : 0 < (n : Int) := by omega
 have hn1 : 1 < (n : Int) := by omega
 have hn2 : 0 < n := by omega
 have hn3 : 1 < n := by omega
 have hn4 : decide ((n : Int) < 2) = false := by simpa using hn
 have hn5 : 2 ≤ n := by omega
 have hn6 : 2 ≤ (n : Int) := by omega
 have hc := fun W => plist_number.calls s1 m W hr
 clear hr
 go_enter Tryz.func33, Tryz.ntmps33
 go_wp2
 go_region
 all_goals go_wp2
 refine wp_loop_rounds 3 ?_
 rw [rounds_succ]
 go_wp2
 go_region
 all_goals go_wp2_with (go_at_call 31; refine (hc _).mono ?_; rintro e w' ⟨rfl, hbw⟩; have q1 : w'.cell? ⟨w.heap.size + 1, 1, none⟩ = some (.pointer (some ⟨g, 4, none⟩)) := (be_cell hbw (by simp)); have q6 : w'.cell? ⟨w.heap.size, 2, none⟩ = some (.string ⟨#[108, 101]⟩) := (be_cell hbw (by simp)); have q7 : w'.cell? ⟨w.heap.size, 3, none⟩ = some (.pointer (some ⟨g, 5, none⟩)) := (be_cell hbw (by simp)); obtain ⟨q2, q3, q4, q5⟩ := rc_cell (be_keep hbw (dr_keep (al_keep _ (al_keep _ hg)))); have qs : w.heap.size + 2 ≤ w'.heap.size := (by simpa using hbw.size); have qs1 : w.heap.size ≠ w'.heap.size := (by omega); have qs2 : g ≠ w'.heap.size := (by omega); have qs3 : w.heap.size < w'.heap.size := (by omega); have qs4 : w.heap.size ≠ g := (by omega); have qs5 : b ≠ w'.heap.size := (by omega); have qs6 : b < w'.heap.size := (by omega); have qs7 : g < w'.heap.size := (by omega))
 all_goals (repeat any_goals (first | (rw [rounds_succ]; go_wp2) | (go_region; all_goals go_wp2)))
 all_goals (first | go_ret)
 all_goals
  refine ⟨rfl, ?_, ?_⟩
  ·(repeat with_reducible first | exact hgr | apply al_keep | apply dr_keep | apply set_ge | apply be_keep hbw)
  ·(repeat with_reducible first | exact Below.refl _ _ | apply Below.drew | refine be_al _ ?_ (by omega) | refine be_set _ _ ?_ (Nat.le_refl _) | refine be_go hbw ?_ (by omega))
set_option maxHeartbeats 1000000 in
theorem lim_ge2 (g b o : Nat) (n c : Nat) (s N' ge le : Int) (A' : Int) (p : Bool) (w : World) (hn : ¬ (n : Int) < 2) (hnc : n ≤ c)
  (hg : w.heap[g]? = some (.cells #[.int .i64 s, .bool p, .int .u32 A', .int .i64 N', .int .i64 ge, .int .i64 le] 26 (0, 0)))
  (hbs : b < w.heap.size) (hne4 : b ≠ g) (h0 : w.cell? ⟨b, o, none⟩ = some (.string ⟨#[103, 101]⟩)) (s1 : ByteArray) (h1 : w.cell? ⟨b, o + 1, none⟩ = some (.string s1)) (m : Int) (hr : plist_number.f s1 = some m) (hm : (m == 0) = false) (hlt : ¬ ((n - 2 : Nat) : Int) < 2) (s2 : ByteArray) (h2 : w.cell? ⟨b, o + 2, none⟩ = some (.string s2)) (hs2 : (s2.toList == [108, 101]) = false) :
  Calls Tryz.prog 33 #[.pointer (some ⟨g, 0, none⟩), .slice (some ⟨b, o, none⟩) n c] w fun e w' => LimPost g s p A' N' m le (((n - 2 : Nat) : Int) == 0) w e w' := by
 have hgr : w.heap[g]? = some (ruleCells s p A' N' ge le) := hg
 have hgs : g < w.heap.size := by
  rw [Array.getElem?_eq_some_iff] at hg
  exact hg.1
 have hne : b ≠ w.heap.size := by omega
 have hbs1 : b < w.heap.size + 1 := by omega
 have hbs2 : b < w.heap.size + 1 + 1 := by omega
 have hgs1 : g < w.heap.size + 1 := by omega
 have hgs2 : g < w.heap.size + 1 + 1 := by omega
 have hne1 : b ≠ w.heap.size + 1 := by omega
 have hne5 : b ≠ w.heap.size + 1 + 1 := by omega
 have hne2 : g ≠ w.heap.size := by omega
 have hne3 : g ≠ w.heap.size + 1 := by omega
 have hne6 : g ≠ w.heap.size + 1 + 1 := by omega
 have hn0 : 0 < (n : Int) := by omega
 have hn1 : 1 < (n : Int) := by omega
 have hn2 : 0 < n := by omega
 have hn3 : 1 < n := by omega
 have hn4 : decide ((n : Int) < 2) = false := by simpa using hn
 have hn5 : 2 ≤ n := by omega
 have hn6 : 2 ≤ (n : Int) := by omega
 have hm0 : 0 < ((n - 2 : Nat) : Int) := by omega
 have hm1 : 1 < ((n - 2 : Nat) : Int) := by omega
 have hm2 : 0 < n - 2 := by omega
 have hm3 : 1 < n - 2 := by omega
 have hm4 : decide (((n - 2 : Nat) : Int) < 2) = false := by simp; omega
 have hm5 : 2 ≤ n - 2 := by omega
 have hm6 : 2 ≤ ((n - 2 : Nat) : Int) := by omega
 have hc2 : ¬ c = 2 := by omega
 have hc3 : n - 2 ≤ c - 2 := by omega
 have hc := fun W => plist_number.calls s1 m W hr
 clear hr
 go_enter Tryz.func33, Tryz.ntmps33
 go_wp2
 go_region
 all_goals go_wp2
 refine wp_loop_rounds 3 ?_
 rw [rounds_succ]
 go_wp2
 go_region
 all_goals go_wp2_with (go_at_call 31; refine (hc _).mono ?_; rintro e w' ⟨rfl, hbw⟩; have q1 : w'.cell? ⟨w.heap.size + 1, 1, none⟩ = some (.pointer (some ⟨g, 4, none⟩)) := (be_cell hbw (by simp)); have q6 : w'.cell? ⟨w.heap.size, 2, none⟩ = some (.string ⟨#[108, 101]⟩) := (be_cell hbw (by simp)); have q7 : w'.cell? ⟨w.heap.size, 3, none⟩ = some (.pointer (some ⟨g, 5, none⟩)) := (be_cell hbw (by simp)); have q8 : w'.cell? ⟨b, o + 2, none⟩ = some (.string s2) := (be_cell hbw (by simp [hbs, h2, World.cell?_alloc_lt, Nat.lt_succ_of_lt])); obtain ⟨q2, q3, q4, q5⟩ := rc_cell (be_keep hbw (dr_keep (al_keep _ (al_keep _ hg)))); have qs : w.heap.size + 2 ≤ w'.heap.size := (by simpa using hbw.size); have qs1 : w.heap.size ≠ w'.heap.size := (by omega); have qs2 : g ≠ w'.heap.size := (by omega); have qs3 : w.heap.size < w'.heap.size := (by omega); have qs4 : w.heap.size ≠ g := (by omega); have qs5 : b ≠ w'.heap.size := (by omega); have qs6 : b < w'.heap.size := (by omega); have qs7 : g < w'.heap.size := (by omega))
 all_goals (repeat any_goals (first | (rw [rounds_succ]; go_wp2) | (go_region; all_goals go_wp2)))
 all_goals (first | go_ret)
 all_goals
  refine ⟨rfl, ?_, ?_⟩
  ·(repeat with_reducible first | exact hgr | apply al_keep | apply dr_keep | apply set_ge | apply be_keep hbw)
  ·(repeat with_reducible first | exact Below.refl _ _ | apply Below.drew | refine be_al _ ?_ (by omega) | refine be_set _ _ ?_ (Nat.le_refl _) | refine be_go hbw ?_ (by omega))
set_option maxHeartbeats 1000000 in
theorem lim_ge3 (g b o : Nat) (n c : Nat) (s N' ge le : Int) (A' : Int) (p : Bool) (w : World) (hn : ¬ (n : Int) < 2) (hnc : n ≤ c)
  (hg : w.heap[g]? = some (.cells #[.int .i64 s, .bool p, .int .u32 A', .int .i64 N', .int .i64 ge, .int .i64 le] 26 (0, 0)))
  (hbs : b < w.heap.size) (hne4 : b ≠ g) (h0 : w.cell? ⟨b, o, none⟩ = some (.string ⟨#[103, 101]⟩)) (s1 : ByteArray) (h1 : w.cell? ⟨b, o + 1, none⟩ = some (.string s1)) (m : Int) (hr : plist_number.f s1 = some m) (hm : (m == 0) = false) (hlt : ¬ ((n - 2 : Nat) : Int) < 2) (s2 : ByteArray) (h2 : w.cell? ⟨b, o + 2, none⟩ = some (.string ⟨#[108, 101]⟩)) (h3 : w.cell? ⟨b, o + 2 + 1, none⟩ = some (.string s2)) (m2 : Int) (hr2 : plist_number.f s2 = some m2) (hm2 : (m2 == 0) = true) :
  Calls Tryz.prog 33 #[.pointer (some ⟨g, 0, none⟩), .slice (some ⟨b, o, none⟩) n c] w fun e w' => LimPost g s p A' N' m le false w e w' := by
 have hgr : w.heap[g]? = some (ruleCells s p A' N' ge le) := hg
 have hgs : g < w.heap.size := by
  rw [Array.getElem?_eq_some_iff] at hg
  exact hg.1
 have hne : b ≠ w.heap.size := by omega
 have hbs1 : b < w.heap.size + 1 := by omega
 have hbs2 : b < w.heap.size + 1 + 1 := by omega
 have hgs1 : g < w.heap.size + 1 := by omega
 have hgs2 : g < w.heap.size + 1 + 1 := by omega
 have hne1 : b ≠ w.heap.size + 1 := by omega
 have hne5 : b ≠ w.heap.size + 1 + 1 := by omega
 have hne2 : g ≠ w.heap.size := by omega
 have hne3 : g ≠ w.heap.size + 1 := by omega
 have hne6 : g ≠ w.heap.size + 1 + 1 := by omega
 have hn0 : 0 < (n : Int) := by omega
 have hn1 : 1 < (n : Int) := by omega
 have hn2 : 0 < n := by omega
 have hn3 : 1 < n := by omega
 have hn4 : decide ((n : Int) < 2) = false := by simpa using hn
 have hn5 : 2 ≤ n := by omega
 have hn6 : 2 ≤ (n : Int) := by omega
 have hm0 : 0 < ((n - 2 : Nat) : Int) := by omega
 have hm1 : 1 < ((n - 2 : Nat) : Int) := by omega
 have hm2 : 0 < n - 2 := by omega
 have hm3 : 1 < n - 2 := by omega
 have hm4 : decide (((n - 2 : Nat) : Int) < 2) = false := by simp; omega
 have hm5 : 2 ≤ n - 2 := by omega
 have hm6 : 2 ≤ ((n - 2 : Nat) : Int) := by omega
 have hc2 : ¬ c = 2 := by omega
 have hc3 : n - 2 ≤ c - 2 := by omega
 have hc := fun W => plist_number.calls s1 m W hr
 clear hr
 have hc9 := fun W => plist_number.calls s2 m2 W hr2
 clear hr2
 go_enter Tryz.func33, Tryz.ntmps33
 go_wp2
 go_region
 all_goals go_wp2
 refine wp_loop_rounds 3 ?_
 rw [rounds_succ]
 go_wp2
 go_region
 all_goals go_wp2_with (go_at_call 31; refine (hc _).mono ?_; rintro e w' ⟨rfl, hbw⟩; have q1 : w'.cell? ⟨w.heap.size + 1, 1, none⟩ = some (.pointer (some ⟨g, 4, none⟩)) := (be_cell hbw (by simp)); have q6 : w'.cell? ⟨w.heap.size, 2, none⟩ = some (.string ⟨#[108, 101]⟩) := (be_cell hbw (by simp)); have q7 : w'.cell? ⟨w.heap.size, 3, none⟩ = some (.pointer (some ⟨g, 5, none⟩)) := (be_cell hbw (by simp)); have q8 : w'.cell? ⟨b, o + 2, none⟩ = some (.string ⟨#[108, 101]⟩) := (be_cell hbw (by simp [hbs, h2, World.cell?_alloc_lt, Nat.lt_succ_of_lt])); have q9 : w'.cell? ⟨b, o + 2 + 1, none⟩ = some (.string s2) := (be_cell hbw (by simp [hbs, h3, World.cell?_alloc_lt, Nat.lt_succ_of_lt])); obtain ⟨q2, q3, q4, q5⟩ := rc_cell (be_keep hbw (dr_keep (al_keep _ (al_keep _ hg)))); have qs : w.heap.size + 2 ≤ w'.heap.size := (by simpa using hbw.size); have qs1 : w.heap.size ≠ w'.heap.size := (by omega); have qs2 : g ≠ w'.heap.size := (by omega); have qs3 : w.heap.size < w'.heap.size := (by omega); have qs4 : w.heap.size ≠ g := (by omega); have qs5 : b ≠ w'.heap.size := (by omega); have qs6 : b < w'.heap.size := (by omega); have qs7 : g < w'.heap.size := (by omega))
 all_goals rw [rounds_succ]
 all_goals go_wp2
 all_goals go_region
 all_goals go_wp2_with (go_at_call 31; refine (hc9 _).mono ?_; rintro e w2 ⟨rfl, hbw2⟩; have z1 : w2.cell? ⟨w'.heap.size, 1, none⟩ = some (.pointer (some ⟨g, 5, none⟩)) := (be_cell hbw2 ((al_new (by simp [World.setCell])).trans rfl)); obtain ⟨z2, z3, z4, z5⟩ := rc_cell (be_keep hbw2 (dr_keep (al_keep _ (set_ge m (be_keep hbw (dr_keep (al_keep _ (al_keep _ hg)))))))); have zs : w'.heap.size + 1 ≤ w2.heap.size := (by simpa [World.setCell] using hbw2.size); have zs1 : w.heap.size ≠ w2.heap.size := (by omega); have zs2 : g ≠ w2.heap.size := (by omega); have zs3 : w.heap.size < w2.heap.size := (by omega))
 all_goals (first | go_ret)
 all_goals
  refine ⟨rfl, ?_, ?_⟩
  ·(repeat with_reducible first | exact hgr | apply al_keep | apply dr_keep | apply set_ge | apply be_keep hbw2 | apply be_keep hbw)
  ·(repeat with_reducible first | exact Below.refl _ _ | apply Below.drew | refine be_al _ ?_ (by omega) | refine be_set _ _ ?_ (Nat.le_refl _) | refine be_go hbw2 ?_ (by omega) | refine be_go hbw ?_ (by omega))
set_option maxHeartbeats 1000000 in
theorem lim_ge4 (g b o : Nat) (n c : Nat) (s N' ge le : Int) (A' : Int) (p : Bool) (w : World) (hn : ¬ (n : Int) < 2) (hnc : n ≤ c)
  (hg : w.heap[g]? = some (.cells #[.int .i64 s, .bool p, .int .u32 A', .int .i64 N', .int .i64 ge, .int .i64 le] 26 (0, 0)))
  (hbs : b < w.heap.size) (hne4 : b ≠ g) (h0 : w.cell? ⟨b, o, none⟩ = some (.string ⟨#[103, 101]⟩)) (s1 : ByteArray) (h1 : w.cell? ⟨b, o + 1, none⟩ = some (.string s1)) (m : Int) (hr : plist_number.f s1 = some m) (hm : (m == 0) = false) (hlt : ¬ ((n - 2 : Nat) : Int) < 2) (s2 : ByteArray) (h2 : w.cell? ⟨b, o + 2, none⟩ = some (.string ⟨#[108, 101]⟩)) (h3 : w.cell? ⟨b, o + 2 + 1, none⟩ = some (.string s2)) (m2 : Int) (hr2 : plist_number.f s2 = some m2) (hm2 : (m2 == 0) = false) :
  Calls Tryz.prog 33 #[.pointer (some ⟨g, 0, none⟩), .slice (some ⟨b, o, none⟩) n c] w fun e w' => LimPost g s p A' N' m m2 (((n - 2 - 2 : Nat) : Int) == 0) w e w' := by
 have hgr : w.heap[g]? = some (ruleCells s p A' N' ge le) := hg
 have hgs : g < w.heap.size := by
  rw [Array.getElem?_eq_some_iff] at hg
  exact hg.1
 have hne : b ≠ w.heap.size := by omega
 have hbs1 : b < w.heap.size + 1 := by omega
 have hbs2 : b < w.heap.size + 1 + 1 := by omega
 have hgs1 : g < w.heap.size + 1 := by omega
 have hgs2 : g < w.heap.size + 1 + 1 := by omega
 have hne1 : b ≠ w.heap.size + 1 := by omega
 have hne5 : b ≠ w.heap.size + 1 + 1 := by omega
 have hne2 : g ≠ w.heap.size := by omega
 have hne3 : g ≠ w.heap.size + 1 := by omega
 have hne6 : g ≠ w.heap.size + 1 + 1 := by omega
 have hn0 : 0 < (n : Int) := by omega
 have hn1 : 1 < (n : Int) := by omega
 have hn2 : 0 < n := by omega
 have hn3 : 1 < n := by omega
 have hn4 : decide ((n : Int) < 2) = false := by simpa using hn
 have hn5 : 2 ≤ n := by omega
 have hn6 : 2 ≤ (n : Int) := by omega
 have hm0 : 0 < ((n - 2 : Nat) : Int) := by omega
 have hm1 : 1 < ((n - 2 : Nat) : Int) := by omega
 have hm2 : 0 < n - 2 := by omega
 have hm3 : 1 < n - 2 := by omega
 have hm4 : decide (((n - 2 : Nat) : Int) < 2) = false := by simp; omega
 have hm5 : 2 ≤ n - 2 := by omega
 have hm6 : 2 ≤ ((n - 2 : Nat) : Int) := by omega
 have hc2 : ¬ c = 2 := by omega
 have hc3 : n - 2 ≤ c - 2 := by omega
 have hc := fun W => plist_number.calls s1 m W hr
 clear hr
 have hc9 := fun W => plist_number.calls s2 m2 W hr2
 clear hr2
 go_enter Tryz.func33, Tryz.ntmps33
 go_wp2
 go_region
 all_goals go_wp2
 refine wp_loop_rounds 3 ?_
 rw [rounds_succ]
 go_wp2
 go_region
 all_goals go_wp2_with (go_at_call 31; refine (hc _).mono ?_; rintro e w' ⟨rfl, hbw⟩; have q1 : w'.cell? ⟨w.heap.size + 1, 1, none⟩ = some (.pointer (some ⟨g, 4, none⟩)) := (be_cell hbw (by simp)); have q6 : w'.cell? ⟨w.heap.size, 2, none⟩ = some (.string ⟨#[108, 101]⟩) := (be_cell hbw (by simp)); have q7 : w'.cell? ⟨w.heap.size, 3, none⟩ = some (.pointer (some ⟨g, 5, none⟩)) := (be_cell hbw (by simp)); have q8 : w'.cell? ⟨b, o + 2, none⟩ = some (.string ⟨#[108, 101]⟩) := (be_cell hbw (by simp [hbs, h2, World.cell?_alloc_lt, Nat.lt_succ_of_lt])); have q9 : w'.cell? ⟨b, o + 2 + 1, none⟩ = some (.string s2) := (be_cell hbw (by simp [hbs, h3, World.cell?_alloc_lt, Nat.lt_succ_of_lt])); obtain ⟨q2, q3, q4, q5⟩ := rc_cell (be_keep hbw (dr_keep (al_keep _ (al_keep _ hg)))); have qs : w.heap.size + 2 ≤ w'.heap.size := (by simpa using hbw.size); have qs1 : w.heap.size ≠ w'.heap.size := (by omega); have qs2 : g ≠ w'.heap.size := (by omega); have qs3 : w.heap.size < w'.heap.size := (by omega); have qs4 : w.heap.size ≠ g := (by omega); have qs5 : b ≠ w'.heap.size := (by omega); have qs6 : b < w'.heap.size := (by omega); have qs7 : g < w'.heap.size := (by omega))
 all_goals rw [rounds_succ]
 all_goals go_wp2
 all_goals go_region
 all_goals go_wp2_with (go_at_call 31; refine (hc9 _).mono ?_; rintro e w2 ⟨rfl, hbw2⟩; have z1 : w2.cell? ⟨w'.heap.size, 1, none⟩ = some (.pointer (some ⟨g, 5, none⟩)) := (be_cell hbw2 ((al_new (by simp [World.setCell])).trans rfl)); obtain ⟨z2, z3, z4, z5⟩ := rc_cell (be_keep hbw2 (dr_keep (al_keep _ (set_ge m (be_keep hbw (dr_keep (al_keep _ (al_keep _ hg)))))))); have zs : w'.heap.size + 1 ≤ w2.heap.size := (by simpa [World.setCell] using hbw2.size); have zs1 : w.heap.size ≠ w2.heap.size := (by omega); have zs2 : g ≠ w2.heap.size := (by omega); have zs3 : w.heap.size < w2.heap.size := (by omega))
 all_goals (repeat any_goals (first | (rw [rounds_succ]; go_wp2)))
 all_goals (first | go_ret)
 all_goals
  refine ⟨rfl, ?_, ?_⟩
  ·(repeat with_reducible first | exact hgr | apply al_keep | apply dr_keep | apply set_ge | apply set_le | apply be_keep hbw2 | apply be_keep hbw)
  ·(repeat with_reducible first | exact Below.refl _ _ | apply Below.drew | refine be_al _ ?_ (by omega) | refine be_set _ _ ?_ (Nat.le_refl _) | refine be_go hbw2 ?_ (by omega) | refine be_go hbw ?_ (by omega))
set_option maxHeartbeats 1000000 in
theorem lim_le0 (g b o : Nat) (n c : Nat) (s N' ge le : Int) (A' : Int) (p : Bool) (w : World) (hn : ¬ (n : Int) < 2) (hnc : n ≤ c)
  (hg : w.heap[g]? = some (.cells #[.int .i64 s, .bool p, .int .u32 A', .int .i64 N', .int .i64 ge, .int .i64 le] 26 (0, 0)))
  (hbs : b < w.heap.size) (hne4 : b ≠ g) (h0 : w.cell? ⟨b, o, none⟩ = some (.string ⟨#[108, 101]⟩)) (s1 : ByteArray) (h1 : w.cell? ⟨b, o + 1, none⟩ = some (.string s1)) (m : Int) (hr : plist_number.f s1 = some m) (hm : (m == 0) = true) :
  Calls Tryz.prog 33 #[.pointer (some ⟨g, 0, none⟩), .slice (some ⟨b, o, none⟩) n c] w fun e w' => LimPost g s p A' N' ge le false w e w' := by
 have hgr : w.heap[g]? = some (ruleCells s p A' N' ge le) := hg
 have hgs : g < w.heap.size := by
  rw [Array.getElem?_eq_some_iff] at hg
  exact hg.1
 have hne : b ≠ w.heap.size := by omega
 have hbs1 : b < w.heap.size + 1 := by omega
 have hbs2 : b < w.heap.size + 1 + 1 := by omega
 have hgs1 : g < w.heap.size + 1 := by omega
 have hgs2 : g < w.heap.size + 1 + 1 := by omega
 have hne1 : b ≠ w.heap.size + 1 := by omega
 have hne5 : b ≠ w.heap.size + 1 + 1 := by omega
 have hne2 : g ≠ w.heap.size := by omega
 have hne3 : g ≠ w.heap.size + 1 := by omega
 have hne6 : g ≠ w.heap.size + 1 + 1 := by omega
 have hn0 : 0 < (n : Int) := by omega
 have hn1 : 1 < (n : Int) := by omega
 have hn2 : 0 < n := by omega
 have hn3 : 1 < n := by omega
 have hn4 : decide ((n : Int) < 2) = false := by simpa using hn
 have hn5 : 2 ≤ n := by omega
 have hn6 : 2 ≤ (n : Int) := by omega
 have hc := fun W => plist_number.calls s1 m W hr
 clear hr
 go_enter Tryz.func33, Tryz.ntmps33
 go_wp2
 go_region
 all_goals go_wp2
 refine wp_loop_rounds 3 ?_
 rw [rounds_succ]
 go_wp2
 go_region
 all_goals go_wp2
 all_goals rw [rounds_succ]
 all_goals go_wp2
 all_goals go_region
 all_goals go_wp2_with (go_at_call 31; refine (hc _).mono ?_; rintro e w' ⟨rfl, hbw⟩; have q1 : w'.cell? ⟨w.heap.size + 1 + 1, 1, none⟩ = some (.pointer (some ⟨g, 5, none⟩)) := (be_cell hbw (by exact (al_new (by simp)).trans rfl)); obtain ⟨q2, q3, q4, q5⟩ := rc_cell (be_keep hbw (dr_keep (al_keep _ (al_keep _ (al_keep _ hg))))); have qs : w.heap.size + 3 ≤ w'.heap.size := (by simpa using hbw.size); have qs1 : w.heap.size ≠ w'.heap.size := (by omega); have qs2 : g ≠ w'.heap.size := (by omega); have qs3 : w.heap.size < w'.heap.size := (by omega); have qs4 : w.heap.size ≠ g := (by omega); have qs5 : b ≠ w'.heap.size := (by omega); have qs6 : b < w'.heap.size := (by omega); have qs7 : g < w'.heap.size := (by omega))
 all_goals (first | go_ret)
 all_goals
  refine ⟨rfl, ?_, ?_⟩
  ·(repeat with_reducible first | exact hgr | apply al_keep | apply dr_keep | apply be_keep hbw)
  ·(repeat with_reducible first | exact Below.refl _ _ | apply Below.drew | refine be_al _ ?_ (by omega) | refine be_go hbw ?_ (by omega))
set_option maxHeartbeats 1000000 in
theorem lim_le1 (g b o : Nat) (n c : Nat) (s N' ge le : Int) (A' : Int) (p : Bool) (w : World) (hn : ¬ (n : Int) < 2) (hnc : n ≤ c)
  (hg : w.heap[g]? = some (.cells #[.int .i64 s, .bool p, .int .u32 A', .int .i64 N', .int .i64 ge, .int .i64 le] 26 (0, 0)))
  (hbs : b < w.heap.size) (hne4 : b ≠ g) (h0 : w.cell? ⟨b, o, none⟩ = some (.string ⟨#[108, 101]⟩)) (s1 : ByteArray) (h1 : w.cell? ⟨b, o + 1, none⟩ = some (.string s1)) (m : Int) (hr : plist_number.f s1 = some m) (hm : (m == 0) = false) :
  Calls Tryz.prog 33 #[.pointer (some ⟨g, 0, none⟩), .slice (some ⟨b, o, none⟩) n c] w fun e w' => LimPost g s p A' N' ge m (((n - 2 : Nat) : Int) == 0) w e w' := by
 have hgr : w.heap[g]? = some (ruleCells s p A' N' ge le) := hg
 have hgs : g < w.heap.size := by
  rw [Array.getElem?_eq_some_iff] at hg
  exact hg.1
 have hne : b ≠ w.heap.size := by omega
 have hbs1 : b < w.heap.size + 1 := by omega
 have hbs2 : b < w.heap.size + 1 + 1 := by omega
 have hgs1 : g < w.heap.size + 1 := by omega
 have hgs2 : g < w.heap.size + 1 + 1 := by omega
 have hne1 : b ≠ w.heap.size + 1 := by omega
 have hne5 : b ≠ w.heap.size + 1 + 1 := by omega
 have hne2 : g ≠ w.heap.size := by omega
 have hne3 : g ≠ w.heap.size + 1 := by omega
 have hne6 : g ≠ w.heap.size + 1 + 1 := by omega
 have hn0 : 0 < (n : Int) := by omega
 have hn1 : 1 < (n : Int) := by omega
 have hn2 : 0 < n := by omega
 have hn3 : 1 < n := by omega
 have hn4 : decide ((n : Int) < 2) = false := by simpa using hn
 have hn5 : 2 ≤ n := by omega
 have hn6 : 2 ≤ (n : Int) := by omega
 have hc := fun W => plist_number.calls s1 m W hr
 clear hr
 go_enter Tryz.func33, Tryz.ntmps33
 go_wp2
 go_region
 all_goals go_wp2
 refine wp_loop_rounds 3 ?_
 rw [rounds_succ]
 go_wp2
 go_region
 all_goals go_wp2
 all_goals rw [rounds_succ]
 all_goals go_wp2
 all_goals go_region
 all_goals go_wp2_with (go_at_call 31; refine (hc _).mono ?_; rintro e w' ⟨rfl, hbw⟩; have q1 : w'.cell? ⟨w.heap.size + 1 + 1, 1, none⟩ = some (.pointer (some ⟨g, 5, none⟩)) := (be_cell hbw (by exact (al_new (by simp)).trans rfl)); obtain ⟨q2, q3, q4, q5⟩ := rc_cell (be_keep hbw (dr_keep (al_keep _ (al_keep _ (al_keep _ hg))))); have qs : w.heap.size + 3 ≤ w'.heap.size := (by simpa using hbw.size); have qs1 : w.heap.size ≠ w'.heap.size := (by omega); have qs2 : g ≠ w'.heap.size := (by omega); have qs3 : w.heap.size < w'.heap.size := (by omega); have qs4 : w.heap.size ≠ g := (by omega); have qs5 : b ≠ w'.heap.size := (by omega); have qs6 : b < w'.heap.size := (by omega); have qs7 : g < w'.heap.size := (by omega))
 all_goals (repeat any_goals (first | (rw [rounds_succ]; go_wp2)))
 all_goals (first | go_ret)
 all_goals
  refine ⟨rfl, ?_, ?_⟩
  ·(repeat with_reducible first | exact hgr | apply al_keep | apply dr_keep | apply set_le | apply be_keep hbw)
  ·(repeat with_reducible first | exact Below.refl _ _ | apply Below.drew | refine be_al _ ?_ (by omega) | refine be_set _ _ ?_ (Nat.le_refl _) | refine be_go hbw ?_ (by omega))
set_option maxHeartbeats 1000000 in
theorem lim_no (g b o : Nat) (n c : Nat) (s N' ge le : Int) (A' : Int) (p : Bool) (w : World) (hn : ¬ (n : Int) < 2) (hnc : n ≤ c)
  (hg : w.heap[g]? = some (.cells #[.int .i64 s, .bool p, .int .u32 A', .int .i64 N', .int .i64 ge, .int .i64 le] 26 (0, 0)))
  (hbs : b < w.heap.size) (hne4 : b ≠ g) (s0 : ByteArray) (h0 : w.cell? ⟨b, o, none⟩ = some (.string s0)) (hs0 : (s0.toList == [103, 101]) = false) (hs1 : (s0.toList == [108, 101]) = false) :
  Calls Tryz.prog 33 #[.pointer (some ⟨g, 0, none⟩), .slice (some ⟨b, o, none⟩) n c] w fun e w' => LimPost g s p A' N' ge le ((n : Int) == 0) w e w' := by
 have hgr : w.heap[g]? = some (ruleCells s p A' N' ge le) := hg
 have hgs : g < w.heap.size := by
  rw [Array.getElem?_eq_some_iff] at hg
  exact hg.1
 have hne : b ≠ w.heap.size := by omega
 have hbs1 : b < w.heap.size + 1 := by omega
 have hbs2 : b < w.heap.size + 1 + 1 := by omega
 have hgs1 : g < w.heap.size + 1 := by omega
 have hgs2 : g < w.heap.size + 1 + 1 := by omega
 have hne1 : b ≠ w.heap.size + 1 := by omega
 have hne5 : b ≠ w.heap.size + 1 + 1 := by omega
 have hne2 : g ≠ w.heap.size := by omega
 have hne3 : g ≠ w.heap.size + 1 := by omega
 have hne6 : g ≠ w.heap.size + 1 + 1 := by omega
 have hn0 : 0 < (n : Int) := by omega
 have hn1 : 1 < (n : Int) := by omega
 have hn2 : 0 < n := by omega
 have hn3 : 1 < n := by omega
 have hn4 : decide ((n : Int) < 2) = false := by simpa using hn
 have hn5 : 2 ≤ n := by omega
 have hn6 : 2 ≤ (n : Int) := by omega
 go_enter Tryz.func33, Tryz.ntmps33
 go_wp2
 go_region
 all_goals go_wp2
 refine wp_loop_rounds 3 ?_
 (repeat any_goals (first | (rw [rounds_succ]; go_wp2) | (go_region; all_goals go_wp2)))
 all_goals (first | go_ret)
 all_goals
  refine ⟨rfl, ?_, ?_⟩
  ·(repeat with_reducible first | exact hgr | apply al_keep | apply dr_keep)
  ·(repeat with_reducible first | exact Below.refl _ _ | apply Below.drew | refine be_al _ ?_ (by omega))
end Go.Proofs.YthngpkfckhmiiaaGreatDoor.X
end
section
set_option linter.unusedVariables false
namespace Go.Proofs.YthngpkfckhmiiaaGreatDoor.Sl
open Go.RowKit Go.Lib
variable {P : Program}
theorem run_copy_rowK (w : World) (dT sT ty elem : TypeId) (K g o dLen dCap : Nat) (a : Addr) (sLen sCap : Nat) (cur : Array Value) (t : TypeId) (cs : List Value)
  (hu : P.underlying dT = some (.slice elem)) (hs : (P.info? elem).map (·.size) = some K)
  (hg : w.heap[g]? = some (.cells cur t (0, 0))) (hn : cs.length = Nat.min sLen dLen * K)
  (hsrc : ∀ j v, cs[j]? = some v → w.cell? (a.add j) = some v) (hfit : o + cs.length ≤ cur.size) (h1 : ∀ v ∈ cs, v.oneCell' = true) :
  (Builtin.copy_ #[dT, sT] ty #[.slice (some ⟨g, o, none⟩) dLen dCap, .slice (some a) sLen sCap]).run P w =
   .ok (goInt (Nat.min sLen dLen)) (w.setRow g (cur.toList.take o ++ cs ++ cur.toList.drop (o + cs.length)).toArray) := by
 have hl := run_loadCells_list (P := P) w a cs hsrc
 have hst := run_storeCells_at P g o t cs 0 cur w hg (by simpa using hfit) h1
 cases hq : P.info? elem with
 | none => simp [hq] at hs
 | some i =>
  have hi : i.size = K := by simpa [hq] using hs
  simp [Builtin.copy_, run_underlying hu, Builtin.lenOf, Builtin.firstCells, sizeOf, typeInfo, hq, hi, ← hn, hl, hst]
theorem shift_list (cur cs : List Value) (I N K : Nat) (hcs : cs.length = K) (hI : I ≤ N) (hN : N + K ≤ cur.length) :
  (((cur.take (I + K) ++ (cur.drop I).take (N - I) ++ cur.drop (I + K + (N - I))).take I ++ cs ++ (cur.take (I + K) ++ (cur.drop I).take (N - I) ++ cur.drop (I + K + (N - I))).drop (I + K)).take (N + K))
   = (cur.take N).take I ++ cs ++ (cur.take N).drop I := by
 apply List.ext_getElem?
 intro j
 simp only [List.getElem?_take, List.getElem?_append, List.getElem?_drop, List.length_take, List.length_append, List.length_drop]
 rcases Nat.lt_or_ge j I with h1 | h1
 ·have e1 : j < N + K := by omega
  have e2 : j < min I (min (I + K) cur.length + min (N - I) (cur.length - I) + (cur.length - (I + K + (N - I)))) := by omega
  have e3 : j < min (I + K) cur.length := by omega
  have e4 : j < min I (min N cur.length) := by omega
  have e5 : j < min I (min (I + K) cur.length + min (N - I) (cur.length - I) + (cur.length - (I + K + (N - I)))) + cs.length := by omega
  have e6 : j < min (I + K) cur.length + min (N - I) (cur.length - I) := by omega
  have e7 : j < I + K := by omega
  have e8 : j < min I (min N cur.length) + cs.length := by omega
  have e9 : j < N := by omega
  simp [e1, e2, e3, e4, e5, e6, e7, e8, e9, h1]
 ·rcases Nat.lt_or_ge j (I + K) with h2 | h2
  ·have e1 : j < N + K := by omega
   have e2 : ¬ j < min I (min (I + K) cur.length + min (N - I) (cur.length - I) + (cur.length - (I + K + (N - I)))) := by omega
   have e4 : ¬ j < min I (min N cur.length) := by omega
   have e5 : j < min I (min (I + K) cur.length + min (N - I) (cur.length - I) + (cur.length - (I + K + (N - I)))) + cs.length := by omega
   have e8 : j < min I (min N cur.length) + cs.length := by omega
   have e9 : min I (min (I + K) cur.length + min (N - I) (cur.length - I) + (cur.length - (I + K + (N - I)))) = I := by omega
   have e10 : min I (min N cur.length) = I := by omega
   rw [if_pos e1, if_pos e5, if_neg e2, if_pos e8, if_neg e4, e9, e10]
  ·rcases Nat.lt_or_ge j (N + K) with h3 | h3
   ·have e5 : ¬ j < min I (min (I + K) cur.length + min (N - I) (cur.length - I) + (cur.length - (I + K + (N - I)))) + cs.length := by omega
    have e8 : ¬ j < min I (min N cur.length) + cs.length := by omega
    have e11 : min I (min (I + K) cur.length + min (N - I) (cur.length - I) + (cur.length - (I + K + (N - I)))) + cs.length = I + K := by omega
    have e10 : min I (min N cur.length) + cs.length = I + K := by omega
    rw [if_pos h3, if_neg e5, if_neg e8, e11, e10]
    have e12 : I + K + (j - (I + K)) = j := by omega
    have e13 : I + (j - (I + K)) = j - K := by omega
    have e14 : ¬ j < min (I + K) cur.length := by omega
    have e15 : j < min (I + K) cur.length + min (N - I) (cur.length - I) := by omega
    have e16 : j - min (I + K) cur.length < N - I := by omega
    have e17 : I + (j - min (I + K) cur.length) = j - K := by omega
    have e18 : j - K < N := by omega
    rw [e12, e13, if_pos e15, if_neg e14, if_pos e16, e17, if_pos e18]
   ·have e1 : ¬ j < N + K := by omega
    have e8 : ¬ j < min I (min N cur.length) + cs.length := by omega
    have e9 : ¬ I + (j - (min I (min N cur.length) + cs.length)) < N := by omega
    rw [if_neg e1, if_neg e8, if_neg e9]
theorem grow_list (r xs cs : List Value) (I N K : Nat) (hcs : cs.length = K) (hI : I ≤ N) (hx : xs.length = N) (hr : r.take I = xs.take I) (hN : N + K ≤ r.length) :
  (((r.take I ++ cs ++ r.drop (I + K)).take (I + K) ++ xs.drop I ++ (r.take I ++ cs ++ r.drop (I + K)).drop (I + K + (N - I))).take (N + K)) = xs.take I ++ cs ++ xs.drop I := by
 have e1 : (r.take I ++ cs).length = I + K := by rw [List.length_append, List.length_take]; omega
 have e2 : (r.take I ++ cs ++ r.drop (I + K)).take (I + K) = xs.take I ++ cs := by
  rw [List.take_append_of_le_length (by omega), List.take_of_length_le (by omega), hr]
 rw [e2]
 have e3 : (xs.take I ++ cs ++ xs.drop I).length = N + K := by simp only [List.length_append, List.length_take, List.length_drop]; omega
 rw [List.take_append_of_le_length (by omega)]
 exact List.take_of_length_le (by omega)
theorem cut_list (cur : List Value) (I K N : Nat) (hI : I + K ≤ N) (hN : N ≤ cur.length) :
  (cur.take I ++ (cur.drop (I + K)).take (N - (I + K)) ++ cur.drop (I + (N - (I + K)))).take (N - K) = (cur.take N).take I ++ (cur.take N).drop (I + K) := by
 rw [List.take_append_of_le_length (by rw [List.length_append, List.length_take, List.length_take, List.length_drop]; omega)]
 rw [List.take_of_length_le (by rw [List.length_append, List.length_take, List.length_take, List.length_drop]; omega)]
 rw [List.take_take, Nat.min_eq_left (by omega)]
 congr 1
 rw [List.drop_take]
theorem step_append_runI {ops : Array Oper} {o : Oper} {a : Act} {w : World} {K : Act → World → Prop} {Q : Exit → Act → World → Prop} {E : Prop}
  (hg : o.guard = none) (d x : Operand) (dT sT : TypeId) (hop : o.op = Op.call { callee := Callee.builtin Builtin.append, args := #[d, x], argTypes := #[dT, sT] })
  (v u : Value) (hd : a.eval d = v) (hx : a.eval x = u) {v' : Value} {w' : World} (hr : (Builtin.append_ #[dT, sT] o.type #[v, u]).run P w = .ok v' w') (hK : K (a.put o.dst v') w') :
  if Region.wanted o (yielded ops a.tmps) = true then Oper.wp P o a w K Q else E := by
 have hw : Region.wanted o (yielded ops a.tmps) = true := by simp [Region.wanted, hg]
 rw [if_pos hw]
 unfold Oper.wp
 simp [execOp, hop, resolve, invoke, builtin, hd, hx, hr, Result.andThen]
 exact hK
theorem run_clear_one (w : World) (t ty e : TypeId) (K g o c : Nat) (cur : Array Value) (T : TypeId) (z : Value) (ht : P.underlying t = some (.slice e)) (hz : ∀ w, (zeroValue e).run P w = .ok z w)
  (hzs : z.cells.size = K) (h1 : ∀ u ∈ (Builtin.zeroCells z.cells 1).toList, u.oneCell' = true) (hg : w.heap[g]? = some (.cells cur T (0, 0))) (hfit : o + K ≤ cur.size) :
  (Builtin.clear_ #[t] ty #[.slice (some ⟨g, o, none⟩) 1 c]).run P w = .ok (.tuple #[]) (w.setRow g (cur.toList.take o ++ (Builtin.zeroCells z.cells 1).toList ++ cur.toList.drop (o + K)).toArray) := by
 have hl : (Builtin.zeroCells z.cells 1).toList.length = K := by simp [Builtin.zeroCells, hzs]
 have hst := run_storeCells_at P g o T (Builtin.zeroCells z.cells 1).toList 0 cur w hg (by rw [hl]; simpa using hfit) h1
 rw [hl] at hst
 simp [Builtin.clear_, run_underlying ht, hz, hst]
theorem del_list (cur zs : List Value) (I K N : Nat) (hI : I + K ≤ N) (hN : N ≤ cur.length) :
  ((((cur.take I ++ (cur.drop (I + K)).take (N - (I + K)) ++ cur.drop (I + (N - (I + K)))).take (N - K)) ++ zs ++ (cur.take I ++ (cur.drop (I + K)).take (N - (I + K)) ++ cur.drop (I + (N - (I + K)))).drop N).take (N - K)) = (cur.take N).take I ++ (cur.take N).drop (I + K) := by
 rw [List.take_append_of_le_length (by simp only [List.length_append, List.length_take, List.length_drop]; omega), List.take_append_of_le_length (by simp only [List.length_append, List.length_take, List.length_drop]; omega)]
 rw [List.take_take, Nat.min_self]
 exact cut_list cur I K N hI hN
theorem setRow_heap0 (w : World) (g : Nat) (cur c : Array Value) (t : TypeId) (h : w.heap[g]? = some (.cells cur t (0, 0))) : (w.setRow g c).heap[g]? = some (.cells c t (0, 0)) := setRow_heap w g cur c t (0, 0) h
theorem countP_boundaryK {α : Type} [Inhabited α] (p : α → Bool) : ∀ (l : List α) (i : Nat), i ≤ l.length → (∀ t, t < i → p l[t]! = true) → (∀ t, i ≤ t → t < l.length → p l[t]! = false) → l.countP p = i
 | [], i, hi, _, _ => by simp at hi; simp [hi]
 | a :: r, 0, _, _, h2 => by
  rw [List.countP_eq_zero]
  intro x hx
  obtain ⟨t, ht, rfl⟩ := List.getElem_of_mem hx
  have := h2 t (Nat.zero_le _) ht
  rw [getElem!_pos (a :: r) t ht] at this
  simp [this]
 | a :: r, i + 1, hi, h1, h2 => by
  have ha : p a = true := by simpa using h1 0 (Nat.succ_pos _)
  rw [List.countP_cons_of_pos ha, countP_boundaryK p r i (by simpa using hi) (fun t ht => by simpa using h1 (t + 1) (by omega)) (fun t h3 h4 => by simpa using h2 (t + 1) (by omega) (by simpa using h4))]
theorem mem_bang {α : Type} [Inhabited α] (l : List α) (j : Nat) (h : j < l.length) : l[j]! ∈ l := by
 rw [getElem!_pos l j h]
 exact List.getElem_mem h
def fidx {α : Type} (p : α → Bool) (l : List α) : Int := match l.findIdx? p with
 | some i => (i : Int)
 | none => -1
theorem fidx_hit {α : Type} [Inhabited α] (p : α → Bool) (l : List α) (k : Nat) (hk : k < l.length) (h : p l[k]! = true) (hn : ∀ j, j < k → p l[j]! = false) : fidx p l = k := by
 have : l.findIdx? p = some k := by
  rw [List.findIdx?_eq_some_iff_getElem]
  refine ⟨hk, by rw [← getElem!_pos l k hk]; exact h, fun j hj => ?_⟩
  have h2 := hn j hj
  rw [getElem!_pos l j (by omega)] at h2
  simp [h2]
 simp [fidx, this]
theorem fidx_miss {α : Type} [Inhabited α] (p : α → Bool) (l : List α) (hn : ∀ j, j < l.length → p l[j]! = false) : fidx p l = -1 := by
 have : l.findIdx? p = none := by
  rw [List.findIdx?_eq_none_iff]
  intro x hx
  obtain ⟨t, ht, rfl⟩ := List.getElem_of_mem hx
  have := hn t ht
  rwa [getElem!_pos l t ht] at this
 simp [fidx, this]
def Post (base E K : Nat) (v : Value) (m : Nat) (ys : List Value) (w : World) (e : Ending) (w' : World) : Prop :=
 ∃ v', e = .returned v' ∧ w'.ownsRow base E K v' m ys ∧ w.grownBy w' v.ownBlock ∧ (v'.ownBlock = v.ownBlock ∨ ∃ b, v'.ownBlock = some b ∧ w.heap.size ≤ b)
theorem grownBy_setRow (w : World) (g : Nat) (c : Array Value) : w.grownBy (w.setRow g c) (some g) := by
 refine ⟨rfl, rfl, rfl, by simp [World.setRow], fun k hk hne => ?_⟩
 simp only [World.setRow, Array.getElem?_modify]
 rw [if_neg (fun e => hne (by rw [e]))]
theorem of_drew_grownBy {w w' : World} {row : Option Nat} (h : w.drew.grownBy w' row) : w.grownBy w' row := ⟨h.os, h.tape, h.output, h.size, h.block⟩
theorem grownBy_tr {a b c : World} {row : Option Nat} (h : a.grownBy b row) (k : b.grownBy c row) : a.grownBy c row := World.grownBy.trans h k
theorem grownBy_new {w w1 w2 : World} {g : Nat} {row : Option Nat} (h : w.grownBy w1 row) (hg : w.heap.size ≤ g) (k : w1.grownBy w2 (some g)) : w.grownBy w2 row :=
 ⟨k.os.trans h.os, k.tape.trans h.tape, k.output.trans h.output, Nat.le_trans h.size k.size, fun i hi hne => (k.block i (Nat.lt_of_lt_of_le hi h.size) (fun e => by injection e with e; omega)).trans (h.block i hi hne)⟩
end Go.Proofs.YthngpkfckhmiiaaGreatDoor.Sl
end
section
set_option linter.unusedVariables false
namespace Go.Proofs.YthngpkfckhmiiaaGreatDoor.Sl
open Go.RowKit Go.Proofs.YthngpkfckhmiiaaGreatDoorW.PrintWords
variable {α : Type}
theorem C_split {d : Kd α} {w : World} {A : Option Addr} {n : Nat} {l : List α} (hs : 0 < d.sz) (h : d.C w A n l) (hn : 0 < n) :
  ∃ b off, A = some ⟨b, off, none⟩ ∧ b < w.heap.size ∧ ∀ (j : Nat) p, l[j]? = some p → ∃ c, c.length = d.sz ∧ d.K w p c ∧ ∀ i u, c[i]? = some u → w.cell? ⟨b, off + j * d.sz + i, none⟩ = some u := by
 obtain ⟨hl, _, h2⟩ := h
 obtain ⟨ad, rfl, hc⟩ := h2 hn
 obtain ⟨b, o, sp⟩ := ad
 obtain ⟨c0, hc0, _, hcc⟩ := hc 0 (l[0]'(by omega)) (List.getElem?_eq_getElem (by omega))
 have h0 := hcc 0 (c0[0]'(by omega)) (List.getElem?_eq_getElem (by omega))
 have hsp : sp = none := by
  cases sp with
  | none => rfl
  | some s =>
   simp only [Addr.add, World.cell?] at h0
   split at h0 <;> simp at h0
 subst hsp
 have hb := World.block_lt_of_cell? w _ h0
 have hb' : b < w.heap.size := by
  unfold Addr.add at hb
  split at hb <;> simpa using hb
 refine ⟨b, o, rfl, hb', fun j p hj => ?_⟩
 obtain ⟨c, h1, h2, h3⟩ := hc j p hj
 refine ⟨c, h1, h2, fun i u hu => ?_⟩
 have := h3 i u hu
 rwa [Addr.add_lit, ← Nat.add_assoc] at this
theorem C_cells [Inhabited α] {d : Kd α} {w : World} {b off : Nat} {l : List α} (enc : α → List Value) (he : ∀ (w : World) x cs, d.K w x cs → cs = enc x)
  (hc : ∀ (j : Nat) p, l[j]? = some p → ∃ c, c.length = d.sz ∧ d.K w p c ∧ ∀ i u, c[i]? = some u → w.cell? ⟨b, off + j * d.sz + i, none⟩ = some u) :
  ∀ (j : Nat), j < l.length → ∀ (i : Nat) v, (enc l[j]!)[i]? = some v → w.cell? ⟨b, off + j * d.sz + i, none⟩ = some v := by
 intro j hj i v hv
 rw [getElem!_pos l j hj] at hv
 obtain ⟨c, _, hk, hcc⟩ := hc j _ (List.getElem?_eq_getElem hj)
 obtain rfl := he w _ _ hk
 exact hcc i v hv
theorem flat_len (enc : α → List Value) {K : Nat} (hk : ∀ x, (enc x).length = K) (l : List α) : (l.flatMap enc).length = l.length * K := by
 induction l with
 | nil => simp
 | cons a r ih => rw [List.flatMap_cons, List.length_append, hk, ih, List.length_cons, Nat.succ_mul, Nat.add_comm]
theorem flat_take (enc : α → List Value) {K : Nat} (hk : ∀ x, (enc x).length = K) (l : List α) (i : Nat) : (l.flatMap enc).take (i * K) = (l.take i).flatMap enc := by
 induction l generalizing i with
 | nil => simp
 | cons a r ih =>
  cases i with
  | zero => simp
  | succ i =>
   rw [List.flatMap_cons, List.take_succ_cons, List.flatMap_cons, Nat.succ_mul, Nat.add_comm, List.take_append, hk, Nat.add_sub_cancel_left, ih]
   rw [List.take_of_length_le (by rw [hk]; omega)]
theorem flat_drop (enc : α → List Value) {K : Nat} (hk : ∀ x, (enc x).length = K) (l : List α) (i : Nat) : (l.flatMap enc).drop (i * K) = (l.drop i).flatMap enc := by
 induction l generalizing i with
 | nil => simp
 | cons a r ih =>
  cases i with
  | zero => simp
  | succ i =>
   rw [List.flatMap_cons, List.drop_succ_cons, Nat.succ_mul, Nat.add_comm, List.drop_append, hk, Nat.add_sub_cancel_left, ih]
   rw [List.drop_eq_nil_of_le (by rw [hk]; omega), List.nil_append]
theorem flat_get (enc : α → List Value) {K : Nat} (hk : ∀ x, (enc x).length = K) (l : List α) (j : Nat) (p : α) (hj : l[j]? = some p) : ((l.flatMap enc).drop (j * K)).take K = enc p := by
 rw [flat_drop enc hk]
 obtain ⟨hl, rfl⟩ := List.getElem?_eq_some_iff.1 hj
 rw [List.drop_eq_getElem_cons hl, List.flatMap_cons]
 rw [← hk l[j], List.take_left]
theorem flat_mem (enc : α → List Value) {P : Value → Prop} (hk : ∀ x, ∀ u ∈ enc x, P u) (l : List α) : ∀ u ∈ l.flatMap enc, P u := by
 intro u hu
 obtain ⟨x, _, hx⟩ := List.mem_flatMap.1 hu
 exact hk x u hx
theorem flat_at (enc : α → List Value) {K : Nat} (hk : ∀ x, (enc x).length = K) (l : List α) {w : World} {b off : Nat} [Inhabited α]
  (hc : ∀ j, j < l.length → ∀ i v, (enc l[j]!)[i]? = some v → w.cell? ⟨b, off + j * K + i, none⟩ = some v) : ∀ j u, (l.flatMap enc)[j]? = some u → w.cell? ⟨b, off + j, none⟩ = some u := by
 intro j u hu
 have hj := (List.getElem?_eq_some_iff.1 hu).1
 rw [flat_len enc hk] at hj
 have hK : 0 < K := by
  rcases Nat.eq_zero_or_pos K with h | h
  ·rw [h] at hj; omega
  ·exact h
 have hq : j / K < l.length := (Nat.div_lt_iff_lt_mul hK).2 hj
 have e : j = j / K * K + j % K := by rw [Nat.mul_comm]; exact (Nat.div_add_mod j K).symm
 have h1 := flat_get enc hk l (j / K) _ (List.getElem?_eq_getElem hq)
 have h2 : (enc l[j / K])[j % K]? = some u := by
  rw [← h1, List.getElem?_take, if_pos (Nat.mod_lt _ hK), List.getElem?_drop, ← e]
  exact hu
 have h3 := hc (j / K) hq (j % K) u (by rw [getElem!_pos l _ hq]; exact h2)
 rwa [Nat.add_assoc, ← e] at h3
theorem flat_reps {d : Kd α} (enc : α → List Value) (hk : ∀ x, (enc x).length = d.sz) {R : α → List Value → Prop} (hm : ∀ x, R x (enc x)) (l : List α) : Reps R d.sz l (l.flatMap enc) :=
 ⟨flat_len enc hk l, fun j p hj => by rw [flat_get enc hk l j p hj]; exact hm p⟩
theorem R_flat {d : Kd α} (enc : α → List Value) (hk : ∀ x, (enc x).length = d.sz) (hm : ∀ (w : World) base ok x, d.M w base ok x (enc x)) {e : Nat} {w : World} {base : Nat} {v : Value} {l : List α}
  (h : w.ownsRow base e d.sz v l.length (l.flatMap enc)) : Kd.R d e w base (fun _ => True) v l :=
 ⟨fun _ _ => trivial, l.flatMap enc, h, flat_reps enc hk (fun x => hm w base _ x) l⟩
end Go.Proofs.YthngpkfckhmiiaaGreatDoor.Sl
end
section
set_option linter.unusedVariables false
set_option linter.unusedSimpArgs false
namespace Go.Proofs.YthngpkfckhmiiaaGreatDoor.Sl.R
open Go.RowKit Go.Lib Go.Proofs.YthngpkfckhmiiaaGreatDoor.Sl
theorem info : (Tryz.prog.info? 26).map (fun i => (i.zero, i.size, i.bytes)) = some (some (.agg #[.int .i64 0, .bool false, .int .u32 0, .int .i64 0, .int .i64 0, .int .i64 0]), 6, 48) := by kernel_rfl
theorem isz : (Tryz.prog.info? 26).map (·.size) = some 6 := by kernel_rfl
set_option maxHeartbeats 1000000 in
set_option maxRecDepth 100000 in
theorem ins_end (v : Value) (n : Nat) (xs cs : List Value) (base vb : Nat) (w : World) (HO : w.ownsRow base 26 6 v n xs) (hbase : base ≤ w.heap.size) (hn : n ≤ 1000000)
  (hvb : w.heap[vb]? = some (.cells cs.toArray 26 (0, 0))) (hcs : cs.length = 6) (h1 : ∀ u ∈ cs, u.oneCell' = true) :
  Calls Tryz.prog 57 #[v, .int .i64 n, .slice (some ⟨vb, 0, none⟩) 1 1] w (Post base 26 6 v (n + 1) (xs ++ cs) w) := by
 obtain ⟨i0, hi0, hz0, hz1, hz2⟩ := info_parts info
 have hnews : ∀ j u, cs[j]? = some u → w.cell? ((⟨vb, 0, none⟩ : Addr).add j) = some u := by simpa using World.news_of_block (cs := cs.toArray) (t := 26) (fr := (0, 0)) hvb
 obtain ⟨A, c, rfl⟩ : ∃ A c, v = .slice A n c := by
  rcases HO.2 with ⟨rfl, rfl⟩ | ⟨g, cap, cur, rfl, _⟩
  ·exact ⟨_, _, rfl⟩
  ·exact ⟨_, _, rfl⟩
 clear hvb
 have H1 := Lib.hid hnews
 have H2 := Lib.hid hcs
 clear hnews hcs
 by_cases hcn : c = n
 ·subst hcn
  go_enter Tryz.func57, Tryz.ntmps57
  go_wp2_with (at_builtin; refine wpList_append_own_at _ rfl _ _ 42 rfl base 26 i0 _ 6 48 Tryz.underlying42 hi0 hz0 hz1 hz2 rfl (by omega) (.slice A c c) c xs rfl HO ⟨vb, 0, none⟩ 1 1 cs rfl (by rw [H2.out]) H1.out h1 (by simp only [maxLen]; omega) (by omega) hbase ?_; intro v1 w1 hown hg _ hat)
  go_ret
  exact ⟨v1, rfl, hown, hg, hat.imp id fun h => ⟨_, h, Nat.le_refl _⟩⟩
 go_enter Tryz.func57, Tryz.ntmps57
 go_wp2_with (at_builtin; refine wpList_append_own_at _ rfl _ _ 42 rfl base 26 i0 _ 6 48 Tryz.underlying42 hi0 hz0 hz1 hz2 rfl (by omega) (.slice A n c) n xs rfl HO ⟨vb, 0, none⟩ 1 1 cs rfl (by rw [H2.out]) H1.out h1 (by simp only [maxLen]; omega) (by omega) hbase ?_; intro v1 w1 hown hg _ hat)
 go_ret
 exact ⟨v1, rfl, hown, hg, hat.imp id fun h => ⟨_, h, Nat.le_refl _⟩⟩
set_option maxHeartbeats 4000000 in
set_option maxRecDepth 100000 in
theorem ins_shift (g n c i : Nat) (cur : Array Value) (xs cs : List Value) (base vb : Nat) (w : World) (hi : i < n) (hg : w.heap[g]? = some (.cells cur 26 (0, 0))) (hbg : base ≤ g) (hnc : n + 1 ≤ c) (hcm : c ≤ maxLen) (hsz : cur.size = c * 6)
  (hxs : cur.toList.take (n * 6) = xs) (h1x : ∀ u ∈ xs, u.oneCell' = true) (hn : n ≤ 1000000)
  (hvb : w.heap[vb]? = some (.cells cs.toArray 26 (0, 0))) (hne : vb ≠ g) (hcs : cs.length = 6) (h1 : ∀ u ∈ cs, u.oneCell' = true) :
  Calls Tryz.prog 57 #[.slice (some ⟨g, 0, none⟩) n c, .int .i64 i, .slice (some ⟨vb, 0, none⟩) 1 1] w (Post base 26 6 (.slice (some ⟨g, 0, none⟩) n c) (n + 1) (xs.take (i * 6) ++ cs ++ xs.drop (i * 6)) w) := by
 have hnews : ∀ j u, cs[j]? = some u → w.cell? ((⟨vb, 0, none⟩ : Addr).add j) = some u := by simpa using World.news_of_block (cs := cs.toArray) (t := 26) (fr := (0, 0)) hvb
 have hcl : cur.toList.length = c * 6 := by simpa using hsz
 have hxl : xs.length = n * 6 := by rw [← hxs, List.length_take]; omega
 -- the first copy: what stands from i on, one further
 have hmv : ∀ j u, ((cur.toList.drop (i * 6)).take (n * 6 - i * 6))[j]? = some u → w.cell? ((⟨g, i * 6, none⟩ : Addr).add j) = some u := by
  intro j u hu
  rw [Addr.add_lit, cell_of_row w g (i * 6 + j) cur 26 (0, 0) hg]
  rw [List.getElem?_take] at hu
  split at hu
  ·rw [List.getElem?_drop] at hu
   simpa using hu
  ·cases hu
 have h1m : ∀ u ∈ ((cur.toList.drop (i * 6)).take (n * 6 - i * 6)), u.oneCell' = true := by
  intro u hu
  refine h1x u ?_
  rw [← hxs]
  rw [← List.drop_take] at hu
  exact List.mem_of_mem_drop hu
 have hml : ((cur.toList.drop (i * 6)).take (n * 6 - i * 6)).length = (n - i) * 6 := by rw [List.length_take, List.length_drop, hcl]; omega
 have hcp1 : ∀ ty dc sc, (Builtin.copy_ #[42, 42] ty #[.slice (some ⟨g, (i + 1) * 6, none⟩) (n - i) dc, .slice (some ⟨g, i * 6, none⟩) (n + 1 - i) sc]).run Tryz.prog w.drew = .ok (goInt (Nat.min (n + 1 - i) (n - i))) (w.drew.setRow g (cur.toList.take ((i + 1) * 6) ++ (cur.toList.drop (i * 6)).take (n * 6 - i * 6) ++ cur.toList.drop ((i + 1) * 6 + (n - i) * 6)).toArray) := fun ty dc sc => by
  rw [← hml]
  exact run_copy_rowK w.drew 42 42 ty 26 6 g ((i + 1) * 6) (n - i) dc ⟨g, i * 6, none⟩ (n + 1 - i) sc cur 26 _ Tryz.underlying42 isz hg (by rw [hml]; simp only [Nat.min_def]; split <;> omega) hmv (by rw [hml]; omega) h1m
 obtain ⟨C1, hC1⟩ : ∃ C1, C1 = (cur.toList.take ((i + 1) * 6) ++ (cur.toList.drop (i * 6)).take (n * 6 - i * 6) ++ cur.toList.drop ((i + 1) * 6 + (n - i) * 6)).toArray := ⟨_, rfl⟩
 rw [← hC1] at hcp1
 have hC1s : C1.size = c * 6 := by
  rw [hC1]
  simp only [List.size_toArray, List.length_append, List.length_take, List.length_drop, hcl]
  omega
 obtain ⟨W1, hW1⟩ : ∃ W1, W1 = w.drew.setRow g C1 := ⟨_, rfl⟩
 rw [← hW1] at hcp1
 have hgW : W1.heap[g]? = some (.cells C1 26 (0, 0)) := by rw [hW1]; exact setRow_heap0 w.drew g cur C1 26 hg
 have hgb1 : w.grownBy W1 (some g) := by rw [hW1]; exact of_drew_grownBy (grownBy_setRow w.drew g C1)
 have hnews1 : ∀ j u, cs[j]? = some u → W1.cell? ((⟨vb, 0, none⟩ : Addr).add j) = some u := fun j u hu => hgb1.cell (hnews j u hu) (by rw [Addr.add_lit]; intro e; injection e with e; exact hne e)
 have hcp2 : ∀ ty dc, (Builtin.copy_ #[42, 42] ty #[.slice (some ⟨g, i * 6, none⟩) (n + 1 - i) dc, .slice (some ⟨vb, 0, none⟩) 1 1]).run Tryz.prog W1 = .ok (goInt (Nat.min 1 (n + 1 - i))) (W1.setRow g (C1.toList.take (i * 6) ++ cs ++ C1.toList.drop (i * 6 + cs.length)).toArray) := fun ty dc =>
  run_copy_rowK W1 42 42 ty 26 6 g (i * 6) (n + 1 - i) dc ⟨vb, 0, none⟩ 1 1 C1 26 cs Tryz.underlying42 isz hgW (by rw [hcs]; simp only [Nat.min_def]; split <;> omega) hnews1 (by rw [hcs, hC1s]; omega) h1
 have hov : ∀ lb cb, (callFunc 76 #[.slice (some ⟨vb, 0, none⟩) 1 1, .slice (some ⟨g, (i + 1) * 6, none⟩) lb cb]).run Tryz.prog w = .ok (.value (.bool false)) w := fun lb cb => by
  rw [run_callFunc_extern Tryz.func76 (by kernel_rfl) (by kernel_rfl) (by kernel_rfl) (e := Extern.SlicesOverlaps.overlaps #[42, 42] #[4]) (by kernel_rfl),
   Lib.run_overlaps_apart w 42 4 26 Tryz.underlying42 6 (fun w => by rfl) ⟨vb, 0, none⟩ ⟨g, (i + 1) * 6, none⟩ 1 1 lb cb hne 26 26 cs.toArray.size cur.size (by simp [World.shape?, hvb]) (by simp [World.shape?, hg]) (by omega) (by simp [World.frozen?, hvb]) (by simp [World.frozen?, hvb])]
  rfl
 have hfin : (C1.toList.take (i * 6) ++ cs ++ C1.toList.drop (i * 6 + cs.length)).toArray.toList.take ((n + 1) * 6) = xs.take (i * 6) ++ cs ++ xs.drop (i * 6) := by
  rw [hC1, hcs]
  have := shift_list cur.toList cs (i * 6) (n * 6) 6 hcs (by omega) (by rw [hcl]; omega)
  rw [hxs] at this
  rw [← this, show (i + 1) * 6 = i * 6 + 6 by omega, show (n + 1) * 6 = n * 6 + 6 by omega, show (n - i) * 6 = n * 6 - i * 6 by omega]
 have hfs : (C1.toList.take (i * 6) ++ cs ++ C1.toList.drop (i * 6 + cs.length)).toArray.size = c * 6 := by
  simp only [List.size_toArray, List.length_append, List.length_take, List.length_drop, Array.length_toList, hC1s, hcs]
  omega
 obtain ⟨C2, hC2⟩ : ∃ C2, C2 = (C1.toList.take (i * 6) ++ cs ++ C1.toList.drop (i * 6 + cs.length)).toArray := ⟨_, rfl⟩
 rw [← hC2] at hcp2 hfin hfs
 have hz2 : ¬ ((i : Int) = (n : Int)) := by omega
 have hin : i ≤ n := by omega
 have mixed : Tryz.prog.follows .mixedOrders = true := by kernel_rfl
 have hw1 : IntKind.i64.wrap ((i : Int) + 1) = (i : Int) + 1 := by rw [IntKind.wrap_i64]; omega
 have hb1 : (0 : Int) ≤ (i : Int) + 1 := by omega
 have htn : ((i : Int) + 1).toNat = i + 1 := by omega
 have hb2 : ¬ (c = i + 1) := by omega
 have hb3 : (i : Int) ≤ (n : Int) + 1 := by omega
 have hb4 : ¬ (c = i) := by omega
 have hb5 : ¬ ((c : Int) < (n : Int) + 1) := by omega
 have hb6 : (n : Int) + 1 ≤ (c : Int) := by omega
 have hcs' := Lib.hid hcs
 have hxl' := Lib.hid hxl
 have P1 := Lib.hid hfin
 have P2 := Lib.hid hfs
 have P3 := Lib.hid hgb1
 have P4 := Lib.hid hgW
 have Q1 := Lib.hid hcp1
 have Q2 := Lib.hid hcp2
 have Q3 := Lib.hid hW1
 clear hfin hfs hgb1 hgW hC1 hC2 hC1s hmv h1m hml hnews hnews1 hcl hsz hxs hxl hcs hcp1 hcp2 hvb hg hW1
 unfold maxLen at hcm
 go_enter Tryz.func57, Tryz.ntmps57
 go_wp2_with (simp only [hov])
 have q1 := Q1.out
 go_region
 clear q1
 have q2 := Q2.out
 go_wp2
 clear q2
 go_ret
 refine ⟨_, rfl, ⟨by simp only [List.length_append, List.length_take, List.length_drop, hcs'.out, hxl'.out]; omega, .inr ⟨g, c, C2, rfl, hbg, setRow_heap0 _ _ _ _ _ P4.out, hnc, by unfold maxLen; exact hcm, P2.out, by rw [P1.out, List.append_assoc]⟩⟩, grownBy_tr P3.out (grownBy_setRow _ _ _), .inl rfl⟩
set_option maxHeartbeats 4000000 in
set_option maxRecDepth 100000 in
theorem ins_grow (g n i : Nat) (cur : Array Value) (xs cs : List Value) (base vb : Nat) (w : World) (hi : i < n) (hg : w.heap[g]? = some (.cells cur 26 (0, 0))) (hbg : base ≤ g) (hbw : base ≤ w.heap.size) (hsz : cur.size = n * 6)
  (hxs : cur.toList.take (n * 6) = xs) (h1x : ∀ u ∈ xs, u.oneCell' = true) (hn : n ≤ 1000000)
  (hvb : w.heap[vb]? = some (.cells cs.toArray 26 (0, 0))) (hcs : cs.length = 6) (h1 : ∀ u ∈ cs, u.oneCell' = true) :
  Calls Tryz.prog 57 #[.slice (some ⟨g, 0, none⟩) n n, .int .i64 i, .slice (some ⟨vb, 0, none⟩) 1 1] w (Post base 26 6 (.slice (some ⟨g, 0, none⟩) n n) (n + 1) (xs.take (i * 6) ++ cs ++ xs.drop (i * 6)) w) := by
 obtain ⟨i0, hi0, hz0, hzs, hzb⟩ := info_parts info
 have hgw : g < w.heap.size := (Array.getElem?_eq_some_iff.1 hg).1
 have hvw : vb < w.heap.size := (Array.getElem?_eq_some_iff.1 hvb).1
 have hnews : ∀ j u, cs[j]? = some u → w.cell? ((⟨vb, 0, none⟩ : Addr).add j) = some u := by simpa using World.news_of_block (cs := cs.toArray) (t := 26) (fr := (0, 0)) hvb
 have hcl : cur.toList.length = n * 6 := by simpa using hsz
 have hxc : cur.toList = xs := by rw [← hxs, List.take_of_length_le (by omega)]
 have hxl : xs.length = n * 6 := by rw [← hxc]; exact hcl
 have hcell : ∀ j u, xs[j]? = some u → w.cell? ⟨g, j, none⟩ = some u := by
  intro j u hu
  rw [cell_of_row w g j cur 26 (0, 0) hg]
  rw [← hxc] at hu
  simpa using hu
 have hold : (Builtin.firstCells i0.size i (.slice (some ⟨g, 0, none⟩) i n)).run Tryz.prog w.drew = .ok (xs.take (i * 6)).toArray w.drew := by
  rw [hzs]
  exact run_firstCells_some w.drew 6 i ⟨g, 0, none⟩ i n (xs.take (i * 6)) (by rw [List.length_take]; omega) (fun j v hj => by
   rw [Addr.add_lit]
   rw [List.getElem?_take] at hj
   split at hj
   ·simpa using hcell j v hj
   ·cases hj)
 have hkk : (n : Int) + 1 - (i : Int) = ((n + 1 - i : Nat) : Int) := by omega
 have hik : i + (n + 1 - i) = n + 1 := by omega
 obtain ⟨G, hG⟩ : ∃ G, G = grownCap w (n + 1) n 26 := ⟨_, rfl⟩
 have hGn : n + 1 ≤ G := by rw [hG]; exact grownCap_ge w _ _ _
 have hGm : G ≤ maxLen := by rw [hG]; exact grownCap_le_maxLen w (n + 1) n 26 (by unfold maxLen; omega)
 obtain ⟨ROW, hROW⟩ : ∃ ROW : Array Value, ROW = (xs.take (i * 6)).toArray ++ Builtin.zeroCells (.agg #[.int .i64 0, .bool false, .int .u32 0, .int .i64 0, .int .i64 0, .int .i64 0] : Value).cells (n + 1 - i) ++ Builtin.zeroCells (.agg #[.int .i64 0, .bool false, .int .u32 0, .int .i64 0, .int .i64 0, .int .i64 0] : Value).cells (G - (n + 1)) := ⟨_, rfl⟩
 have hrz : ∀ ty, (Builtin.append_ #[42, 3] ty #[.slice (some ⟨g, 0, none⟩) i n, .int .i64 ((n : Int) + 1 - (i : Int))]).run Tryz.prog w = .ok (.slice (some ⟨w.heap.size, 0, none⟩) (n + 1) G) (w.drew.alloc (.cells ROW 26)) := fun ty => by
  have h := Lib.run_append_grow_zeros w 42 3 ty 26 i0 _ .i64 .i64 Tryz.underlying42 Tryz.underlying3 hi0 hz0 (some ⟨g, 0, none⟩) i n (xs.take (i * 6)) hold (n + 1 - i) (by omega) (by omega) (by omega) (by omega) (by rw [hzb]; omega) (by rw [hzb, hik]; exact growslice_fits (by omega) (by omega))
  rw [hik, ← hG] at h
  rw [hkk, hROW]
  exact h
 have hRs : ROW.size = G * 6 := by
  rw [hROW]
  simp only [Array.size_append, List.size_toArray, List.length_take, hxl, size_zeroCells]
  have : (.agg #[.int .i64 0, .bool false, .int .u32 0, .int .i64 0, .int .i64 0, .int .i64 0] : Value).cells.size = 6 := rfl
  rw [this]
  omega
 have hRt : ROW.toList.take (i * 6) = xs.take (i * 6) := by
  rw [hROW]
  simp only [Array.toList_append]
  rw [List.append_assoc, List.take_append_of_le_length (by rw [List.length_take]; omega)]
  exact List.take_of_length_le (by rw [List.length_take]; omega)
 obtain ⟨W1, hW1⟩ : ∃ W1, W1 = w.drew.alloc (.cells ROW 26) := ⟨_, rfl⟩
 rw [← hW1] at hrz
 have hg1 : w.grownBy W1 none := by rw [hW1]; exact of_drew_grownBy (World.grownBy_alloc w.drew _ none)
 have hgW : W1.heap[w.heap.size]? = some (.cells ROW 26 (0, 0)) := by rw [hW1]; exact heap_alloc_new w.drew _
 have hnews1 : ∀ j u, cs[j]? = some u → W1.cell? ((⟨vb, 0, none⟩ : Addr).add j) = some u := fun j u hu => hg1.cell (hnews j u hu) (by simp)
 have hcpA : ∀ ty dc, (Builtin.copy_ #[42, 42] ty #[.slice (some ⟨w.heap.size, i * 6, none⟩) (n + 1 - i) dc, .slice (some ⟨vb, 0, none⟩) 1 1]).run Tryz.prog W1 = .ok (goInt (Nat.min 1 (n + 1 - i))) (W1.setRow w.heap.size (ROW.toList.take (i * 6) ++ cs ++ ROW.toList.drop (i * 6 + cs.length)).toArray) := fun ty dc =>
  run_copy_rowK W1 42 42 ty 26 6 w.heap.size (i * 6) (n + 1 - i) dc ⟨vb, 0, none⟩ 1 1 ROW 26 cs Tryz.underlying42 isz hgW (by rw [hcs]; simp only [Nat.min_def]; split <;> omega) hnews1 (by rw [hcs, hRs]; omega) h1
 obtain ⟨C1, hC1⟩ : ∃ C1, C1 = (ROW.toList.take (i * 6) ++ cs ++ ROW.toList.drop (i * 6 + cs.length)).toArray := ⟨_, rfl⟩
 rw [← hC1] at hcpA
 have hC1s : C1.size = G * 6 := by
  rw [hC1]
  simp only [List.size_toArray, List.length_append, List.length_take, List.length_drop, Array.length_toList, hRs, hcs]
  omega
 obtain ⟨W2, hW2⟩ : ∃ W2, W2 = W1.setRow w.heap.size C1 := ⟨_, rfl⟩
 rw [← hW2] at hcpA
 have hgW2 : W2.heap[w.heap.size]? = some (.cells C1 26 (0, 0)) := by rw [hW2]; exact setRow_heap0 W1 _ ROW C1 26 hgW
 have hg2 : w.grownBy W2 none := by rw [hW2]; exact grownBy_new hg1 (Nat.le_refl _) (grownBy_setRow W1 w.heap.size C1)
 have hdl : (xs.drop (i * 6)).length = (n - i) * 6 := by rw [List.length_drop, hxl]; omega
 have hmv : ∀ j u, (xs.drop (i * 6))[j]? = some u → W2.drew.cell? ((⟨g, i * 6, none⟩ : Addr).add j) = some u := by
  intro j u hu
  rw [Addr.add_lit]
  rw [List.getElem?_drop] at hu
  exact hg2.cell (hcell _ u hu) (by simp)
 have hcpB : ∀ ty dc sc, (Builtin.copy_ #[42, 42] ty #[.slice (some ⟨w.heap.size, (i + 1) * 6, none⟩) (n - i) dc, .slice (some ⟨g, i * 6, none⟩) (n - i) sc]).run Tryz.prog W2.drew = .ok (goInt (Nat.min (n - i) (n - i))) (W2.drew.setRow w.heap.size (C1.toList.take ((i + 1) * 6) ++ xs.drop (i * 6) ++ C1.toList.drop ((i + 1) * 6 + (xs.drop (i * 6)).length)).toArray) := fun ty dc sc =>
  run_copy_rowK W2.drew 42 42 ty 26 6 w.heap.size ((i + 1) * 6) (n - i) dc ⟨g, i * 6, none⟩ (n - i) sc C1 26 _ Tryz.underlying42 isz hgW2 (by rw [hdl]; simp only [Nat.min_def]; split <;> omega) hmv (by rw [hdl, hC1s]; omega) (fun u hu => h1x u (List.mem_of_mem_drop hu))
 obtain ⟨C2, hC2⟩ : ∃ C2, C2 = (C1.toList.take ((i + 1) * 6) ++ xs.drop (i * 6) ++ C1.toList.drop ((i + 1) * 6 + (xs.drop (i * 6)).length)).toArray := ⟨_, rfl⟩
 rw [← hC2] at hcpB
 have hC2s : C2.size = G * 6 := by
  rw [hC2]
  simp only [List.size_toArray, List.length_append, List.length_take, List.length_drop, Array.length_toList, hC1s, hxl]
  omega
 have hfin : C2.toList.take ((n + 1) * 6) = xs.take (i * 6) ++ cs ++ xs.drop (i * 6) := by
  rw [hC2, hC1, hcs, hdl]
  have := grow_list ROW.toList xs cs (i * 6) (n * 6) 6 hcs (by omega) hxl hRt (by rw [Array.length_toList, hRs]; omega)
  rw [← this, show (i + 1) * 6 = i * 6 + 6 by omega, show (n + 1) * 6 = n * 6 + 6 by omega, show (n - i) * 6 = n * 6 - i * 6 by omega]
 have hz2 : ¬ ((i : Int) = (n : Int)) := by omega
 have hin : i ≤ n := by omega
 have mixed : Tryz.prog.follows .mixedOrders = true := by kernel_rfl
 have hz3 : (n : Int) < (n : Int) + 1 := by omega
 have hw1 : IntKind.i64.wrap ((i : Int) + 1) = (i : Int) + 1 := by rw [IntKind.wrap_i64]; omega
 have hb1 : (0 : Int) ≤ (i : Int) + 1 := by omega
 have htn : ((i : Int) + 1).toNat = i + 1 := by omega
 have hGi : ¬ (G = i) := by omega
 have hGim : ¬ (G = i + 1) := by omega
 have hci : ¬ (n = i) := by omega
 have hb3 : (i : Int) ≤ (n : Int) := by omega
 have P0 := Lib.hid hGn
 have P1 := Lib.hid hfin
 have P2 := Lib.hid hC2s
 have P3 := Lib.hid hg2
 have P4 := Lib.hid hgW2
 have P5 := Lib.hid hGm
 have P6 := Lib.hid hxl
 have P7 := Lib.hid hcs
 have Q1 := Lib.hid hcpA
 have Q2 := Lib.hid hcpB
 have Q3 := Lib.hid hrz
 have hGl : (n : Int) + 1 ≤ (G : Int) := by omega
 clear hGn hfin hC2s hg2 hgW2 hGm hxl hcs hcpA hcpB hrz hW1 hW2 hC1 hC2 hC1s hG hROW hRs hRt hg1 hgW hnews hnews1 hmv hdl hold hcell hxc hcl hxs hsz hkk hik hg hvb hgw hvw
 go_enter Tryz.func57, Tryz.ntmps57
 go_wp2_with (at_builtin; refine Lib.wpList_append_run _ rfl _ _ _ _ rfl _ _ rfl rfl _ _ (Q3.out _) ?_; have q1 := Q1.out)
 clear q1
 have q2 := Q2.out
 go_region
 clear q2
 go_wp2
 go_ret
 have hGm := P5.out
 have hGn := P0.out
 have hxl := P6.out
 have hcs := P7.out
 refine ⟨_, rfl, ⟨by simp only [List.length_append, List.length_take, List.length_drop, hcs, hxl]; omega, .inr ⟨w.heap.size, G, C2, rfl, ?_, setRow_heap0 _ _ _ _ _ P4.out, hGn, hGm, P2.out, by rw [P1.out, List.append_assoc]⟩⟩, ?_, .inr ⟨_, rfl, Nat.le_refl _⟩⟩
 ·omega
 ·exact grownBy_new (row := some g) ⟨P3.out.os, P3.out.tape, P3.out.output, P3.out.size, fun k hk _ => P3.out.block k hk (by simp)⟩ (Nat.le_refl _) (of_drew_grownBy (grownBy_setRow _ _ _))
theorem insert (v : Value) (n i : Nat) (xs cs : List Value) (base vb : Nat) (w : World) (HO : w.ownsRow base 26 6 v n xs) (hbase : base ≤ w.heap.size) (hi : i ≤ n) (hn : n ≤ 1000000) (h1x : ∀ u ∈ xs, u.oneCell' = true)
  (hvb : w.heap[vb]? = some (.cells cs.toArray 26 (0, 0))) (hne : v.ownBlock ≠ some vb) (hcs : cs.length = 6) (h1 : ∀ u ∈ cs, u.oneCell' = true) :
  Calls Tryz.prog 57 #[v, .int .i64 i, .slice (some ⟨vb, 0, none⟩) 1 1] w (Post base 26 6 v (n + 1) (xs.take (i * 6) ++ cs ++ xs.drop (i * 6)) w) := by
 by_cases hin : i = n
 ·subst hin
  have e1 : xs.take (i * 6) ++ cs ++ xs.drop (i * 6) = xs ++ cs := by rw [List.take_of_length_le (by rw [HO.1]; exact Nat.le_refl _), List.drop_eq_nil_of_le (by rw [HO.1]; exact Nat.le_refl _), List.append_nil]
  rw [e1]
  exact ins_end v i xs cs base vb w HO hbase hn hvb hcs h1
 ·rcases HO.2 with ⟨rfl, h0⟩ | ⟨g, cap, cur, rfl, hbg, hg, hnc, hcm, hsz, hxs⟩
  ·omega
  ·by_cases hc : n + 1 ≤ cap
   ·exact ins_shift g n cap i cur xs cs base vb w (by omega) hg hbg hc hcm hsz hxs h1x hn hvb (fun e => hne (by rw [e]; rfl)) hcs h1
   ·obtain rfl : cap = n := by omega
    exact ins_grow g cap i cur xs cs base vb w (by omega) hg hbg hbase hsz hxs h1x hn hvb hcs h1
end Go.Proofs.YthngpkfckhmiiaaGreatDoor.Sl.R
end
section
set_option linter.unusedVariables false
set_option linter.unusedSimpArgs false
namespace Go.Proofs.YthngpkfckhmiiaaGreatDoor.Sl.R
open Go.RowKit Go.Lib Go.Proofs.YthngpkfckhmiiaaGreatDoor.Sl
theorem dinfo : (Tryz.prog.info? 26).map (fun i => (i.zero, i.size, i.bytes)) = some (some (.agg #[.int .i64 0, .bool false, .int .u32 0, .int .i64 0, .int .i64 0, .int .i64 0]), 6, 48) := by kernel_rfl
theorem zlen : (Builtin.zeroCells (.agg #[.int .i64 0, .bool false, .int .u32 0, .int .i64 0, .int .i64 0, .int .i64 0] : Value).cells 1).toList.length = 6 := by kernel_rfl
theorem zone : (Builtin.zeroCells (.agg #[.int .i64 0, .bool false, .int .u32 0, .int .i64 0, .int .i64 0, .int .i64 0] : Value).cells 1).toList.all (fun u => u.oneCell') = true := by kernel_rfl
set_option maxHeartbeats 4000000 in
set_option maxRecDepth 100000 in
theorem delete (v : Value) (n i : Nat) (xs : List Value) (base : Nat) (w : World) (HO : w.ownsRow base 26 6 v n xs) (hi : i < n) (hn : n ≤ 1000000) (h1x : ∀ u ∈ xs, u.oneCell' = true) :
  Calls Tryz.prog 53 #[v, .int .i64 i, .int .i64 ((i : Int) + 1)] w (Post base 26 6 v (n - 1) (xs.take (i * 6) ++ xs.drop ((i + 1) * 6)) w) := by
 obtain ⟨i0, hi0, hz0, hzs, hzb⟩ := info_parts dinfo
 rcases HO.2 with ⟨rfl, h0⟩ | ⟨g, c, cur, rfl, hbg, hg, hnc, hcm, hsz, hxs⟩
 ·omega
 have hcl : cur.toList.length = c * 6 := by simpa using hsz
 have hxl : xs.length = n * 6 := HO.1
 clear HO
 obtain ⟨news, hnews⟩ : ∃ news, news = (cur.toList.drop ((i + 1) * 6)).take (n * 6 - (i + 1) * 6) := ⟨_, rfl⟩
 have hnl : news.length = (n - (i + 1)) * 6 := by rw [hnews, List.length_take, List.length_drop, hcl]; omega
 have h1n : ∀ u ∈ news, u.oneCell' = true := by
  intro u hu
  refine h1x u ?_
  rw [← hxs]
  rw [hnews, ← List.drop_take] at hu
  exact List.mem_of_mem_drop hu
 obtain ⟨ad, had, hsrc⟩ : ∃ ad : Addr, (if c = i + 1 then some (⟨g, 0, none⟩ : Addr) else some ⟨g, (i + 1) * 6, none⟩) = some ad ∧ ∀ j u, news[j]? = some u → w.drew.cell? (ad.add j) = some u := by
  by_cases hc : c = i + 1
  ·refine ⟨⟨g, 0, none⟩, by simp [hc], fun j u hu => ?_⟩
   have h0 : news = [] := List.eq_nil_of_length_eq_zero (by rw [hnl]; omega)
   rw [h0] at hu
   simp at hu
  ·refine ⟨⟨g, (i + 1) * 6, none⟩, by simp [hc], fun j u hu => ?_⟩
   show w.cell? _ = _
   rw [Addr.add_lit, cell_of_row w g _ cur 26 (0, 0) hg]
   rw [hnews, List.getElem?_take] at hu
   split at hu
   ·rw [List.getElem?_drop] at hu
    simpa using hu
   ·cases hu
 obtain ⟨C1, hC1⟩ : ∃ C1, C1 = (cur.toList.take (i * 6) ++ news ++ cur.toList.drop (i * 6 + news.length)).toArray := ⟨_, rfl⟩
 have hap : ∀ ty, (Builtin.append_ #[42, 42] ty #[.slice (some ⟨g, 0, none⟩) i c, .slice (some ad) (n - (i + 1)) (c - (i + 1))]).run Tryz.prog w.drew = .ok (.slice (some ⟨g, 0, none⟩) (i + (n - (i + 1))) c) (w.drew.setRow g C1) := fun ty => by
  rw [hC1]
  have := run_append_room (P := Tryz.prog) w.drew 42 ty 26 i0 Tryz.underlying42 hi0 g i c cur hg ad (n - (i + 1)) (c - (i + 1)) news (by rw [hzs]; exact hnl) hsrc h1n (by omega) (by rw [hzs, hnl]; omega)
  rw [hzs] at this
  exact this
 have hC1s : C1.size = c * 6 := by
  rw [hC1]
  simp only [List.size_toArray, List.length_append, List.length_take, List.length_drop, hcl, hnl]
  omega
 obtain ⟨W1, hW1⟩ : ∃ W1, W1 = w.drew.setRow g C1 := ⟨_, rfl⟩
 rw [← hW1] at hap
 have hgW : W1.heap[g]? = some (.cells C1 26 (0, 0)) := by rw [hW1]; exact setRow_heap0 w.drew g cur C1 26 hg
 have hgb1 : w.grownBy W1 (some g) := by rw [hW1]; exact of_drew_grownBy (grownBy_setRow w.drew g C1)
 have hcr : ∀ ty cc, (Builtin.clear_ #[42] ty #[.slice (some ⟨g, (i + (n - (i + 1))) * 6, none⟩) (n - (i + (n - (i + 1)))) cc]).run Tryz.prog W1 = .ok (.tuple #[]) (W1.setRow g (C1.toList.take ((i + (n - (i + 1))) * 6) ++ (Builtin.zeroCells (.agg #[.int .i64 0, .bool false, .int .u32 0, .int .i64 0, .int .i64 0, .int .i64 0] : Value).cells 1).toList ++ C1.toList.drop ((i + (n - (i + 1))) * 6 + 6)).toArray) := fun ty cc => by
  rw [show n - (i + (n - (i + 1))) = 1 by omega]
  exact run_clear_one W1 42 ty 26 6 g ((i + (n - (i + 1))) * 6) cc C1 26 _ Tryz.underlying42 (fun w => by rfl) rfl (fun u hu => List.all_eq_true.1 zone u hu) hgW (by rw [hC1s]; omega)
 obtain ⟨C2, hC2⟩ : ∃ C2, C2 = (C1.toList.take ((i + (n - (i + 1))) * 6) ++ (Builtin.zeroCells (.agg #[.int .i64 0, .bool false, .int .u32 0, .int .i64 0, .int .i64 0, .int .i64 0] : Value).cells 1).toList ++ C1.toList.drop ((i + (n - (i + 1))) * 6 + 6)).toArray := ⟨_, rfl⟩
 rw [← hC2] at hcr
 have hzl : (Builtin.zeroCells (.agg #[.int .i64 0, .bool false, .int .u32 0, .int .i64 0, .int .i64 0, .int .i64 0] : Value).cells 1).toList.length = 6 := zlen
 have hC2s : C2.size = c * 6 := by
  rw [hC2]
  simp only [List.size_toArray, List.length_append, List.length_take, List.length_drop, Array.length_toList, hC1s, hzl]
  omega
 have hfin : C2.toList.take ((n - 1) * 6) = xs.take (i * 6) ++ xs.drop ((i + 1) * 6) := by
  have := del_list cur.toList (Builtin.zeroCells (.agg #[.int .i64 0, .bool false, .int .u32 0, .int .i64 0, .int .i64 0, .int .i64 0] : Value).cells 1).toList (i * 6) 6 (n * 6) (by omega) (by rw [hcl]; omega)
  rw [hxs] at this
  rw [hC2, hC1, hnl, hnews]
  rw [show (i + 1) * 6 = i * 6 + 6 by omega, ← this, show (n - 1) * 6 = n * 6 - 6 by omega, show (i + (n - (i + 1))) * 6 = n * 6 - 6 by omega, show n * 6 - 6 + 6 = n * 6 by omega, show (n - (i + 1)) * 6 = n * 6 - (i * 6 + 6) by omega]
 have hin : i ≤ n := by omega
 have hin1 : i + 1 ≤ n := by omega
 have hic : i ≤ c := by omega
 have mixed : Tryz.prog.follows .mixedOrders = true := by kernel_rfl
 have hz2 : ¬ ((i : Int) = (i : Int) + 1) := by omega
 have hb1 : (0 : Int) ≤ (i : Int) + 1 := by omega
 have htn : ((i : Int) + 1).toNat = i + 1 := by omega
 have hb3 : (i : Int) + 1 ≤ (n : Int) := by omega
 have hb4 : ¬ (c = i) := by omega
 have hb5 : ¬ (c = i + (n - (i + 1))) := by omega
 have hb6 : i + (n - (i + 1)) ≤ n := by omega
 unfold maxLen at hcm
 have P1 := Lib.hid hfin
 have P2 := Lib.hid hC2s
 have P3 := Lib.hid hgb1
 have P4 := Lib.hid hgW
 have P6 := Lib.hid hxl
 have Q1 := Lib.hid hap
 have Q2 := Lib.hid hcr
 clear hfin hC2s hgb1 hgW hxl hap hcr hW1 hC1 hC2 hC1s hzl hnl h1n hsrc hnews hcl hsz hxs hg
 go_enter Tryz.func53, Tryz.ntmps53
 go_wp2
 go_region_law (refine step_append_runI rfl (.tmp 22) (.tmp 25) 42 42 rfl _ _ (by simp [Act.eval, Act.put]) (by simp [Act.eval, Act.put, had]) (Q1.out _) ?_)
 have q2 := Q2.out
 go_wp2
 clear q2
 go_ret
 have hxl := P6.out
 refine ⟨_, rfl, ⟨by simp only [List.length_append, List.length_take, List.length_drop, hxl]; omega, .inr ⟨g, c, C2, by rw [show n - 1 = i + (n - (i + 1)) by omega]; rfl, hbg, setRow_heap0 _ _ _ _ _ P4.out, by omega, by unfold maxLen; exact hcm, P2.out, P1.out⟩⟩, grownBy_tr P3.out (grownBy_setRow _ _ _), .inl rfl⟩
end Go.Proofs.YthngpkfckhmiiaaGreatDoor.Sl.R
end
section
set_option linter.unusedVariables false
set_option linter.unusedSimpArgs false
namespace Go.Proofs.YthngpkfckhmiiaaGreatDoor.Sl.R
open Go.RowKit Go.Lib Go.Proofs.YthngpkfckhmiiaaGreatDoor.Sl
theorem cinfo : (Tryz.prog.info? 26).map (fun i => (i.zero, i.size, i.bytes)) = some (some (.agg #[.int .i64 0, .bool false, .int .u32 0, .int .i64 0, .int .i64 0, .int .i64 0]), 6, 48) := by kernel_rfl
theorem clone_nil (c : Nat) (w : World) : Calls Tryz.prog 54 #[.slice none 0 c] w fun e w' => e = .returned (.slice none 0 0) ∧ w = w' := by
 have q := fun (w : World) (a : Option Addr) (n c n' c' : Nat) => Lib.run_eql_slice_nil (P := Tryz.prog) w 42 26 a n c n' c' Tryz.underlying42
 go_enter Tryz.func54, Tryz.ntmps54
 go_wp2
 go_ret
 exact ⟨rfl, rfl⟩
set_option maxHeartbeats 1000000 in
theorem clone_some (a : Addr) (n c : Nat) (xs : List Value) (w : World) (hl : xs.length = n * 6) (hc : ∀ j u, xs[j]? = some u → w.cell? (a.add j) = some u) (h1 : ∀ u ∈ xs, u.oneCell' = true) (hn : n ≤ 1000000) (hw : ∀ j u, xs[j]? = some u → (a.add j).block < w.heap.size) :
  Calls Tryz.prog 54 #[.slice (some a) n c] w fun e w' => ∃ v, e = .returned v ∧ w'.ownsRow w.heap.size 26 6 v n xs ∧ Below w.heap.size w w' := by
 obtain ⟨i0, hi0, hz0, hz1, hz2⟩ := info_parts cinfo
 have hown := World.ownsRow_made (base := w.heap.size) (e := 26) (size := 6) w #[] 0 (Nat.le_refl _) (by simp [maxLen]) (by simp)
 have hc' : ∀ j u, xs[j]? = some u → (w.alloc (.cells #[] 26)).cell? (a.add j) = some u := fun j u hu => (World.cell?_alloc_lt w _ _ (hw j u hu)).trans (hc j u hu)
 have H1 := Lib.hid hc'
 have H2 := Lib.hid hown
 clear hc' hown hc hw
 have q := fun (w : World) (a : Option Addr) (n c n' c' : Nat) => Lib.run_eql_slice_nil (P := Tryz.prog) w 42 26 a n c n' c' Tryz.underlying42
 go_enter Tryz.func54, Tryz.ntmps54
 go_wp2_with (at_builtin; refine wpList_append_own_at _ rfl _ _ 42 rfl w.heap.size 26 i0 _ 6 48 Tryz.underlying42 hi0 hz0 hz1 hz2 rfl (by omega) (.slice (some ⟨w.heap.size, 0, none⟩) 0 0) 0 [] rfl H2.out a n c xs rfl hl H1.out h1 (by simp only [maxLen]; omega) (by omega) (by simp) ?_; intro v1 w1 hown1 hg _ hat)
 go_ret
 refine ⟨v1, rfl, by simpa using hown1, ?_⟩
 exact ((Below.refl _ _).alloc (Nat.le_refl _) _).grown hg (by simp) (by simp [Value.ownBlock])
end Go.Proofs.YthngpkfckhmiiaaGreatDoor.Sl.R
end
section
set_option linter.unusedVariables false
set_option linter.unusedSimpArgs false
namespace Go.Proofs.YthngpkfckhmiiaaGreatDoor.Sl.R
open Go.RowKit Go.Lib Go.Proofs.YthngpkfckhmiiaaGreatDoor.Sl
variable {α : Type} [Inhabited α]
theorem len_cells (l : List Value) (h : l.length = 6) : ∃ v0 v1 v2 v3 v4 v5, l = [v0, v1, v2, v3, v4, v5] := by
 match l, h with
 | [v0, v1, v2, v3, v4, v5], _ => exact ⟨v0, v1, v2, v3, v4, v5, rfl⟩
set_option maxHeartbeats 4000000 in
set_option maxRecDepth 100000 in
theorem bsearch (enc : α → List Value) (hk : ∀ x, (enc x).length = 6) (cft : α → Int) (tv : Value) (g : Nat) (lb : Array Value) (eg : ∀ args w, (callFunc g args).run Tryz.prog w = .ok (.enter g args) w)
  (b off n c : Nat) (zs : List α) (w : World)
  (hp : ∀ (W : World) (x : α), x ∈ zs → Below w.heap.size w W → Calls Tryz.prog g (#[.agg (enc x).toArray, tv] ++ lb) W fun e w' => e = .returned (.int .i64 (cft x)) ∧ Below w.heap.size w w')
  (hz : zs.length = n) (hbig : n ≤ 1000000) (hb : b < w.heap.size)
  (hc : ∀ j, j < zs.length → ∀ i v, (enc zs[j]!)[i]? = some v → w.cell? ⟨b, off + j * 6 + i, none⟩ = some v)
  (hmono : ∀ i j, i ≤ j → j < n → cft zs[j]! < 0 → cft zs[i]! < 0) :
  Calls Tryz.prog 74 #[.slice (some ⟨b, off, none⟩) n c, tv, .func (.func g) #[] lb] w fun e w' =>
   e = .returned (.tuple #[.int .i64 (zs.countP (fun x => decide (cft x < 0)) : Nat), .bool (decide (zs.countP (fun x => decide (cft x < 0)) < n) && decide (cft zs[zs.countP (fun x => decide (cft x < 0))]! = 0))]) ∧ Below w.heap.size w w' := by
 have hrow : ∀ (W : World), Below w.heap.size w W → ∀ j, j < zs.length → ∀ i v, (enc zs[j]!)[i]? = some v → W.cell? ⟨b, off + j * 6 + i, none⟩ = some v := fun W hW j hj i v hi => by
  rw [hW.cell (p := ⟨b, off + j * 6 + i, none⟩) hb]
  exact hc j hj i v hi
 clear hc
 have HC : Aside _ := hp
 have HR : Aside _ := hrow
 have M : Aside _ := hmono
 clear hp hrow hmono
 generalize hcnt : zs.countP (fun x => decide (cft x < 0)) = cnt
 have CN : Aside (zs.countP (fun x => decide (cft x < 0)) = cnt) := hcnt
 clear hcnt
 generalize hfin : (decide (cnt < n) && decide (cft zs[cnt]! = 0)) = fin
 have FIN : Aside ((decide (cnt < n) && decide (cft zs[cnt]! = 0)) = fin) := hfin
 clear hfin
 have HZ : Aside (zs.length = n) := hz
 clear hz
 go_enter Tryz.func74, Tryz.ntmps74
 go_wp2
 go_loopg [9, 10] n (fun kx s9 s10 wr => ∃ lo hi : Nat, s9 = .int .i64 lo ∧ s10 = .int .i64 hi ∧ lo ≤ hi ∧ hi ≤ n ∧ hi - lo ≤ kx ∧ Aside (Below w.heap.size w wr) ∧
  Aside ((∀ t, t < lo → cft zs[t]! < 0) ∧ (∀ t, hi ≤ t → t < n → 0 ≤ cft zs[t]!)))
 case atStart => exact ⟨0, n, rfl, rfl, Nat.zero_le _, Nat.le_refl _, by omega, Below.refl _ _, (⟨fun t ht => absurd ht (Nat.not_lt_zero _), fun t h1 h2 => by omega⟩ : (∀ t, t < 0 → cft zs[t]! < 0) ∧ (∀ t, n ≤ t → t < n → 0 ≤ cft zs[t]!))⟩
 case round =>
  obtain ⟨lo, hi, rfl, rfl, hlh, hin, hg, S1, I⟩ := hrel
  by_cases hlt : lo < hi
  ·have l2 := HR.out wr S1.out ((lo + hi) / 2) (by rw [HZ.out]; omega)
   have hcall := HC.out wr zs[(lo + hi) / 2]! (mem_bang zs _ (by rw [HZ.out]; omega)) S1.out
   generalize hy : zs[(lo + hi) / 2]! = y at l2 hcall
   have Y : Aside (zs[(lo + hi) / 2]! = y) := hy
   clear hy
   obtain ⟨v0, v1, v2, v3, v4, v5, he⟩ := len_cells (enc y) (hk y)
   rw [he] at l2 hcall
   have c0 : wr.cell? ⟨b, off + ((lo + hi) / 2) * 6, none⟩ = some v0 := by simpa using l2 0 v0 rfl
   have c1 : wr.cell? ⟨b, off + ((lo + hi) / 2) * 6 + 1, none⟩ = some v1 := l2 1 v1 rfl
   have c2 : wr.cell? ⟨b, off + ((lo + hi) / 2) * 6 + 2, none⟩ = some v2 := l2 2 v2 rfl
   have c3 : wr.cell? ⟨b, off + ((lo + hi) / 2) * 6 + 3, none⟩ = some v3 := l2 3 v3 rfl
   have c4 : wr.cell? ⟨b, off + ((lo + hi) / 2) * 6 + 4, none⟩ = some v4 := l2 4 v4 rfl
   have c5 : wr.cell? ⟨b, off + ((lo + hi) / 2) * 6 + 5, none⟩ = some v5 := l2 5 v5 rfl
   clear l2 he
   by_cases hyx : cft y < 0
   ·go_wp2_with (go_at_fn g; refine hcall.mono ?_; rintro e w' ⟨rfl, hb'⟩)
    go_roundg (hi - ((lo + hi) / 2 + 1))
    case measure => omega
    case rel =>
     have I2 : Aside ((∀ t, t < (lo + hi) / 2 + 1 → cft zs[t]! < 0) ∧ (∀ t, hi ≤ t → t < n → 0 ≤ cft zs[t]!)) := ⟨fun t ht => M.out t ((lo + hi) / 2) (by omega) (by omega) (by rw [Y.out]; exact hyx), I.out.2⟩
     exact ⟨(lo + hi) / 2 + 1, hi, by rw [show ((lo : Int) + (hi : Int)) / 2 + 1 = (((lo + hi) / 2 + 1 : Nat) : Int) by omega], rfl, by omega, hin, Nat.le_refl _, hb', I2⟩
   ·go_wp2_with (go_at_fn g; refine hcall.mono ?_; rintro e w' ⟨rfl, hb'⟩)
    go_roundg ((lo + hi) / 2 - lo)
    case measure => omega
    case rel =>
     have I2 : Aside ((∀ t, t < lo → cft zs[t]! < 0) ∧ (∀ t, (lo + hi) / 2 ≤ t → t < n → 0 ≤ cft zs[t]!)) := ⟨I.out.1, fun t ht htn => Int.not_lt.1 fun h => by have := M.out ((lo + hi) / 2) t ht htn h; rw [Y.out] at this; omega⟩
     exact ⟨lo, (lo + hi) / 2, rfl, by rw [show ((lo : Int) + (hi : Int)) / 2 = (((lo + hi) / 2 : Nat) : Int) by omega], by omega, by omega, Nat.le_refl _, hb', I2⟩
  ·obtain rfl : hi = lo := by omega
   have ecnt : cnt = hi := by
    rw [← CN.out]
    refine countP_boundaryK _ zs hi (by rw [HZ.out]; exact hin) (fun t ht => ?_) (fun t h3 h4 => ?_)
    ·exact decide_eq_true (I.out.1 t ht)
    ·exact decide_eq_false (by have := I.out.2 t h3 (by rw [← HZ.out]; exact h4); omega)
   subst ecnt
   by_cases hn : cnt < n
   ·have l2 := HR.out wr S1.out cnt (by rw [HZ.out]; exact hn)
    have hcall := HC.out wr zs[cnt]! (mem_bang zs _ (by rw [HZ.out]; exact hn)) S1.out
    generalize hy : zs[cnt]! = y at l2 hcall
    have Y : Aside (zs[cnt]! = y) := hy
    clear hy
    obtain ⟨v0, v1, v2, v3, v4, v5, he⟩ := len_cells (enc y) (hk y)
    rw [he] at l2 hcall
    have c0 : wr.cell? ⟨b, off + cnt * 6, none⟩ = some v0 := by simpa using l2 0 v0 rfl
    have c1 : wr.cell? ⟨b, off + cnt * 6 + 1, none⟩ = some v1 := l2 1 v1 rfl
    have c2 : wr.cell? ⟨b, off + cnt * 6 + 2, none⟩ = some v2 := l2 2 v2 rfl
    have c3 : wr.cell? ⟨b, off + cnt * 6 + 3, none⟩ = some v3 := l2 3 v3 rfl
    have c4 : wr.cell? ⟨b, off + cnt * 6 + 4, none⟩ = some v4 := l2 4 v4 rfl
    have c5 : wr.cell? ⟨b, off + cnt * 6 + 5, none⟩ = some v5 := l2 5 v5 rfl
    clear l2 he
    by_cases hyx : cft y = 0
    ·go_wp2_with (go_at_fn g; refine hcall.mono ?_; rintro e w' ⟨rfl, hb'⟩)
     go_ret2
     exact ⟨by rw [← FIN.out, Y.out]; simp [hn, hyx], hb'⟩
    ·go_wp2_with (go_at_fn g; refine hcall.mono ?_; rintro e w' ⟨rfl, hb'⟩)
     go_ret2
     exact ⟨by rw [← FIN.out, Y.out]; simp [hn, hyx], hb'⟩
   ·go_wp2
    go_ret2
    exact ⟨by rw [← FIN.out]; simp [hn], S1.out⟩
set_option maxHeartbeats 1000000 in
theorem bsearch_none (A : Option Addr) (c : Nat) (tv f : Value) (w : World) :
  Calls Tryz.prog 74 #[.slice A 0 c, tv, f] w fun e w' => e = .returned (.tuple #[.int .i64 0, .bool false]) ∧ Below w.heap.size w w' := by
 go_enter Tryz.func74, Tryz.ntmps74
 go_wp2
 go_loopg [9, 10] 0 (fun kx s9 s10 wr => s9 = .int .i64 0 ∧ s10 = .int .i64 0 ∧ Aside (Below w.heap.size w wr))
 case atStart => exact ⟨rfl, rfl, Below.refl _ _⟩
 case round =>
  obtain ⟨rfl, rfl, S1⟩ := hrel
  go_wp2
  go_ret2
  exact ⟨rfl, S1.out⟩
set_option maxHeartbeats 2000000 in
set_option maxRecDepth 100000 in
theorem index_func (enc : α → List Value) (hk : ∀ x, (enc x).length = 6) (p : α → Bool) (g : Nat) (lb : Array Value) (eg : ∀ args w, (callFunc g args).run Tryz.prog w = .ok (.enter g args) w)
  (b off n c : Nat) (zs : List α) (w : World)
  (hp : ∀ (W : World) (x : α), x ∈ zs → Below w.heap.size w W → Calls Tryz.prog g (#[.agg (enc x).toArray] ++ lb) W fun e w' => e = .returned (.bool (p x)) ∧ Below w.heap.size w w')
  (hz : zs.length = n) (hbig : n ≤ 1000000) (hb : b < w.heap.size)
  (hc : ∀ j, j < zs.length → ∀ i v, (enc zs[j]!)[i]? = some v → w.cell? ⟨b, off + j * 6 + i, none⟩ = some v) :
  Calls Tryz.prog 51 #[.slice (some ⟨b, off, none⟩) n c, .func (.func g) #[] lb] w fun e w' => e = .returned (.int .i64 (fidx p zs)) ∧ Below w.heap.size w w' := by
 have hrow : ∀ (W : World), Below w.heap.size w W → ∀ j, j < zs.length → ∀ i v, (enc zs[j]!)[i]? = some v → W.cell? ⟨b, off + j * 6 + i, none⟩ = some v := fun W hW j hj i v hi => by
  rw [hW.cell (p := ⟨b, off + j * 6 + i, none⟩) hb]
  exact hc j hj i v hi
 clear hc
 have HC : Aside _ := hp
 have HR : Aside _ := hrow
 have HZ : Aside (zs.length = n) := hz
 clear hp hrow hz
 go_enter Tryz.func51, Tryz.ntmps51
 go_wp2
 go_loopg [5, 8] n (fun gg _ s8 wr => ∃ kk : Nat, kk ≤ n ∧ n - kk ≤ gg ∧ s8 = .int .i64 kk ∧ Aside (Below w.heap.size w wr) ∧ Aside (∀ j, j < kk → p zs[j]! = false))
 case atStart => exact ⟨0, Nat.zero_le _, by omega, rfl, Below.refl _ w, fun j hj => absurd hj (Nat.not_lt_zero _)⟩
 case round =>
  obtain ⟨kk, hkk, hg, rfl, BW, A⟩ := hrel
  by_cases hlt : kk < n
  ·have hltz : (kk : Int) < (n : Int) := by omega
   have l2 := HR.out wr BW.out kk (by rw [HZ.out]; exact hlt)
   have hcall := HC.out wr zs[kk]! (mem_bang zs _ (by rw [HZ.out]; exact hlt)) BW.out
   generalize hy : zs[kk]! = y at l2 hcall
   have B : Aside (zs[kk]! = y) := hy
   clear hy
   obtain ⟨v0, v1, v2, v3, v4, v5, he⟩ := len_cells (enc y) (hk y)
   rw [he] at l2 hcall
   have c0 : wr.cell? ⟨b, off + kk * 6, none⟩ = some v0 := by simpa using l2 0 v0 rfl
   have c1 : wr.cell? ⟨b, off + kk * 6 + 1, none⟩ = some v1 := l2 1 v1 rfl
   have c2 : wr.cell? ⟨b, off + kk * 6 + 2, none⟩ = some v2 := l2 2 v2 rfl
   have c3 : wr.cell? ⟨b, off + kk * 6 + 3, none⟩ = some v3 := l2 3 v3 rfl
   have c4 : wr.cell? ⟨b, off + kk * 6 + 4, none⟩ = some v4 := l2 4 v4 rfl
   have c5 : wr.cell? ⟨b, off + kk * 6 + 5, none⟩ = some v5 := l2 5 v5 rfl
   clear l2 he
   cases hq : p y with
   | true =>
    rw [hq] at hcall
    go_wp2_with (go_at_fn g; refine hcall.mono ?_; rintro e w' ⟨rfl, hb'⟩)
    go_ret
    refine ⟨?_, hb'⟩
    rw [fidx_hit p zs kk (by rw [HZ.out]; exact hlt) (by rw [B.out]; exact hq) A.out]
    rfl
   | false =>
    rw [hq] at hcall
    go_wp2_with (go_at_fn g; refine hcall.mono ?_; rintro e w' ⟨rfl, hb'⟩)
    go_roundg (n - (kk + 1))
    case measure => omega
    case rel =>
     refine ⟨kk + 1, by omega, by omega, by go_num, hb', (show Aside _ from fun j hj => ?_)⟩
     by_cases e : j = kk
     ·subst e
      rw [B.out]; exact hq
     ·exact A.out j (by omega)
  ·have hltz : ¬ (kk : Int) < (n : Int) := by omega
   have : kk = n := by omega
   subst this
   go_wp2
   go_ret
   refine ⟨?_, BW.out⟩
   rw [fidx_miss p zs (fun j hj => A.out j (by rw [← HZ.out]; exact hj))]
   rfl
set_option maxHeartbeats 1000000 in
theorem index_none (A : Option Addr) (c : Nat) (f : Value) (w : World) :
  Calls Tryz.prog 51 #[.slice A 0 c, f] w fun e w' => e = .returned (.int .i64 (-1)) ∧ Below w.heap.size w w' := by
 go_enter Tryz.func51, Tryz.ntmps51
 go_wp2
 go_loopg [5, 8] 0 (fun gg _ s8 wr => s8 = .int .i64 0 ∧ Aside (Below w.heap.size w wr))
 case atStart => exact ⟨rfl, Below.refl _ _⟩
 case round =>
  obtain ⟨rfl, S1⟩ := hrel
  go_wp2
  go_ret
  exact ⟨rfl, S1.out⟩
end Go.Proofs.YthngpkfckhmiiaaGreatDoor.Sl.R
end
section
set_option linter.unusedVariables false
set_option linter.unusedSimpArgs false
namespace Go.Proofs.YthngpkfckhmiiaaGreatDoor.X
open Go.RowKit Go.Proofs.YthngpkfckhmiiaaGreatDoorW.PrintWords Go.Proofs.YthngpkfckhmiiaaGreatDoor.Sl
instance : Inhabited S26 := ⟨z26⟩
def enc26 (x : S26) : List Value := [.int .i64 x.f0, .bool x.f1, .int .u32 x.f2.f0, .int .i64 x.f2.f1, .int .i64 x.f3, .int .i64 x.f4]
theorem enc26_len (x : S26) : (enc26 x).length = 6 := rfl
theorem enc26_one (x : S26) : ∀ u ∈ enc26 x, u.oneCell' = true := by
  intro u hu
  simp only [enc26, List.mem_cons, List.not_mem_nil, or_false] at hu
  rcases hu with rfl | rfl | rfl | rfl | rfl | rfl <;> rfl
theorem enc26_K (w : World) (x : S26) (cs : List Value) (h : k26.K w x cs) : cs = enc26 x := k26_open h
theorem enc26_M (w : World) (base : Nat) (ok : Nat → Prop) (x : S26) : k26.M w base ok x (enc26 x) := k26_mkM w base ok x
theorem enters52 : ∀ args w, (callFunc 52 args).run Tryz.prog w = .ok (.enter 52 args) w := enters_of Tryz.func52 (by kernel_rfl) rfl
theorem enters55 : ∀ args w, (callFunc 55 args).run Tryz.prog w = .ok (.enter 55 args) w := enters_of Tryz.func55 (by kernel_rfl) rfl
theorem enters75 : ∀ args w, (callFunc 75 args).run Tryz.prog w = .ok (.enter 75 args) w := enters_of Tryz.func75 (by kernel_rfl) rfl
def plist_Drop.f (l0 : List S26) (a1 : Int) : Option (List S26 × Int) :=
  if l0.length ≤ 1000000 then (match l0.findIdx? (fun x => x.f0 == a1) with | none => some ([], 6) | some i => some (l0.eraseIdx i, 0)) else none
def means1 (x : S26) (A N : Int) : Option Bool := plist_Means.f 1 x.f0 x.f1 x.f2.f0 x.f2.f1 x.f3 x.f4 A N
def plist_Eval.f (l0 : List S26) (a1_0 a1_1 : Int) : Option (Bool × Int) :=
  if l0.length ≤ 1000000 ∧ l0.all (fun x => (means1 x a1_0 a1_1).isSome) = true then
    (match l0.find? (fun x => (means1 x a1_0 a1_1).getD false) with | none => some (false, 0) | some x => some (x.f1, x.f0)) else none
def seqs (l : List S26) : Bool := l.all (fun x => decide (1 ≤ x.f0) && decide (x.f0 ≤ 65535)) && decide (l.Pairwise fun a b => a.f0 < b.f0)
def plist_Add.f (l0 : List S26) (a1_0 : Int) (a1_1 : Bool) (a1_2 a1_3 a1_4 a1_5 : Int) : Option (List S26 × Int) :=
  (plist_May.f a1_0 a1_1 a1_2 a1_3 a1_4 a1_5).bind fun ok => if ok = false then some ([], 1) else
    if l0.length ≤ 1000000 ∧ seqs l0 = true ∧ 1 ≤ a1_0 ∧ a1_0 ≤ 65535 then
      (if l0.any (fun x => x.f0 == a1_0) then some ([], 7) else if 200 ≤ l0.length then some ([], 8) else some (l0.take (l0.countP fun x => decide (x.f0 < a1_0)) ++ ⟨a1_0, a1_1, ⟨a1_2, a1_3⟩, a1_4, a1_5⟩ :: l0.drop (l0.countP fun x => decide (x.f0 < a1_0)), 0)) else none
def geW : ByteArray := ⟨#[103, 101]⟩
def leW : ByteArray := ⟨#[108, 101]⟩
def num (s : ByteArray) : Int := (plist_number.f s).getD 0
def limOut (l : List ByteArray) : Bool × Int × Int := match l with
  | x :: n :: r => if x = geW then (if num n = 0 then (false, 0, 0) else match r with
        | y :: n2 :: r2 => if y = leW then (if num n2 = 0 then (false, num n, 0) else (decide (r2 = []), num n, num n2)) else (false, num n, 0)
        | r => (decide (r = []), num n, 0))
      else if x = leW then (if num n = 0 then (false, 0, 0) else (decide (r = []), 0, num n)) else (false, 0, 0)
  | l => (decide (l = []), 0, 0)
def limits (l : List ByteArray) : Option (Int × Int) := if (limOut l).1 = true then some (limOut l).2 else none
def permitW : ByteArray := ⟨#[112, 101, 114, 109, 105, 116]⟩
def denyW : ByteArray := ⟨#[100, 101, 110, 121]⟩
def plist_Parse.g (k : Nat) (a0 : ByteArray) : Option (Int × Bool × Int × Int × Int × Int × Int) :=
  (strings_Split.f a0 ⟨#[32]⟩).bind fun l => match l with
    | s0 :: s1 :: s2 :: r => (plist_number.f s0).bind fun n => if n = 0 then some (0, false, 0, 0, 0, 0, 3)
        else if s1 ≠ permitW ∧ s1 ≠ denyW then some (0, false, 0, 0, 0, 0, 3)
        else (addr_Parse.f k s2).bind fun p => if p.2.2 = 3 then some (0, false, 0, 0, 0, 0, 3)
          else if (r.all fun s => (plist_number.f s).isSome) = false then none
          else match limits r with
            | none => some (0, false, 0, 0, 0, 0, 3)
            | some (ge, le) => if p.2.2 ≠ 0 then some (0, false, 0, 0, 0, 0, 1)
              else (plist_May.f n (decide (s1 = permitW)) p.1 p.2.1 ge le).bind fun ok => if ok = false then some (0, false, 0, 0, 0, 0, 1) else some (n, decide (s1 = permitW), p.1, p.2.1, ge, le, 0)
    | _ => some (0, false, 0, 0, 0, 0, 3)
def plist_Parse.f (a0 : ByteArray) : Option (Int × Bool × Int × Int × Int × Int × Int) := plist_Parse.g 100 a0
end Go.Proofs.YthngpkfckhmiiaaGreatDoor.X
end
section
set_option linter.unusedVariables false
set_option linter.unusedSimpArgs false
namespace Go.Proofs.YthngpkfckhmiiaaGreatDoor.X
open Go.RowKit Go.Proofs.YthngpkfckhmiiaaGreatDoorW.PrintWords Go.Proofs.YthngpkfckhmiiaaGreatDoor.Sl
theorem clo_drop (x : S26) (g : Nat) (seq : Int) (W : World) (hg : W.cell? ⟨g, 0, none⟩ = some (.int .i64 seq)) :
  Calls Tryz.prog 52 #[.agg #[.int .i64 x.f0, .bool x.f1, .int .u32 x.f2.f0, .int .i64 x.f2.f1, .int .i64 x.f3, .int .i64 x.f4], .pointer (some ⟨g, 0, none⟩)] W fun e w' => e = .returned (.bool (x.f0 == seq)) ∧ Below W.heap.size W w' := by
 have hlt := World.block_lt_of_cell? W _ hg
 have hne : g ≠ W.heap.size := Nat.ne_of_lt hlt
 go_enter Tryz.func52, Tryz.ntmps52
 go_wp2
 go_ret
 exact ⟨rfl, (Below.refl _ _).alloc (Nat.le_refl _) _⟩
theorem clo_eval (x : S26) (g : Nat) (A N : Int) (W : World) (r : Bool) (hg0 : W.cell? ⟨g, 0, none⟩ = some (.int .u32 A)) (hg1 : W.cell? ⟨g, 1, none⟩ = some (.int .i64 N)) (hr : means1 x A N = some r) :
  Calls Tryz.prog 55 #[.agg #[.int .i64 x.f0, .bool x.f1, .int .u32 x.f2.f0, .int .i64 x.f2.f1, .int .i64 x.f3, .int .i64 x.f4], .pointer (some ⟨g, 0, none⟩)] W fun e w' => e = .returned (.bool r) ∧ Below W.heap.size W w' := by
 have hlt := World.block_lt_of_cell? W _ hg0
 have hne : g ≠ W.heap.size := Nat.ne_of_lt hlt
 have hc := fun W => plist_Means.calls 1 x.f0 x.f1 x.f2.f0 x.f2.f1 x.f3 x.f4 A N r W hr
 clear hr
 go_enter Tryz.func55, Tryz.ntmps55
 go_wp2_with (go_at_call 14; refine (hc _).mono ?_; rintro e w' ⟨rfl, hb⟩)
 go_ret
 exact ⟨rfl, ((Below.refl _ _).alloc (Nat.le_refl _) _).trans (hb.mono (by simp))⟩
theorem clo_find (x : S26) (seq : Int) (W : World) (h1 : 1 ≤ x.f0) (h2 : x.f0 ≤ 65535) (h3 : 1 ≤ seq) (h4 : seq ≤ 65535) :
  Calls Tryz.prog 75 #[.agg #[.int .i64 x.f0, .bool x.f1, .int .u32 x.f2.f0, .int .i64 x.f2.f1, .int .i64 x.f3, .int .i64 x.f4], .int .i64 seq] W fun e w' => e = .returned (.int .i64 (x.f0 - seq)) ∧ Below W.heap.size W w' := by
 go_enter Tryz.func75, Tryz.ntmps75
 go_wp2
 go_ret
 exact ⟨rfl, (Below.refl _ _).alloc (Nat.le_refl _) _⟩
theorem list_cells {w : World} {A : Option Addr} {l : List S26} (h : Kd.C k26 w A l.length l) (hn : 0 < l.length) :
  ∃ b off, A = some ⟨b, off, none⟩ ∧ b < w.heap.size ∧ ∀ j, j < l.length → ∀ i v, (enc26 l[j]!)[i]? = some v → w.cell? ⟨b, off + j * 6 + i, none⟩ = some v := by
 obtain ⟨b, off, rfl, hb, hc⟩ := C_split (d := k26) (by decide) h hn
 exact ⟨b, off, rfl, hb, C_cells (d := k26) enc26 enc26_K hc⟩
theorem cells_below {w w' : World} {b off : Nat} {l : List S26} (hw : b < w.heap.size) (hb : Below w.heap.size w w') (h : ∀ j, j < l.length → ∀ i v, (enc26 l[j]!)[i]? = some v → w.cell? ⟨b, off + j * 6 + i, none⟩ = some v) :
  ∀ j, j < l.length → ∀ i v, (enc26 l[j]!)[i]? = some v → w'.cell? ⟨b, off + j * 6 + i, none⟩ = some v := fun j hj i v hv => (hb.cell (p := ⟨b, off + j * 6 + i, none⟩) hw).trans (h j hj i v hv)
theorem drop_index (A : Option Addr) (c : Nat) (l : List S26) (seq : Int) (w W : World) (g : Nat) (hr : Kd.C k26 w A l.length l) (hbW : Below w.heap.size w W) (hn : l.length ≤ 1000000) (hg : W.cell? ⟨g, 0, none⟩ = some (.int .i64 seq)) :
  Calls Tryz.prog 51 #[.slice A l.length c, .func (.func 52) #[] #[.pointer (some ⟨g, 0, none⟩)]] W fun e w' => e = .returned (.int .i64 (fidx (fun x : S26 => x.f0 == seq) l)) ∧ Below W.heap.size W w' := by
 rcases Nat.eq_zero_or_pos l.length with h0 | h0
 ·obtain rfl : l = [] := List.eq_nil_of_length_eq_zero h0
  exact Sl.R.index_none A c _ W
 ·obtain ⟨b, off, rfl, hb, hc⟩ := list_cells hr h0
  refine Sl.R.index_func enc26 enc26_len (fun x : S26 => x.f0 == seq) 52 _ enters52 b off l.length c l W (fun W' x _ hb' => ?_) rfl hn (Nat.lt_of_lt_of_le hb hbW.size) (cells_below hb hbW hc)
  have := clo_drop x g seq W' ((hb'.cell (p := ⟨g, 0, none⟩) (World.block_lt_of_cell? W _ hg)).trans hg)
  exact this.mono fun e w' ⟨h1, h2⟩ => ⟨h1, hb'.trans (h2.mono hb'.size)⟩
theorem list_clone (A : Option Addr) (c : Nat) (l : List S26) (w W : World) (hr : Kd.C k26 w A l.length l) (hbW : Below w.heap.size w W) (hn : l.length ≤ 1000000) :
  Calls Tryz.prog 54 #[.slice A l.length c] W fun e w' => ∃ v, e = .returned v ∧ w'.ownsRow W.heap.size 26 6 v l.length (l.flatMap enc26) ∧ Below W.heap.size W w' := by
 rcases Nat.eq_zero_or_pos l.length with h0 | h0
 ·obtain rfl : l = [] := List.eq_nil_of_length_eq_zero h0
  cases A with
  | none => exact (Sl.R.clone_nil c W).mono fun e w' ⟨h1, h2⟩ => ⟨_, h1, by subst h2; exact World.ownsRow_nil _ _ _ _, by subst h2; exact Below.refl _ _⟩
  | some a => exact Sl.R.clone_some a 0 c [] W rfl (fun j u hu => by simp at hu) (fun u hu => by simp at hu) (by simp) (fun j u hu => by simp at hu)
 ·obtain ⟨b, off, rfl, hb, hc⟩ := list_cells hr h0
  have hb' : b < W.heap.size := Nat.lt_of_lt_of_le hb hbW.size
  refine Sl.R.clone_some ⟨b, off, none⟩ l.length c (l.flatMap enc26) W (flat_len enc26 enc26_len l) (fun j u hu => ?_) (flat_mem enc26 enc26_one l) hn (fun j u hu => by rw [Addr.add_lit]; exact hb')
  rw [Addr.add_lit]
  exact flat_at enc26 enc26_len l (cells_below hb hbW hc) j u hu
theorem fidx_nat {α : Type} (p : α → Bool) (l : List α) (i : Nat) (h : l.findIdx? p = some i) : fidx p l = (i : Int) := by simp [fidx, h]
theorem fidx_no {α : Type} (p : α → Bool) (l : List α) (h : l.findIdx? p = none) : fidx p l = -1 := by simp [fidx, h]
theorem drop_none (A : Option Addr) (c : Nat) (l : List S26) (seq : Int) (w : World) (hr : Kd.C k26 w A l.length l) (hn : l.length ≤ 1000000) (hf : l.findIdx? (fun x => x.f0 == seq) = none) :
  Calls Tryz.prog 21 #[.slice A l.length c, .int .i64 seq] w fun e w' => e = .returned (.tuple #[.slice none 0 0, .int .i64 6]) ∧ Below w.heap.size w w' := by
 have hb0 : Below w.heap.size w (w.alloc (.cells #[.int .i64 seq] 3)) := (Below.refl _ _).alloc (Nat.le_refl _) _
 have hI := drop_index A c l seq w _ w.heap.size hr hb0 hn ((World.cell?_alloc_at #[.int .i64 seq] 3 w.heap.size 0 rfl).trans rfl)
 rw [fidx_no _ _ hf] at hI
 clear hr hn hf
 generalize l.length = n at hI ⊢
 go_enter Tryz.func21, Tryz.ntmps21
 go_wp2_with (go_at_call 51; refine hI.mono ?_; rintro e w' ⟨rfl, hb⟩)
 go_ret2
 exact ⟨rfl, hb0.trans (hb.mono (by simp))⟩
set_option maxHeartbeats 1000000 in
set_option maxRecDepth 100000 in
theorem drop_some (A : Option Addr) (c i : Nat) (l : List S26) (seq : Int) (w : World) (hr : Kd.C k26 w A l.length l) (hn : l.length ≤ 1000000) (hf : l.findIdx? (fun x => x.f0 == seq) = some i) :
  Calls Tryz.prog 21 #[.slice A l.length c, .int .i64 seq] w fun e w' => ∃ v, e = .returned (.tuple #[v, .int .i64 0]) ∧ w'.ownsRow w.heap.size 26 6 v (l.length - 1) ((l.eraseIdx i).flatMap enc26) ∧ Below w.heap.size w w' := by
 have hb0 : Below w.heap.size w (w.alloc (.cells #[.int .i64 seq] 3)) := (Below.refl _ _).alloc (Nat.le_refl _) _
 have hI := drop_index A c l seq w _ w.heap.size hr hb0 hn ((World.cell?_alloc_at #[.int .i64 seq] 3 w.heap.size 0 rfl).trans rfl)
 rw [fidx_nat _ _ i hf] at hI
 have hil : i < l.length := (List.findIdx?_eq_some_iff_getElem.1 hf).1
 have hC := fun W hb => list_clone A c l w W hr hb hn
 have hD := fun v W (HO : World.ownsRow W _ 26 6 v l.length (l.flatMap enc26)) => Sl.R.delete v l.length i (l.flatMap enc26) w.heap.size W HO hil hn (flat_mem enc26 enc26_one l)
 have e1 : (l.flatMap enc26).take (i * 6) ++ (l.flatMap enc26).drop ((i + 1) * 6) = (l.eraseIdx i).flatMap enc26 := by
  rw [flat_take enc26 enc26_len, flat_drop enc26 enc26_len, List.eraseIdx_eq_take_drop_succ, List.flatMap_append]
 rw [e1] at hD
 clear e1
 have hneg : decide ((i : Int) < 0) = false := by simp
 clear hr hf
 generalize l.length = n at hI hC hD hil hn ⊢
 generalize (l.eraseIdx i).flatMap enc26 = ys at hD ⊢
 have HC := Aside0.mk hC
 have HD := Aside0.mk hD
 clear hC hD
 go_enter Tryz.func21, Tryz.ntmps21
 go_wp2_with (first
  | (go_at_call 51; refine hI.mono ?_; rintro e w1 ⟨rfl, hb⟩; have hb1 : Below w.heap.size w w1 := hb0.trans (hb.mono (by simp)); clear hb hb0 hI)
  | (go_at_call 54; refine (HC.out _ hb1).mono ?_; rintro e w2 ⟨v, rfl, hown, hb2⟩)
  | (go_at_call 53; refine (HD.out v _ (own_weaken hown hb1.size)).mono ?_; rintro e w3 ⟨v', rfl, hown3, hg3, hat3⟩))
 go_ret2
 refine ⟨v', rfl, hown3, ?_⟩
 exact (hb1.trans (hb2.mono hb1.size)).grown hg3 (Nat.le_trans hb1.size hb2.size) (fun k hk => Nat.le_trans hb1.size (own_base hown k hk))
theorem plist_Drop.calls' (A0 : Option Addr) (c0 : Nat) (l0 : List S26) (a1 : Int) (r0 : List S26) (r1 : Int) (w : World) (hr0 : Kd.C k26 w A0 l0.length l0) (hc0 : l0.length ≤ c0) (h : plist_Drop.f l0 a1 = some (r0, r1)) :
  Calls Tryz.prog 21 #[.slice A0 l0.length c0, .int .i64 a1] w fun e w' => ∃ v0_ : Value, e = .returned (.tuple #[v0_, .int .i64 r1]) ∧ Kd.R k26 26 w' w.heap.size (fun _ => True) v0_ r0 ∧ Below w.heap.size w w' := by
 unfold plist_Drop.f at h
 split at h
 ·rename_i hn
  split at h
  ·rename_i hf
   simp only [Option.some.injEq, Prod.mk.injEq] at h
   obtain ⟨rfl, rfl⟩ := h
   exact (drop_none A0 c0 l0 a1 w hr0 hn hf).mono fun e w' ⟨h1, h2⟩ => ⟨_, h1, Kd.R_nil _ _ _ _ _, h2⟩
  ·rename_i i hf
   simp only [Option.some.injEq, Prod.mk.injEq] at h
   obtain ⟨rfl, rfl⟩ := h
   have hil : i < l0.length := (List.findIdx?_eq_some_iff_getElem.1 hf).1
   refine (drop_some A0 c0 i l0 a1 w hr0 hn hf).mono fun e w' ⟨v, h1, h2, h3⟩ => ⟨v, h1, R_flat enc26 enc26_len enc26_M ?_, h3⟩
   rw [List.length_eraseIdx, if_pos hil]
   exact h2
 ·cases h
theorem eval_index (A : Option Addr) (c : Nat) (l : List S26) (qA qN : Int) (w W : World) (g : Nat) (hr : Kd.C k26 w A l.length l) (hbW : Below w.heap.size w W) (hn : l.length ≤ 1000000) (ht : l.all (fun x => (means1 x qA qN).isSome) = true)
  (hg0 : W.cell? ⟨g, 0, none⟩ = some (.int .u32 qA)) (hg1 : W.cell? ⟨g, 1, none⟩ = some (.int .i64 qN)) :
  Calls Tryz.prog 51 #[.slice A l.length c, .func (.func 55) #[] #[.pointer (some ⟨g, 0, none⟩)]] W fun e w' => e = .returned (.int .i64 (fidx (fun x : S26 => (means1 x qA qN).getD false) l)) ∧ Below W.heap.size W w' := by
 rcases Nat.eq_zero_or_pos l.length with h0 | h0
 ·obtain rfl : l = [] := List.eq_nil_of_length_eq_zero h0
  exact Sl.R.index_none A c _ W
 ·obtain ⟨b, off, rfl, hb, hc⟩ := list_cells hr h0
  refine Sl.R.index_func enc26 enc26_len (fun x : S26 => (means1 x qA qN).getD false) 55 _ enters55 b off l.length c l W (fun W' x hx hb' => ?_) rfl hn (Nat.lt_of_lt_of_le hb hbW.size) (cells_below hb hbW hc)
  have hs := List.all_eq_true.1 ht x hx
  obtain ⟨r, hr'⟩ := Option.isSome_iff_exists.1 hs
  have := clo_eval x g qA qN W' r ((hb'.cell (p := ⟨g, 0, none⟩) (World.block_lt_of_cell? W _ hg0)).trans hg0) ((hb'.cell (p := ⟨g, 1, none⟩) (World.block_lt_of_cell? W _ hg1)).trans hg1) hr'
  exact this.mono fun e w' ⟨h1, h2⟩ => ⟨by rw [h1]; simp [hr'], hb'.trans (h2.mono hb'.size)⟩
theorem eval_none (A : Option Addr) (c : Nat) (l : List S26) (qA qN : Int) (w : World) (hr : Kd.C k26 w A l.length l) (hn : l.length ≤ 1000000) (ht : l.all (fun x => (means1 x qA qN).isSome) = true) (hf : l.findIdx? (fun x => (means1 x qA qN).getD false) = none) :
  Calls Tryz.prog 22 #[.slice A l.length c, .agg #[.int .u32 qA, .int .i64 qN]] w fun e w' => e = .returned (.tuple #[.bool false, .int .i64 0]) ∧ Below w.heap.size w w' := by
 have hb0 : Below w.heap.size w (w.alloc (.cells #[.int .u32 qA, .int .i64 qN] 24)) := (Below.refl _ _).alloc (Nat.le_refl _) _
 have hI := eval_index A c l qA qN w _ w.heap.size hr hb0 hn ht ((World.cell?_alloc_at #[.int .u32 qA, .int .i64 qN] 24 w.heap.size 0 rfl).trans rfl) ((World.cell?_alloc_at #[.int .u32 qA, .int .i64 qN] 24 w.heap.size 1 rfl).trans rfl)
 rw [fidx_no _ _ hf] at hI
 clear hr hn hf ht
 generalize l.length = n at hI ⊢
 go_enter Tryz.func22, Tryz.ntmps22
 go_wp2_with (go_at_call 51; refine hI.mono ?_; rintro e w' ⟨rfl, hb⟩)
 go_ret2
 exact ⟨rfl, hb0.trans (hb.mono (by simp))⟩
set_option maxHeartbeats 1000000 in
set_option maxRecDepth 100000 in
theorem eval_some (A : Option Addr) (c i : Nat) (l : List S26) (qA qN : Int) (w : World) (hr : Kd.C k26 w A l.length l) (hn : l.length ≤ 1000000) (ht : l.all (fun x => (means1 x qA qN).isSome) = true) (hf : l.findIdx? (fun x => (means1 x qA qN).getD false) = some i) :
  Calls Tryz.prog 22 #[.slice A l.length c, .agg #[.int .u32 qA, .int .i64 qN]] w fun e w' => e = .returned (.tuple #[.bool l[i]!.f1, .int .i64 l[i]!.f0]) ∧ Below w.heap.size w w' := by
 have hb0 : Below w.heap.size w (w.alloc (.cells #[.int .u32 qA, .int .i64 qN] 24)) := (Below.refl _ _).alloc (Nat.le_refl _) _
 have hI := eval_index A c l qA qN w _ w.heap.size hr hb0 hn ht ((World.cell?_alloc_at #[.int .u32 qA, .int .i64 qN] 24 w.heap.size 0 rfl).trans rfl) ((World.cell?_alloc_at #[.int .u32 qA, .int .i64 qN] 24 w.heap.size 1 rfl).trans rfl)
 rw [fidx_nat _ _ i hf] at hI
 have hil : i < l.length := (List.findIdx?_eq_some_iff_getElem.1 hf).1
 obtain ⟨b, off, rfl, hb, hc⟩ := list_cells hr (by omega)
 have hcells := fun W hW => cells_below (w := w) (w' := W) hb hW hc i hil
 have HCL := Aside0.mk hcells
 have hneg : decide ((i : Int) < 0) = false := by simp
 have hlt : (i : Int) < (l.length : Int) := by omega
 have hge : (0 : Int) ≤ (i : Int) := by omega
 clear hr hf hc hcells ht
 generalize l.length = n at hI hil hn hlt ⊢
 generalize l[i]! = y at HCL ⊢
 go_enter Tryz.func22, Tryz.ntmps22
 go_wp2_with (go_at_call 51; refine hI.mono ?_; rintro e w1 ⟨rfl, hb'⟩; have hb1 : Below w.heap.size w w1 := hb0.trans (hb'.mono (by simp)); clear hb' hb0 hI; have c0 : w1.cell? ⟨b, off + i * 6, none⟩ = some (.int .i64 y.f0) := HCL.out w1 hb1 0 _ rfl; have c1 : w1.cell? ⟨b, off + i * 6 + 1, none⟩ = some (.bool y.f1) := HCL.out w1 hb1 1 _ rfl)
 go_region
 all_goals go_wp2
 all_goals go_ret2
 all_goals exact ⟨rfl, hb1.drew⟩
theorem plist_Eval.calls' (A0 : Option Addr) (c0 : Nat) (l0 : List S26) (a1_0 a1_1 : Int) (r0 : Bool) (r1 : Int) (w : World) (hr0 : Kd.C k26 w A0 l0.length l0) (hc0 : l0.length ≤ c0) (h : plist_Eval.f l0 a1_0 a1_1 = some (r0, r1)) :
  Calls Tryz.prog 22 #[.slice A0 l0.length c0, .agg #[.int .u32 a1_0, .int .i64 a1_1]] w fun e w' => e = .returned (.tuple #[.bool r0, .int .i64 r1]) ∧ Below w.heap.size w w' := by
 unfold plist_Eval.f at h
 split at h
 ·rename_i hn
  cases hf : l0.findIdx? (fun x => (means1 x a1_0 a1_1).getD false) with
  | none =>
   have : l0.find? (fun x => (means1 x a1_0 a1_1).getD false) = none := by
    rw [List.findIdx?_eq_none_iff] at hf
    rw [List.find?_eq_none]
    intro x hx
    simp [hf x hx]
   rw [this] at h
   simp only [Option.some.injEq, Prod.mk.injEq] at h
   obtain ⟨rfl, rfl⟩ := h
   exact eval_none A0 c0 l0 a1_0 a1_1 w hr0 hn.1 hn.2 hf
  | some i =>
   obtain ⟨hi, hp, hj⟩ := List.findIdx?_eq_some_iff_getElem.1 hf
   have : l0.find? (fun x => (means1 x a1_0 a1_1).getD false) = some l0[i]! := by
    rw [getElem!_pos l0 i hi]
    exact List.find?_eq_some_iff_getElem.2 ⟨hp, i, hi, rfl, fun j hji => by simpa using hj j hji⟩
   rw [this] at h
   simp only [Option.some.injEq, Prod.mk.injEq] at h
   obtain ⟨rfl, rfl⟩ := h
   exact eval_some A0 c0 i l0 a1_0 a1_1 w hr0 hn.1 hn.2 hf
 ·cases h
theorem seqs_bounds {l : List S26} (h : seqs l = true) : (∀ x ∈ l, 1 ≤ x.f0 ∧ x.f0 ≤ 65535) ∧ l.Pairwise (fun a b => a.f0 < b.f0) := by
 unfold seqs at h
 simp only [Bool.and_eq_true, List.all_eq_true, decide_eq_true_eq] at h
 exact ⟨fun x hx => by simpa using h.1 x hx, h.2⟩
theorem seqs_mono {l : List S26} (h : seqs l = true) (i j : Nat) (hij : i ≤ j) (hj : j < l.length) : l[i]!.f0 ≤ l[j]!.f0 := by
 rcases Nat.lt_or_ge i j with h1 | h1
 ·have := List.pairwise_iff_getElem.1 (seqs_bounds h).2 i j (by omega) hj h1
  rw [getElem!_pos l i (by omega), getElem!_pos l j hj]
  omega
 ·obtain rfl : i = j := by omega
  exact Int.le_refl _
theorem count_lt (l : List S26) (seq : Int) (hs : seqs l = true) (t : Nat) (ht : t < l.length) : l[t]!.f0 < seq ↔ t < l.countP (fun x => decide (x.f0 < seq)) := by
 have key : ∀ (l : List S26), l.Pairwise (fun a b => a.f0 < b.f0) → ∀ t, t < l.length → (l[t]!.f0 < seq ↔ t < l.countP (fun x => decide (x.f0 < seq))) := by
  intro l
  induction l with
  | nil => intro _ t ht; simp at ht
  | cons a r ih =>
   intro hp t ht
   rw [List.pairwise_cons] at hp
   by_cases ha : a.f0 < seq
   ·rw [List.countP_cons_of_pos (by simpa using ha)]
    cases t with
    | zero => simp [ha]
    | succ t =>
     have := ih hp.2 t (by simpa using ht)
     simp only [List.getElem!_cons_succ]
     rw [this]
     omega
   ·have h0 : (a :: r).countP (fun x => decide (x.f0 < seq)) = 0 := by
     rw [List.countP_eq_zero]
     intro x hx
     rcases List.mem_cons.1 hx with rfl | hx
     ·simpa using ha
     ·have := hp.1 x hx
      simp only [decide_eq_true_eq]
      omega
    rw [h0]
    refine ⟨fun h => ?_, fun h => by omega⟩
    exfalso
    cases t with
    | zero => simp at h; exact ha h
    | succ t =>
     have hx : (a :: r)[t + 1]! ∈ r := by
      simp only [List.getElem!_cons_succ]
      exact Sl.mem_bang r t (by simpa using ht)
     have := hp.1 _ hx
     omega
 exact key l (seqs_bounds hs).2 t ht
theorem find_calls (A : Option Addr) (c : Nat) (l : List S26) (seq : Int) (w W : World) (hr : Kd.C k26 w A l.length l) (hbW : Below w.heap.size w W) (hn : l.length ≤ 1000000) (hs : seqs l = true) (h3 : 1 ≤ seq) (h4 : seq ≤ 65535) :
  Calls Tryz.prog 56 #[.slice A l.length c, .int .i64 seq] W fun e w' => e = .returned (.tuple #[.int .i64 (l.countP (fun x => decide (x.f0 < seq)) : Nat), .bool (l.any fun x => x.f0 == seq)]) ∧ Below W.heap.size W w' := by
 have key : Calls Tryz.prog 74 #[.slice A l.length c, .int .i64 seq, .func (.func 75) #[] #[]] W fun e w' => e = .returned (.tuple #[.int .i64 (l.countP (fun x => decide (x.f0 < seq)) : Nat), .bool (l.any fun x => x.f0 == seq)]) ∧ Below W.heap.size W w' := by
  rcases Nat.eq_zero_or_pos l.length with h0 | h0
  ·obtain rfl : l = [] := List.eq_nil_of_length_eq_zero h0
   exact Sl.R.bsearch_none A c _ _ W
  ·obtain ⟨b, off, rfl, hb, hc⟩ := list_cells hr h0
   refine (Sl.R.bsearch enc26 enc26_len (fun x : S26 => x.f0 - seq) (.int .i64 seq) 75 #[] enters75 b off l.length c l W (fun W' x hx hb' => ?_) rfl hn (Nat.lt_of_lt_of_le hb hbW.size) (cells_below hb hbW hc) (fun i j hij hj h => ?_)).mono ?_
   ·obtain ⟨h1, h2⟩ := (seqs_bounds hs).1 x hx
    exact (clo_find x seq W' h1 h2 h3 h4).mono fun e w' ⟨h1, h2⟩ => ⟨h1, hb'.trans (h2.mono hb'.size)⟩
   ·have := seqs_mono hs i j hij hj
    show l[i]!.f0 - seq < 0
    have h' : l[j]!.f0 - seq < 0 := h
    omega
   ·rintro e w' ⟨rfl, hb'⟩
    have e1 : l.countP (fun x => decide (x.f0 - seq < 0)) = l.countP (fun x => decide (x.f0 < seq)) := by
     congr 1
     funext x
     exact decide_eq_decide.2 (by omega)
    refine ⟨?_, hb'⟩
    simp only [e1]
    congr 3
    generalize hcnt : l.countP (fun x => decide (x.f0 < seq)) = cnt
    have hb1 : ∀ t, t < l.length → (l[t]!.f0 < seq ↔ t < cnt) := by
     intro t ht
     rw [← hcnt]
     exact count_lt l seq hs t ht
    by_cases hin : cnt < l.length ∧ l[cnt]!.f0 = seq
    ·have : l.any (fun x => x.f0 == seq) = true := by
      rw [List.any_eq_true]
      exact ⟨l[cnt]!, Sl.mem_bang l cnt hin.1, by simpa using hin.2⟩
     rw [this, decide_eq_true hin.1, decide_eq_true (show l[cnt]!.f0 - seq = 0 by have := hin.2; omega)]
     rfl
    ·have : l.any (fun x => x.f0 == seq) = false := by
      rw [List.any_eq_false]
      intro x hx
      obtain ⟨t, ht, rfl⟩ := List.getElem_of_mem hx
      simp only [beq_iff_eq]
      intro e
      have h1 := hb1 t ht
      rw [getElem!_pos l t ht] at h1
      have h2 : cnt ≤ t := by omega
      have h3 : cnt < l.length := by omega
      have h4 := seqs_mono hs cnt t h2 ht
      rw [getElem!_pos l t ht] at h4
      have h5 := hb1 cnt h3
      exact hin ⟨h3, by omega⟩
     rw [this]
     by_cases h1 : cnt < l.length
     ·have h2 : ¬ l[cnt]!.f0 = seq := fun e => hin ⟨h1, e⟩
      have h3 : ¬ (l[cnt]!.f0 - seq = 0) := by omega
      rw [decide_eq_true h1, decide_eq_false h3]
      rfl
     ·rw [decide_eq_false h1]
      rfl
 clear hr hs
 go_enter Tryz.func56, Tryz.ntmps56
 go_wp2_with (go_at_call 74; refine key.mono ?_; rintro e w' ⟨rfl, hb⟩)
 go_ret2
 exact ⟨rfl, hb⟩
end Go.Proofs.YthngpkfckhmiiaaGreatDoor.X
end
section
set_option linter.unusedVariables false
set_option linter.unusedSimpArgs false
namespace Go.Proofs.YthngpkfckhmiiaaGreatDoor.X
open Go.RowKit Go.Proofs.YthngpkfckhmiiaaGreatDoorW.PrintWords Go.Proofs.YthngpkfckhmiiaaGreatDoor.Sl
theorem Blk0 (w : World) (cs : Array Value) (t : TypeId) : (w.alloc (.cells cs t)).heap[w.heap.size]? = some (.cells cs t (0, 0)) := heap_alloc_new w _
theorem cells6 {W : World} {g : Nat} {s : Int} {p : Bool} {A N ge le : Int} (h : W.heap[g]? = some (.cells #[.int .i64 s, .bool p, .int .u32 A, .int .i64 N, .int .i64 ge, .int .i64 le] 26 (0, 0))) :
  W.cell? ⟨g, 0, none⟩ = some (.int .i64 s) ∧ W.cell? ⟨g, 1, none⟩ = some (.bool p) ∧ W.cell? ⟨g, 2, none⟩ = some (.int .u32 A) ∧ W.cell? ⟨g, 3, none⟩ = some (.int .i64 N) ∧ W.cell? ⟨g, 4, none⟩ = some (.int .i64 ge) ∧ W.cell? ⟨g, 5, none⟩ = some (.int .i64 le) := by
 simp [World.cell?, h]
theorem add_arg (A : Option Addr) (n c : Nat) (a0 : Int) (a1 : Bool) (a2 a3 a4 a5 : Int) (w : World) (hm : plist_May.f a0 a1 a2 a3 a4 a5 = some false) :
  Calls Tryz.prog 23 #[.slice A n c, .agg #[.int .i64 a0, .bool a1, .int .u32 a2, .int .i64 a3, .int .i64 a4, .int .i64 a5]] w fun e w' => e = .returned (.tuple #[.slice none 0 0, .int .i64 1]) ∧ Below w.heap.size w w' := by
 have hM := fun W => plist_May.calls a0 a1 a2 a3 a4 a5 false W hm
 clear hm
 go_enter Tryz.func23, Tryz.ntmps23
 go_wp2_with (go_at_call 10; refine (hM _).mono ?_; rintro e w' ⟨rfl, hb⟩)
 go_ret2
 exact ⟨rfl, ((Below.refl _ _).alloc (Nat.le_refl _) _).trans (hb.mono (by simp))⟩
set_option maxHeartbeats 1000000 in
theorem add_not (A : Option Addr) (c : Nat) (l : List S26) (a0 : Int) (a1 : Bool) (a2 a3 a4 a5 : Int) (w : World) (hm : plist_May.f a0 a1 a2 a3 a4 a5 = some true)
  (hr : Kd.C k26 w A l.length l) (hn : l.length ≤ 1000000) (hs : seqs l = true) (h3 : 1 ≤ a0) (h4 : a0 ≤ 65535) (is : Bool) (hany : (l.any fun x => x.f0 == a0) = is) (hq : is = false → decide ((l.length : Int) ≥ 200) = true) :
  Calls Tryz.prog 23 #[.slice A l.length c, .agg #[.int .i64 a0, .bool a1, .int .u32 a2, .int .i64 a3, .int .i64 a4, .int .i64 a5]] w fun e w' => e = .returned (.tuple #[.slice none 0 0, .int .i64 (if is then 7 else 8)]) ∧ Below w.heap.size w w' := by
 have hM := fun W => plist_May.calls a0 a1 a2 a3 a4 a5 true W hm
 have hF := fun W hb => find_calls A c l a0 w W hr hb hn hs h3 h4
 rw [hany] at hF
 have HF := Aside0.mk hF
 clear hm hr hs h3 h4 hany hF
 generalize l.length = n at HF hn hq ⊢
 have hb0 : Below w.heap.size w (w.alloc (.cells #[.int .i64 a0, .bool a1, .int .u32 a2, .int .i64 a3, .int .i64 a4, .int .i64 a5] 26)) := (Below.refl _ _).alloc (Nat.le_refl _) _
 have hg0 := Blk0 w #[.int .i64 a0, .bool a1, .int .u32 a2, .int .i64 a3, .int .i64 a4, .int .i64 a5] 26
 cases is
 ·have hq' := hq rfl
  clear hq
  go_enter Tryz.func23, Tryz.ntmps23
  go_wp2_with (first
   | (go_at_call 10; refine (hM _).mono ?_; rintro e w1 ⟨rfl, hb⟩; have hb1 : Below w.heap.size w w1 := hb0.trans (hb.mono (by simp)); have hc0 : w1.cell? ⟨w.heap.size, 0, none⟩ = some (.int .i64 a0) := (hb.cell (p := ⟨w.heap.size, 0, none⟩) (by simp)).trans ((cell_of_row _ _ 0 _ _ _ hg0).trans rfl); clear hb hb0 hM hg0)
   | (go_at_call 56; refine (HF.out _ hb1).mono ?_; rintro e w2 ⟨rfl, hb2⟩))
  go_ret2
  exact ⟨rfl, hb1.trans (hb2.mono hb1.size)⟩
 ·clear hq
  go_enter Tryz.func23, Tryz.ntmps23
  go_wp2_with (first
   | (go_at_call 10; refine (hM _).mono ?_; rintro e w1 ⟨rfl, hb⟩; have hb1 : Below w.heap.size w w1 := hb0.trans (hb.mono (by simp)); have hc0 : w1.cell? ⟨w.heap.size, 0, none⟩ = some (.int .i64 a0) := (hb.cell (p := ⟨w.heap.size, 0, none⟩) (by simp)).trans ((cell_of_row _ _ 0 _ _ _ hg0).trans rfl); clear hb hb0 hM hg0)
   | (go_at_call 56; refine (HF.out _ hb1).mono ?_; rintro e w2 ⟨rfl, hb2⟩))
  go_ret2
  exact ⟨rfl, hb1.trans (hb2.mono hb1.size)⟩
set_option maxHeartbeats 2000000 in
set_option maxRecDepth 100000 in
theorem add_ok (A : Option Addr) (c : Nat) (l : List S26) (a0 : Int) (a1 : Bool) (a2 a3 a4 a5 : Int) (w : World) (hm : plist_May.f a0 a1 a2 a3 a4 a5 = some true)
  (hr : Kd.C k26 w A l.length l) (hn : l.length ≤ 1000000) (hs : seqs l = true) (h3 : 1 ≤ a0) (h4 : a0 ≤ 65535) (hany : (l.any fun x => x.f0 == a0) = false) (hq : decide ((l.length : Int) ≥ 200) = false) :
  Calls Tryz.prog 23 #[.slice A l.length c, .agg #[.int .i64 a0, .bool a1, .int .u32 a2, .int .i64 a3, .int .i64 a4, .int .i64 a5]] w fun e w' => ∃ v, e = .returned (.tuple #[v, .int .i64 0]) ∧
   w'.ownsRow w.heap.size 26 6 v (l.length + 1) ((l.take (l.countP fun x => decide (x.f0 < a0)) ++ ⟨a0, a1, ⟨a2, a3⟩, a4, a5⟩ :: l.drop (l.countP fun x => decide (x.f0 < a0))).flatMap enc26) ∧ Below w.heap.size w w' := by
 have hM := fun W => plist_May.calls a0 a1 a2 a3 a4 a5 true W hm
 have hF := fun W hb => find_calls A c l a0 w W hr hb hn hs h3 h4
 rw [hany] at hF
 have HF := Aside0.mk hF
 have hC := fun W hb => list_clone A c l w W hr hb hn
 have HC := Aside0.mk hC
 have hcl : l.countP (fun x => decide (x.f0 < a0)) ≤ l.length := List.countP_le_length
 generalize l.countP (fun x => decide (x.f0 < a0)) = i at HF hcl ⊢
 have hI := fun v W vb (HO : World.ownsRow W w.heap.size 26 6 v l.length (l.flatMap enc26)) hbase hvb hne => Sl.R.insert v l.length i (l.flatMap enc26) [.int .i64 a0, .bool a1, .int .u32 a2, .int .i64 a3, .int .i64 a4, .int .i64 a5] w.heap.size vb W HO hbase hcl hn (flat_mem enc26 enc26_one l) hvb hne rfl (enc26_one ⟨a0, a1, ⟨a2, a3⟩, a4, a5⟩)
 have e1 : (l.flatMap enc26).take (i * 6) ++ [.int .i64 a0, .bool a1, .int .u32 a2, .int .i64 a3, .int .i64 a4, .int .i64 a5] ++ (l.flatMap enc26).drop (i * 6) = (l.take i ++ ⟨a0, a1, ⟨a2, a3⟩, a4, a5⟩ :: l.drop i).flatMap enc26 := by
  rw [flat_take enc26 enc26_len, flat_drop enc26 enc26_len, List.flatMap_append, List.flatMap_cons, List.append_assoc]
  rfl
 rw [e1] at hI
 have HI := Aside0.mk hI
 clear hm hr hs h3 h4 hany hF hC hI e1
 generalize l.length = n at HF HC HI hn hq hcl ⊢
 generalize (l.take i ++ ⟨a0, a1, ⟨a2, a3⟩, a4, a5⟩ :: l.drop i).flatMap enc26 = ys at HI ⊢
 generalize l.flatMap enc26 = xs at HC HI
 have hb0 : Below w.heap.size w (w.alloc (.cells #[.int .i64 a0, .bool a1, .int .u32 a2, .int .i64 a3, .int .i64 a4, .int .i64 a5] 26)) := (Below.refl _ _).alloc (Nat.le_refl _) _
 have hg0 := Blk0 w #[.int .i64 a0, .bool a1, .int .u32 a2, .int .i64 a3, .int .i64 a4, .int .i64 a5] 26
 go_enter Tryz.func23, Tryz.ntmps23
 go_wp2_with (first
  | (go_at_call 10; refine (hM _).mono ?_; rintro e w1 ⟨rfl, hb⟩; have hb1 : Below w.heap.size w w1 := hb0.trans (hb.mono (by simp)); have hg1 : w1.heap[w.heap.size]? = some (.cells #[.int .i64 a0, .bool a1, .int .u32 a2, .int .i64 a3, .int .i64 a4, .int .i64 a5] 26 (0, 0)) := (hb.block _ (by simp)).trans hg0; have hc0 : w1.cell? ⟨w.heap.size, 0, none⟩ = some (.int .i64 a0) := (cell_of_row _ _ 0 _ _ _ hg1).trans rfl; clear hb hb0 hM hg0)
  | (go_at_call 56; refine (HF.out _ hb1).mono ?_; rintro e w2 ⟨rfl, hb2'⟩; have hb2 : Below w.heap.size w w2 := hb1.trans (hb2'.mono hb1.size); have hg2 : w2.heap[w.heap.size]? = some (.cells #[.int .i64 a0, .bool a1, .int .u32 a2, .int .i64 a3, .int .i64 a4, .int .i64 a5] 26 (0, 0)) := (hb2'.block _ (blk_lt hg1)).trans hg1; clear hb2' hc0 hg1 hb1 HF))
 have hA : w.heap.size < w2.heap.size := blk_lt hg2
 have hA1 : w.heap.size ≠ w2.heap.size := Nat.ne_of_lt hA
 obtain ⟨k0, k1, k2, k3, k4, k5⟩ := cells6 hg2
 have e7 := Aside0.mk (Blk0 w2.drew #[.int .i64 a0, .bool a1, .int .u32 a2, .int .i64 a3, .int .i64 a4, .int .i64 a5] 26)
 go_region_held3 (fun W => W.cell? ⟨w.heap.size, 0, none⟩ = some (.int .i64 a0) ∧ W.cell? ⟨w.heap.size, 1, none⟩ = some (.bool a1) ∧ W.cell? ⟨w.heap.size, 2, none⟩ = some (.int .u32 a2) ∧ W.cell? ⟨w.heap.size, 3, none⟩ = some (.int .i64 a3) ∧ W.cell? ⟨w.heap.size, 4, none⟩ = some (.int .i64 a4) ∧ W.cell? ⟨w.heap.size, 5, none⟩ = some (.int .i64 a5)) (go_keep)
  (first
   | (go_at_call 54; refine (HC.out _ (by first | exact hb2.drew | exact (hb2.drew).alloc (Nat.le_of_lt hA) _)).mono ?_; rintro e w3 ⟨v, rfl, hown, hb3⟩; (first | (have hb23 : Below w2.heap.size w2 w3 := ((Below.refl _ _).drew).trans hb3; have ordA : True := trivial) | (have hb23 : Below w2.heap.size w2 w3 := (((Below.refl _ _).drew).alloc (Nat.le_refl _) _).trans (hb3.mono (by simp)); have ordB : True := trivial)); have hA3 : w.heap.size < w3.heap.size := Nat.lt_of_lt_of_le hA hb23.size; have hA4 : w.heap.size ≠ w3.heap.size := Nat.ne_of_lt hA3; have hg3 := (hb23.block _ hA).trans hg2; obtain ⟨k0, k1, k2, k3, k4, k5⟩ := cells6 hg3)
   | (go_at_call 57; have _t := ordA; refine (HI.out v _ w3.heap.size ((own_weaken hown (Nat.le_of_lt hA)).alloc _) (by simp; omega) (Blk0 w3 _ _) (fun e => by have := own_lt hown _ e; omega)).mono ?_; rintro e w5 ⟨v', rfl, hown5, hg5, hat5⟩; have hb5 : Below w.heap.size w w5 := (((hb2.trans (hb23.mono (Nat.le_of_lt hA))).alloc (Nat.le_of_lt hA3) _).grown hg5 (by simp; omega) (fun k hk => by have := own_base hown k hk; simp at this; omega)); obtain ⟨k0, k1, k2, k3, k4, k5⟩ := cells6 ((hg5.block w.heap.size (by simp; omega) (fun e => by have := own_base hown _ e.symm; simp at this; omega)).trans ((Below.heap_alloc w3 _ _ hA3).trans hg3)))
   | (go_at_call 57; have _t := ordB; refine (HI.out v _ w2.heap.size (own_weaken hown (by simp; omega)) (Nat.le_of_lt hA3) ((hb3.block _ (by simp)).trans e7.out) (fun e => by have := own_base hown _ e; simp at this; omega)).mono ?_; rintro e w5 ⟨v', rfl, hown5, hg5, hat5⟩; have hb5 : Below w.heap.size w w5 := ((hb2.trans (hb23.mono (Nat.le_of_lt hA))).grown hg5 (Nat.le_of_lt hA3) (fun k hk => by have := own_base hown k hk; simp at this; omega)); obtain ⟨k0, k1, k2, k3, k4, k5⟩ := cells6 ((hg5.block w.heap.size hA3 (fun e => by have := own_base hown _ e.symm; simp at this; omega)).trans hg3)))
 all_goals go_wp2
 all_goals go_ret2
 all_goals exact ⟨v', rfl, hown5, hb5⟩
theorem plist_Add.calls' (A0 : Option Addr) (c0 : Nat) (l0 : List S26) (a1_0 : Int) (a1_1 : Bool) (a1_2 a1_3 a1_4 a1_5 : Int) (r0 : List S26) (r1 : Int) (w : World) (hr0 : Kd.C k26 w A0 l0.length l0) (hc0 : l0.length ≤ c0) (h : plist_Add.f l0 a1_0 a1_1 a1_2 a1_3 a1_4 a1_5 = some (r0, r1)) :
  Calls Tryz.prog 23 #[.slice A0 l0.length c0, .agg #[.int .i64 a1_0, .bool a1_1, .int .u32 a1_2, .int .i64 a1_3, .int .i64 a1_4, .int .i64 a1_5]] w fun e w' => ∃ v0_ : Value, e = .returned (.tuple #[v0_, .int .i64 r1]) ∧ Kd.R k26 26 w' w.heap.size (fun _ => True) v0_ r0 ∧ Below w.heap.size w w' := by
 unfold plist_Add.f at h
 obtain ⟨ok, hm, h⟩ := Option.bind_eq_some_iff.1 h
 cases ok
 ·simp only [if_true, Option.some.injEq, Prod.mk.injEq] at h
  obtain ⟨rfl, rfl⟩ := h
  exact (add_arg A0 _ c0 a1_0 a1_1 a1_2 a1_3 a1_4 a1_5 w hm).mono fun e w' ⟨h1, h2⟩ => ⟨_, h1, Kd.R_nil _ _ _ _ _, h2⟩
 ·rw [if_neg (by decide)] at h
  split at h
  ·rename_i hc
   obtain ⟨hn, hs, h3, h4⟩ := hc
   cases hany : l0.any (fun x => x.f0 == a1_0)
   ·rw [hany, if_neg (by decide)] at h
    split at h
    ·rename_i h200
     simp only [Option.some.injEq, Prod.mk.injEq] at h
     obtain ⟨rfl, rfl⟩ := h
     exact (add_not A0 c0 l0 a1_0 a1_1 a1_2 a1_3 a1_4 a1_5 w hm hr0 hn hs h3 h4 false hany (fun _ => decide_eq_true (by omega))).mono fun e w' ⟨h1, h2⟩ => ⟨_, h1, Kd.R_nil _ _ _ _ _, h2⟩
    ·rename_i h200
     simp only [Option.some.injEq, Prod.mk.injEq] at h
     obtain ⟨rfl, rfl⟩ := h
     refine (add_ok A0 c0 l0 a1_0 a1_1 a1_2 a1_3 a1_4 a1_5 w hm hr0 hn hs h3 h4 hany (decide_eq_false (by omega))).mono fun e w' ⟨v, h1, h2, h3⟩ => ⟨v, h1, R_flat enc26 enc26_len enc26_M ?_, h3⟩
     have hcl : l0.countP (fun x => decide (x.f0 < a1_0)) ≤ l0.length := List.countP_le_length
     have e1 : (l0.take (l0.countP fun x => decide (x.f0 < a1_0)) ++ (⟨a1_0, a1_1, ⟨a1_2, a1_3⟩, a1_4, a1_5⟩ : S26) :: l0.drop (l0.countP fun x => decide (x.f0 < a1_0))).length = l0.length + 1 := by
      simp only [List.length_append, List.length_take, List.length_cons, List.length_drop]
      omega
     rw [e1]
     exact h2
   ·rw [hany, if_pos rfl] at h
    simp only [Option.some.injEq, Prod.mk.injEq] at h
    obtain ⟨rfl, rfl⟩ := h
    exact (add_not A0 c0 l0 a1_0 a1_1 a1_2 a1_3 a1_4 a1_5 w hm hr0 hn hs h3 h4 true hany (fun e => by cases e)).mono fun e w' ⟨h1, h2⟩ => ⟨_, h1, Kd.R_nil _ _ _ _ _, h2⟩
  ·cases h
end Go.Proofs.YthngpkfckhmiiaaGreatDoor.X
end
