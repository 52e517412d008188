/- Parts of the proof: Xx26, Lists, Lists2, Lists3, Xx27, LawsL, Args. -/
import Derived.Test.YthngpkfckhmiiaaGreatDoorZIdle3
import Derived.Deep.Slices
import Derived.ChangeSame
import Derived.WideShapes
import Derived.Lib.SmallJoins
section
namespace Go.Proofs.YthngpkfckhmiiaaGreatDoor.X
open Go.RowKit Go.Proofs.YthngpkfckhmiiaaGreatDoorW.PrintWords Go.Proofs.YthngpkfckhmiiaaGreatDoorW.PrintLast Go.Proofs.YthngpkfckhmiiaaGreatDoorW.PrintMore
attribute [local go_sem] max2_int min2_int max_two min_two max_three min_three max_four min_four   -- for this text's walks alone
set_option linter.unusedVariables false
set_option linter.unusedSimpArgs false
def crossroadslaw07_rows.l0 : Nat → List (S26) → List (S34) → Int → Option ((List (S34)))
  | 0, _, _, _ => none
  | k + 1, x0, x3, x4 => if x4 < (x0.length : Int) then (if 0 ≤ x4 then ((crossroadslaw07_plain.f ((rd_T26 x0 x4).f0) ((rd_T26 x0 x4).f1) ((rd_T26 x0 x4).f2.f0) ((rd_T26 x0 x4).f2.f1) ((rd_T26 x0 x4).f3) ((rd_T26 x0 x4).f4)).bind fun bt322 => (if x3.length < 2932031007402 then (crossroadslaw07_rows.l0 k x0 (x3 ++ [(⟨bt322.1, bt322.2.1, (⟨bt322.2.2.1, bt322.2.2.2.1⟩ : S24), bt322.2.2.2.2.1, bt322.2.2.2.2.2⟩ : S34)]) (wrap64 (x4 + 1))) else (none))) else (none)) else (some x3)
def crossroadslaw07_rows.f (k : Nat) (l0 : List (S26)) : Option ((List (S34))) := crossroadslaw07_rows.l0 k l0 (([] : List (S34))) 0
set_option maxHeartbeats 8000000 in
set_option maxRecDepth 100000 in
theorem crossroadslaw07_rows.calls (k : Nat) (A0 : Option Addr) (c0 : Nat) (l0 : List (S26)) (r : List (S34)) (w : World) (hr0 : Kd.C k26 w A0 l0.length l0) (hc0 : l0.length ≤ c0) (h : crossroadslaw07_rows.f k l0 = some r) :
    Calls Tryz.prog 19 #[.slice A0 l0.length c0] w fun e w' => ∃ v0_ : Value, e = .returned (v0_) ∧ Kd.R k34 34 w' w.heap.size (fun _ => True) v0_ r ∧ Below w.heap.size w w' := by
  have hu26 := Tryz.underlying26
  have HR0 := Aside0.mk hr0
  have HC0 := Aside0.mk hc0
  clear hr0 hc0
  have HB := Aside0.mk (Below.refl w.heap.size w)
  have H : (crossroadslaw07_rows.l0 k l0 (([] : List (S34))) 0) = some r := h
  clear h
  obtain ⟨y318, hy318⟩ : ∃ y_ : List (S34), y_ = (([] : List (S34))) := ⟨_, rfl⟩
  replace H : (crossroadslaw07_rows.l0 k l0 y318 0) = some r := by first | (rw [hy318]; with_reducible exact H) | (have H2_ := (Option.bind_some _ _).symm.trans H; rw [hy318]; with_reducible exact H2_) | (have H2_ := (Option.bind_some _ _).symm.trans H; with_reducible exact H2_) | with_reducible exact H | (rw [hy318]; exact H) | exact H
  have Ny318 := Aside0.mk hy318
  clear hy318
  have H' := Aside0.mk H
  clear H
  go_enter Tryz.func19, Tryz.ntmps19
  go_wp2_with (first | ((with_reducible refine gate_dst (N := 5) rfl ?_); refine Kd.R_lit k34 _ 34 ?hg (N := 5) ?hd (xs := ([] : List (S34))) (inner := []) (ok := fun _ => True) (okp := fun _ => True) ?hr ?hp (fun _ hk => hk) trivial (Below.refl _ _) (Nat.le_refl _) (by simp) ?_; (case hd => rfl); (case hg => rfl); (case hr => first | (go_simp; done) | (go_simp; rfl)); (case hp => exact (Reps.none _ _)); intro v319 w2 ho3 hb hg_ hnew_; clear hg_ hnew_; (first | rw [← Ny318.out] at ho3 | (simp only [Int.reduceToNat] at ho3; rw [← Ny318.out] at ho3)); have n0_ := Aside0.mk (Kd.R_lower ho3 (below_size (by repeat (first | (with_reducible first | exact HB.out | apply below_alloc | apply pw_below_drewN | apply below_drew1) | exact HB.out)))); have n1_ := Aside0.mk (below_step (by repeat (first | (with_reducible first | exact HB.out | apply below_alloc | apply pw_below_drewN | apply below_drew1) | exact HB.out)) hb); clear HB; have HO320 := n0_; have HB := n1_; clear n0_ n1_; clear hb ho3))
  go_loopg [3, 4] k (fun kq v3 v4 w' => ∃ (x3_1 : List (S34)) (x4_1 : Int), v4 = .int .i64 x4_1 ∧ Aside0 (crossroadslaw07_rows.l0 kq l0 x3_1 x4_1 = some r) ∧ Aside0 (kq ≤ k) ∧ Aside0 (Kd.R k34 34 w' w.heap.size (fun _ => True) v3 x3_1) ∧ Aside0 (Below w.heap.size w w'))
  case atStart => exact ⟨(y318), (0), (by first | rfl | (simp; done) | (simp [*]; done) | (congr 1; omega) | (simp; omega)), H', ⟨Nat.le_refl _⟩, ⟨by (with_reducible repeat (first | apply Kd.R_alloc | apply Kd.R_drewN | apply Kd.R_drew)); exact HO320.out⟩, ⟨by repeat (first | (with_reducible first | exact HB.out | apply below_alloc | apply pw_below_drewN | apply below_drew1) | exact HB.out)⟩⟩
  case round =>
    clear H'
    try clear c1
    try clear p2
    obtain ⟨x3_1, x4_1, rfl, HA, HK1, HO_3, HB⟩ := hrel
    cases gk with
    | zero => exact absurd HA.out (by simp [crossroadslaw07_rows.l0])
    | succ k1 =>
      have H := HA.out
      clear HA
      simp only [crossroadslaw07_rows.l0] at H
      by_cases c4 : x4_1 < (l0.length : Int)
      · rw [if_pos c4] at H
        have c4b0 : decide (x4_1 < (l0.length : Int)) = true := decide_eq_true c4
        clear c4
        by_cases c5 : 0 ≤ x4_1
        · rw [if_pos c5] at H
          have c5b0 : decide (0 ≤ x4_1) = true := decide_eq_true c5
          clear c5
          replace H := Option.bind_eq_some_iff.mp H
          obtain ⟨⟨t322, t323, t324, t325, t326, t327⟩, A60, H⟩ := H
          replace H : (if x3_1.length < 2932031007402 then (crossroadslaw07_rows.l0 k1 l0 (x3_1 ++ [(⟨t322, t323, (⟨t324, t325⟩ : S24), t326, t327⟩ : S34)]) (wrap64 (x4_1 + 1))) else (none)) = some r := H
          have A6 := Aside0.mk A60
          clear A60
          by_cases c7 : x3_1.length < 2932031007402
          · rw [if_pos c7] at H
            have LMc7 := Aside0.mk c7
            clear c7
            obtain ⟨y328, hy328⟩ : ∃ y_ : List (S34), y_ = (x3_1 ++ [(⟨t322, t323, (⟨t324, t325⟩ : S24), t326, t327⟩ : S34)]) := ⟨_, rfl⟩
            replace H : (crossroadslaw07_rows.l0 k1 l0 y328 (wrap64 (x4_1 + 1))) = some r := by first | (rw [hy328]; with_reducible exact H) | (have H2_ := (Option.bind_some _ _).symm.trans H; rw [hy328]; with_reducible exact H2_) | (have H2_ := (Option.bind_some _ _).symm.trans H; with_reducible exact H2_) | with_reducible exact H | (rw [hy328]; exact H) | exact H
            have Ny328 := Aside0.mk hy328
            clear hy328
            have H' := Aside0.mk H
            clear H
            have p321 : 0 ≤ (x4_1 : Int) := of_decide_eq_true (by first | (with_reducible assumption) | assumption)
            have q321 : x4_1 < (l0.length : Int) := of_decide_eq_true (by first | (with_reducible assumption) | assumption)
            obtain ⟨ad321, e321, hx321_0, hx321_1, hx321_2, hx321_3, hx321_4, hx321_5⟩ := at_T26 HR0.out x4_1 p321 q321
            cases e321
            replace hx321_0 := (HB.out.cell (World.block_lt_of_cell? w _ hx321_0)).trans hx321_0
            replace hx321_1 := (HB.out.cell (World.block_lt_of_cell? w _ hx321_1)).trans hx321_1
            replace hx321_2 := (HB.out.cell (World.block_lt_of_cell? w _ hx321_2)).trans hx321_2
            replace hx321_3 := (HB.out.cell (World.block_lt_of_cell? w _ hx321_3)).trans hx321_3
            replace hx321_4 := (HB.out.cell (World.block_lt_of_cell? w _ hx321_4)).trans hx321_4
            replace hx321_5 := (HB.out.cell (World.block_lt_of_cell? w _ hx321_5)).trans hx321_5
            replace p321 := eq_true p321
            replace q321 := eq_true q321
            go_wp2_with (first | ((with_reducible refine gate_callee (f := 13) rfl ?_); refine goesL_ (some 17) rfl rfl Tryz.func13 (by kernel_rfl) rfl #[.agg #[.int .i64 ((rd_T26 l0 x4_1).f0), .bool ((rd_T26 l0 x4_1).f1), .int .u32 ((rd_T26 l0 x4_1).f2.f0), .int .i64 ((rd_T26 l0 x4_1).f2.f1), .int .i64 ((rd_T26 l0 x4_1).f3), .int .i64 ((rd_T26 l0 x4_1).f4)]] rfl (by (try simp only [List.map_toArray, List.map_cons, List.map_nil]); first | done | rfl | (simp only [List.length_drop, List.length_take]; rfl)) ?_; (with_reducible refine (crossroadslaw07_plain.calls ((rd_T26 l0 x4_1).f0) ((rd_T26 l0 x4_1).f1) ((rd_T26 l0 x4_1).f2.f0) ((rd_T26 l0 x4_1).f2.f1) ((rd_T26 l0 x4_1).f3) ((rd_T26 l0 x4_1).f4) t322 t323 t324 t325 t326 t327 _ A6.out).mono ?_); rintro e w8 ⟨rfl, hb⟩; refine ⟨_, rfl, ?_⟩; have n0_ := Aside0.mk (Kd.R_below (by (with_reducible repeat (first | apply Kd.R_alloc | apply Kd.R_drewN | apply Kd.R_drew)); exact HO_3.out) hb); have n1_ := Aside0.mk (below_step (by repeat (first | (with_reducible first | exact HB.out | apply below_alloc | apply pw_below_drewN | apply below_drew1) | exact HB.out)) hb); clear HO_3; clear HB; have HO_3 := n0_; have HB := n1_; clear n0_ n1_; (try clear hb); (try clear hb2); (try clear hk); (try clear hi)) | ((with_reducible refine gate_builtin (b := .append) (xs := #[.tmp 12, .tmp 18]) rfl ?_); at_builtin; refine Kd.R_append k34 (w0 := w) w.heap.size rfl (.tmp 12) (.tmp 18) 44 34 (.agg #[(.int .i64 0), (.bool false), (.int .u32 0), (.int .i64 0), (.int .i64 0), (.int .i64 0)]) 48 rfl Tryz.underlying44 info34 rfl (by decide) (by omega) u3 x3_1 (⟨t322, t323, (⟨t324, t325⟩ : S24), t326, t327⟩ : S34) [.int .i64 t322, .bool t323, .int .u32 t324, .int .i64 t325, .int .i64 t326, .int .i64 t327] (fun _ => True) (fun _ => False) rfl rfl ?aP (fun _ hk => hk.elim) ?aF ?aO ?aB ?aS ?aL ?_; (case aP => exact k34_mkM _ _ _ (⟨t322, t323, (⟨t324, t325⟩ : S24), t326, t327⟩ : S34)); (case aB => exact (by repeat (first | (with_reducible first | exact HB.out | apply below_alloc | apply pw_below_drewN | apply below_drew1) | exact HB.out))); (case aF => exact (fun _ _ => trivial)); (case aO => exact (by (with_reducible repeat (first | apply Kd.R_alloc | apply Kd.R_drewN | apply Kd.R_drew)); exact HO_3.out)); (case aS => exact (below_size (by repeat (first | (with_reducible first | exact HB.out | apply below_alloc | apply pw_below_drewN | apply below_drew1) | exact HB.out)))); (case aL => have := LMc7.out; omega); intro v329 w9 ho hb hg hat; rw [← Ny328.out] at ho; have n0_ := Aside0.mk (hb); have n1_ := Aside0.mk (ho); clear HB; clear HO_3; have HB := n0_; have HO330 := n1_; clear n0_ n1_; clear ho hb hg hat))
            go_roundg k1
            case measure => have := HK1.out; omega
            case rel => exact ⟨(y328), (wrap64 (x4_1 + 1)), (by first | rfl | (simp; done) | (simp [*]; done) | (congr 1; omega) | (simp; omega)), H', ⟨by have := HK1.out; omega⟩, ⟨by (with_reducible repeat (first | apply Kd.R_alloc | apply Kd.R_drewN | apply Kd.R_drew)); exact HO330.out⟩, ⟨by repeat (first | (with_reducible first | exact HB.out | apply below_alloc | apply pw_below_drewN | apply below_drew1) | exact HB.out)⟩⟩
          · rw [if_neg c7] at H
            exact absurd H (by simp)
        · rw [if_neg c5] at H
          exact absurd H (by simp)
      · rw [if_neg c4] at H
        have c4b0 : decide (x4_1 < (l0.length : Int)) = false := decide_eq_false c4
        clear c4
        obtain rfl := Option.some.inj H
        go_wp2
        go_ret
        exact ⟨_, by first | rfl | (simp [errW_none, errW_some] <;> rfl) | (simp [*, errW_none, errW_some] <;> rfl), by (with_reducible repeat (first | apply Kd.R_alloc | apply Kd.R_drewN | apply Kd.R_drew)); exact HO_3.out, by repeat (first | (with_reducible first | exact HB.out | apply below_alloc | apply pw_below_drewN | apply below_drew1) | exact HB.out)⟩
end Go.Proofs.YthngpkfckhmiiaaGreatDoor.X
end
section
set_option linter.unusedVariables false
set_option linter.unusedSimpArgs false
namespace Go.Proofs.YthngpkfckhmiiaaGreatDoor.X
open Go.RowKit Go.Proofs.YthngpkfckhmiiaaGreatDoorW.PrintWords Go.Proofs.YthngpkfckhmiiaaGreatDoorW.PrintMore
def conv (x : S26) : S34 := ⟨x.f0, x.f1, x.f2, x.f3, x.f4⟩
def mayS (x : S26) : Bool := mayR x.f0 x.f2.f0 x.f2.f1 x.f3 x.f4
def may34 (x : S34) : Bool := mayR x.f0 x.f2.f0 x.f2.f1 x.f3 x.f4
def meansS (x : S26) (A N : Int) : Bool := meansB x.f0 x.f2.f0 x.f2.f1 x.f3 x.f4 A N
def hidesS (x y : S26) : Bool := hidesB x.f2.f0 x.f2.f1 x.f3 x.f4 y.f2.f0 y.f2.f1 y.f3 y.f4
def WFl (l : List S26) : Prop := ∀ x ∈ l, U32 x.f2.f0
theorem wrapS (n : Nat) (h : n ≤ 1000000) : wrap64 ((n : Int) + 1) = ((n + 1 : Nat) : Int) := by
  rw [wrap64_id _ (by omega) (by omega)]
  omega
theorem wrapP (n : Nat) (h : n ≤ 1000000) : wrap64 (((n + 1 : Nat) : Int) - 1) = (n : Int) := by
  rw [wrap64_id _ (by omega) (by omega)]
  omega
theorem rd34_nat (xs : List S34) (i : Nat) (h : i < xs.length) : rd_T34 xs (i : Int) = xs[i] := by
  unfold rd_T34
  rw [List.getD_eq_getElem?_getD]
  simp [h]
theorem rd26_nat (xs : List S26) (i : Nat) (h : i < xs.length) : rd_T26 xs (i : Int) = xs[i] := by
  unfold rd_T26
  rw [List.getD_eq_getElem?_getD]
  simp [h]
theorem rd_nat (xs : List Int) (i : Nat) (h : i < xs.length) : rd xs (i : Int) = xs[i] := by
  unfold rd
  rw [List.getD_eq_getElem?_getD]
  simp [h]
theorem rows_l0 (l : List S26) (hl : l.length ≤ 1000) : ∀ (d k i : Nat) (acc : List S34), i ≤ l.length → l.length - i = d → d < k → acc.length ≤ 1000000 - d →
    crossroadslaw07_rows.l0 k l acc (i : Int) = some (acc ++ (l.drop i).map conv) := by
  intro d
  induction d with
  | zero =>
    intro k i acc hi hd hk ha
    obtain ⟨k, rfl⟩ : ∃ m, k = m + 1 := ⟨k - 1, by omega⟩
    obtain rfl : i = l.length := by omega
    simp only [crossroadslaw07_rows.l0]
    rw [if_neg (by omega)]
    simp
  | succ d ih =>
    intro k i acc hi hd hk ha
    obtain ⟨k, rfl⟩ : ∃ m, k = m + 1 := ⟨k - 1, by omega⟩
    have hlt : i < l.length := by omega
    simp only [crossroadslaw07_rows.l0]
    rw [if_pos (by omega), if_pos (by omega), rd26_nat l i hlt, wrapS i (by omega)]
    simp only [crossroadslaw07_plain.f, Option.bind_some]
    rw [if_pos (by omega), ih k (i + 1) _ (by omega) (by omega) (by omega) (by simp only [List.length_append, List.length_singleton]; omega), List.drop_eq_getElem_cons hlt, List.map_cons, List.append_assoc]
    rfl
theorem rows_f (k : Nat) (l : List S26) (hl : l.length ≤ 1000) (hk : 1001 ≤ k) : crossroadslaw07_rows.f k l = some (l.map conv) := by
  unfold crossroadslaw07_rows.f
  have := rows_l0 l hl l.length k 0 [] (by omega) (by omega) (by omega) (by simp)
  simpa using this
def chainB : Option S34 → List S34 → Bool
  | _, [] => true
  | none, x :: r => may34 x && chainB (some x) r
  | some p, x :: r => may34 x && decide (p.f0 < x.f0) && chainB (some x) r
theorem MayAll_l0 (l : List S34) (hl : l.length ≤ 1000) (hU : ∀ x ∈ l, U32 x.f2.f0) : ∀ (d k i : Nat), i ≤ l.length → l.length - i = d → d + 50 < k →
    crossroadsref07_MayAll.l0 k l (i : Int) = some (chainB (if i = 0 then none else l[i - 1]?) (l.drop i)) := by
  intro d
  induction d with
  | zero =>
    intro k i hi hd hk
    obtain ⟨k, rfl⟩ : ∃ m, k = m + 1 := ⟨k - 1, by omega⟩
    obtain rfl : i = l.length := by omega
    simp only [crossroadsref07_MayAll.l0]
    rw [if_neg (by omega)]
    simp [chainB]
  | succ d ih =>
    intro k i hi hd hk
    obtain ⟨k, rfl⟩ : ∃ m, k = m + 1 := ⟨k - 1, by omega⟩
    have hlt : i < l.length := by omega
    have hx := hU l[i] (List.getElem_mem hlt)
    have e2 : l[i + 1 - 1]? = some l[i] := by simp [hlt]
    simp only [crossroadsref07_MayAll.l0]
    rw [if_pos (by omega), if_pos (by omega), rd34_nat l i hlt, rMay_p k (by omega) _ _ _ _ _ _ hx, List.drop_eq_getElem_cons hlt]
    simp only [Option.bind_some]
    cases hm : mayR l[i].f0 l[i].f2.f0 l[i].f2.f1 l[i].f3 l[i].f4
    · have : may34 l[i] = false := hm
      cases i with
      | zero => simp [chainB, this]
      | succ i =>
        have e3 : l[i + 1 - 1]? = some l[i] := by simp
        rw [if_neg (show ¬ (i + 1 = 0) by omega), e3]
        simp [chainB, this]
    · have hm' : may34 l[i] = true := hm
      rw [if_pos rfl]
      cases i with
      | zero =>
        rw [if_neg (by omega), wrapS 0 (by omega), ih k (0 + 1) (by omega) (by omega) (by omega)]
        rw [if_neg (by omega), e2]
        simp [chainB, hm']
      | succ i =>
        have e3 : l[i + 1 - 1]? = some l[i] := by simp
        rw [if_pos (by omega), wrapP i (by omega), if_pos (by omega), if_pos (by omega), rd34_nat l i (by omega)]
        rw [if_neg (show ¬ (i + 1 = 0) by omega), e3]
        simp only [chainB, hm', Bool.true_and]
        by_cases hle : l[i + 1].f0 ≤ l[i].f0
        · rw [if_pos hle, decide_eq_false (by omega)]
          simp
        · rw [if_neg hle, decide_eq_true (by omega), wrapS (i + 1) (by omega), ih k (i + 1 + 1) (by omega) (by omega) (by omega)]
          rw [if_neg (by omega), e2]
          simp
theorem MayAll_f (k : Nat) (l : List S34) (hl : l.length ≤ 1000) (hU : ∀ x ∈ l, U32 x.f2.f0) (hk : 1051 ≤ k) : crossroadsref07_MayAll.f k l = some (chainB none l) := by
  unfold crossroadsref07_MayAll.f
  have := MayAll_l0 l hl hU l.length k 0 (by omega) (by omega) (by omega)
  simpa using this
theorem chain_some (p : S34) (l : List S34) (h : chainB (some p) l = true) : (∀ x ∈ l, may34 x = true ∧ p.f0 < x.f0) ∧ l.Pairwise (fun a b => a.f0 < b.f0) := by
  induction l generalizing p with
  | nil => exact ⟨fun x hx => by simp at hx, List.Pairwise.nil⟩
  | cons a r ih =>
    simp only [chainB, Bool.and_eq_true, decide_eq_true_eq] at h
    obtain ⟨⟨h1, h2⟩, h3⟩ := h
    obtain ⟨h4, h5⟩ := ih a h3
    refine ⟨fun x hx => ?_, List.pairwise_cons.2 ⟨fun x hx => (h4 x hx).2, h5⟩⟩
    rcases List.mem_cons.1 hx with rfl | hx
    · exact ⟨h1, h2⟩
    · exact ⟨(h4 x hx).1, by have := (h4 x hx).2; omega⟩
theorem chain_none (l : List S34) (h : chainB none l = true) : (∀ x ∈ l, may34 x = true) ∧ l.Pairwise (fun a b => a.f0 < b.f0) := by
  cases l with
  | nil => exact ⟨fun x hx => by simp at hx, List.Pairwise.nil⟩
  | cons a r =>
    simp only [chainB, Bool.and_eq_true] at h
    obtain ⟨h4, h5⟩ := chain_some a r h.2
    refine ⟨fun x hx => ?_, List.pairwise_cons.2 ⟨fun x hx => (h4 x hx).2, h5⟩⟩
    rcases List.mem_cons.1 hx with rfl | hx
    · exact h.1
    · exact (h4 x hx).1
structure Good (l : List S26) : Prop where
  may : ∀ x ∈ l, mayS x = true
  asc : l.Pairwise (fun a b => a.f0 < b.f0)
theorem good_of {l : List S26} (h : chainB none (l.map conv) = true) : Good l := by
  obtain ⟨h1, h2⟩ := chain_none _ h
  refine ⟨fun x hx => h1 (conv x) (List.mem_map_of_mem hx), ?_⟩
  rw [List.pairwise_map] at h2
  exact h2
theorem means1_p (x : S26) (A N : Int) (hx : U32 x.f2.f0) (hA : U32 A) : means1 x A N = some (meansS x A N) := Means_p 1 (by omega) _ _ _ _ _ _ _ _ hx hA
theorem hides1_p (x y : S26) (hx : U32 x.f2.f0) (hy : U32 y.f2.f0) : hides1 x y = some (hidesS x y) := hides_p 1 (by omega) _ _ _ _ _ _ _ _ _ _ _ _ hx hy
theorem find_congr' {α : Type} {p q : α → Bool} {l : List α} (h : ∀ x ∈ l, p x = q x) : l.find? p = l.find? q := by
  induction l with
  | nil => rfl
  | cons a r ih =>
    rw [List.find?_cons, List.find?_cons, h a (by simp), ih fun x hx => h x (by simp [hx])]
def evalB (l : List S26) (A N : Int) : Bool × Int := match l.find? (fun x => meansS x A N) with | none => (false, 0) | some x => (x.f1, x.f0)
theorem Eval_p (l : List S26) (A N : Int) (hl : l.length ≤ 1000) (hU : WFl l) (hA : U32 A) : plist_Eval.f l A N = some (evalB l A N) := by
  unfold plist_Eval.f evalB
  rw [if_pos ⟨by omega, List.all_eq_true.2 fun x hx => by rw [means1_p x A N (hU x hx) hA]; rfl⟩]
  rw [find_congr' (p := fun x => (means1 x A N).getD false) (q := fun x => meansS x A N) (fun x hx => by rw [means1_p x A N (hU x hx) hA]; rfl)]
  cases l.find? (fun x => meansS x A N) <;> rfl
end Go.Proofs.YthngpkfckhmiiaaGreatDoor.X
end
section
set_option linter.unusedVariables false
set_option linter.unusedSimpArgs false
namespace Go.Proofs.YthngpkfckhmiiaaGreatDoor.X
open Go.RowKit Go.Proofs.YthngpkfckhmiiaaGreatDoorW.PrintWords Go.Proofs.YthngpkfckhmiiaaGreatDoorW.PrintMore
theorem U34 {l : List S26} (h : WFl l) : ∀ x ∈ l.map conv, U32 x.f2.f0 := by
  intro x hx
  obtain ⟨y, hy, rfl⟩ := List.mem_map.1 hx
  exact h y hy
theorem Drop_split (a b : List S26) (x : S26) (s : Int) (hl : (a ++ x :: b).length ≤ 1000000) (ha : ∀ y ∈ a, y.f0 ≠ s) (hx : x.f0 = s) : plist_Drop.f (a ++ x :: b) s = some (a ++ b, 0) := by
  have e : (a ++ x :: b).findIdx? (fun y => y.f0 == s) = some a.length := by
    rw [List.findIdx?_append, List.findIdx?_eq_none_iff.2 (by intro y hy; simpa using ha y hy)]
    simp [List.findIdx?_cons, hx]
  unfold plist_Drop.f
  rw [if_pos hl, e]
  simp [List.eraseIdx_append_of_length_le]
theorem asc_mid {a b : List S26} {x : S26} (h : (a ++ x :: b).Pairwise fun p q => p.f0 < q.f0) : (∀ y ∈ a, y.f0 < x.f0) ∧ (∀ y ∈ b, x.f0 < y.f0) := by
  rw [List.pairwise_append, List.pairwise_cons] at h
  exact ⟨fun y hy => h.2.2 y hy x (by simp), fun y hy => h.2.1.1 y hy⟩
theorem filter_mid {a b : List S26} {x : S26} (h : (a ++ x :: b).Pairwise fun p q => p.f0 < q.f0) : (a ++ x :: b).filter (fun y => !decide (y.f0 = x.f0)) = a ++ b := by
  obtain ⟨h1, h2⟩ := asc_mid h
  rw [List.filter_append, List.filter_cons_of_neg (by simp), List.filter_eq_self.2 (fun y hy => by have := h1 y hy; simp; omega), List.filter_eq_self.2 (fun y hy => by have := h2 y hy; simp; omega)]
def idleB (l : List S26) (i : Nat) : Bool := (l.take i).any fun x => hidesS x l[i]!
def idlesB (l : List S26) : List Int := (List.range l.length).filterMap fun i => if idleB l i then some l[i]!.f0 else none
theorem WFl.get {l : List S26} (h : WFl l) {i : Nat} (hi : i < l.length) : U32 l[i]!.f2.f0 := by
  rw [getElem!_pos l i hi]
  exact h _ (List.getElem_mem hi)
theorem any_congr' {α : Type} {p q : α → Bool} {l : List α} (h : ∀ x ∈ l, p x = q x) : l.any p = l.any q := by
  induction l with
  | nil => rfl
  | cons a r ih => rw [List.any_cons, List.any_cons, h a (by simp), ih fun x hx => h x (by simp [hx])]
theorem fm_congr' {α β : Type} {p q : α → Option β} {l : List α} (h : ∀ x ∈ l, p x = q x) : l.filterMap p = l.filterMap q := by
  induction l with
  | nil => rfl
  | cons a r ih => rw [List.filterMap_cons, List.filterMap_cons, h a (by simp), ih fun x hx => h x (by simp [hx])]
theorem Idle_p (l : List S26) (hl : l.length ≤ 1000) (hU : WFl l) : plist_Idle.f l = some (idlesB l) := by
  unfold plist_Idle.f
  rw [if_pos ⟨by omega, List.all_eq_true.2 fun x hx => List.all_eq_true.2 fun y hy => by rw [hides1_p x y (hU x hx) (hU y hy)]; rfl⟩]
  congr 1
  unfold idles idlesB
  refine fm_congr' fun i hi => ?_
  have hi' : i < l.length := List.mem_range.1 hi
  unfold idleB
  rw [any_congr' (q := fun x => hidesS x l[i]!) fun x hx => by rw [hides1_p x _ (hU x (List.mem_of_mem_take hx)) (hU.get hi')]; rfl]
end Go.Proofs.YthngpkfckhmiiaaGreatDoor.X
end
section
set_option linter.unusedVariables false
set_option linter.unusedSimpArgs false
namespace Go.Proofs.YthngpkfckhmiiaaGreatDoor.X
open Go.RowKit Go.Proofs.YthngpkfckhmiiaaGreatDoorW.PrintWords Go.Proofs.YthngpkfckhmiiaaGreatDoorW.PrintMore
instance : Inhabited S34 := ⟨⟨0, false, ⟨0, 0⟩, 0, 0⟩⟩
end Go.Proofs.YthngpkfckhmiiaaGreatDoor.X
end
section
namespace Go.Proofs.YthngpkfckhmiiaaGreatDoor.X
open Go.RowKit Go.Proofs.YthngpkfckhmiiaaGreatDoorW.PrintWords Go.Proofs.YthngpkfckhmiiaaGreatDoorW.PrintLast Go.Proofs.YthngpkfckhmiiaaGreatDoorW.PrintMore
attribute [local go_sem] max2_int min2_int max_two min_two max_three min_three max_four min_four   -- for this text's walks alone
set_option linter.unusedVariables false
set_option linter.unusedSimpArgs false
mutual
def crossroadslaw07_PlistIdle.j0 : Nat → List (S26) → Bool → Int → Int → Option (Bool)
  | 0, _, _, _, _ => none
  | k + 1, x0, x22, x332000, x332001 => if x22 = true then ((crossroadslaw07_alive.f k).bind fun t336 => (some t336)) else ((plist_Idle.f x0).bind fun t337 => ((some (([] : List (S26)) : List (S26))).bind fun y340 => (if y340.length + x0.length < 2932031007402 then (crossroadslaw07_PlistIdle.l0 k x0 t337 (y340 ++ x0) 0 x332000 x332001) else (none))))
def crossroadslaw07_PlistIdle.l0 : Nat → List (S26) → List Int → List (S26) → Int → Int → Int → Option (Bool)
  | 0, _, _, _, _, _, _ => none
  | k + 1, x0, x5, x6, x7, x332000, x332001 => if x7 < (x5.length : Int) then (if 0 ≤ x7 then ((plist_Drop.f x6 (rd x5 x7)).bind fun bt347 => (if bt347.2 = 0 then (crossroadslaw07_PlistIdle.l0 k x0 x5 bt347.1 (wrap64 (x7 + 1)) x332000 x332001) else (none))) else (none)) else ((plist_Eval.f x0 x332000 x332001).bind fun bt351 => ((plist_Eval.f x6 x332000 x332001).bind fun bt353 => ((crossroadslaw07_alive.f k).bind fun t355 => (if t355 = true then (if (bt351.1 == bt353.1) = true then (if bt351.2 = bt353.2 then (some ((x6.length : Int) == (wrap64 ((x0.length : Int) - (x5.length : Int))))) else (none)) else (none)) else (none)))))
end
def crossroadslaw07_PlistIdle.f (k : Nat) (l0 : List (S26)) (a1_0 : Int) (a1_1 : Int) : Option (Bool) := if (l0.length : Int) > 210 then (crossroadslaw07_PlistIdle.j0 k l0 true a1_0 a1_1) else ((crossroadslaw07_rows.f k l0).bind fun t332 => ((crossroadsref07_MayAll.f k t332).bind fun t335 => (crossroadslaw07_PlistIdle.j0 k l0 (!t335) a1_0 a1_1)))
set_option maxHeartbeats 8000000 in
set_option maxRecDepth 100000 in
theorem crossroadslaw07_PlistIdle.calls (k : Nat) (A0 : Option Addr) (c0 : Nat) (l0 : List (S26)) (a1_0 : Int) (a1_1 : Int) (r : Bool) (w : World) (hG : GW w) (hr0 : Kd.C k26 w A0 l0.length l0) (hc0 : l0.length ≤ c0) (h : crossroadslaw07_PlistIdle.f k l0 a1_0 a1_1 = some r) :
    Calls Tryz.prog 5 #[.slice A0 l0.length c0, .agg #[.int .u32 a1_0, .int .i64 a1_1]] w fun e w' => e = .returned (.bool r) ∧ Below w.heap.size w w' := by
  have hu24 := Tryz.underlying24
  have HR0 := Aside0.mk hr0
  have HC0 := Aside0.mk hc0
  clear hr0 hc0
  have HB := Aside0.mk (Below.refl w.heap.size w)
  have H : (if (l0.length : Int) > 210 then (crossroadslaw07_PlistIdle.j0 k l0 true a1_0 a1_1) else ((crossroadslaw07_rows.f k l0).bind fun t332 => ((crossroadsref07_MayAll.f k t332).bind fun t335 => (crossroadslaw07_PlistIdle.j0 k l0 (!t335) a1_0 a1_1)))) = some r := h
  clear h
  have HC3 := Aside0.mk H
  clear H
  go_enter Tryz.func5, Tryz.ntmps5
  go_upto_region 1 with (first | ((with_reducible refine gate_dst (N := 3) rfl ?_); (try (refine gate_guard (by rfl) ?_; dsimp only)); refine box_event ?hg (N := 3) ?hd (cs := #[.int .u32 a1_0, .int .i64 a1_1]) (t := 24) ?hr ?_; (case hd => rfl); (case hg => rfl); (case hr => first | (go_simp; done) | (go_simp; rfl)); intro gb331 hg w4 hbox hb; have n0_ := Aside0.mk (below_step (by repeat (first | (with_reducible first | exact HB.out | apply below_alloc | apply pw_below_drewN | apply below_drew1) | exact HB.out)) hb); have n1_ := Aside0.mk (hbox); have n2_ := Aside0.mk ((by rw [hg]; exact (below_size (by repeat (first | (with_reducible first | exact HB.out | apply below_alloc | apply pw_below_drewN | apply below_drew1) | exact HB.out))) : w.heap.size ≤ gb331)); have n3_ := Aside0.mk ((by rw [hg]; exact (below_size (by repeat (first | (with_reducible first | exact HB.out | apply below_alloc | apply pw_below_drewN | apply below_drew1) | exact HB.out))) : w.heap.size ≤ gb331)); clear HB; have HB := n0_; have BK331 := n1_; have GW331 := n2_; have GE331 := n3_; clear n0_ n1_ n2_ n3_; clear hb hbox hg))
  (try simp only [Act.put, List.setIfInBounds_toArray, List.set_cons_zero, List.set_cons_succ])
  go_cut [22] (fun v22 wc => ∃ (kq : Nat) (x22_2 : Bool), v22 = .bool x22_2 ∧ Aside0 (crossroadslaw07_PlistIdle.j0 kq l0 x22_2 a1_0 a1_1 = some r) ∧ Aside0 (kq ≤ k) ∧ Aside0 (wc.heap[gb331]? = some (.cells #[.int .u32 a1_0, .int .i64 a1_1] 24 (0, 0))) ∧ Aside0 (Below w.heap.size w wc))
  case first =>
    have H := HC3.out
    clear HC3
    by_cases c5 : (l0.length : Int) > 210
    · rw [if_pos c5] at H
      have c5b0 : decide (210 < (l0.length : Int)) = true := decide_eq_true c5
      have c5b1 : decide (210 < l0.length) = true := decide_eq_true (by omega)
      clear c5
      (first | rw [c5b0] | (simp only [i64_w, i32_w]; rw [c5b0]) | skip)
      have H' := Aside0.mk H
      clear H
      go_wp2
      go_meet
      case rel => exact ⟨_, (true), (by first | rfl | (simp; done) | (simp [*]; done) | (congr 1; omega) | (simp; omega)), H', ⟨by first | omega | exact Nat.le_refl _⟩, ⟨by (with_reducible repeat (first | refine blk_drewN ?_ _ | refine blk_drew ?_ | refine blk_alloc ?_ _)); exact BK331.out⟩, ⟨by repeat (first | (with_reducible first | exact HB.out | apply below_alloc | apply pw_below_drewN | apply below_drew1 | refine below_set ?_ GE331.out) | exact HB.out)⟩⟩
    · rw [if_neg c5] at H
      have c5b0 : decide (210 < (l0.length : Int)) = false := decide_eq_false c5
      have c5b1 : decide (210 < l0.length) = false := decide_eq_false (by omega)
      clear c5
      (first | rw [c5b0] | (simp only [i64_w, i32_w]; rw [c5b0]) | skip)
      replace H := Option.bind_eq_some_iff.mp H
      obtain ⟨t332, A60, H⟩ := H
      replace H : ((crossroadsref07_MayAll.f k t332).bind fun t335 => (crossroadslaw07_PlistIdle.j0 k l0 (!t335) a1_0 a1_1)) = some r := H
      have A6 := Aside0.mk A60
      clear A60
      replace H := Option.bind_eq_some_iff.mp H
      obtain ⟨t335, A70, H⟩ := H
      replace H : (crossroadslaw07_PlistIdle.j0 k l0 (!t335) a1_0 a1_1) = some r := H
      have A7 := Aside0.mk A70
      clear A70
      have H' := Aside0.mk H
      clear H
      go_wp2_with (first | (go_at_call 19; (with_reducible refine (crossroadslaw07_rows.calls k _ _ l0 t332 _ ?side1 ?side2 A6.out).mono ?_); (case side1 => repeat (first | exact (Kd.C_below HR0.out HB.out) | (with_reducible refine Kd.C_alloc ?_ _) | (with_reducible refine Kd.C_drewN ?_ _) | (with_reducible refine Kd.C_drew ?_))); (case side2 => exact HC0.out); rintro e w8 ⟨v333, rfl, ho0, hb⟩; have n0_ := Aside0.mk (Kd.R_lower ho0 (below_size (by repeat (first | (with_reducible first | exact HB.out | apply below_alloc | apply pw_below_drewN | apply below_drew1 | refine below_set ?_ GE331.out) | exact HB.out)))); have n1_ := Aside0.mk (blk_below (g := gb331) (o := .cells #[.int .u32 a1_0, .int .i64 a1_1] 24 (0, 0)) (by (with_reducible repeat (first | refine blk_drewN ?_ _ | refine blk_drew ?_ | refine blk_alloc ?_ _)); exact BK331.out) hb); have n2_ := Aside0.mk (below_step (by repeat (first | (with_reducible first | exact HB.out | apply below_alloc | apply pw_below_drewN | apply below_drew1 | refine below_set ?_ GE331.out) | exact HB.out)) hb); clear BK331; clear HB; have HO334 := n0_; have BK331 := n1_; have HB := n2_; clear n0_ n1_ n2_; (try clear hb); (try clear hb2); (try clear hk); (try clear hi); (try clear ho0); obtain ⟨Ao9, co9, eo9⟩ := Kd.R_slice HO334.out; subst eo9) | (go_at_call 18; (with_reducible refine (crossroadsref07_MayAll.calls k _ _ t332 t335 _ ?side1 ?side2 A7.out).mono ?_); (case side1 => repeat (first | exact (Kd.R_reads' HO334.out).2.2 | (with_reducible refine Kd.C_alloc ?_ _) | (with_reducible refine Kd.C_drewN ?_ _) | (with_reducible refine Kd.C_drew ?_))); (case side2 => exact (Kd.R_reads' HO334.out).2.1); rintro e w10 ⟨rfl, hb⟩; have n0_ := Aside0.mk (Kd.R_below (by (with_reducible repeat (first | apply Kd.R_alloc | apply Kd.R_drewN | apply Kd.R_drew)); exact HO334.out) hb); have n1_ := Aside0.mk (blk_below (g := gb331) (o := .cells #[.int .u32 a1_0, .int .i64 a1_1] 24 (0, 0)) (by (with_reducible repeat (first | refine blk_drewN ?_ _ | refine blk_drew ?_ | refine blk_alloc ?_ _)); exact BK331.out) hb); have n2_ := Aside0.mk (below_step (by repeat (first | (with_reducible first | exact HB.out | apply below_alloc | apply pw_below_drewN | apply below_drew1 | refine below_set ?_ GE331.out) | exact HB.out)) hb); clear HO334; clear BK331; clear HB; have HO334 := n0_; have BK331 := n1_; have HB := n2_; clear n0_ n1_ n2_; (try clear hb); (try clear hb2); (try clear hk); (try clear hi)))
      go_meet
      case rel => exact ⟨_, (!t335), (by first | rfl | (simp; done) | (simp [*]; done) | (congr 1; omega) | (simp; omega)), H', ⟨by first | omega | exact Nat.le_refl _⟩, ⟨by (with_reducible repeat (first | refine blk_drewN ?_ _ | refine blk_drew ?_ | refine blk_alloc ?_ _)); exact BK331.out⟩, ⟨by repeat (first | (with_reducible first | exact HB.out | apply below_alloc | apply pw_below_drewN | apply below_drew1 | refine below_set ?_ GE331.out) | exact HB.out)⟩⟩
  case rest =>
    clear HC3
    try clear p2
    try clear c5
    try clear c5b0
    try clear c5b1
    obtain ⟨kq, x22_2, rfl, HA, HJ2, BK331, HB⟩ := hcut
    cases kq with
    | zero => exact absurd HA.out (by simp [crossroadslaw07_PlistIdle.j0])
    | succ kj2 =>
      have H := HA.out
      clear HA
      simp only [crossroadslaw07_PlistIdle.j0] at H
      by_cases c11 : x22_2 = true
      · subst c11
        have H1 : ((crossroadslaw07_alive.f kj2).bind fun t336 => (some t336)) = some r := by rw [if_pos rfl] at H; exact H
        clear H
        have H := H1
        clear H1
        replace H := Option.bind_eq_some_iff.mp H
        obtain ⟨t336, A120, H⟩ := H
        replace H : (some t336) = some r := H
        have A12 := Aside0.mk A120
        clear A120
        obtain rfl := Option.some.inj H
        go_wp2_with (first | ((with_reducible refine gate_callee (f := 11) rfl ?_); refine goesL_ (some 23) rfl rfl Tryz.func11 (by kernel_rfl) rfl #[] rfl (by (try simp only [List.map_toArray, List.map_cons, List.map_nil]); first | done | rfl | (simp only [List.length_drop, List.length_take]; rfl)) ?_; (with_reducible refine (crossroadslaw07_alive.calls kj2  t336 _ ?side1 A12.out).mono ?_); (case side1 => exact GW.below hG (by repeat (first | (with_reducible first | exact HB.out | apply below_alloc | apply pw_below_drewN | apply below_drew1 | refine below_set ?_ GE331.out) | exact HB.out))); rintro e w13 ⟨rfl, hb⟩; refine ⟨_, rfl, ?_⟩; have n0_ := Aside0.mk (blk_below (g := gb331) (o := .cells #[.int .u32 a1_0, .int .i64 a1_1] 24 (0, 0)) (by (with_reducible repeat (first | refine blk_drewN ?_ _ | refine blk_drew ?_ | refine blk_alloc ?_ _)); exact BK331.out) hb); have n1_ := Aside0.mk (below_step (by repeat (first | (with_reducible first | exact HB.out | apply below_alloc | apply pw_below_drewN | apply below_drew1 | refine below_set ?_ GE331.out) | exact HB.out)) hb); clear BK331; clear HB; have BK331 := n0_; have HB := n1_; clear n0_ n1_; (try clear hb); (try clear hb2); (try clear hk); (try clear hi)))
        go_ret
        exact ⟨by first | rfl | (simp [errW_none, errW_some] <;> rfl) | (simp [*, errW_none, errW_some] <;> rfl), by repeat (first | (with_reducible first | exact HB.out | apply below_alloc | apply pw_below_drewN | apply below_drew1 | refine below_set ?_ GE331.out) | exact HB.out)⟩
      · replace c11 := Bool.eq_false_iff.mpr c11
        subst c11
        have H1 : ((plist_Idle.f l0).bind fun t337 => ((some (([] : List (S26)) : List (S26))).bind fun y340 => (if y340.length + l0.length < 2932031007402 then (crossroadslaw07_PlistIdle.l0 kj2 l0 t337 (y340 ++ l0) 0 a1_0 a1_1) else (none)))) = some r := by rw [if_neg (show ¬ (false = true) by decide)] at H; exact H
        clear H
        have H := H1
        clear H1
        replace H := Option.bind_eq_some_iff.mp H
        obtain ⟨t337, A140, H⟩ := H
        replace H : ((some (([] : List (S26)) : List (S26))).bind fun y340 => (if y340.length + l0.length < 2932031007402 then (crossroadslaw07_PlistIdle.l0 kj2 l0 t337 (y340 ++ l0) 0 a1_0 a1_1) else (none))) = some r := H
        have A14 := Aside0.mk A140
        clear A140
        obtain ⟨y340, hy340⟩ : ∃ y_ : List (S26), y_ = (([] : List (S26))) := ⟨_, rfl⟩
        replace H : (if y340.length + l0.length < 2932031007402 then (crossroadslaw07_PlistIdle.l0 kj2 l0 t337 (y340 ++ l0) 0 a1_0 a1_1) else (none)) = some r := by first | (rw [hy340]; with_reducible exact H) | (have H2_ := (Option.bind_some _ _).symm.trans H; rw [hy340]; with_reducible exact H2_) | (have H2_ := (Option.bind_some _ _).symm.trans H; with_reducible exact H2_) | with_reducible exact H | (rw [hy340]; exact H) | exact H
        have Ny340 := Aside0.mk hy340
        clear hy340
        by_cases c15 : y340.length + l0.length < 2932031007402
        · rw [if_pos c15] at H
          have LMc15 := Aside0.mk c15
          clear c15
          obtain ⟨y343, hy343⟩ : ∃ y_ : List (S26), y_ = (y340 ++ l0) := ⟨_, rfl⟩
          replace H : (crossroadslaw07_PlistIdle.l0 kj2 l0 t337 y343 0 a1_0 a1_1) = some r := by first | (rw [hy343]; with_reducible exact H) | (have H2_ := (Option.bind_some _ _).symm.trans H; rw [hy343]; with_reducible exact H2_) | (have H2_ := (Option.bind_some _ _).symm.trans H; with_reducible exact H2_) | with_reducible exact H | (rw [hy343]; exact H) | exact H
          have Ny343 := Aside0.mk hy343
          clear hy343
          have H' := Aside0.mk H
          clear H
          go_wp2_with (first | ((with_reducible refine gate_callee (f := 20) rfl ?_); refine goesL_ (some 25) rfl rfl Tryz.func20 (by kernel_rfl) rfl #[.slice A0 l0.length c0] rfl (by (try simp only [List.map_toArray, List.map_cons, List.map_nil]); first | done | rfl | (simp only [List.length_drop, List.length_take]; rfl)) ?_; (with_reducible refine (plist_Idle.calls _ _ l0 t337 _ ?side1 ?side2 A14.out).mono ?_); (case side1 => repeat (first | exact (Kd.C_below HR0.out HB.out) | (with_reducible refine Kd.C_alloc ?_ _) | (with_reducible refine Kd.C_drewN ?_ _) | (with_reducible refine Kd.C_drew ?_))); (case side2 => exact HC0.out); rintro e w16 ⟨v338, rfl, ho0, hb⟩; refine ⟨_, rfl, ?_⟩; have n0_ := Aside0.mk (Kd.R_lower ho0 (below_size (by repeat (first | (with_reducible first | exact HB.out | apply below_alloc | apply pw_below_drewN | apply below_drew1 | refine below_set ?_ GE331.out) | exact HB.out)))); have n1_ := Aside0.mk (blk_below (g := gb331) (o := .cells #[.int .u32 a1_0, .int .i64 a1_1] 24 (0, 0)) (by (with_reducible repeat (first | refine blk_drewN ?_ _ | refine blk_drew ?_ | refine blk_alloc ?_ _)); exact BK331.out) hb); have n2_ := Aside0.mk (below_step (by repeat (first | (with_reducible first | exact HB.out | apply below_alloc | apply pw_below_drewN | apply below_drew1 | refine below_set ?_ GE331.out) | exact HB.out)) hb); clear BK331; clear HB; have HO339 := n0_; have BK331 := n1_; have HB := n2_; clear n0_ n1_ n2_; (try clear hb); (try clear hb2); (try clear hk); (try clear hi); (try clear ho0)) | ((with_reducible refine gate_dst (N := 26) rfl ?_); (try (refine gate_guard (by rfl) ?_; dsimp only)); refine Kd.R_lit k26 _ 26 ?hg (N := 26) ?hd (xs := ([] : List (S26))) (inner := []) (ok := fun _ => True) (okp := fun _ => True) ?hr ?hp (fun _ hk => hk) trivial (Below.refl _ _) (Nat.le_refl _) (by simp) ?_; (case hd => rfl); (case hg => rfl); (case hr => first | (go_simp; done) | (go_simp; rfl)); (case hp => exact (Reps.none _ _)); intro v341 w17 ho18 hb hg_ hnew_; clear hg_ hnew_; (first | rw [← Ny340.out] at ho18 | (simp only [Int.reduceToNat] at ho18; rw [← Ny340.out] at ho18)); have n0_ := Aside0.mk (Kd.R_below (by (with_reducible repeat (first | apply Kd.R_alloc | apply Kd.R_drewN | apply Kd.R_drew)); exact HO339.out) hb); have n1_ := Aside0.mk (Kd.R_lower ho18 (below_size (by repeat (first | (with_reducible first | exact HB.out | apply below_alloc | apply pw_below_drewN | apply below_drew1 | refine below_set ?_ GE331.out) | exact HB.out)))); have n2_ := Aside0.mk (blk_below (g := gb331) (o := .cells #[.int .u32 a1_0, .int .i64 a1_1] 24 (0, 0)) (by (with_reducible repeat (first | refine blk_drewN ?_ _ | refine blk_drew ?_ | refine blk_alloc ?_ _)); exact BK331.out) hb); have n3_ := Aside0.mk (below_step (by repeat (first | (with_reducible first | exact HB.out | apply below_alloc | apply pw_below_drewN | apply below_drew1 | refine below_set ?_ GE331.out) | exact HB.out)) hb); clear HO339; clear BK331; clear HB; have HO339 := n0_; have HO342 := n1_; have BK331 := n2_; have HB := n3_; clear n0_ n1_ n2_ n3_; clear hb ho18) | ((with_reducible refine gate_builtin (b := .append) (xs := #[.tmp 26, .tmp 27]) rfl ?_); (try (refine gate_guard (by rfl) ?_; dsimp only)); at_builtin; refine Kd.R_append_rows k26 (w0 := w) w.heap.size rfl (.tmp 26) (.tmp 27) 42 26 (.agg #[(.int .i64 0), (.bool false), (.int .u32 0), (.int .i64 0), (.int .i64 0), (.int .i64 0)]) 48 rfl Tryz.underlying42 info26 rfl (by decide) (by omega) v341 y340 l0 _ _ _ (fun _ => True) (fun _ => False) rfl rfl ?aO ?aR (fun _ _ h => h) (fun _ h => h.elim) ?aF ?aB ?aS ?aL ?_; (case aR => repeat (first | exact (Kd.C_below HR0.out HB.out) | (with_reducible refine Kd.C_alloc ?_ _) | (with_reducible refine Kd.C_drewN ?_ _) | (with_reducible refine Kd.C_drew ?_))); (case aB => exact (by repeat (first | (with_reducible first | exact HB.out | apply below_alloc | apply pw_below_drewN | apply below_drew1 | refine below_set ?_ GE331.out) | exact HB.out))); (case aF => exact (fun _ _ => trivial)); (case aO => exact (by (with_reducible repeat (first | apply Kd.R_alloc | apply Kd.R_drewN | apply Kd.R_drew)); exact HO342.out)); (case aS => exact (below_size (by repeat (first | (with_reducible first | exact HB.out | apply below_alloc | apply pw_below_drewN | apply below_drew1 | refine below_set ?_ GE331.out) | exact HB.out)))); (case aL => have := LMc15.out; omega); intro v344 w19 ho hb hg hat; rw [← Ny343.out] at ho; have n0_ := Aside0.mk (blk_grown (g := gb331) (o := .cells #[.int .u32 a1_0, .int .i64 a1_1] 24 (0, 0)) (by (with_reducible repeat (first | refine blk_drewN ?_ _ | refine blk_drew ?_ | refine blk_alloc ?_ _)); exact BK331.out) hg (Kd.R_ne HO342.out BK331.out (by decide))); have n1_ := Aside0.mk (Kd.R_over' (by (with_reducible repeat (first | apply Kd.R_alloc | apply Kd.R_drewN | apply Kd.R_drew)); exact HO339.out) (Kd.R_typed (by (with_reducible repeat (first | apply Kd.R_alloc | apply Kd.R_drewN | apply Kd.R_drew)); exact HO342.out)) (by decide) hg); have n2_ := Aside0.mk (hb); have n3_ := Aside0.mk (ho); clear BK331; clear HO339; clear HB; clear HO342; have BK331 := n0_; have HO339 := n1_; have HB := n2_; have HO345 := n3_; clear n0_ n1_ n2_ n3_; clear ho hb hg hat))
          go_loopg [6, 7] kj2 (fun kq v6 v7 w' => ∃ (x6_2 : List (S26)) (x7_2 : Int), v7 = .int .i64 x7_2 ∧ Aside0 (crossroadslaw07_PlistIdle.l0 kq l0 t337 x6_2 x7_2 a1_0 a1_1 = some r) ∧ Aside0 (kq ≤ kj2) ∧ Aside0 (Kd.R (Kd.int .i64) 3 w' w.heap.size (fun _ => True) v338 t337) ∧ Aside0 (Kd.R k26 26 w' w.heap.size (fun _ => True) v6 x6_2) ∧ Aside0 (w'.heap[gb331]? = some (.cells #[.int .u32 a1_0, .int .i64 a1_1] 24 (0, 0))) ∧ Aside0 (Below w.heap.size w w'))
          case atStart => exact ⟨(y343), (0), (by first | rfl | (simp; done) | (simp [*]; done) | (congr 1; omega) | (simp; omega)), H', ⟨Nat.le_refl _⟩, ⟨by (with_reducible repeat (first | apply Kd.R_alloc | apply Kd.R_drewN | apply Kd.R_drew)); exact HO339.out⟩, ⟨by (with_reducible repeat (first | apply Kd.R_alloc | apply Kd.R_drewN | apply Kd.R_drew)); exact HO345.out⟩, ⟨by (with_reducible repeat (first | refine blk_drewN ?_ _ | refine blk_drew ?_ | refine blk_alloc ?_ _)); exact BK331.out⟩, ⟨by repeat (first | (with_reducible first | exact HB.out | apply below_alloc | apply pw_below_drewN | apply below_drew1 | refine below_set ?_ GE331.out) | exact HB.out)⟩⟩
          case round =>
            clear H'
            try clear c1
            try clear c2
            try clear p2
            try clear c5
            try clear c5b0
            try clear c5b1
            try clear c11
            try clear c15
            try clear p2
            obtain ⟨x6_2, x7_2, rfl, HA, HK2, HO_5, HO_6, BK331, HB⟩ := hrel
            cases gk with
            | zero => exact absurd HA.out (by simp [crossroadslaw07_PlistIdle.l0])
            | succ k2 =>
              have H := HA.out
              clear HA
              simp only [crossroadslaw07_PlistIdle.l0] at H
              by_cases c20 : x7_2 < (t337.length : Int)
              · rw [if_pos c20] at H
                have c20b0 : decide (x7_2 < (t337.length : Int)) = true := decide_eq_true c20
                clear c20
                by_cases c21 : 0 ≤ x7_2
                · rw [if_pos c21] at H
                  have c21b0 : decide (0 ≤ x7_2) = true := decide_eq_true c21
                  clear c21
                  replace H := Option.bind_eq_some_iff.mp H
                  obtain ⟨⟨t347, t348⟩, A220, H⟩ := H
                  replace H : (if t348 = 0 then (crossroadslaw07_PlistIdle.l0 k2 l0 t337 t347 (wrap64 (x7_2 + 1)) a1_0 a1_1) else (none)) = some r := H
                  have A22 := Aside0.mk A220
                  clear A220
                  by_cases c23 : t348 = 0
                  · rw [if_pos c23] at H
                    have c23b0 : (t348 == 0) = true := beq_iff_eq.mpr c23
                    have c23b1 : (t348 != 0) = false := bne_eq_false_iff_eq.mpr c23
                    clear c23
                    have H' := Aside0.mk H
                    clear H
                    obtain ⟨Ao24, co24, eo24⟩ := Kd.R_slice HO_5.out
                    subst eo24
                    have p346 : 0 ≤ (x7_2 : Int) := of_decide_eq_true (by first | (with_reducible assumption) | assumption)
                    have q346 : x7_2 < (t337.length : Int) := of_decide_eq_true (by first | (with_reducible assumption) | assumption)
                    obtain ⟨ad346, e346, hx346_0⟩ := Kd.at_int (Kd.R_reads' HO_5.out).2.2 x7_2 p346 q346
                    cases e346
                    replace p346 := eq_true p346
                    replace q346 := eq_true q346
                    obtain ⟨Ao25, co25, eo25⟩ := Kd.R_slice HO_6.out
                    subst eo25
                    go_wp2_with (first | ((with_reducible refine gate_callee (f := 21) rfl ?_); refine goesL_ (some 41) rfl rfl Tryz.func21 (by kernel_rfl) rfl #[.slice Ao25 x6_2.length co25, .int .i64 (rd t337 x7_2)] rfl (by (try simp only [List.map_toArray, List.map_cons, List.map_nil]); first | done | rfl | (simp only [List.length_drop, List.length_take]; rfl)) ?_; (with_reducible refine (plist_Drop.calls _ _ x6_2 (rd t337 x7_2) t347 t348 _ ?side1 ?side2 A22.out).mono ?_); (case side1 => repeat (first | exact (Kd.R_reads' HO_6.out).2.2 | (with_reducible refine Kd.C_alloc ?_ _) | (with_reducible refine Kd.C_drewN ?_ _) | (with_reducible refine Kd.C_drew ?_))); (case side2 => exact (Kd.R_reads' HO_6.out).2.1); rintro e w26 ⟨v349, rfl, ho0, hb⟩; refine ⟨_, rfl, ?_⟩; have n0_ := Aside0.mk (Kd.R_below (by (with_reducible repeat (first | apply Kd.R_alloc | apply Kd.R_drewN | apply Kd.R_drew)); exact HO_5.out) hb); have n1_ := Aside0.mk (Kd.R_elder' (by (with_reducible repeat (first | apply Kd.R_alloc | apply Kd.R_drewN | apply Kd.R_drew)); exact HO_6.out) (Kd.R_base ho0) hb); have n2_ := Aside0.mk (Kd.R_lower (Kd.R_new' ho0 (Kd.R_lt (by (with_reducible repeat (first | apply Kd.R_alloc | apply Kd.R_drewN | apply Kd.R_drew)); exact HO_6.out))) (below_size (by repeat (first | (with_reducible first | exact HB.out | apply below_alloc | apply pw_below_drewN | apply below_drew1 | refine below_set ?_ GE331.out) | exact HB.out)))); have n3_ := Aside0.mk (blk_below (g := gb331) (o := .cells #[.int .u32 a1_0, .int .i64 a1_1] 24 (0, 0)) (by (with_reducible repeat (first | refine blk_drewN ?_ _ | refine blk_drew ?_ | refine blk_alloc ?_ _)); exact BK331.out) hb); have n4_ := Aside0.mk (below_step (by repeat (first | (with_reducible first | exact HB.out | apply below_alloc | apply pw_below_drewN | apply below_drew1 | refine below_set ?_ GE331.out) | exact HB.out)) hb); clear HO_5; clear HO_6; clear BK331; clear HB; have HO_5 := n0_; have HO_6 := n1_; have HO350 := n2_; have BK331 := n3_; have HB := n4_; clear n0_ n1_ n2_ n3_ n4_; (try clear hb); (try clear hb2); (try clear hk); (try clear hi); (try clear ho0)))
                    go_roundg k2
                    case measure => have := HJ2.out; have := HK2.out; omega
                    case rel => exact ⟨(t347), (wrap64 (x7_2 + 1)), (by first | rfl | (simp; done) | (simp [*]; done) | (congr 1; omega) | (simp; omega)), H', ⟨by have := HJ2.out; have := HK2.out; omega⟩, ⟨by (with_reducible repeat (first | apply Kd.R_alloc | apply Kd.R_drewN | apply Kd.R_drew)); exact HO_5.out⟩, ⟨by (with_reducible repeat (first | apply Kd.R_alloc | apply Kd.R_drewN | apply Kd.R_drew)); exact Kd.R_mono HO350.out (fun _ hk => trivial)⟩, ⟨by (with_reducible repeat (first | refine blk_drewN ?_ _ | refine blk_drew ?_ | refine blk_alloc ?_ _)); exact BK331.out⟩, ⟨by repeat (first | (with_reducible first | exact HB.out | apply below_alloc | apply pw_below_drewN | apply below_drew1 | refine below_set ?_ GE331.out) | exact HB.out)⟩⟩
                  · rw [if_neg c23] at H
                    exact absurd H (by simp)
                · rw [if_neg c21] at H
                  exact absurd H (by simp)
              · rw [if_neg c20] at H
                have c20b0 : decide (x7_2 < (t337.length : Int)) = false := decide_eq_false c20
                clear c20
                replace H := Option.bind_eq_some_iff.mp H
                obtain ⟨⟨t351, t352⟩, A270, H⟩ := H
                replace H : ((plist_Eval.f x6_2 a1_0 a1_1).bind fun bt353 => ((crossroadslaw07_alive.f k2).bind fun t355 => (if t355 = true then (if (t351 == bt353.1) = true then (if t352 = bt353.2 then (some ((x6_2.length : Int) == (wrap64 ((l0.length : Int) - (t337.length : Int))))) else (none)) else (none)) else (none)))) = some r := H
                have A27 := Aside0.mk A270
                clear A270
                replace H := Option.bind_eq_some_iff.mp H
                obtain ⟨⟨t353, t354⟩, A280, H⟩ := H
                replace H : ((crossroadslaw07_alive.f k2).bind fun t355 => (if t355 = true then (if (t351 == t353) = true then (if t352 = t354 then (some ((x6_2.length : Int) == (wrap64 ((l0.length : Int) - (t337.length : Int))))) else (none)) else (none)) else (none))) = some r := H
                have A28 := Aside0.mk A280
                clear A280
                replace H := Option.bind_eq_some_iff.mp H
                obtain ⟨t355, A290, H⟩ := H
                replace H : (if t355 = true then (if (t351 == t353) = true then (if t352 = t354 then (some ((x6_2.length : Int) == (wrap64 ((l0.length : Int) - (t337.length : Int))))) else (none)) else (none)) else (none)) = some r := H
                have A29 := Aside0.mk A290
                clear A290
                by_cases c30 : t355 = true
                · subst c30
                  have H1 : (if (t351 == t353) = true then (if t352 = t354 then (some ((x6_2.length : Int) == (wrap64 ((l0.length : Int) - (t337.length : Int))))) else (none)) else (none)) = some r := by rw [if_pos rfl] at H; exact H
                  clear H
                  have H := H1
                  clear H1
                  by_cases c31 : (t351 == t353) = true
                  · rw [if_pos c31] at H
                    have c31b0 : (t351 == t353) = true := c31
                    (try (have c31b1 : decide (t351 = t353) = true := by simpa using c31))
                    (try (have c31b2 : (t351 == t353) = true := by simpa using c31))
                    clear c31
                    by_cases c32 : t352 = t354
                    · rw [if_pos c32] at H
                      have c32b0 : (t352 == t354) = true := beq_iff_eq.mpr c32
                      have c32b1 : (t352 != t354) = false := bne_eq_false_iff_eq.mpr c32
                      clear c32
                      obtain rfl := Option.some.inj H
                      obtain ⟨Ao33, co33, eo33⟩ := Kd.R_slice HO_5.out
                      subst eo33
                      have hcz34_0 : wr.cell? ⟨gb331, 0, none⟩ = some (.int .u32 a1_0) := (blk_cell BK331.out 0).trans rfl
                      have hcz34_1 : wr.cell? ⟨gb331, 1, none⟩ = some (.int .i64 a1_1) := (blk_cell BK331.out 1).trans rfl
                      have hfz34_0 := blk_frozen BK331.out 0
                      have hfz34_1 := blk_frozen BK331.out 1
                      go_wp2_with (first | ((with_reducible refine gate_callee (f := 22) rfl ?_); refine goesL_ (some 50) rfl rfl Tryz.func22 (by kernel_rfl) rfl #[.slice A0 l0.length c0, .agg #[.int .u32 a1_0, .int .i64 a1_1]] rfl (by (try simp only [List.map_toArray, List.map_cons, List.map_nil]); first | done | rfl | (simp only [List.length_drop, List.length_take]; rfl)) ?_; (with_reducible refine (plist_Eval.calls _ _ l0 a1_0 a1_1 t351 t352 _ ?side1 ?side2 A27.out).mono ?_); (case side1 => repeat (first | exact (Kd.C_below HR0.out HB.out) | (with_reducible refine Kd.C_alloc ?_ _) | (with_reducible refine Kd.C_drewN ?_ _) | (with_reducible refine Kd.C_drew ?_))); (case side2 => exact HC0.out); rintro e w35 ⟨rfl, hb⟩; refine ⟨_, rfl, ?_⟩; have n0_ := Aside0.mk (Kd.R_below (by (with_reducible repeat (first | apply Kd.R_alloc | apply Kd.R_drewN | apply Kd.R_drew)); exact HO_5.out) hb); have n1_ := Aside0.mk (Kd.R_below (by (with_reducible repeat (first | apply Kd.R_alloc | apply Kd.R_drewN | apply Kd.R_drew)); exact HO_6.out) hb); have n2_ := Aside0.mk (blk_below (g := gb331) (o := .cells #[.int .u32 a1_0, .int .i64 a1_1] 24 (0, 0)) (by (with_reducible repeat (first | refine blk_drewN ?_ _ | refine blk_drew ?_ | refine blk_alloc ?_ _)); exact BK331.out) hb); have n3_ := Aside0.mk (below_step (by repeat (first | (with_reducible first | exact HB.out | apply below_alloc | apply pw_below_drewN | apply below_drew1 | refine below_set ?_ GE331.out) | exact HB.out)) hb); clear HO_5; clear HO_6; clear BK331; clear HB; have HO_5 := n0_; have HO_6 := n1_; have BK331 := n2_; have HB := n3_; clear n0_ n1_ n2_ n3_; (try clear hb); (try clear hb2); (try clear hk); (try clear hi); have hcz36_0 : w35.cell? ⟨gb331, 0, none⟩ = some (.int .u32 a1_0) := (blk_cell BK331.out 0).trans rfl; have hcz36_1 : w35.cell? ⟨gb331, 1, none⟩ = some (.int .i64 a1_1) := (blk_cell BK331.out 1).trans rfl; have hfz36_0 := blk_frozen BK331.out 0; have hfz36_1 := blk_frozen BK331.out 1; obtain ⟨Ao37, co37, eo37⟩ := Kd.R_slice HO_6.out; subst eo37) | ((with_reducible refine gate_callee (f := 22) rfl ?_); refine goesL_ (some 56) rfl rfl Tryz.func22 (by kernel_rfl) rfl #[.slice Ao37 x6_2.length co37, .agg #[.int .u32 a1_0, .int .i64 a1_1]] rfl (by (try simp only [List.map_toArray, List.map_cons, List.map_nil]); first | done | rfl | (simp only [List.length_drop, List.length_take]; rfl)) ?_; (with_reducible refine (plist_Eval.calls _ _ x6_2 a1_0 a1_1 t353 t354 _ ?side1 ?side2 A28.out).mono ?_); (case side1 => repeat (first | exact (Kd.R_reads' HO_6.out).2.2 | (with_reducible refine Kd.C_alloc ?_ _) | (with_reducible refine Kd.C_drewN ?_ _) | (with_reducible refine Kd.C_drew ?_))); (case side2 => exact (Kd.R_reads' HO_6.out).2.1); rintro e w38 ⟨rfl, hb⟩; refine ⟨_, rfl, ?_⟩; have n0_ := Aside0.mk (Kd.R_below (by (with_reducible repeat (first | apply Kd.R_alloc | apply Kd.R_drewN | apply Kd.R_drew)); exact HO_5.out) hb); have n1_ := Aside0.mk (Kd.R_below (by (with_reducible repeat (first | apply Kd.R_alloc | apply Kd.R_drewN | apply Kd.R_drew)); exact HO_6.out) hb); have n2_ := Aside0.mk (blk_below (g := gb331) (o := .cells #[.int .u32 a1_0, .int .i64 a1_1] 24 (0, 0)) (by (with_reducible repeat (first | refine blk_drewN ?_ _ | refine blk_drew ?_ | refine blk_alloc ?_ _)); exact BK331.out) hb); have n3_ := Aside0.mk (below_step (by repeat (first | (with_reducible first | exact HB.out | apply below_alloc | apply pw_below_drewN | apply below_drew1 | refine below_set ?_ GE331.out) | exact HB.out)) hb); clear HO_5; clear HO_6; clear BK331; clear HB; have HO_5 := n0_; have HO_6 := n1_; have BK331 := n2_; have HB := n3_; clear n0_ n1_ n2_ n3_; (try clear hb); (try clear hb2); (try clear hk); (try clear hi)) | ((with_reducible refine gate_callee (f := 11) rfl ?_); refine goesL_ (some 59) rfl rfl Tryz.func11 (by kernel_rfl) rfl #[] rfl (by (try simp only [List.map_toArray, List.map_cons, List.map_nil]); first | done | rfl | (simp only [List.length_drop, List.length_take]; rfl)) ?_; (with_reducible refine (crossroadslaw07_alive.calls k2  true _ ?side1 A29.out).mono ?_); (case side1 => exact GW.below hG (by repeat (first | (with_reducible first | exact HB.out | apply below_alloc | apply pw_below_drewN | apply below_drew1 | refine below_set ?_ GE331.out) | exact HB.out))); rintro e w39 ⟨rfl, hb⟩; refine ⟨_, rfl, ?_⟩; have n0_ := Aside0.mk (Kd.R_below (by (with_reducible repeat (first | apply Kd.R_alloc | apply Kd.R_drewN | apply Kd.R_drew)); exact HO_5.out) hb); have n1_ := Aside0.mk (Kd.R_below (by (with_reducible repeat (first | apply Kd.R_alloc | apply Kd.R_drewN | apply Kd.R_drew)); exact HO_6.out) hb); have n2_ := Aside0.mk (blk_below (g := gb331) (o := .cells #[.int .u32 a1_0, .int .i64 a1_1] 24 (0, 0)) (by (with_reducible repeat (first | refine blk_drewN ?_ _ | refine blk_drew ?_ | refine blk_alloc ?_ _)); exact BK331.out) hb); have n3_ := Aside0.mk (below_step (by repeat (first | (with_reducible first | exact HB.out | apply below_alloc | apply pw_below_drewN | apply below_drew1 | refine below_set ?_ GE331.out) | exact HB.out)) hb); clear HO_5; clear HO_6; clear BK331; clear HB; have HO_5 := n0_; have HO_6 := n1_; have BK331 := n2_; have HB := n3_; clear n0_ n1_ n2_ n3_; (try clear hb); (try clear hb2); (try clear hk); (try clear hi)))
                      go_ret
                      exact ⟨by first | rfl | (simp [errW_none, errW_some] <;> rfl) | (simp [*, errW_none, errW_some] <;> rfl), by repeat (first | (with_reducible first | exact HB.out | apply below_alloc | apply pw_below_drewN | apply below_drew1 | refine below_set ?_ GE331.out) | exact HB.out)⟩
                    · rw [if_neg c32] at H
                      exact absurd H (by simp)
                  · rw [if_neg c31] at H
                    exact absurd H (by simp)
                · replace c30 := Bool.eq_false_iff.mpr c30
                  subst c30
                  have H1 : (none) = some r := by rw [if_neg (show ¬ (false = true) by decide)] at H; exact H
                  clear H
                  have H := H1
                  clear H1
                  exact absurd H (by simp)
        · rw [if_neg c15] at H
          exact absurd H (by simp)
end Go.Proofs.YthngpkfckhmiiaaGreatDoor.X
end
section
set_option linter.unusedVariables false
set_option linter.unusedSimpArgs false
namespace Go.Proofs.YthngpkfckhmiiaaGreatDoor.X
open Go.RowKit Go.Proofs.YthngpkfckhmiiaaGreatDoorW.PrintWords Go.Proofs.YthngpkfckhmiiaaGreatDoorW.PrintMore
theorem alive_p (k : Nat) (hk : 100 ≤ k) : crossroadslaw07_alive.f k = some true := up crossroadslaw07_alive.mono hk (by decide +kernel)
theorem covB_iff {pA pN qA qN : Int} : covB pA pN qA qN = true ↔ mayB qA qN = true ∧ pN ≤ qN ∧ mayB pA pN = true ∧ qA / (PW pN : Int) = pA / (PW pN : Int) := by
  unfold covB hasB
  simp only [Bool.and_eq_true, decide_eq_true_eq, and_assoc]
theorem cov_trans {yA yN xA xN qA qN : Int} (h1 : covB yA yN xA xN = true) (h2 : covB xA xN qA qN = true) : covB yA yN qA qN = true := by
  rw [covB_iff] at h1 h2 ⊢
  obtain ⟨a1, a2, a3, a4⟩ := h1
  obtain ⟨b1, b2, b3, b4⟩ := h2
  refine ⟨b1, by omega, a3, ?_⟩
  obtain ⟨c1, c2, c3⟩ := mayB_iff.1 a3
  obtain ⟨d1, d2, d3⟩ := mayB_iff.1 b3
  have e : (PW yN : Int) = (PW xN : Int) * ((2 ^ (xN - yN).toNat : Nat) : Int) := by
    unfold PW
    rw [show 32 - yN.toNat = (32 - xN.toNat) + (xN - yN).toNat by omega, Nat.pow_add]
    simp
  rw [← a4, e, ← Int.ediv_ediv_of_nonneg (by omega), ← Int.ediv_ediv_of_nonneg (by omega), b4]
theorem means_hides {x y : S26} {A N : Int} (hy : mayS y = true) (h : hidesS y x = true) (hm : meansS x A N = true) : meansS y A N = true := by
  unfold hidesS hidesB at h
  unfold meansS meansB at hm ⊢
  unfold mayS at hy
  simp only [Bool.and_eq_true, decide_eq_true_eq] at h hm ⊢
  exact ⟨⟨⟨hy, cov_trans h.1.1 hm.1.1.2⟩, by omega⟩, by omega⟩
theorem asc_inj {l : List S26} (h : l.Pairwise fun p q => p.f0 < q.f0) {x y : S26} (hx : x ∈ l) (hy : y ∈ l) (e : x.f0 = y.f0) : x = y := by
  obtain ⟨a, b, rfl⟩ := List.append_of_mem hx
  obtain ⟨h1, h2⟩ := asc_mid h
  rcases List.mem_append.1 hy with hy | hy
  · have := h1 y hy; omega
  · rcases List.mem_cons.1 hy with rfl | hy
    · rfl
    · have := h2 y hy; omega
theorem idle_sub (p : Nat → Bool) (g : Nat → Int) (L : List Nat) : (L.filterMap fun i => if p i then some (g i) else none).Sublist (L.map g) := by
  induction L with
  | nil => exact .slnil
  | cons a r ih =>
    rw [List.filterMap_cons, List.map_cons]
    cases p a
    · simpa using ih.cons _
    · simpa using ih
theorem idles_sub (l : List S26) : (idlesB l).Sublist (l.map fun x => x.f0) := by
  have := idle_sub (idleB l) (fun i => l[i]!.f0) (List.range l.length)
  have e : (List.range l.length).map (fun i => l[i]!.f0) = l.map fun x => x.f0 := by
    apply List.ext_getElem
    · simp
    · intro i h1 h2
      have h3 : i < l.length := by simpa using h2
      simp [h3]
  rw [e] at this
  exact this
theorem idles_nodup {l : List S26} (g : Good l) : (idlesB l).Pairwise (· < ·) := by
  refine List.Pairwise.sublist (idles_sub l) ?_
  rw [List.pairwise_map]
  exact g.asc
theorem mem_idles {l : List S26} {s : Int} (h : s ∈ idlesB l) : ∃ x y, x ∈ l ∧ y ∈ l ∧ x.f0 = s ∧ hidesS y x = true ∧ (l.Pairwise (fun p q => p.f0 < q.f0) → y.f0 < x.f0) := by
  unfold idlesB at h
  rw [List.mem_filterMap] at h
  obtain ⟨i, hi, h⟩ := h
  have hi : i < l.length := List.mem_range.1 hi
  cases hb : idleB l i
  · rw [hb] at h; simp at h
  rw [hb] at h
  simp only [if_true, Option.some.injEq] at h
  unfold idleB at hb
  rw [List.any_eq_true] at hb
  obtain ⟨y, hy, hh⟩ := hb
  rw [getElem!_pos l i hi] at h hh
  refine ⟨l[i], y, List.getElem_mem hi, List.mem_of_mem_take hy, h, hh, fun asc => ?_⟩
  have e : l = l.take i ++ l[i] :: l.drop (i + 1) := by rw [← List.drop_eq_getElem_cons hi, List.take_append_drop]
  rw [e] at asc
  exact (asc_mid asc).1 y hy
theorem find_filter {α : Type} (p q : α → Bool) (l : List α) (h : ∀ a x b, l = a ++ x :: b → q x = true → p x = true ∨ ∃ y ∈ a, q y = true) : (l.filter p).find? q = l.find? q := by
  rw [List.find?_filter]
  cases e : l.find? q with
  | none =>
    rw [List.find?_eq_none] at e ⊢
    intro x hx
    have := e x hx
    simp [this]
  | some x =>
    rw [List.find?_eq_some_iff_append] at e ⊢
    obtain ⟨e1, a, b, e2, e3⟩ := e
    refine ⟨?_, a, b, e2, fun y hy => by have := e3 y hy; simp at this; simp [this]⟩
    rcases h a x b e2 e1 with h | ⟨y, hy, h⟩
    · simp [h, e1]
    · have := e3 y hy; rw [h] at this; simp at this
theorem eval_idle (l : List S26) (g : Good l) (A N : Int) : evalB (l.filter fun x => !decide (x.f0 ∈ idlesB l)) A N = evalB l A N := by
  unfold evalB
  rw [find_filter]
  intro a x b e hq
  by_cases h : x.f0 ∈ idlesB l
  · refine .inr ?_
    obtain ⟨x', y, hx', hy, hs, hh, hlt⟩ := mem_idles h
    have hxl : x ∈ l := by rw [e]; simp
    obtain rfl := asc_inj g.asc hx' hxl hs
    have hlt := hlt g.asc
    refine ⟨y, ?_, means_hides (g.may y hy) hh hq⟩
    have asc := g.asc
    rw [e] at asc hy
    obtain ⟨h1, h2⟩ := asc_mid asc
    rcases List.mem_append.1 hy with hy | hy
    · exact hy
    · rcases List.mem_cons.1 hy with rfl | hy
      · omega
      · have := h2 y hy; omega
  · exact .inl (by simp [h])
theorem WFl.sub {l m : List S26} (h : WFl l) (s : m.Sublist l) : WFl m := fun x hx => h x (s.subset hx)
theorem PlistIdle_l0 (l : List S26) (hl : l.length ≤ 1000) (g : Good l) (hU : WFl l) (A N : Int) (hA : U32 A) : ∀ (d k i : Nat) (K : List S26), i ≤ (idlesB l).length → (idlesB l).length - i = d → d + 200 < k →
    K = l.filter (fun x => !decide (x.f0 ∈ (idlesB l).take i)) → K.length + i = l.length →
    crossroadslaw07_PlistIdle.l0 k l (idlesB l) K (i : Int) A N = some true := by
  have hIl : (idlesB l).length ≤ l.length := by simpa using (idles_sub l).length_le
  have asc := idles_nodup g
  intro d
  induction d with
  | zero =>
    intro k i K hi hd hk hK hKl
    obtain ⟨k, rfl⟩ : ∃ m, k = m + 1 := ⟨k - 1, by omega⟩
    obtain rfl : i = (idlesB l).length := by omega
    simp only [crossroadslaw07_PlistIdle.l0]
    rw [if_neg (by omega), Eval_p l A N hl hU hA, Eval_p K A N (by omega) (hU.sub (by rw [hK]; exact List.filter_sublist)) hA, alive_p k (by omega)]
    have e : evalB K A N = evalB l A N := by rw [hK, List.take_length, eval_idle l g]
    rw [e]
    simp only [Option.bind_some]
    rw [if_pos trivial, if_pos (by simp), if_pos trivial, wrap64_id _ (by omega) (by omega)]
    congr 1
    rw [beq_iff_eq]
    omega
  | succ d ih =>
    intro k i K hi hd hk hK hKl
    obtain ⟨k, rfl⟩ : ∃ m, k = m + 1 := ⟨k - 1, by omega⟩
    have hlt : i < (idlesB l).length := by omega
    simp only [crossroadslaw07_PlistIdle.l0]
    rw [if_pos (by omega), if_pos (by omega), rd_nat _ i hlt, wrapS i (by omega)]
    have hnot : (idlesB l)[i] ∉ (idlesB l).take i := by
      intro hin
      have e : idlesB l = (idlesB l).take i ++ (idlesB l)[i] :: (idlesB l).drop (i + 1) := by rw [← List.drop_eq_getElem_cons hlt, List.take_append_drop]
      rw [e, List.pairwise_append] at asc
      have := asc.2.2 _ hin (idlesB l)[i] List.mem_cons_self
      omega
    obtain ⟨x, y, hx, hy, hs, -, -⟩ := mem_idles (List.getElem_mem hlt)
    have hxK : x ∈ K := by
      rw [hK, List.mem_filter]
      exact ⟨hx, by rw [hs, decide_eq_false hnot]; rfl⟩
    have ascK : K.Pairwise fun p q => p.f0 < q.f0 := by
      rw [hK]; exact g.asc.sublist List.filter_sublist
    obtain ⟨a, b, rfl⟩ := List.append_of_mem hxK
    obtain ⟨m1, m2⟩ := asc_mid ascK
    rw [Drop_split a b x _ (by omega) (fun y hy => by have := m1 y hy; omega) hs]
    simp only [Option.bind_some]
    rw [if_pos trivial]
    refine ih k (i + 1) _ (by omega) (by omega) (by omega) ?_ (by simp only [List.length_append, List.length_cons] at hKl ⊢; omega)
    rw [← filter_mid ascK, hK, List.filter_filter, hs]
    refine List.filter_congr fun z hz => ?_
    have e : z.f0 ∈ (idlesB l).take (i + 1) ↔ z.f0 ∈ (idlesB l).take i ∨ z.f0 = (idlesB l)[i] := by rw [← List.take_append_getElem hlt, List.mem_append, List.mem_singleton]
    rw [Bool.eq_iff_iff]
    simp only [Bool.and_eq_true, Bool.not_eq_true', decide_eq_false_iff_not, e, not_or]
    exact And.comm
theorem PlistIdle_law (k : Nat) (hk : 3000 ≤ k) (l : List S26) (hU : WFl l) (A N : Int) (hA : U32 A) : crossroadslaw07_PlistIdle.f k l A N = some true := by
  obtain ⟨k, rfl⟩ : ∃ m, k = m + 1 := ⟨k - 1, by omega⟩
  unfold crossroadslaw07_PlistIdle.f
  by_cases hl : l.length > 210
  · rw [if_pos (by omega)]
    simp only [crossroadslaw07_PlistIdle.j0]
    rw [if_pos trivial, alive_p k (by omega)]; rfl
  rw [if_neg (by omega), rows_f (k + 1) l (by omega) (by omega)]
  simp only [Option.bind_some]
  rw [MayAll_f (k + 1) _ (by simp; omega) (U34 hU) (by omega)]
  simp only [Option.bind_some, crossroadslaw07_PlistIdle.j0]
  cases hm : chainB none (l.map conv)
  · rw [if_pos (by rfl), alive_p k (by omega)]; rfl
  have g := good_of hm
  rw [if_neg (by simp), Idle_p l (by omega) hU]
  simp only [Option.bind_some]
  rw [if_pos (by simp; omega), List.nil_append]
  have hI : (idlesB l).length ≤ l.length := by simpa using (idles_sub l).length_le
  exact PlistIdle_l0 l (by omega) g hU A N hA (idlesB l).length k 0 l (by omega) (by omega) (by omega) (List.filter_eq_self.2 fun x hx => by simp).symm (by omega)
end Go.Proofs.YthngpkfckhmiiaaGreatDoor.X
end
section
set_option linter.unusedVariables false
set_option linter.unusedSimpArgs false
namespace Go.Proofs.YthngpkfckhmiiaaGreatDoor.X
open Go.RowKit Go.ChangeShapes Go.WideShapes Go.Deep Go.Joins Go.Proofs.YthngpkfckhmiiaaGreatDoorW.PrintWords
structure WFr (x : S26) : Prop where
  s : I64 x.f0
  a : U32 x.f2.f0
  n : I64 x.f2.f1
  ge : I64 x.f3
  le : I64 x.f4
section
variable {H : Type} {enc : TypeId × Value → H} {P : Program} {w : World} {base : Nat} {spare : Nat → Bool} {held : Bool}
theorem trod_bool' {t : TypeId} {fuel : Nat} {cs : List Value} {x : DataW H × List MemPlace} (ht : P.underlying t = some .bool) (h : DataW.trod enc P w base spare held fuel t cs = some x) : ∃ b, cs = [.bool b] ∧ x = (.lit (.bool b), []) := by
  cases fuel with
  | zero => simp [DataW.trod] at h
  | succ n =>
    unfold DataW.trod at h
    rw [ht] at h
    split at h <;> simp_all
structure Types (P : Program) : Prop where
  t26 : ∃ f0 f1 f2 f3 f4 : Field, P.underlying 26 = some (.struct #[f0, f1, f2, f3, f4]) ∧ (f0.type = 3 ∧ f0.offset = 0) ∧ (f1.type = 4 ∧ f1.offset = 1) ∧ (f2.type = 24 ∧ f2.offset = 2) ∧ (f3.type = 3 ∧ f3.offset = 4) ∧ (f4.type = 3 ∧ f4.offset = 5)
  t24 : ∃ f0 f1 : Field, P.underlying 24 = some (.struct #[f0, f1]) ∧ (f0.type = 22 ∧ f0.offset = 0) ∧ (f1.type = 3 ∧ f1.offset = 1)
  t3 : P.underlying 3 = some (.int .i64)
  t4 : P.underlying 4 = some .bool
  t22 : P.underlying 22 = some (.int .u32)
  t42 : P.underlying 42 = some (.slice 26)
  c26 : P.cellsOf 26 = 6
  c24 : P.cellsOf 24 = 2
  c22 : P.cellsOf 22 = 1
  c4 : P.cellsOf 4 = 1
  c3 : P.cellsOf 3 = 1
theorem trod_pfx (T : Types P) {fuel : Nat} {cs : List Value} {x : DataW H × List MemPlace} (h : DataW.trod enc P w base spare held fuel 24 cs = some x) :
    ∃ a n : Int, cs = [.int .u32 a, .int .i64 n] ∧ U32 a ∧ I64 n ∧ x.2 = [] := by
  obtain ⟨f0, f1, hu, ⟨a0, b0⟩, ⟨a1, b1⟩⟩ := T.t24
  obtain ⟨xs, n, _, rfl, hl, hlen, hf⟩ := DataW.trod_struct hu h
  rw [T.c24] at hl
  match cs, hl with
  | [v0, v1], _ =>
    match xs, hlen with
    | [y0, y1], _ =>
      have h0 := hf 0 f0 rfl
      have h1 := hf 1 f1 rfl
      rw [a0, b0, T.c22] at h0
      rw [a1, b1, T.c3] at h1
      obtain ⟨a, e0, e0', w0⟩ := DataW.trod_int T.t22 h0
      obtain ⟨m, e1, e1', w1⟩ := DataW.trod_int T.t3 h1
      simp at e0 e1
      subst e0 e1
      exact ⟨a, m, rfl, U32.of w0, I64.of w1, by simp [e0', e1']⟩
theorem trod_rule (T : Types P) {fuel : Nat} {cs : List Value} {x : DataW H × List MemPlace} (h : DataW.trod enc P w base spare held fuel 26 cs = some x) : ∃ r : S26, cs = enc26 r ∧ WFr r ∧ x.2 = [] := by
  obtain ⟨f0, f1, f2, f3, f4, hu, ⟨a0, b0⟩, ⟨a1, b1⟩, ⟨a2, b2⟩, ⟨a3, b3⟩, ⟨a4, b4⟩⟩ := T.t26
  obtain ⟨xs, n, _, rfl, hl, hlen, hf⟩ := DataW.trod_struct hu h
  rw [T.c26] at hl
  match cs, hl with
  | [v0, v1, v2, v3, v4, v5], _ =>
    match xs, hlen with
    | [y0, y1, y2, y3, y4], _ =>
      have h0 := hf 0 f0 rfl
      have h1 := hf 1 f1 rfl
      have h2 := hf 2 f2 rfl
      have h3 := hf 3 f3 rfl
      have h4 := hf 4 f4 rfl
      rw [a0, b0, T.c3] at h0
      rw [a1, b1, T.c4] at h1
      rw [a2, b2, T.c24] at h2
      rw [a3, b3, T.c3] at h3
      rw [a4, b4, T.c3] at h4
      obtain ⟨s, e0, e0', w0⟩ := DataW.trod_int T.t3 h0
      obtain ⟨b, e1, e1'⟩ := trod_bool' T.t4 h1
      obtain ⟨a, m, e2, wa, wm, ey⟩ := trod_pfx T h2
      obtain ⟨g, e3, e3', w3⟩ := DataW.trod_int T.t3 h3
      obtain ⟨l, e4, e4', w4⟩ := DataW.trod_int T.t3 h4
      simp at e0 e1 e2 e3 e4
      obtain ⟨e2, e2'⟩ := e2
      subst e0 e1 e2 e2' e3 e4
      exact ⟨⟨s, b, ⟨a, m⟩, g, l⟩, rfl, ⟨I64.of w0, wa, wm, I64.of w3, I64.of w4⟩, by simp [ey, e0', e1', e3', e4']⟩
theorem choose_fin {α : Type} (n : Nat) (p : Nat → α → Prop) (h : ∀ i, i < n → ∃ x, p i x) : ∃ l : List α, l.length = n ∧ ∀ i x, l[i]? = some x → p i x := by
  induction n with
  | zero => exact ⟨[], rfl, fun i x hx => by simp at hx⟩
  | succ n ih =>
    obtain ⟨l, hl, hp⟩ := ih fun i hi => h i (by omega)
    obtain ⟨y, hy⟩ := h n (by omega)
    refine ⟨l ++ [y], by simp [hl], fun i x hx => ?_⟩
    rcases Nat.lt_or_ge i l.length with hi | hi
    · rw [List.getElem?_append_left hi] at hx
      exact hp i x hx
    · rw [List.getElem?_append_right hi] at hx
      have : i - l.length = 0 := by
        rcases Nat.lt_or_ge (i - l.length) 1 with h1 | h1
        · omega
        · rw [List.getElem?_eq_none (by simpa using h1)] at hx; cases hx
      rw [this] at hx
      obtain rfl : y = x := by simpa using hx
      obtain rfl : i = n := by omega
      exact hy
theorem open_rules (T : Types P) {r : Reach} {b0 : Nat} {v : Value} {d : DataW H} {p : List MemPlace} (hv : Value.okWide P w r b0 42 v) (h : DataW.Trod enc P w base spare held 42 v d p) :
    ∃ (A : Option Addr) (l : List S26) (c : Nat), v = .slice A l.length c ∧ l.length ≤ c ∧ Kd.C k26 w A l.length l ∧ ∀ x ∈ l, WFr x := by
  obtain ⟨A, len, cap, rfl⟩ := okWide_slice T.t42 hv
  obtain ⟨fuel, hf⟩ := h
  rcases open_slice T.t42 hf with ⟨h0, -⟩ | ⟨a, len', cap', m, n, D, Pl, hcs, hb, hl, hm, hmm, -, hi⟩
  · obtain ⟨rfl, rfl, rfl⟩ : A = none ∧ len = 0 ∧ cap = 0 := by
      have : Value.slice A len cap = .slice none 0 0 := by simpa [Value.cells] using h0
      simpa using this
    exact ⟨none, [], 0, rfl, Nat.le_refl _, ⟨rfl, by simp, fun h => by simp at h⟩, fun x hx => by simp at hx⟩
  · obtain ⟨rfl, rfl, rfl⟩ : A = some a ∧ len = len' ∧ cap = cap' := by
      have : Value.slice A len cap = .slice (some a) len' cap' := by simpa [Value.cells] using hcs
      simpa using this
    have hlm : len ≤ m := by rw [hmm]; split <;> omega
    obtain ⟨l, hll, hp⟩ := choose_fin len (fun i (x : S26) => WFr x ∧ ∀ j u, (enc26 x)[j]? = some u → w.cell? (a.add (i * 6 + j)) = some u) fun i hi' => by
      obtain ⟨cs', hc, ht⟩ := hi i (by omega)
      rw [T.c26] at hc
      obtain ⟨x, rfl, hx, -⟩ := trod_rule T ht
      obtain ⟨-, -, hat⟩ := World.cells?_some hc
      refine ⟨x, hx, fun j u hj => ?_⟩
      have hjl : j < 6 := by
        rcases Nat.lt_or_ge j 6 with h | h
        · exact h
        · rw [List.getElem?_eq_none (by simpa [enc26] using h)] at hj; cases hj
      rw [← Go.Deep.add_add, hat j hjl, hj]
    subst hll
    refine ⟨some a, l, cap, rfl, hl, ⟨rfl, ?_, fun _ => ⟨a, rfl, fun j x hj => ⟨enc26 x, rfl, k26_mk w x, (hp j x hj).2⟩⟩⟩, fun x hx => ?_⟩
    · have : maxLen ≤ 9223372036854775807 := by decide
      omega
    · obtain ⟨i, hi', rfl⟩ := List.getElem_of_mem hx
      exact (hp i _ (List.getElem?_eq_getElem hi')).1
end
theorem types : Types Tryz.prog := ⟨⟨_, _, _, _, _, Tryz.underlying26, ⟨rfl, rfl⟩, ⟨rfl, rfl⟩, ⟨rfl, rfl⟩, ⟨rfl, rfl⟩, ⟨rfl, rfl⟩⟩, ⟨_, _, Tryz.underlying24, ⟨rfl, rfl⟩, ⟨rfl, rfl⟩⟩, Tryz.underlying3, Tryz.underlying4, Tryz.underlying22, Tryz.underlying42, by kernel_rfl, by kernel_rfl, by kernel_rfl, by kernel_rfl, by kernel_rfl⟩
end Go.Proofs.YthngpkfckhmiiaaGreatDoor.X
end
